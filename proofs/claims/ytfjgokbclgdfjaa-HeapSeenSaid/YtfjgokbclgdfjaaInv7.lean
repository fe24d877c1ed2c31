/- The invariant behind what a program does. The invariant behind make and Set. The invariant behind Set. -/
import Derived.Test.YtfjgokbclgdfjaaSet
set_option linter.unusedSimpArgs false
set_option linter.unusedVariables false
namespace Go.Proofs.Ytfjgokbclgdfjaa
open HM

theorem wf_hands {s : S} (h : WF s) {hs : List (Option Nat)} (hl : s.cursor ≤ hs.length) (hh : ∀ (j i : Nat), hs[j]? = some (some i) → s.Alive i ∧ (s.ep i = s.epoch ∨ s.handles[j]? = some (some i))) : WF { s with handles := hs } :=
  ⟨h.cur, h.ph, hl, h.idle, h.busy, h.last, h.used, h.epo, fun j i hj => (hh j i hj).1, h.refs, h.shape, h.weak, h.greyN, h.greyE, h.loc, h.disj, h.bump, h.stay, h.room, h.tri, fun j i hj => by
    rcases (hh j i hj).2 with e | e
    · exact ⟨fun _ _ => e, fun _ => e⟩
    · exact h.roots j i e⟩

theorem wf_give {s : S} (h : WF s) (hp : s.phase ≤ 2) {i : Nat} (hi : s.Alive i) : WF (s.give i) := by
  have h1 := wf_shade' h hp hi
  have hs := shade_same s i
  refine wf_hands h1 (hs := handIn s.handles i) ?_ (fun j q hj => ?_)
  · rw [hs.2.2.2.2.2.2.2.2.2.1, handIn_length]
    have := h.cursor
    split <;> omega
  · rw [handIn_at] at hj
    by_cases e : j = slotOf s.handles
    · rw [if_pos e] at hj
      simp only [Option.some.injEq] at hj
      subst hj
      exact ⟨alive_shade hi h.doneLe, .inl (shade_self h.epo i)⟩
    · rw [if_neg e] at hj
      exact ⟨alive_shade (h.hand j q hj) h.doneLe, .inr (by rw [hs.2.2.2.2.2.1]; exact hj)⟩

theorem wf_drop {s : S} (h : WF s) (k : Nat) : WF (s.drop k) := by
  refine wf_hands h (by simpa using h.cursor) (fun j q hj => ?_)
  rw [List.getElem?_set] at hj
  by_cases e : k = j
  · rw [if_pos e] at hj
    split at hj <;> simp at hj
  · rw [if_neg e] at hj
    exact ⟨h.hand j q hj, .inr hj⟩

theorem place_get {s : S} {o : O} {i : Nat} {o' : O} (hi : (s.place o).objs[i]? = some o') : (i < s.objs.length ∧ s.objs[i]? = some o') ∨ (i = s.objs.length ∧ o' = o) := by
  simp only [S.place, List.getElem?_append] at hi
  split at hi
  · exact .inl ⟨by assumption, hi⟩
  · cases hm : i - s.objs.length with
    | zero => rw [hm] at hi; simp at hi; exact .inr ⟨by omega, hi.symm⟩
    | succ m => rw [hm] at hi; simp at hi

theorem place_old {s : S} {o : O} {i : Nat} (h : i < s.objs.length) : (s.place o).objs[i]? = s.objs[i]? := by
  simp only [S.place]; rw [List.getElem?_append_left h]

theorem place_new (s : S) (o : O) : (s.place o).objs[s.objs.length]? = some o := by simp [S.place]

theorem alive_place {s : S} {o : O} {i : Nat} (h : s.Alive i) : (s.place o).Alive i := by
  obtain ⟨o', h1, h2⟩ := h
  exact ⟨o', by rw [place_old (List.getElem?_eq_some_iff.1 h1).1]; exact h1, h2⟩

theorem ep_place {s : S} {o : O} {i : Nat} (h : s.Alive i) : (s.place o).ep i = s.ep i := by
  obtain ⟨o', h1, h2⟩ := h
  rw [ep_some h1, ep_some (o := o') (by rw [place_old (List.getElem?_eq_some_iff.1 h1).1]; exact h1)]

theorem wf_place {s : S} (h : WF s) (hp : s.phase ≤ 2) (tag : Int) (ws : List W) (hal : ∀ j, W.obj j ∈ ws → s.Alive j) (hsh : 0 < s.phase → ∀ j, W.obj j ∈ ws → s.ep j = s.epoch)
    (htag : -1 ≤ tag ∧ tag ≤ 9223372036854775807) (hone : tag = -1 → ws.length = 1) (h16 : ws.length ≤ 16) (hfit : s.fitsB (1 + ws.length)) : WF (s.place (s.newO tag ws)) := by
  have hnew : s.objs.length ∉ s.grey := fun hm => by
    obtain ⟨o, ho, _⟩ := h.greyE _ hm
    have := (List.getElem?_eq_some_iff.1 ho).1
    omega
  have hsz : (s.newO tag ws).size = 1 + ws.length := by simp [S.newO, O.size]; omega
  have hblk : ∀ i o, (s.place (s.newO tag ws)).Black i o ↔ s.Black i o := fun i o => Iff.rfl
  have hnb : (s.place (s.newO tag ws)).Black s.objs.length (s.newO tag ws) := ⟨rfl, hnew⟩
  have hB : ∀ i, i < s.objs.length → (s.place (s.newO tag ws)).szB i = s.szB i := fun i hi => by unfold S.szB; rw [place_old hi]; rfl
  have hW : ∀ i, i < s.objs.length → (s.place (s.newO tag ws)).szW i = s.szW i := fun i hi => by unfold S.szW; rw [place_old hi]; rfl
  have hBn : (s.place (s.newO tag ws)).szB s.objs.length = (s.newO tag ws).size := by unfold S.szB; rw [place_new]; exact if_pos hnb
  have hWn : (s.place (s.newO tag ws)).szW s.objs.length = 0 := by unfold S.szW; rw [place_new]; exact if_neg (fun hh => hh.2 hnb)
  have hlen : (s.place (s.newO tag ws)).objs.length = s.objs.length + 1 := by simp [S.place]
  unfold S.fitsB at hfit
  refine ⟨h.cur, h.ph, h.cursor, h.idle, h.busy, h.last, ?_, fun i o hi => ?_, fun j i hj => alive_place (h.hand j i hj), fun i o hi hd j hj => ?_, fun i o hi => ?_, fun i hi => ?_, h.greyN, fun i hi => ?_, fun i o hi hd => ?_, fun i j o o' hi hj hne hd hd' hsp => ?_, ?_, ?_, ?_,
    fun hp i o hi hb j hj => ?_, fun j i hj => ?_⟩
  · have := h.used
    show s.used + _ = (s.bump + _) + s.stay
    omega
  · rcases place_get hi with ⟨_, hi'⟩ | ⟨_, rfl⟩
    · exact h.epo i o hi'
    · exact Nat.le_refl _
  · rcases place_get hi with ⟨_, hi'⟩ | ⟨_, rfl⟩
    · exact alive_place (h.refs i o hi' hd j hj)
    · simp only [S.newO, List.mem_cons] at hj
      rcases hj with hj | hj
      · simp at hj
      · exact alive_place (hal j hj)
  · rcases place_get hi with ⟨_, hi'⟩ | ⟨_, rfl⟩
    · exact h.shape i o hi'
    · exact ⟨ws, rfl, hone, h16, htag.1, htag.2⟩
  · have := h.weak i hi; rw [hlen]; omega
  · obtain ⟨o, ho, he⟩ := h.greyE i hi
    exact ⟨o, by rw [place_old (List.getElem?_eq_some_iff.1 ho).1]; exact ho, he⟩
  · rcases place_get hi with ⟨_, hi'⟩ | ⟨rfl, rfl⟩
    · obtain ⟨a, b⟩ := h.loc i o hi' hd
      refine ⟨fun hb => ?_, b⟩
      obtain ⟨e1, e2⟩ := a hb
      exact ⟨e1, by show _ ≤ s.bump + _; omega⟩
    · exact ⟨fun _ => ⟨rfl, Nat.le_refl _⟩, fun hb => absurd hnb hb⟩
  · have key : ∀ (i : Nat) (o : O), s.objs[i]? = some o → s.done ≤ o.epoch → o.space = s.cur → o.place + o.size ≤ s.bump := fun i o hi hd hc => by
      obtain ⟨a, b⟩ := h.loc i o hi hd
      by_cases hb : s.Black i o
      · exact (a hb).2
      · exact absurd hc (b hb).2.1
    rcases place_get hi with ⟨_, hi'⟩ | ⟨rfl, rfl⟩
    · rcases place_get hj with ⟨_, hj'⟩ | ⟨rfl, rfl⟩
      · exact h.disj i j o o' hi' hj' hne hd hd' hsp
      · exact .inl (key i o hi' hd hsp)
    · rcases place_get hj with ⟨_, hj'⟩ | ⟨rfl, rfl⟩
      · exact .inr (key j o' hj' hd' hsp.symm)
      · exact absurd rfl hne
  · rw [hlen]
    show s.bump + _ = _
    simp only [rsum]
    rw [rsum_congr hB, hBn, ← h.bump]
  · rw [hlen]
    show s.stay = _
    simp only [rsum]
    rw [rsum_congr hW, hWn, ← h.stay]
    rfl
  · show s.bump + _ + s.stay ≤ s.room
    omega
  · rcases place_get hi with ⟨_, hi'⟩ | ⟨_, rfl⟩
    · have ha := h.refs i o hi' (by have := hb.1; have := h.doneLe; show s.done ≤ _; have e : o.epoch = s.epoch := hb.1; omega) j hj
      rw [ep_place ha]
      exact h.tri hp i o hi' hb j hj
    · simp only [S.newO, List.mem_cons] at hj
      rcases hj with hj | hj
      · simp at hj
      · rw [ep_place (hal j hj)]; exact hsh hp j hj
  · rw [ep_place (h.hand j i hj)]
    exact h.roots j i hj
end Go.Proofs.Ytfjgokbclgdfjaa

namespace Go.Proofs.Ytfjgokbclgdfjaa
open HM

theorem ep_place' {s : S} {o : O} {i : Nat} (h : i < s.objs.length) : (s.place o).ep i = s.ep i := by
  unfold S.ep; rw [place_old h]; rfl

theorem modify_snoc (l : List O) (o : O) (f : O → O) (q : Nat) (h : q < l.length) : (l ++ [o]).modify q f = l.modify q f ++ [o] := by
  apply List.ext_getElem?
  intro j
  rw [List.getElem?_modify, List.getElem?_append, List.getElem?_append, List.length_modify, List.getElem?_modify]
  by_cases e : q = j
  · subst e; simp [h]
  · by_cases hj : j < l.length
    · simp [e, hj]
    · simp [e, hj]

theorem shade_place {s : S} {o : O} {q : Nat} (h : q < s.objs.length) : (s.place o).shade q = (s.shade q).place o := by
  have he := ep_place' (o := o) h
  unfold S.shade
  rw [he]
  by_cases hc : s.ep q < s.epoch
  · rw [if_pos (show s.ep q < (s.place o).epoch from hc), if_pos hc]
    simp only [S.place]
    rw [modify_snoc _ _ _ _ h]
  · rw [if_neg (show ¬ s.ep q < (s.place o).epoch from hc), if_neg hc]

theorem shades_place (l : List W) : ∀ {s : S} {o : O}, (∀ q, W.obj q ∈ l → q < s.objs.length) → (s.place o).shades l = (s.shades l).place o := by
  induction l with
  | nil => intro s o _; rfl
  | cons x r ih =>
    intro s o h
    have e1 : (s.place o).shadeW x = (s.shadeW x).place o := by
      cases x with
      | num n => rfl
      | obj q => exact shade_place (h q (by simp))
    show ((s.place o).shadeW x).shades r = ((s.shadeW x).shades r).place o
    rw [e1]
    exact ih (fun q hq => by rw [(shadeW_same s x).2.2.2.2.2.2.2.2.2.2.2.1]; exact h q (by simp [hq]))

theorem wf_shades' (l : List W) : ∀ {s : S}, WF s → s.phase ≤ 2 → (∀ j, W.obj j ∈ l → s.Alive j) → WF (s.shades l) := by
  induction l with
  | nil => intro s h _ _; exact h
  | cons x r ih =>
    intro s h hp hl
    exact ih (s := s.shadeW x) (wf_shadeW' h hp (fun j e => hl j (by simp [e]))) (by rw [(shadeW_same s x).2.2.2.2.2.2.2.2.1]; exact hp) (fun j hj => alive_shadeW (hl j (by simp [hj])) h.doneLe)

theorem shadeW_ep {s : S} {x : W} {j : Nat} (h : s.ep j = s.epoch) : (s.shadeW x).ep j = (s.shadeW x).epoch := by
  cases x with
  | num n => exact h
  | obj i => exact shade_ep_ge h

theorem shades_ep (l : List W) : ∀ {s : S} {j : Nat}, s.ep j = s.epoch → (s.shades l).ep j = (s.shades l).epoch := by
  induction l with
  | nil => intro s j h; exact h
  | cons x r ih => intro s j h; exact ih (s := s.shadeW x) (shadeW_ep h)

theorem shades_self (l : List W) : ∀ {s : S}, WF s → s.phase ≤ 2 → (∀ j, W.obj j ∈ l → s.Alive j) → ∀ j, W.obj j ∈ l → (s.shades l).ep j = (s.shades l).epoch := by
  induction l with
  | nil => intro s _ _ _ j hj; simp at hj
  | cons x r ih =>
    intro s h hp hl j hj
    have hw := wf_shadeW' h hp (x := x) (fun j e => hl j (by simp [e]))
    rcases List.mem_cons.1 hj with e | e
    · subst e
      exact shades_ep r (s := s.shadeW (.obj j)) (shade_self h.epo j)
    · exact ih (s := s.shadeW x) hw (by rw [(shadeW_same s x).2.2.2.2.2.2.2.2.1]; exact hp) (fun j hj => alive_shadeW (hl j (by simp [hj])) h.doneLe) j e

theorem made_eq {s : S} (h : WF s) {tag : Int} {ws : List W} (hal : ∀ j, W.obj j ∈ ws → s.Alive j) : (s.place (s.newO tag ws)).shades ws = (s.shades ws).place ((s.shades ws).newO tag ws) := by
  rw [shades_place ws (fun q hq => Alive.lt (hal q hq))]
  have hs := shades_same ws s
  have : (s.shades ws).newO tag ws = s.newO tag ws := by
    unfold S.newO
    rw [hs.2.1, hs.2.2.2.1, hs.2.2.2.2.2.2.1]
  rw [this]

theorem wf_made {s : S} (h : WF s) (hp : s.phase ≤ 2) {tag : Int} {ws : List W} (hal : ∀ j, W.obj j ∈ ws → s.Alive j) (htag : -1 ≤ tag ∧ tag ≤ 9223372036854775807) (hone : tag = -1 → ws.length = 1) (h16 : ws.length ≤ 16) (hfit : s.fitsB (1 + ws.length)) : WF (s.made tag ws) := by
  have hs := shades_same ws s
  have hw := wf_shades' ws h hp hal
  have hpl : WF ((s.shades ws).place ((s.shades ws).newO tag ws)) := by
    refine wf_place hw (by rw [hs.2.2.2.2.2.2.2.2.1]; exact hp) tag ws (fun j hj => alive_shades ws (hal j hj) h.doneLe) (fun _ j hj => shades_self ws h hp hal j hj) htag hone h16 ?_
    unfold S.fitsB at hfit ⊢
    rw [hs.1, hs.2.2.2.1, hs.2.2.2.2.1]
    exact hfit
  unfold S.made
  have hph : ((s.place (s.newO tag ws)).shades ws).phase ≤ 2 := by rw [(shades_same ws (s.place (s.newO tag ws))).2.2.2.2.2.2.2.2.1]; exact hp
  have hal2 : ((s.place (s.newO tag ws)).shades ws).Alive s.objs.length := alive_shades ws ⟨s.newO tag ws, place_new s _, h.doneLe⟩ h.doneLe
  refine wf_give ?_ hph hal2
  rw [made_eq h hal]
  exact hpl

theorem wf_new (n : Nat) : WF (S.new n) := by
  refine ⟨by simp [S.new], by simp [S.new], by simp [S.new], by simp [S.new], by simp [S.new], by simp [S.new], by simp [S.new], ?_, ?_, ?_, ?_, by simp [S.new], by simp [S.new], by simp [S.new], ?_, ?_, by simp [S.new, rsum], by simp [S.new, rsum], by simp [S.new], ?_, ?_⟩ <;> intros <;> simp_all [S.new]
end Go.Proofs.Ytfjgokbclgdfjaa

namespace Go.Proofs.Ytfjgokbclgdfjaa
open HM

def S.content (t : S) (i : Nat) (x : W) : S := { t with objs := t.objs.modify i (fun o => { o with ws := [.num o.tag, x] }) }

theorem content_get {t : S} {i j : Nat} {x : W} {o' : O} (h : (S.content t i x).objs[j]? = some o') : ∃ o, t.objs[j]? = some o ∧ o'.tag = o.tag ∧ o'.space = o.space ∧ o'.place = o.place ∧ o'.epoch = o.epoch ∧ ((j = i ∧ o'.ws = [.num o.tag, x]) ∨ (j ≠ i ∧ o' = o)) := by
  simp only [S.content, List.getElem?_modify] at h
  by_cases e : i = j
  · subst e
    cases ho : t.objs[i]? with
    | none => rw [ho] at h; simp at h
    | some o => rw [ho] at h; simp at h; subst h; exact ⟨o, rfl, rfl, rfl, rfl, rfl, .inl ⟨rfl, rfl⟩⟩
  · simp [e] at h
    exact ⟨o', h, rfl, rfl, rfl, rfl, .inr ⟨fun e2 => e e2.symm, rfl⟩⟩

theorem content_put {t : S} {i j : Nat} {x : W} {o : O} (h : t.objs[j]? = some o) : ∃ o', (S.content t i x).objs[j]? = some o' ∧ o'.epoch = o.epoch := by
  simp only [S.content, List.getElem?_modify, h]
  by_cases e : i = j <;> simp [e]

theorem alive_content {t : S} {i j : Nat} {x : W} (h : t.Alive j) : (S.content t i x).Alive j := by
  obtain ⟨o, h1, h2⟩ := h
  obtain ⟨o', g1, g2⟩ := content_put (i := i) (x := x) h1
  exact ⟨o', g1, by rw [g2]; exact h2⟩

theorem ep_content {t : S} {i j : Nat} {x : W} (h : t.Alive j) : (S.content t i x).ep j = t.ep j := by
  obtain ⟨o, h1, h2⟩ := h
  obtain ⟨o', g1, g2⟩ := content_put (i := i) (x := x) h1
  rw [ep_some g1, ep_some h1, g2]

theorem wf_content {t : S} (h : WF t) {i : Nat} {o : O} (ho : t.objs[i]? = some o) (ht : o.tag = -1) {x : W} (hx : ∀ j, x = .obj j → t.Alive j ∧ t.ep j = t.epoch) : WF (S.content t i x) := by
  have hsz : ∀ {j : Nat} {o' p : O}, (S.content t i x).objs[j]? = some o' → t.objs[j]? = some p → o'.size = p.size ∧ o'.epoch = p.epoch ∧ o'.space = p.space ∧ o'.place = p.place := fun {j o' p} hj hp => by
    obtain ⟨q, g1, g2, g3, g4, g5, g6⟩ := content_get hj
    rw [hp] at g1
    obtain rfl := Option.some.inj g1
    refine ⟨?_, g5, g3, g4⟩
    rcases g6 with ⟨rfl, g6⟩ | ⟨_, rfl⟩
    · rw [ho] at hp
      obtain rfl := Option.some.inj hp
      obtain ⟨r, q1, q2, _⟩ := h.shape j o ho
      have := q2 ht
      simp [O.size, g6, q1, this]
    · rfl
  have hlen : (S.content t i x).objs.length = t.objs.length := by simp [S.content]
  have hblk : ∀ {j : Nat} {o' p : O}, o'.epoch = p.epoch → ((S.content t i x).Black j o' ↔ t.Black j p) := fun {j o' p} he => by unfold S.Black; rw [he]; rfl
  have hB : ∀ j, j < t.objs.length → (S.content t i x).szB j = t.szB j := fun j hj => by
    obtain ⟨p, hp⟩ : ∃ p, t.objs[j]? = some p := ⟨_, List.getElem?_eq_getElem hj⟩
    obtain ⟨o', g1, g2⟩ := content_put (i := i) (x := x) hp
    unfold S.szB
    rw [g1, hp]
    simp only
    rw [(hsz g1 hp).1]
    simp only [hblk g2]
  have hW : ∀ j, j < t.objs.length → (S.content t i x).szW j = t.szW j := fun j hj => by
    obtain ⟨p, hp⟩ : ∃ p, t.objs[j]? = some p := ⟨_, List.getElem?_eq_getElem hj⟩
    obtain ⟨o', g1, g2⟩ := content_put (i := i) (x := x) hp
    unfold S.szW
    rw [g1, hp]
    simp only
    rw [(hsz g1 hp).1, g2]
    simp only [hblk g2]
    rfl
  refine ⟨h.cur, h.ph, h.cursor, h.idle, h.busy, h.last, h.used, fun j o' hj => ?_, fun j q hj => alive_content (h.hand j q hj), fun j o' hj hd q hq => ?_, fun j o' hj => ?_, fun j hj => ?_, h.greyN, fun j hj => ?_, fun j o' hj hd => ?_, fun j k o1 o2 hj hk hne hd1 hd2 hsp => ?_, ?_, ?_, h.room,
    fun hp j o' hj hb q hq => ?_, fun j q hj => ?_⟩
  · obtain ⟨p, g1, _, _, _, g5, _⟩ := content_get hj
    rw [g5]; exact h.epo j p g1
  · obtain ⟨p, g1, _, _, _, g5, g6⟩ := content_get hj
    rcases g6 with ⟨rfl, g6⟩ | ⟨_, rfl⟩
    · rw [g6] at hq
      simp at hq
      exact alive_content (hx q hq.symm).1
    · exact alive_content (h.refs j o' g1 hd q hq)
  · obtain ⟨p, g1, g2, _, _, g5, g6⟩ := content_get hj
    rcases g6 with ⟨rfl, g6⟩ | ⟨_, rfl⟩
    · rw [ho] at g1
      obtain rfl := Option.some.inj g1
      exact ⟨[x], by rw [g6, g2], by simp, by simp, by rw [g2, ht]; decide, by rw [g2, ht]; decide⟩
    · exact h.shape j o' g1
  · rw [hlen]; exact h.weak j hj
  · obtain ⟨p, g1, g2⟩ := h.greyE j hj
    obtain ⟨o', k1, k2⟩ := content_put (i := i) (x := x) g1
    exact ⟨o', k1, by rw [k2]; exact g2⟩
  · obtain ⟨p, g1, _⟩ := content_get hj
    obtain ⟨e1, e2, e3, e4⟩ := hsz hj g1
    rw [hblk e2, e1, e3, e4]
    exact h.loc j p g1 (by rw [← e2]; exact hd)
  · obtain ⟨p, g1, _⟩ := content_get hj
    obtain ⟨q, k1, _⟩ := content_get hk
    obtain ⟨e1, e2, e3, e4⟩ := hsz hj g1
    obtain ⟨f1, f2, f3, f4⟩ := hsz hk k1
    rw [e1, e4, f1, f4]
    exact h.disj j k p q g1 k1 hne (by rw [← e2]; exact hd1) (by rw [← f2]; exact hd2) (by rw [← e3, ← f3]; exact hsp)
  · rw [hlen, rsum_congr hB]; exact h.bump
  · rw [hlen, rsum_congr hW]; exact h.stay
  · obtain ⟨p, g1, g2, g3, g4, g5, g6⟩ := content_get hj
    have hbp : t.Black j p := (hblk g5).1 hb
    rcases g6 with ⟨rfl, g6⟩ | ⟨_, rfl⟩
    · rw [g6] at hq
      simp at hq
      obtain ⟨a1, a2⟩ := hx q hq.symm
      rw [ep_content a1]; exact a2
    · have ha := h.refs j o' g1 (by have := h.doneLe; have e : o'.epoch = t.epoch := hbp.1; omega) q hq
      rw [ep_content ha]
      exact h.tri hp j o' g1 hbp q hq
  · rw [ep_content (h.hand j q hj)]
    exact h.roots j q hj

theorem wf_setC {s : S} (h : WF s) (hp : s.phase ≤ 2) {i : Nat} {o : O} (ho : s.objs[i]? = some o) (hd : s.done ≤ o.epoch) (ht : o.tag = -1) {x : W} (hx : ∀ j, x = .obj j → s.Alive j) : WF (s.setC i x) := by
  obtain ⟨o', h1, h2, _⟩ := shadeW_some h x ho hd
  have hw := wf_shadeW' h hp hx
  refine wf_content (t := s.shadeW x) hw h1 (by rw [h2, ht]) (fun j e => ⟨alive_shadeW (hx j e) h.doneLe, ?_⟩)
  subst e
  exact shade_self h.epo j
end Go.Proofs.Ytfjgokbclgdfjaa

