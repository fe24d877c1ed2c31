/- The invariant behind what a program does. -/
import Derived.Test.YtfjgokbclgdfjaaSet
namespace Go.Proofs.Ytfjgokbclgdfjaa
open HM

theorem wf_hands {s : S} (h : WF s) {hs : List (Option Nat)} (hl : s.cursor ≤ hs.length) (hh : ∀ (j i : Nat), hs[j]? = some (some i) → s.Alive i ∧ (s.ep i = s.epoch ∨ s.handles[j]? = some (some i))) : WF { s with handles := hs } :=
  ⟨h.cur, h.ph, hl, h.idle, h.busy, h.last, h.used, h.epo, fun j i hj => (hh j i hj).1, h.refs, h.shape, h.weak, h.greyN, h.greyE, h.loc, h.disj, h.bump, h.stay, h.room, h.tri, fun j i hj => by
    rcases (hh j i hj).2 with e | e
    · exact ⟨fun _ _ => e, fun _ => e⟩
    · exact h.roots j i e⟩

theorem wf_give {s : S} (h : WF s) (hp : s.phase ≤ 2) {i : Nat} (hi : s.Alive i) : WF (s.give i) := by
  have h1 := wf_shade' h hp hi
  have hs := shade_same s i
  refine wf_hands h1 (hs := handIn s.handles i) ?_ (fun j q hj => ?_)
  · rw [hs.2.2.2.2.2.2.2.2.2.1, handIn_length]
    have := h.cursor
    split <;> omega
  · rw [handIn_at] at hj
    by_cases e : j = slotOf s.handles
    · rw [if_pos e] at hj
      simp only [Option.some.injEq] at hj
      subst hj
      exact ⟨alive_shade hi h.doneLe, .inl (shade_self h.epo i)⟩
    · rw [if_neg e] at hj
      exact ⟨alive_shade (h.hand j q hj) h.doneLe, .inr (by rw [hs.2.2.2.2.2.1]; exact hj)⟩

theorem wf_drop {s : S} (h : WF s) (k : Nat) : WF (s.drop k) := by
  refine wf_hands h (by simpa using h.cursor) (fun j q hj => ?_)
  rw [List.getElem?_set] at hj
  by_cases e : k = j
  · rw [if_pos e] at hj
    split at hj <;> simp at hj
  · rw [if_neg e] at hj
    exact ⟨h.hand j q hj, .inr hj⟩

theorem place_get {s : S} {o : O} {i : Nat} {o' : O} (hi : (s.place o).objs[i]? = some o') : (i < s.objs.length ∧ s.objs[i]? = some o') ∨ (i = s.objs.length ∧ o' = o) := by
  simp only [S.place, List.getElem?_append] at hi
  split at hi
  · exact .inl ⟨by assumption, hi⟩
  · cases hm : i - s.objs.length with
    | zero => rw [hm] at hi; simp at hi; exact .inr ⟨by omega, hi.symm⟩
    | succ m => rw [hm] at hi; simp at hi

theorem place_old {s : S} {o : O} {i : Nat} (h : i < s.objs.length) : (s.place o).objs[i]? = s.objs[i]? := by
  simp only [S.place]; rw [List.getElem?_append_left h]

theorem place_new (s : S) (o : O) : (s.place o).objs[s.objs.length]? = some o := by simp [S.place]

theorem alive_place {s : S} {o : O} {i : Nat} (h : s.Alive i) : (s.place o).Alive i := by
  obtain ⟨o', h1, h2⟩ := h
  exact ⟨o', by rw [place_old (List.getElem?_eq_some_iff.1 h1).1]; exact h1, h2⟩

theorem ep_place {s : S} {o : O} {i : Nat} (h : s.Alive i) : (s.place o).ep i = s.ep i := by
  obtain ⟨o', h1, h2⟩ := h
  rw [ep_some h1, ep_some (o := o') (by rw [place_old (List.getElem?_eq_some_iff.1 h1).1]; exact h1)]

theorem wf_place {s : S} (h : WF s) (hp : s.phase ≤ 2) (tag : Int) (ws : List W) (hal : ∀ j, W.obj j ∈ ws → s.Alive j) (hsh : 0 < s.phase → ∀ j, W.obj j ∈ ws → s.ep j = s.epoch)
    (htag : -1 ≤ tag ∧ tag ≤ 9223372036854775807) (hone : tag = -1 → ws.length = 1) (h16 : ws.length ≤ 16) (hfit : s.fitsB (1 + ws.length)) : WF (s.place (s.newO tag ws)) := by
  have hnew : s.objs.length ∉ s.grey := fun hm => by
    obtain ⟨o, ho, _⟩ := h.greyE _ hm
    have := (List.getElem?_eq_some_iff.1 ho).1
    omega
  have hsz : (s.newO tag ws).size = 1 + ws.length := by simp [S.newO, O.size]; omega
  have hblk : ∀ i o, (s.place (s.newO tag ws)).Black i o ↔ s.Black i o := fun i o => Iff.rfl
  have hnb : (s.place (s.newO tag ws)).Black s.objs.length (s.newO tag ws) := ⟨rfl, hnew⟩
  have hB : ∀ i, i < s.objs.length → (s.place (s.newO tag ws)).szB i = s.szB i := fun i hi => by unfold S.szB; rw [place_old hi]; rfl
  have hW : ∀ i, i < s.objs.length → (s.place (s.newO tag ws)).szW i = s.szW i := fun i hi => by unfold S.szW; rw [place_old hi]; rfl
  have hBn : (s.place (s.newO tag ws)).szB s.objs.length = (s.newO tag ws).size := by unfold S.szB; rw [place_new]; exact if_pos hnb
  have hWn : (s.place (s.newO tag ws)).szW s.objs.length = 0 := by unfold S.szW; rw [place_new]; exact if_neg (fun hh => hh.2 hnb)
  have hlen : (s.place (s.newO tag ws)).objs.length = s.objs.length + 1 := by simp [S.place]
  unfold S.fitsB at hfit
  refine ⟨h.cur, h.ph, h.cursor, h.idle, h.busy, h.last, ?_, fun i o hi => ?_, fun j i hj => alive_place (h.hand j i hj), fun i o hi hd j hj => ?_, fun i o hi => ?_, fun i hi => ?_, h.greyN, fun i hi => ?_, fun i o hi hd => ?_, fun i j o o' hi hj hne hd hd' hsp => ?_, ?_, ?_, ?_,
    fun hp i o hi hb j hj => ?_, fun j i hj => ?_⟩
  · have := h.used
    show s.used + _ = (s.bump + _) + s.stay
    omega
  · rcases place_get hi with ⟨_, hi'⟩ | ⟨_, rfl⟩
    · exact h.epo i o hi'
    · exact Nat.le_refl _
  · rcases place_get hi with ⟨_, hi'⟩ | ⟨_, rfl⟩
    · exact alive_place (h.refs i o hi' hd j hj)
    · simp only [S.newO, List.mem_cons] at hj
      rcases hj with hj | hj
      · simp at hj
      · exact alive_place (hal j hj)
  · rcases place_get hi with ⟨_, hi'⟩ | ⟨_, rfl⟩
    · exact h.shape i o hi'
    · exact ⟨ws, rfl, hone, h16, htag.1, htag.2⟩
  · have := h.weak i hi; rw [hlen]; omega
  · obtain ⟨o, ho, he⟩ := h.greyE i hi
    exact ⟨o, by rw [place_old (List.getElem?_eq_some_iff.1 ho).1]; exact ho, he⟩
  · rcases place_get hi with ⟨_, hi'⟩ | ⟨rfl, rfl⟩
    · obtain ⟨a, b⟩ := h.loc i o hi' hd
      refine ⟨fun hb => ?_, b⟩
      obtain ⟨e1, e2⟩ := a hb
      exact ⟨e1, by show _ ≤ s.bump + _; omega⟩
    · exact ⟨fun _ => ⟨rfl, Nat.le_refl _⟩, fun hb => absurd hnb hb⟩
  · have key : ∀ (i : Nat) (o : O), s.objs[i]? = some o → s.done ≤ o.epoch → o.space = s.cur → o.place + o.size ≤ s.bump := fun i o hi hd hc => by
      obtain ⟨a, b⟩ := h.loc i o hi hd
      by_cases hb : s.Black i o
      · exact (a hb).2
      · exact absurd hc (b hb).2.1
    rcases place_get hi with ⟨_, hi'⟩ | ⟨rfl, rfl⟩
    · rcases place_get hj with ⟨_, hj'⟩ | ⟨rfl, rfl⟩
      · exact h.disj i j o o' hi' hj' hne hd hd' hsp
      · exact .inl (key i o hi' hd hsp)
    · rcases place_get hj with ⟨_, hj'⟩ | ⟨rfl, rfl⟩
      · exact .inr (key j o' hj' hd' hsp.symm)
      · exact absurd rfl hne
  · rw [hlen]
    show s.bump + _ = _
    simp only [rsum]
    rw [rsum_congr hB, hBn, ← h.bump]
  · rw [hlen]
    show s.stay = _
    simp only [rsum]
    rw [rsum_congr hW, hWn, ← h.stay]
    rfl
  · show s.bump + _ + s.stay ≤ s.room
    omega
  · rcases place_get hi with ⟨_, hi'⟩ | ⟨_, rfl⟩
    · have ha := h.refs i o hi' (by have := hb.1; have := h.doneLe; show s.done ≤ _; have e : o.epoch = s.epoch := hb.1; omega) j hj
      rw [ep_place ha]
      exact h.tri hp i o hi' hb j hj
    · simp only [S.newO, List.mem_cons] at hj
      rcases hj with hj | hj
      · simp at hj
      · rw [ep_place (hal j hj)]; exact hsh hp j hj
  · rw [ep_place (h.hand j i hj)]
    exact h.roots j i hj
end Go.Proofs.Ytfjgokbclgdfjaa
