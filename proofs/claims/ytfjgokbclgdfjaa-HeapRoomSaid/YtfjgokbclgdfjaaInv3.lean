/- A step of tracing keeps the invariant; a cycle ends. -/
import Derived.Test.YtfjgokbclgdfjaaInv2
namespace Go.Proofs.Ytfjgokbclgdfjaa.HM

theorem shade_grey_head {s : S} {i : Nat} {rest : List Nat} (hg : s.grey = i :: rest) (j : Nat) : (s.shade j).grey = i :: (s.shade j).grey.tail := by
  rw [shade_grey, hg]; split <;> simp

theorem moved_shade {s : S} {i : Nat} {o : O} {rest : List Nat} (hg : s.grey = i :: rest) (ho : s.objs[i]? = some o) (he : o.epoch = s.epoch) (j : Nat) :
    (moved s i o rest).shade j = moved (s.shade j) i o (s.shade j).grey.tail ∧ (s.shade j).objs[i]? = some o := by
  have hil : i < s.objs.length := (List.getElem?_eq_some_iff.1 ho).1
  have hep : (moved s i o rest).ep j = s.ep j := by
    unfold S.ep
    show ((((s.objs.set i { o with space := s.cur, place := s.bump })[j]?).map (·.epoch)).getD s.epoch) = _
    rw [List.getElem?_set]
    by_cases hij : i = j
    · rw [if_pos hij, if_pos hil, ← hij, ho]; rfl
    · simp [hij]
  have hne : s.ep j < s.epoch → i ≠ j := by rintro hlt rfl; rw [ep_some ho] at hlt; omega
  constructor
  · unfold S.shade
    rw [hep]
    by_cases hlt : s.ep j < s.epoch
    · have hlt' : s.ep j < (moved s i o rest).epoch := hlt
      rw [if_pos hlt', if_pos hlt]
      have hij := hne hlt
      simp only [moved, hg]
      congr 1
      apply List.ext_getElem?
      intro k
      simp only [List.getElem?_modify, List.getElem?_set, List.length_modify]
      by_cases h1 : j = k
      · subst h1; simp [hij]
      · by_cases h2 : i = k
        · subst h2; simp [h1, hil]
        · simp [h1, h2]
    · have hlt' : ¬ s.ep j < (moved s i o rest).epoch := hlt
      rw [if_neg hlt', if_neg hlt]
      simp [hg]
  · rw [shade_obj, if_neg (by rintro ⟨hlt, rfl⟩; exact hne hlt rfl)]; exact ho

theorem moved_shades {i : Nat} {o : O} (l : List W) : ∀ {s : S} {rest : List Nat}, s.grey = i :: rest → s.objs[i]? = some o → o.epoch = s.epoch →
    (moved s i o rest).shades l = moved (s.shades l) i o (s.shades l).grey.tail ∧ (s.shades l).objs[i]? = some o ∧ (s.shades l).grey = i :: (s.shades l).grey.tail := by
  induction l with
  | nil => intro s rest hg ho _; simp [S.shades, hg, ho]
  | cons x r ih =>
    intro s rest hg ho he
    cases x with
    | num n => exact ih hg ho he
    | obj j =>
      obtain ⟨h1, h2⟩ := moved_shade hg ho he j
      have h3 := shade_grey_head hg j
      have := ih (s := s.shade j) (rest := (s.shade j).grey.tail) h3 h2 (by rw [(shade_same s j).2.2.2.2.2.2.1]; exact he)
      show ((moved s i o rest).shade j).shades r = _ ∧ _
      rw [h1]
      exact this

/-- The epoch that an object has, behind the shading of some words. -/
theorem shades_ep_mono (l : List W) : ∀ {s : S} {j : Nat}, s.ep j = s.epoch → (s.shades l).ep j = (s.shades l).epoch := by
  induction l with
  | nil => intro s j h; exact h
  | cons x r ih =>
    intro s j h
    refine ih (s := s.shadeW x) ?_
    cases x with
    | num n => exact h
    | obj i => exact shade_ep_ge h

theorem shade_epo {s : S} (h : ∀ (i : Nat) (o : O), s.objs[i]? = some o → o.epoch ≤ s.epoch) (i : Nat) : ∀ (j : Nat) (o : O), (s.shade i).objs[j]? = some o → o.epoch ≤ (s.shade i).epoch := by
  intro j o hj
  rw [(shade_same s i).2.2.2.2.2.2.1]
  obtain ⟨o1, h1, _, _, _, _, hc⟩ := shade_get hj
  rcases hc with ⟨_, _, he⟩ | ⟨rfl, _⟩
  · omega
  · exact h j _ h1

theorem shades_marks (l : List W) : ∀ {s : S}, (∀ (i : Nat) (o : O), s.objs[i]? = some o → o.epoch ≤ s.epoch) → ∀ j, W.obj j ∈ l → (s.shades l).ep j = (s.shades l).epoch := by
  induction l with
  | nil => intro s _ j hj; simp at hj
  | cons x r ih =>
    intro s h j hj
    cases x with
    | num n => exact ih h j (by simpa using hj)
    | obj i =>
      simp only [List.mem_cons] at hj
      rcases hj with hj | hj
      · injection hj with hj
        subst hj
        exact shades_ep_mono r (s := s.shade j) (shade_self h j)
      · exact ih (s := s.shade i) (shade_epo h i) j hj

theorem wf_moved {s : S} (h : WF s) (hp : 0 < s.phase ∧ s.phase ≤ 2) {i : Nat} {o : O} {rest : List Nat} (hg : s.grey = i :: rest) (ho : s.objs[i]? = some o) (he : o.epoch = s.epoch) (hr : ∀ j, W.obj j ∈ o.ws → s.ep j = s.epoch) : WF (moved s i o rest) := by
  have hil : i < s.objs.length := (List.getElem?_eq_some_iff.1 ho).1
  have hd := h.doneLe
  have hnd := h.greyN
  rw [hg, List.nodup_cons] at hnd
  have hoa : s.done ≤ o.epoch := by omega
  have hget : ∀ {j : Nat} {o' : O}, (moved s i o rest).objs[j]? = some o' → ∃ p, s.objs[j]? = some p ∧ o'.tag = p.tag ∧ o'.ws = p.ws ∧ o'.epoch = p.epoch ∧ ((j = i ∧ o'.space = s.cur ∧ o'.place = s.bump ∧ p = o) ∨ (j ≠ i ∧ o' = p)) := by
    intro j o' hj
    simp only [moved, List.getElem?_set] at hj
    by_cases hij : i = j
    · subst hij
      rw [if_pos rfl, if_pos hil] at hj
      obtain rfl := Option.some.inj hj
      exact ⟨o, ho, rfl, rfl, rfl, .inl ⟨rfl, rfl, rfl, rfl⟩⟩
    · rw [if_neg hij] at hj
      exact ⟨o', hj, rfl, rfl, rfl, .inr ⟨fun e => hij e.symm, rfl⟩⟩
  have hself : (moved s i o rest).objs[i]? = some { o with space := s.cur, place := s.bump } := by simp [moved, hil]
  have hother : ∀ {j : Nat}, j ≠ i → (moved s i o rest).objs[j]? = s.objs[j]? := fun {j} hj => by simp only [moved, List.getElem?_set]; rw [if_neg (fun e => hj e.symm)]
  have hep : ∀ j, (moved s i o rest).ep j = s.ep j := by
    intro j
    by_cases hj : j = i
    · subst hj; rw [ep_some hself, ep_some ho]
    · unfold S.ep; rw [hother hj]; rfl
  have hal : ∀ {j : Nat}, s.Alive j → (moved s i o rest).Alive j := by
    rintro j ⟨p, hp', hl⟩
    by_cases hj : j = i
    · subst hj; rw [ho] at hp'; obtain rfl := Option.some.inj hp'; exact ⟨_, hself, hl⟩
    · exact ⟨p, (hother hj).trans hp', hl⟩
  have hblk : ∀ {j : Nat} {p : O}, j ≠ i → ((moved s i o rest).Black j p ↔ s.Black j p) := by
    intro j p hj
    unfold S.Black
    show p.epoch = s.epoch ∧ j ∉ rest ↔ _
    rw [hg]; simp [hj]
  have hblki : ∀ {p : O}, p.epoch = s.epoch → (moved s i o rest).Black i p := fun {p} hpe => ⟨hpe, hnd.1⟩
  have hnblk : ¬ s.Black i o := by unfold S.Black; rw [hg]; simp
  have hstle : o.size ≤ s.stay := by
    rw [h.stay]
    have : s.szW i = o.size := by unfold S.szW; rw [ho]; simp only; rw [if_pos ⟨hoa, hnblk⟩]
    rw [← this]; exact rsum_ge hil
  have hloc := (h.loc i o ho hoa).2 hnblk
  refine ⟨h.cur, h.ph, h.cursor, fun hh => by have : s.phase = 0 := hh; omega, h.busy, fun hh => by have : s.phase = 3 := hh; omega, ?_, ?_, ?_, ?_, ?_, ?_, hnd.2, ?_, ?_, ?_, ?_, ?_, ?_, ?_, ?_⟩
  · show s.used = s.bump + o.size + (s.stay - o.size); have := h.used; omega
  · intro j o' hj
    obtain ⟨p, hp', _, _, h3, _⟩ := hget hj
    rw [h3]; exact h.epo j p hp'
  · intro j k hjk; exact hal (h.hand j k hjk)
  · intro j o' hj hl k hk
    obtain ⟨p, hp', _, h2, h3, _⟩ := hget hj
    exact hal (h.refs j p hp' (h3 ▸ hl) k (h2 ▸ hk))
  · intro j o' hj
    obtain ⟨p, hp', h1, h2, _⟩ := hget hj
    rw [h1, h2]; exact h.shape j p hp'
  · intro j hj; have := h.weak j hj; simpa [moved] using this
  · intro j hj
    have hj' : j ∈ rest := hj
    obtain ⟨p, hp', he'⟩ := h.greyE j (by rw [hg]; simp [hj'])
    exact ⟨p, (hother (by rintro rfl; exact hnd.1 hj')).trans hp', he'⟩
  · intro j o' hj hl
    obtain ⟨p, hp', _, h2, h3, h4⟩ := hget hj
    have hsz : o'.size = p.size := by simp [O.size, h2]
    rcases h4 with ⟨rfl, h5, h6, rfl⟩ | ⟨hne, rfl⟩
    · refine ⟨fun _ => ⟨h5, ?_⟩, fun hn => absurd (hblki (by rw [h3]; exact he)) hn⟩
      show o'.place + o'.size ≤ s.bump + p.size
      rw [h6, hsz]; exact Nat.le_refl _
    · have := h.loc j o' hp' hl
      refine ⟨fun hb => ?_, fun hb => ?_⟩
      · have := this.1 ((hblk hne).1 hb)
        exact ⟨this.1, by show o'.place + o'.size ≤ s.bump + o.size; omega⟩
      · exact this.2 (fun hh => hb ((hblk hne).2 hh))
  · intro j k o1 o2 h1 h2 hne hl1 hl2 hsp
    obtain ⟨p1, hp1, _, a2, a3, a4⟩ := hget h1
    obtain ⟨p2, hp2, _, b2, b3, b4⟩ := hget h2
    have key : ∀ {m : Nat} {q : O}, s.objs[m]? = some q → m ≠ i → s.done ≤ q.epoch → q.space = s.cur → q.place + q.size ≤ s.bump := by
      intro m q hq hm hl hsq
      have := h.loc m q hq hl
      by_cases hb : s.Black m q
      · exact (this.1 hb).2
      · exact absurd hsq (this.2 hb).2.1
    have sz1 : o1.size = p1.size := by simp [O.size, a2]
    have sz2 : o2.size = p2.size := by simp [O.size, b2]
    rcases a4 with ⟨rfl, a5, a6, rfl⟩ | ⟨ha, rfl⟩
    · rcases b4 with ⟨rfl, _⟩ | ⟨hb, rfl⟩
      · exact absurd rfl hne
      · right
        rw [a6]
        exact key hp2 hb hl2 (by rw [← hsp]; exact a5)
    · rcases b4 with ⟨rfl, b5, b6, rfl⟩ | ⟨hb, rfl⟩
      · left
        rw [b6]
        exact key hp1 ha hl1 (by rw [hsp]; exact b5)
      · exact h.disj j k o1 o2 hp1 hp2 hne hl1 hl2 hsp
  · show s.bump + o.size = rsum (s.objs.set i _).length _
    rw [List.length_set, h.bump]
    have hu := rsum_update (n := s.objs.length) (f := s.szB) (g := (moved s i o rest).szB) hil (fun j _ hj => by
      unfold S.szB
      rw [hother hj]
      cases s.objs[j]? with
      | none => rfl
      | some p => simp only [hblk hj])
    have e1 : s.szB i = 0 := by unfold S.szB; rw [ho]; simp only; rw [if_neg hnblk]
    have e2 : (moved s i o rest).szB i = o.size := by unfold S.szB; rw [hself]; simp only; rw [if_pos (hblki (p := { o with space := s.cur, place := s.bump }) he)]; rfl
    rw [e1, e2] at hu
    exact hu
  · show s.stay - o.size = rsum (s.objs.set i _).length _
    rw [List.length_set, h.stay]
    have hu := rsum_update (n := s.objs.length) (f := s.szW) (g := (moved s i o rest).szW) hil (fun j _ hj => by
      unfold S.szW
      rw [hother hj]
      cases s.objs[j]? with
      | none => rfl
      | some p => simp only [hblk hj]; rfl)
    have e1 : s.szW i = o.size := by unfold S.szW; rw [ho]; simp only; rw [if_pos ⟨hoa, hnblk⟩]
    have e2 : (moved s i o rest).szW i = 0 := by unfold S.szW; rw [hself]; simp only; rw [if_neg (fun hh => hh.2 (hblki (p := { o with space := s.cur, place := s.bump }) he))]
    rw [e1, e2] at hu
    omega
  · show s.bump + o.size + (s.stay - o.size) ≤ s.room; have := h.room; omega
  · intro hph j o' hj hb k hk
    obtain ⟨p, hp', _, h2, h3, h4⟩ := hget hj
    rw [hep]
    rcases h4 with ⟨rfl, _, _, rfl⟩ | ⟨hne, rfl⟩
    · exact hr k (h2 ▸ hk)
    · exact h.tri hph j o' hp' ((hblk hne).1 hb) k hk
  · intro j k hjk
    rw [hep]
    exact h.roots j k hjk

theorem trace_some_eq {s : S} {i : Nat} {o : O} {rest : List Nat} (hg : s.grey = i :: rest) (ho : s.objs[i]? = some o) : s.trace = ((moved s i o rest).shades o.ws.tail, true) := by
  unfold S.trace
  rw [hg]
  simp only [ho]
  rfl

theorem mem_tail_of_shape {o : O} {r : List W} (h : o.ws = .num o.tag :: r) {j : Nat} (hj : W.obj j ∈ o.ws) : W.obj j ∈ o.ws.tail := by
  rw [h] at hj ⊢
  simpa using hj

theorem wf_trace {s : S} (h : WF s) (hp : 0 < s.phase ∧ s.phase ≤ 2) : WF s.trace.1 := by
  cases hg : s.grey with
  | nil => unfold S.trace; rw [hg]; exact h
  | cons i rest =>
    obtain ⟨o, ho, he⟩ := h.greyE i (by rw [hg]; simp)
    rw [trace_some_eq hg ho]
    have hoa : s.done ≤ o.epoch := by have := h.doneLe; omega
    obtain ⟨h1, h2, h3⟩ := moved_shades (i := i) (o := o) o.ws.tail hg ho he
    show WF ((moved s i o rest).shades o.ws.tail)
    rw [h1]
    have hs := shades_same o.ws.tail s
    have hw : WF (s.shades o.ws.tail) := wf_shades o.ws.tail h (fun j hj => h.refs i o ho hoa j (List.mem_of_mem_tail hj)) hp
    obtain ⟨r, hr, _⟩ := h.shape i o ho
    refine wf_moved hw (by rw [hs.2.2.2.2.2.2.2.2.1]; exact hp) h3 h2 (by rw [hs.2.2.2.2.2.2.1]; exact he) (fun j hj => ?_)
    exact shades_marks o.ws.tail h.epo j (mem_tail_of_shape hr hj)

end Go.Proofs.Ytfjgokbclgdfjaa.HM
