/- The steps of a cycle keep the invariant. -/
import Derived.Test.YtfjgokbclgdfjaaInv
namespace Go.Proofs.Ytfjgokbclgdfjaa.HM

theorem wf_shadeW {s : S} (h : WF s) {x : W} (hx : ∀ j, x = .obj j → s.Alive j) (hb : 0 < s.phase ∧ s.phase ≤ 2) : WF (s.shadeW x) := by
  cases x with
  | num n => exact h
  | obj i => exact wf_shade h (hx i rfl) (.inl hb)

theorem wf_shades (l : List W) : ∀ {s : S}, WF s → (∀ j, W.obj j ∈ l → s.Alive j) → 0 < s.phase ∧ s.phase ≤ 2 → WF (s.shades l) := by
  induction l with
  | nil => intro s h _ _; exact h
  | cons x r ih =>
    intro s h hl hb
    refine ih (s := s.shadeW x) (wf_shadeW h (fun j e => hl j (by simp [e])) hb) (fun j hj => alive_shadeW (hl j (by simp [hj])) h.doneLe) ?_
    rw [(shadeW_same s x).2.2.2.2.2.2.2.2.1]; exact hb

/-- The cursor may go on past handles that have been seen. -/
theorem wf_cursor {s : S} (h : WF s) {n : Nat} (hn : n ≤ s.handles.length) (hc : ∀ (j i : Nat), s.handles[j]? = some (some i) → s.phase = 1 → j < n → s.ep i = s.epoch) : WF { s with cursor := n } :=
  ⟨h.cur, h.ph, hn, h.idle, h.busy, h.last, h.used, h.epo, h.hand, h.refs, h.shape, h.weak, h.greyN, h.greyE, h.loc, h.disj, h.bump, h.stay, h.room, h.tri,
   fun j i hj => ⟨fun hp hlt => hc j i hj hp hlt, (h.roots j i hj).2⟩⟩

/-- nextHandle finds the first handle from a place on. -/
theorem nextHandle_spec (l : List (Option Nat)) : ∀ n, (∃ k, nextHandle l n = (n + k + 1, (l[k]?).getD none) ∧ (∃ i, l[k]? = some (some i)) ∧ ∀ j, j < k → l[j]? = some none) ∨ (nextHandle l n = (n + l.length, none) ∧ ∀ j, j < l.length → l[j]? = some none) := by
  induction l with
  | nil => intro n; exact .inr ⟨rfl, by simp⟩
  | cons x r ih =>
    intro n
    cases x with
    | some i => exact .inl ⟨0, rfl, ⟨i, rfl⟩, by simp⟩
    | none =>
      rcases ih (n + 1) with ⟨k, h1, ⟨i, h2⟩, h3⟩ | ⟨h1, h2⟩
      · refine .inl ⟨k + 1, ?_, ⟨i, by simpa using h2⟩, ?_⟩
        · simp only [nextHandle, h1]; simp; omega
        · intro j hj
          cases j with
          | zero => rfl
          | succ j => simpa using h3 j (by omega)
      · refine .inr ⟨?_, ?_⟩
        · simp only [nextHandle, h1]; simp; omega
        · intro j hj
          cases j with
          | zero => rfl
          | succ j => simpa using h2 j (by simpa using hj)

theorem roots_cases (s : S) : (∃ k i, s.handles[s.cursor + k]? = some (some i) ∧ (∀ j, j < k → s.handles[s.cursor + j]? = some none) ∧ s.roots = ({ s.shade i with cursor := s.cursor + k + 1 }, true)) ∨
    ((∀ j, s.cursor ≤ j → j < s.handles.length → s.handles[j]? = some none) ∧ s.roots = ({ s with cursor := s.cursor + (s.handles.length - s.cursor) }, false)) := by
  unfold S.roots
  rcases nextHandle_spec (s.handles.drop s.cursor) s.cursor with ⟨k, h1, ⟨i, h2⟩, h3⟩ | ⟨h1, h2⟩
  · left
    rw [h1, h2]
    refine ⟨k, i, by simpa using h2, fun j hj => by simpa using h3 j hj, rfl⟩
  · right
    rw [h1]
    refine ⟨fun j hj hl => ?_, by simp⟩
    have := h2 (j - s.cursor) (by simp; omega)
    simp only [List.getElem?_drop] at this
    rwa [show s.cursor + (j - s.cursor) = j from by omega] at this

theorem wf_roots {s : S} (h : WF s) (hp : s.phase = 1) : WF s.roots.1 ∧ (s.roots.2 = false → WF ({ s.roots.1 with phase := 2 } : S)) := by
  rcases roots_cases s with ⟨k, i, hk, hn, he⟩ | ⟨hn, he⟩
  · rw [he]
    have hs := shade_same s i
    have hlen : s.cursor + k < s.handles.length := (List.getElem?_eq_some_iff.1 hk).1
    refine ⟨?_, by simp⟩
    refine wf_cursor (s := s.shade i) (wf_shade h (h.hand _ i hk) (.inl ⟨by omega, by omega⟩)) (n := s.cursor + k + 1) (by rw [hs.2.2.2.2.2.1]; omega) ?_
    intro j i' hj _ hlt
    rw [hs.2.2.2.2.2.1] at hj
    by_cases h1 : j < s.cursor
    · exact shade_ep_ge ((h.roots j i' hj).1 hp h1)
    · by_cases h2 : j = s.cursor + k
      · subst h2
        rw [hk] at hj
        simp at hj
        subst hj
        exact shade_self h.epo i
      · have := hn (j - s.cursor) (by omega)
        rw [show s.cursor + (j - s.cursor) = j from by omega, hj] at this
        simp at this
  · rw [he]
    have hc := h.cursor
    have hall : ∀ (j i : Nat), s.handles[j]? = some (some i) → s.ep i = s.epoch := by
      intro j i hj
      have hjl : j < s.handles.length := (List.getElem?_eq_some_iff.1 hj).1
      by_cases h1 : j < s.cursor
      · exact (h.roots j i hj).1 hp h1
      · have := hn j (by omega) hjl
        rw [hj] at this
        simp at this
    have hw : WF ({ s with cursor := s.cursor + (s.handles.length - s.cursor) } : S) := wf_cursor h (by omega) (fun j i hj _ _ => hall j i hj)
    refine ⟨hw, fun _ => ?_⟩
    exact ⟨hw.cur, by simp, hw.cursor, by simp, fun _ => h.busy (by omega), by simp, hw.used, hw.epo, hw.hand, hw.refs, hw.shape, hw.weak, hw.greyN, hw.greyE, hw.loc, hw.disj, hw.bump, hw.stay, hw.room,
      fun _ => h.tri (by omega), fun j i hj => ⟨by simp, fun _ => hall j i hj⟩⟩

theorem wf_begin {s : S} (h : WF s) : WF s.begin := by
  unfold S.begin
  by_cases hp : 0 < s.phase
  · rw [if_pos hp]; exact h
  · rw [if_neg hp]
    have hp0 : s.phase = 0 := by omega
    obtain ⟨hde, hg⟩ := h.idle hp0
    have hblack : ∀ (i : Nat) (o : O), s.objs[i]? = some o → (s.done ≤ o.epoch ↔ s.Black i o) := fun i o ho => by
      have := h.epo i o ho
      unfold S.Black
      rw [hg]
      simp; omega
    have hnb : ∀ (i : Nat) (o : O), s.objs[i]? = some o → ¬ ({ s with phase := 1, cursor := 0, epoch := s.epoch + 1, cur := 1 - s.cur, stay := s.bump, bump := 0 } : S).Black i o := fun i o ho hb => by
      have := h.epo i o ho
      have h1 : o.epoch = s.epoch + 1 := hb.1
      omega
    have hcur := h.cur
    have hstay : s.stay = 0 := by
      rw [h.stay]
      refine rsum_zero fun i _ => ?_
      unfold S.szW
      cases ho : s.objs[i]? with
      | none => rfl
      | some o => simp only; rw [if_neg (by rw [hblack i o ho]; simp)]
    have hroom := h.room
    refine ⟨by show 1 - s.cur ≤ 1; omega, by simp, by simp, by simp, fun _ => by simp [hde], by simp, by have := h.used; simp; omega, fun i o ho => by have := h.epo i o ho; simp; omega, h.hand, h.refs, h.shape, h.weak, by simp [hg], by simp [hg], ?_, h.disj, ?_, ?_, by simp; omega, ?_, ?_⟩
    · intro i o ho hl
      have hl' : s.done ≤ o.epoch := hl
      have := (h.loc i o ho hl').1 ((hblack i o ho).1 hl')
      refine ⟨fun hb => absurd hb (hnb i o ho), fun _ => ⟨by omega, ?_, ?_⟩⟩
      · show o.space ≠ 1 - s.cur; omega
      · show o.place + o.size ≤ s.room; omega
    · symm
      refine rsum_zero fun i _ => ?_
      unfold S.szB
      cases ho : s.objs[i]? with
      | none => simp [ho]
      | some o =>
        simp only
        rw [if_neg (hnb i o ho)]
    · show s.bump = _
      rw [h.bump]
      refine rsum_congr fun i _ => ?_
      unfold S.szB S.szW
      show _ = (match s.objs[i]? with | some o => _ | none => _)
      cases ho : s.objs[i]? with
      | none => rfl
      | some o =>
        simp only
        have h1 := hblack i o ho
        have h2 := hnb i o ho
        by_cases hb : s.Black i o
        · rw [if_pos hb, if_pos ⟨h1.2 hb, h2⟩]
        · rw [if_neg hb, if_neg (fun hh => hb (h1.1 hh.1))]
    · intro _ i o ho hb
      exact absurd hb (hnb i o ho)
    · intro j i hj
      exact ⟨fun _ hlt => by simp at hlt, fun hh => by simp at hh⟩

theorem wf_finish {s : S} (h : WF s) (hp : s.phase = 3) : WF s.finish := by
  have hg := h.last hp
  have hbusy := h.busy (by omega)
  have hblack : ∀ (i : Nat) (o : O), s.objs[i]? = some o → (s.epoch ≤ o.epoch ↔ s.Black i o) := fun i o ho => by
    have := h.epo i o ho
    unfold S.Black
    rw [hg]
    simp; omega
  have hbl : ∀ (i : Nat) (o : O), s.finish.Black i o ↔ s.Black i o := fun i o => by
    unfold S.Black S.finish
    simp [hg]
  have hal : ∀ (i : Nat), s.ep i = s.epoch → s.Alive i → s.finish.Alive i := fun i he ⟨o, ho, _⟩ => by
    rw [ep_some ho] at he
    exact ⟨o, ho, by show s.epoch ≤ o.epoch; omega⟩
  have hroom := h.room
  refine ⟨h.cur, by simp [S.finish], h.cursor, fun _ => ⟨rfl, rfl⟩, by simp [S.finish], by simp [S.finish], by simp [S.finish], h.epo, ?_, ?_, h.shape, h.weak, by simp [S.finish], by simp [S.finish], ?_, ?_, ?_, ?_, ?_, by simp [S.finish], ?_⟩
  · intro j i hj
    exact hal i ((h.roots j i hj).2 (by omega)) (h.hand j i hj)
  · intro i o ho hl j hj
    have hl' : s.epoch ≤ o.epoch := hl
    exact hal j (h.tri (by omega) i o ho ((hblack i o ho).1 hl') j hj) (h.refs i o ho (by omega) j hj)
  · intro i o ho hl
    have hl' : s.epoch ≤ o.epoch := hl
    have hb := (hblack i o ho).1 hl'
    refine ⟨fun _ => (h.loc i o ho (by omega)).1 hb, fun hn => absurd ((hbl i o).2 hb) hn⟩
  · intro i j o o' h1 h2 hne hl1 hl2 hsp
    have a1 : s.epoch ≤ o.epoch := hl1
    have a2 : s.epoch ≤ o'.epoch := hl2
    exact h.disj i j o o' h1 h2 hne (by omega) (by omega) hsp
  · show s.bump = _
    rw [h.bump]
    refine rsum_congr fun i _ => ?_
    unfold S.szB
    show _ = (match s.objs[i]? with | some o => _ | none => _)
    cases ho : s.objs[i]? with
    | none => rfl
    | some o => simp only [hbl]
  · symm
    refine rsum_zero fun i _ => ?_
    unfold S.szW
    show (match s.objs[i]? with | some o => _ | none => _) = 0
    cases ho : s.objs[i]? with
    | none => rfl
    | some o =>
      simp only
      rw [if_neg]
      rintro ⟨hl, hn⟩
      have hl' : s.epoch ≤ o.epoch := hl
      exact hn ((hbl i o).2 ((hblack i o ho).1 hl'))
  · show s.bump + 0 ≤ s.room; omega
  · intro j i hj
    exact ⟨fun hh => by simp [S.finish] at hh, fun hh => by simp [S.finish] at hh⟩

end Go.Proofs.Ytfjgokbclgdfjaa.HM
