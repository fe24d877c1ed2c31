/- shade, over the whole heap. -/
import Derived.Test.YtfjgokbclgdfjaaA
set_option linter.unusedSimpArgs false
set_option linter.unusedVariables false
namespace Go.Proofs.Ytfjgokbclgdfjaa
open Go.RowKit HM

theorem S.ep_of {s : S} {i : Nat} {o : O} (h : s.objs[i]? = some o) : s.ep i = o.epoch := by simp [S.ep, h]

theorem shade_rep {w : World} {ρ : Nat → Nat} {A : Ad} {s : S} (h : Rep w ρ A s) {i : Nat} {o : O} (hi : s.objs[i]? = some o) (hl : s.done ≤ o.epoch) (hg : s.grey.length < 1000000000) :
    Calls Try.prog 80 #[.pointer (some ⟨A.hb, 0, none⟩), A.ptr i] w fun e w' => e = .returned (.tuple #[]) ∧ ∃ ρ', Rep w' ρ' A (s.shade i) ∧ Ch (fun r => r = 1 ∨ r = 5 ∨ r = 8 + i) ρ ρ' w w' := by
  have hil : i < s.objs.length := (List.getElem?_eq_some_iff.1 hi).1
  obtain ⟨gs, ds, ks, hh, hgr, ⟨da, hd, hdr⟩, hk⟩ := h.head
  have ho := h.objs i o hi
  have h1 : w.cell? ⟨A.obj i, 4, none⟩ = some (.int .i64 o.epoch) := by rw [cell_of_row w _ 4 _ _ _ ho]; rfl
  have h2 : w.cell? ⟨A.hb, 9, none⟩ = some (.int .i64 s.epoch) := by rw [cell_of_row w _ 9 _ _ _ hh]; rfl
  have h3 : w.cell? ⟨A.hb, 13, none⟩ = some gs := by rw [cell_of_row w _ 13 _ _ _ hh]; rfl
  unfold S.shade
  rw [S.ep_of hi]
  by_cases hlt : o.epoch < s.epoch
  · rw [if_pos hlt]
    refine (shade_new w ρ A.hb (A.obj i) _ _ gs _ h1 h2 (by omega) h3 hgr (by simpa using hg) h.rho h.rh (by rw [h.ro i hil]; omega) (fun j => frozen_of_row w _ j _ _ ho) (fun j => frozen_of_row w _ j _ _ hh)).mono ?_
    rintro e w' ⟨rfl, k, w1, w2, ρ', gs', e1, hr2, hc2, rfl⟩
    refine ⟨rfl, ρ', ?_⟩
    have c1 : Ch (fun r => r = 1 ∨ r = 5 ∨ r = 8 + i) ρ ρ w w1 := by
      rw [e1]; exact (((Ch.refl h.rho).drewN k).setCell _ _ (fun _ => .inr (.inr (h.ro i hil)))).alloc _
    have c2 : Ch (fun r => r = 1 ∨ r = 5 ∨ r = 8 + i) ρ ρ' w w2 := c1.trans (hc2.mono fun r hr => .inr (.inl hr))
    have c3 : Ch (fun r => r = 1 ∨ r = 5 ∨ r = 8 + i) ρ ρ' w (w2.setCell ⟨A.hb, 13, none⟩ gs') := c2.setCell _ _ (fun _ => .inl h.rh)
    have c4 : Ch (· = 1) ρ' ρ' w2 (w2.setCell ⟨A.hb, 13, none⟩ gs') := (Ch.refl c2.fresh).setCell _ _ (fun _ => (c2.role _ (h.lt (by simp [h.rh]))).trans h.rh)
    refine ⟨h.turn c3 (by omega) (by omega) (by simp) rfl ⟨gs', ds, ks, ?_, ?_, ⟨da, hd.keep c3 (by omega), hdr⟩, hk.keep c3 (by omega)⟩ (h.map.keep (c3.block _ h.map.lt (by rw [h.rm]; omega))) (fun j o' hj => ?_) (fun j o' hj hdone => ?_), c3⟩
    · have hb1 : w1.heap[A.hb]? = w.heap[A.hb]? := by
        rw [e1, Below.heap_alloc _ _ _ (by simpa using h.lt (by simp [h.rh])), Below.heap_setCell _ _ _ _ (h.hb_ne_obj hil)]; rfl
      have hb2 : w2.heap[A.hb]? = some (.cells (hcells A s gs ds ks) 49 (0, 0)) := by
        rw [hc2.block A.hb (by rw [e1]; simp; exact Nat.lt_succ_of_lt (h.lt (by simp [h.rh]))) (by rw [h.rh]; decide), hb1]; exact hh
      rw [heap_setCell_same w2 A.hb 13 _ _ _ hb2]
      rfl
    · have := hr2.keep c4 (by decide)
      simpa [Ad.ptr] using this
    · simp only [List.getElem?_modify] at hj
      by_cases hji : i = j
      · subst hji
        rw [hi] at hj
        simp at hj
        subst hj
        have hb1 : w1.heap[A.obj i]? = some (.cells (objCells { o with epoch := s.epoch }) 97 (0, 0)) := by
          rw [e1, Below.heap_alloc _ _ _ (by simpa using h.lt (by rw [h.ro i hil]; omega))]
          rw [heap_setCell_same (w.drewN k) (A.obj i) 4 _ _ _ ho]
          rfl
        rw [Below.heap_setCell _ _ _ _ (fun e => h.hb_ne_obj hil e.symm), hc2.block _ (by rw [e1]; simp; exact Nat.lt_succ_of_lt (h.lt (by rw [h.ro i hil]; omega))) (by rw [h.ro i hil]; omega)]
        exact hb1
      · simp [hji] at hj
        have hjl : j < s.objs.length := (List.getElem?_eq_some_iff.1 hj).1
        rw [c3.block _ (h.lt (by rw [h.ro j hjl]; omega)) (by rw [h.ro j hjl]; omega)]
        exact h.objs j o' hj
    · simp only [List.getElem?_modify] at hj
      by_cases hji : i = j
      · subst hji
        rw [hi] at hj
        simp at hj
        subst hj
        exact ⟨o, hi, hl, rfl, rfl, rfl⟩
      · simp [hji] at hj
        exact ⟨o', hj, hdone, rfl, rfl, rfl⟩
  · rw [if_neg hlt]
    refine (shade_old w A.hb (A.obj i) _ _ h1 h2 (by simp; omega)).mono ?_
    rintro e w' ⟨rfl, k, rfl⟩
    exact ⟨rfl, ρ, h.drewN k, (Ch.refl h.rho).drewN k⟩

end Go.Proofs.Ytfjgokbclgdfjaa
