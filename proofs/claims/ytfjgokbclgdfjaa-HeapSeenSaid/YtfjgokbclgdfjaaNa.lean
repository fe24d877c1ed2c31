/- New where there is an error; the reference's New; Handles of a heap that has none. -/
import Derived.Test.YtfjgokbclgdfjaaSane
import Derived.Laws.IdiomRangeMap
set_option linter.unusedSimpArgs false
set_option linter.unusedVariables false
namespace Go.Proofs.Ytfjgokbclgdfjaa
open Go.RowKit HM

theorem new_err (w : World) (n : Int) (h : n < 4 ∨ 60000 < n) : Calls Try.prog 14 #[.int .i64 n] w fun e w' => e = .returned (.tuple #[.pointer none, .int .i64 1]) ∧ w' = w := by
  rcases Int.lt_or_le n 4 with h4 | h4
  · go_enter Try.func14, Try.ntmps14
    go_wp2
    go_ret2
    exact ⟨rfl, rfl⟩
  · have h6 : 60000 < n := by omega
    go_enter Try.func14, Try.ntmps14
    go_wp2
    go_ret2
    exact ⟨rfl, rfl⟩

theorem ref_new_err (w : World) (n : Int) (h : n < 4 ∨ 60000 < n) : Calls Try.prog 39 #[.int .i64 n] w fun e w' => e = .returned (.tuple #[.pointer none, .int .i64 1]) ∧ w' = w := by
  rcases Int.lt_or_le n 4 with h4 | h4
  · go_enter Try.func39, Try.ntmps39
    go_wp2
    go_ret2
    exact ⟨rfl, rfl⟩
  · have h6 : 60000 < n := by omega
    go_enter Try.func39, Try.ntmps39
    go_wp2
    go_ret2
    exact ⟨rfl, rfl⟩

theorem ref_new_ok {w : World} {ρ : Nat → Nat} (hρ : ∀ k, w.heap.size ≤ k → ρ k = 0) (n : Int) (h4 : 4 ≤ n) (h6 : n ≤ 60000) : Calls Try.prog 39 #[.int .i64 n] w fun e w' => ∃ p, e = .returned (.tuple #[.pointer p, .int .i64 0]) ∧ Ch (fun _ => False) ρ ρ w w' := by
  have HR := Lib.hid hρ
  clear hρ
  go_enter Try.func39, Try.ntmps39
  go_wp2
  go_ret2
  exact ⟨_, rfl, (Ch.refl HR.out).alloc _⟩

theorem map_none {w : World} {b : Nat} {blk : Nat → Nat} (h : MapAt w b blk []) : ∃ clock, w.heap[b]? = some (.map #[] clock) := by
  obtain ⟨D, ⟨es, clock, h1, _, h3, _⟩, h2, _⟩ := h
  have : es = #[] := Array.eq_empty_of_size_eq_zero (by simp at h2; omega)
  exact ⟨clock, by rw [h1, this]⟩

set_option maxRecDepth 20000 in
theorem len_zero (w : World) : Calls Try.prog 90 #[.int .u64 0] w fun e w' => e = .returned (.int .i64 0) ∧ w' = w := by
  go_enter Try.func90, Try.ntmps90
  go_wp2
  go_ret
  exact ⟨by kernel_rfl, rfl⟩

set_option maxRecDepth 20000 in
theorem insertion_none (w : World) : Calls Try.prog 94 #[.slice none 0 0, .int .i64 0, .int .i64 0] w fun e w' => e = .returned (.tuple #[]) ∧ w' = w := by
  go_enter Try.func94, Try.ntmps94
  go_wp2
  refine wp_loop_rounds 1 ?_
  rw [rounds_succ]
  go_wp2
  go_end0
  exact ⟨rfl, rfl⟩

set_option maxRecDepth 20000 in
theorem pdq_none (w : World) : Calls Try.prog 89 #[.slice none 0 0, .int .i64 0, .int .i64 0, .int .i64 0] w fun e w' => e = .returned (.tuple #[]) ∧ w' = w := by
  go_enter Try.func89, Try.ntmps89
  go_wp2
  refine wp_loop_rounds 1 ?_
  rw [rounds_succ]
  go_wp2_with (go_at_call 94; refine (insertion_none _).mono ?_; rintro e w' ⟨rfl, rfl⟩)
  (try simp only [Exit.inBlock, Exit.then])
  refine bodyPost_ret (results_none rfl _ _ _) rfl ?_
  exact ⟨rfl, rfl⟩

set_option maxRecDepth 20000 in
theorem sort_none (w : World) : Calls Try.prog 74 #[.slice none 0 0] w fun e w' => e = .returned (.tuple #[]) ∧ w' = w := by
  go_enter Try.func74, Try.ntmps74
  go_wp2_with (first
    | (go_at_call 90; refine (len_zero _).mono ?_; rintro e w' ⟨rfl, rfl⟩)
    | (go_at_call 89; refine (pdq_none _).mono ?_; rintro e w' ⟨rfl, rfl⟩))
  go_end0
  exact ⟨rfl, rfl⟩

set_option maxRecDepth 20000 in
theorem handles_none {w : World} {ρ : Nat → Nat} {A : Ad} {s : S} (h : Rep w ρ A s) (hh : s.handles = []) :
    Calls Try.prog 41 #[.pointer (some ⟨A.hb, 0, none⟩)] w fun e w' => e = .returned (.slice none 0 0) ∧ Ch (fun _ => False) ρ ρ w w' := by
  have hm := h.map
  rw [hh] at hm
  obtain ⟨clock, hb⟩ := map_none hm
  obtain ⟨gs, ds, ks, hx⟩ := h.hcell
  have h7 : w.cell? ⟨A.hb, 8, none⟩ = some (.map (some A.mb)) := by rw [cell_of_row w _ 8 _ _ _ hx]; rfl
  have hlt : A.hb < w.heap.size := h.lt (by simp [h.rh])
  have hrg : (Instr.range 41 (.map (some A.mb))).run Try.prog w = .ok (.pointer (some ⟨w.heap.size, 0, none⟩)) (w.alloc (.mapIter (some A.mb) clock #[] clock)) := by
    simpa using run_range_map (P := Try.prog) w 41 3 83 A.mb #[] clock Try.underlying41 hb
  have hnx : ∀ ty, (Instr.next (.pointer (some ⟨w.heap.size, 0, none⟩)) false ty).run Try.prog (w.alloc (.mapIter (some A.mb) clock #[] clock)) = .ok (.tuple #[.bool false]) (w.alloc (.mapIter (some A.mb) clock #[] clock)) := fun ty => by
    rcases run_next_map (P := Try.prog) w ty A.mb clock clock #[] #[] clock hb (by simp) (Nat.le_refl _) with ⟨_, h⟩ | ⟨e, he, _⟩
    · simpa using h
    · simp [leftOf] at he
  have HR := Lib.hid h.rho
  clear hm hx hh h hb
  go_enter Try.func41, Try.ntmps41
  go_wp2_with fail
  refine wp_loop_rounds 1 ?_
  rw [rounds_succ]
  go_wp2_with (go_at_call 74; refine (sort_none _).mono ?_; rintro e w' ⟨rfl, rfl⟩)
  go_ret
  exact ⟨rfl, (Ch.refl HR.out).alloc _⟩
end Go.Proofs.Ytfjgokbclgdfjaa
