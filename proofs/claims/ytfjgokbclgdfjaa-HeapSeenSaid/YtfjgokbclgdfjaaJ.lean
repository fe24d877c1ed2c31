/- container/heap upon the dropped handles. -/
import Derived.Test.YtfjgokbclgdfjaaI
import Derived.Test.YtfjgokbclgdfjaaHeapL
set_option linter.unusedSimpArgs false
set_option linter.unusedVariables false
namespace Go.Proofs.Ytfjgokbclgdfjaa
open Go.RowKit HM

/-- The dropped handles, in the struct at b. -/
def DA (w : World) (ρ : Nat → Nat) (b : Nat) (da : List Int) : Prop :=
  ρ b = 1 ∧ ∃ hc ds, w.heap[b]? = some (.cells hc 49 (0, 0)) ∧ hc.size = 16 ∧ hc[14]? = some ds ∧ RowAt w ρ 6 3 ds (da.map (Value.int .i64))

theorem len_any {w : World} (a : Option Addr) (n c : Nat) :
    Calls Try.prog 82 #[.slice a n c] w fun e w' => e = .returned (.int .i64 n) ∧ w' = w := by
  go_enter Try.func82, Try.ntmps82
  go_wp2_with fail
  go_ret
  exact ⟨rfl, rfl⟩

theorem less_any {w : World} {ρ : Nat → Nat} {a : Option Addr} {n c : Nat} {da : List Int} (h : RowAt w ρ 6 3 (.slice a n c) (da.map (Value.int .i64))) (i j : Nat) (hi : i < da.length) (hj : j < da.length) (hl : da.length < 1000000000) :
    Calls Try.prog 128 #[.slice a n c, .int .i64 i, .int .i64 j] w fun e w' => e = .returned (.bool (decide (da.getD i 0 < da.getD j 0))) ∧ ∃ n, w' = w.drewN n := by
  have h0 := h
  obtain ⟨g, off, cap, hv, hr, hcap, hm, hci⟩ := h.cell (i := i) (x := .int .i64 (da.getD i 0)) (by simp [List.getElem?_map, List.getD, List.getElem?_eq_getElem hi])
  obtain ⟨g', off', cap', hv', hr', hcap', hm', hcj⟩ := h0.cell (i := j) (x := .int .i64 (da.getD j 0)) (by simp [List.getElem?_map, List.getD, List.getElem?_eq_getElem hj])
  rw [hv] at hv'
  simp only [Value.slice.injEq, Option.some.injEq, Addr.mk.injEq] at hv'
  obtain ⟨⟨rfl, rfl, _⟩, _, rfl⟩ := hv'
  simp only [List.length_map] at hv hcap hm
  simp only [Value.slice.injEq] at hv
  obtain ⟨rfl, rfl, rfl⟩ := hv
  have H := Lib.hid h
  clear h h0 hr hr'
  generalize hA : da.getD i 0 = x at *
  generalize hB : da.getD j 0 = y at *
  clear hA hB
  go_enter Try.func128, Try.ntmps128
  go_wp2
  go_quiet (fail)
  go_wp2
  go_ret
  exact ⟨rfl, _, rfl⟩

theorem RowAt.set {w : World} {ρ : Nat → Nat} {r : Nat} {T : TypeId} {g off n c : Nat} {xs : List Value} (h : RowAt w ρ r T (.slice (some ⟨g, off, none⟩) n c) xs) (i : Nat) (x : Value) (hi : i < xs.length) :
    RowAt (w.setCell ⟨g, off + i, none⟩ x) ρ r T (.slice (some ⟨g, off, none⟩) n c) (xs.set i x) := by
  rcases h with ⟨hv, _⟩ | ⟨g', off', cap', cur, hv, hr, hg, h1, h2, h3, h4⟩
  · simp at hv
  · simp only [Value.slice.injEq, Option.some.injEq, Addr.mk.injEq] at hv
    obtain ⟨⟨rfl, rfl, _⟩, rfl, rfl⟩ := hv
    refine .inr ⟨g, off, c, _, by simp, hr, heap_setCell_same w g (off + i) _ _ _ hg, by simpa using h1, h2, by simpa using h3, fun j hj => ?_⟩
    simp only [List.length_set] at hj
    have := h4 j hj
    simp only [Array.set!_eq_setIfInBounds, Array.getElem?_setIfInBounds, List.getElem?_set]
    by_cases hij : i = j
    · subst hij; simp [hi]; omega
    · rw [if_neg (by omega), if_neg hij]; exact this

theorem swap_any {w : World} {ρ : Nat → Nat} {a : Option Addr} {n c : Nat} {da : List Int} (h : RowAt w ρ 6 3 (.slice a n c) (da.map (Value.int .i64))) (i j : Nat) (hi : i < da.length) (hj : j < da.length) (hl : da.length < 1000000000) (hρ : ∀ k, w.heap.size ≤ k → ρ k = 0) :
    Calls Try.prog 130 #[.slice a n c, .int .i64 i, .int .i64 j] w fun e w' => e = .returned (.tuple #[]) ∧ RowAt w' ρ 6 3 (.slice a n c) ((swapL da i j).map (Value.int .i64)) ∧ Ch (· = 6) ρ ρ w w' := by
  have h0 := h
  obtain ⟨g, off, cap, hv, hr, hcap, hm, hci⟩ := h.cell (i := i) (x := .int .i64 (da.getD i 0)) (by simp [List.getElem?_map, List.getD, List.getElem?_eq_getElem hi])
  obtain ⟨g', off', cap', hv', hr', hcap', hm', hcj⟩ := h0.cell (i := j) (x := .int .i64 (da.getD j 0)) (by simp [List.getElem?_map, List.getD, List.getElem?_eq_getElem hj])
  rw [hv] at hv'
  simp only [Value.slice.injEq, Option.some.injEq, Addr.mk.injEq] at hv'
  obtain ⟨⟨rfl, rfl, _⟩, _, rfl⟩ := hv'
  simp only [List.length_map] at hv hcap hm
  simp only [Value.slice.injEq] at hv
  obtain ⟨rfl, rfl, rfl⟩ := hv
  have hf : w.frozen? ⟨g, off + i, none⟩ = false := by
    rcases h with ⟨hv, _⟩ | ⟨g', off', cap', cur, hv, hr, hg, rest⟩
    · simp at hv
    · simp only [Value.slice.injEq, Option.some.injEq, Addr.mk.injEq] at hv
      obtain ⟨⟨rfl, rfl, _⟩, _, rfl⟩ := hv
      exact frozen_of_row w _ _ _ _ hg
  have hf2 : w.frozen? ⟨g, off + j, none⟩ = false := by
    rcases h with ⟨hv, _⟩ | ⟨g', off', cap', cur, hv, hr, hg, rest⟩
    · simp at hv
    · simp only [Value.slice.injEq, Option.some.injEq, Addr.mk.injEq] at hv
      obtain ⟨⟨rfl, rfl, _⟩, _, rfl⟩ := hv
      exact frozen_of_row w _ _ _ _ hg
  have hfin : RowAt (((w.setCell ⟨g, off + i, none⟩ (.int .i64 (da.getD j 0))).setCell ⟨g, off + j, none⟩ (.int .i64 (da.getD i 0))).drew) ρ 6 3 (.slice (some ⟨g, off, none⟩) da.length c) ((swapL da i j).map (Value.int .i64)) ∧
      Ch (· = 6) ρ ρ w (((w.setCell ⟨g, off + i, none⟩ (.int .i64 (da.getD j 0))).setCell ⟨g, off + j, none⟩ (.int .i64 (da.getD i 0))).drew) := by
    constructor
    · have := (h.set i (.int .i64 (da.getD j 0)) (by simpa using hi)).set j (.int .i64 (da.getD i 0)) (by simpa using hj)
      unfold swapL
      rw [List.map_set, List.map_set]
      exact this
    · exact ((((Ch.refl hρ).setCell _ _ fun _ => hr).setCell _ _ fun _ => hr)).drew
  have HF := Lib.hid hfin
  have H := Lib.hid h
  clear h h0 hr hr' hfin hρ
  generalize hA : da.getD i 0 = x at *
  generalize hB : da.getD j 0 = y at *
  clear hA hB
  obtain ⟨z, hz⟩ := cell?_setCell_some (p := ⟨g, off + i, none⟩) (x := .int .i64 y) hcj
  have hzf : (w.setCell ⟨g, off + i, none⟩ (.int .i64 y)).frozen? ⟨g, off + j, none⟩ = false := by
    simpa using hf2
  go_enter Try.func130, Try.ntmps130
  go_wp2
  go_region
  go_wp2
  go_end0
  exact ⟨rfl, HF.out⟩
end Go.Proofs.Ytfjgokbclgdfjaa
