/- LexPlaces: walked. -/
import Derived.Test.YtfoijbcmjciihaaDoorH8
import Derived.Test.YtfoijbcmjciihaaDoorRl
set_option linter.unusedSimpArgs false
set_option linter.unusedVariables false
namespace Go.Proofs.YtfoijbcmjciihaaDoor
open Go.RowKit

theorem line_both (x : ByteArray) (hx : x.size ≤ 5000) (i : Int) : ∃ la lb le : Int,
    (∀ W, Calls Tryd.prog 16 #[.string x, .int .i64 i] W fun e w' => e = .returned (.tuple #[.int .i64 la, .int .i64 lb, .int .i64 le]) ∧ w' = W) ∧
    (∀ W, Calls Tryd.prog 17 #[.string x, .int .i64 i] W (LPost W (.agg #[.int .i64 la, .int .i64 lb, .int .i64 le]))) := by
  by_cases h : i < 0 ∨ (x.size : Int) < i
  · exact ⟨0, 0, 1, fun W => line_out W x i h, fun W => refLine_out W x i h⟩
  · obtain ⟨j, rfl⟩ := Int.eq_ofNat_of_zero_le (show 0 ≤ i by omega)
    exact ⟨_, _, _, fun W => line_in W x j (by omega) (by omega), fun W => refLine_in W x j (by omega) (by omega)⟩

theorem at_both (x : ByteArray) (hx : x.size ≤ 5000) (a b : Int) (hb : b ≤ 9223372036854775807) : ∃ n f : Int,
    (∀ W, Calls Tryd.prog 18 #[.string x, .int .i64 a, .int .i64 b] W fun e w' => e = .returned (.tuple #[.int .i64 n, .int .i64 f]) ∧ w' = W) ∧
    (∀ W, Calls Tryd.prog 19 #[.string x, .int .i64 a, .int .i64 b] W fun e w' => e = .returned (.tuple #[.int .i64 n, .int .i64 f]) ∧ w' = W) :=
  ⟨_, _, fun W => at_any W x (by omega) a b hb, fun W => refAt_any W x (by omega) a b⟩

set_option maxHeartbeats 1000000 in
set_option maxRecDepth 20000 in
theorem places_walk {w : World} (henv : Env w) (s : ByteArray) (hmax : s.size ≤ 9223372036854775807) (i c : Int) (hc : -9223372036854775808 ≤ c ∧ c ≤ 9223372036854775807) :
    Calls Tryd.prog 4 #[.string s, .int .i64 i, .int .i64 c] w (TrueP w) := by
  have SA := Lib.hid (sane_any henv)
  clear henv
  by_cases hs : 5000 < s.size
  · have hz : (5000 : Int) < (s.size : Int) := by omega
    have hsl : ∀ m, (Instr.slice 9 (.string s) none (some (.int .i64 5000)) none).run Tryd.prog m = .ok (.string (s.extract 0 5000)) m := fun m => slice_to s 5000 (by omega) m
    obtain ⟨x, hx⟩ : ∃ x, x = s.extract 0 5000 := ⟨_, rfl⟩
    have hxs : x.size ≤ 5000 := by rw [hx, ByteArray.size_extract]; omega
    rw [← hx] at hsl
    obtain ⟨la, lb, le, h1, h2⟩ := line_both x hxs i
    obtain ⟨n, f, h3, h4⟩ := at_both x hxs i c hc.2
    have LC := Lib.hid h1
    have RC := Lib.hid h2
    have AC := Lib.hid h3
    have QC := Lib.hid h4
    clear h1 h2 h3 h4 hx hxs hs hc hmax
    go_enter Tryd.func4, Tryd.ntmps4
    go_wp2_with fail
    refine SA.out.mono ?_
    rintro e w1 ⟨rfl, hb⟩
    have HB := Lib.hid hb
    clear hb
    go_wp2_with fail
    refine (LC.out w1).mono ?_
    rintro e w2 ⟨rfl, rfl⟩
    go_wp2_with fail
    refine (RC.out w2).mono ?_
    rintro e w3 ⟨rfl, hb⟩
    have HB2 : Hid (Below w.heap.size w w3) := HB.out.trans (hb.mono HB.out.size)
    clear hb
    go_wp2_with fail
    have HB3 : Hid (Below w.heap.size w (w3.alloc (.cells #[.int .i64 la, .int .i64 lb, .int .i64 le] 31))) := HB2.out.alloc HB2.out.size _
    have hnew := heap_alloc_new w3 (.cells #[.int .i64 la, .int .i64 lb, .int .i64 le] 31)
    obtain ⟨z, hz⟩ : ∃ z, z = w3.heap.size := ⟨_, rfl⟩
    rw [← hz] at hnew ⊢
    generalize hW4 : w3.alloc (.cells #[.int .i64 la, .int .i64 lb, .int .i64 le] 31) = w4
    rw [hW4] at HB3 hnew
    have k0 : w4.cell? ⟨z, 0, none⟩ = some (.int .i64 la) := by rw [cell_of_row _ _ 0 _ _ _ hnew]; rfl
    have k1 : w4.cell? ⟨z, 1, none⟩ = some (.int .i64 lb) := by rw [cell_of_row _ _ 1 _ _ _ hnew]; rfl
    have k2 : w4.cell? ⟨z, 2, none⟩ = some (.int .i64 le) := by rw [cell_of_row _ _ 2 _ _ _ hnew]; rfl
    clear hW4 hz hnew
    refine (AC.out w4).mono ?_
    rintro e w5 ⟨rfl, rfl⟩
    go_wp2_with fail
    refine (QC.out w5).mono ?_
    rintro e w6 ⟨rfl, rfl⟩
    go_wp2_with fail
    go_ret
    exact ⟨rfl, HB3.out⟩
  · have hz : (s.size : Int) ≤ 5000 := by omega
    obtain ⟨la, lb, le, h1, h2⟩ := line_both s (by omega) i
    obtain ⟨n, f, h3, h4⟩ := at_both s (by omega) i c hc.2
    have LC := Lib.hid h1
    have RC := Lib.hid h2
    have AC := Lib.hid h3
    have QC := Lib.hid h4
    clear h1 h2 h3 h4 hs hc hmax
    go_enter Tryd.func4, Tryd.ntmps4
    go_wp2_with fail
    refine SA.out.mono ?_
    rintro e w1 ⟨rfl, hb⟩
    have HB := Lib.hid hb
    clear hb
    go_wp2_with fail
    refine (LC.out w1).mono ?_
    rintro e w2 ⟨rfl, rfl⟩
    go_wp2_with fail
    refine (RC.out w2).mono ?_
    rintro e w3 ⟨rfl, hb⟩
    have HB2 : Hid (Below w.heap.size w w3) := HB.out.trans (hb.mono HB.out.size)
    clear hb
    go_wp2_with fail
    have HB3 : Hid (Below w.heap.size w (w3.alloc (.cells #[.int .i64 la, .int .i64 lb, .int .i64 le] 31))) := HB2.out.alloc HB2.out.size _
    have hnew := heap_alloc_new w3 (.cells #[.int .i64 la, .int .i64 lb, .int .i64 le] 31)
    obtain ⟨z, hz⟩ : ∃ z, z = w3.heap.size := ⟨_, rfl⟩
    rw [← hz] at hnew ⊢
    generalize hW4 : w3.alloc (.cells #[.int .i64 la, .int .i64 lb, .int .i64 le] 31) = w4
    rw [hW4] at HB3 hnew
    have k0 : w4.cell? ⟨z, 0, none⟩ = some (.int .i64 la) := by rw [cell_of_row _ _ 0 _ _ _ hnew]; rfl
    have k1 : w4.cell? ⟨z, 1, none⟩ = some (.int .i64 lb) := by rw [cell_of_row _ _ 1 _ _ _ hnew]; rfl
    have k2 : w4.cell? ⟨z, 2, none⟩ = some (.int .i64 le) := by rw [cell_of_row _ _ 2 _ _ _ hnew]; rfl
    clear hW4 hz hnew
    refine (AC.out w4).mono ?_
    rintro e w5 ⟨rfl, rfl⟩
    go_wp2_with fail
    refine (QC.out w5).mono ?_
    rintro e w6 ⟨rfl, rfl⟩
    go_wp2_with fail
    go_ret
    exact ⟨rfl, HB3.out⟩
end Go.Proofs.YtfoijbcmjciihaaDoor
