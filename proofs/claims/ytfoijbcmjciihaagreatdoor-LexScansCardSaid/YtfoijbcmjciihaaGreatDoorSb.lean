/- The chapter's examples: walked. -/
import Derived.Test.YtfoijbcmjciihaaGreatDoorSa
set_option linter.unusedSimpArgs false
set_option linter.unusedVariables false
namespace Go.Proofs.YtfoijbcmjciihaaGreatDoor
open Go.RowKit

/-- From the first world on: what lay there lies there. -/
theorem Env.on {w W : World} (h : Env w) (k : Below w.heap.size w W) : Env W := h.keep k h.size

set_option maxHeartbeats 2000000 in
set_option maxRecDepth 20000 in
theorem sane_any {w : World} (henv : Env w) : Calls Tryz.prog 6 #[] w fun e w' => e = .returned (.bool true) ∧ Below w.heap.size w w' := by
  have HE := Lib.hid henv
  clear henv
  go_enter Tryz.func6, Tryz.ntmps6
  go_wp2_with fail
  have A1 := scan_any HE.out ⟨#[102, 117, 110, 32, 102, 32, 120, 61, 120, 43, 126, 49, 40, 42, 32, 97, 32, 40, 42, 32, 98, 32, 42, 41, 32, 42, 41, 59]⟩ (by decide)
  rw [up1] at A1
  refine A1.mono ?_
  clear A1
  rintro e w1 ⟨a, c, rfl, hrow, hb1⟩
  obtain ⟨g, rfl, hbg, hlt, hcap, hcells⟩ := owns_cells hrow (by decide)
  have TS : Hid (TkS w1 (.slice (some ⟨g, 0, none⟩) 8 c) (T1.map tkv)) := tks_of_owns hrow
  have GC := Lib.hid (And.intro hlt hcells)
  have B1 := Lib.hid hb1
  rw [show (LX.Res.ok T1 [(12, 27)]).toks.length = 8 from rfl, show ((LX.Res.ok T1 [(12, 27)]).spot : Int) = 0 from rfl, show ((LX.Res.ok T1 [(12, 27)]).err : Int) = 0 from rfl]
  have hcap8 : (8 : Nat) ≤ c := hcap
  clear hrow hbg hlt hcells hb1 hcap
  go_wp2_with fail
  have A2 := scan_any (HE.out.on B1.out) ⟨#[120, 39, 49, 32, 39, 97, 32, 120, 39, 97, 32, 40, 42, 41]⟩ (by decide)
  rw [up2] at A2
  refine A2.mono ?_
  clear A2
  rintro e w2 ⟨a2, c2, rfl, -, hb2⟩
  have B2 : Hid (Below w.heap.size w w2) := B1.out.trans (hb2.mono B1.out.size)
  have D2 : Hid (Below w1.heap.size w1 w2) := hb2
  rw [show (LX.Res.bad 11 12).toks.length = 0 from rfl, show ((LX.Res.bad 11 12).spot : Int) = 11 from rfl, show ((LX.Res.bad 11 12).err : Int) = 12 from rfl]
  clear hb2
  go_wp2_with fail
  have A3 := scan_any (HE.out.on B2.out) ⟨#[97, 32, 33]⟩ (by decide)
  rw [up3] at A3
  refine A3.mono ?_
  clear A3
  rintro e w3 ⟨a3, c3, rfl, -, hb3⟩
  have B3 : Hid (Below w.heap.size w w3) := B2.out.trans (hb3.mono B2.out.size)
  have D3 : Hid (Below w1.heap.size w1 w3) := D2.out.trans (hb3.mono D2.out.size)
  rw [show (LX.Res.bad 2 11).toks.length = 0 from rfl, show ((LX.Res.bad 2 11).spot : Int) = 2 from rfl, show ((LX.Res.bad 2 11).err : Int) = 11 from rfl]
  clear hb3
  go_wp2_with fail
  have A4 := number_law w3 ⟨#[126, 57, 50, 50, 51, 51, 55, 50, 48, 51, 54, 56, 53, 52, 55, 55, 53, 56, 48, 56]⟩ (HE.out.on B3.out) (by decide)
  unfold NumPost at A4
  rw [num4] at A4
  refine A4.mono ?_
  clear A4
  rintro e w4 ⟨rfl, hb4⟩
  have B4 : Hid (Below w.heap.size w w4) := B3.out.trans (hb4.mono B3.out.size)
  have D4 : Hid (Below w1.heap.size w1 w4) := D3.out.trans (hb4.mono D3.out.size)
  rw [show (some (-9223372036854775808 : Int)).getD 0 = -9223372036854775808 from rfl, show (if (some (-9223372036854775808 : Int)).isSome then (0 : Int) else 13) = 0 from rfl]
  clear hb4
  go_wp2_with fail
  have A5 := strip_any (HE.out.on B4.out) ⟨#[97, 40, 42, 10, 42, 41, 98]⟩ (by decide)
  unfold StPost at A5
  rw [strip5, up5] at A5
  refine A5.mono ?_
  clear A5
  rintro e w5 ⟨rfl, hb5⟩
  have B5 : Hid (Below w.heap.size w w5) := B4.out.trans (hb5.mono B4.out.size)
  have D5 : Hid (Below w1.heap.size w1 w5) := D4.out.trans (hb5.mono D4.out.size)
  rw [show ((LX.Res.ok [⟨2, 0, [97], 0⟩, ⟨2, 0, [98], 6⟩] [(1, 6)]).spot : Int) = 0 from rfl, show ((LX.Res.ok [⟨2, 0, [97], 0⟩, ⟨2, 0, [98], 6⟩] [(1, 6)]).err : Int) = 0 from rfl]
  clear hb5
  go_wp2_with fail
  have A6 := line_in w5 ⟨#[97, 98, 10, 99]⟩ 4 (by decide) (by decide)
  rw [pos6] at A6
  refine A6.mono ?_
  clear A6
  rintro e w6 ⟨rfl, rfl⟩
  simp only []
  go_wp2_with fail
  have A7 := at_any w6 ⟨#[97, 98, 10, 99]⟩ (by decide) 2 2 (by decide)
  rw [at6] at A7
  refine A7.mono ?_
  clear A7
  rintro e w7 ⟨rfl, rfl⟩
  rw [show atV (some 4) = .tuple #[.int .i64 4, .int .i64 0] from rfl]
  have k25 : w7.cell? ⟨g, 25, none⟩ = some (.int .i64 (-1)) := (D5.out.cell (p := ⟨g, 25, none⟩) GC.out.1).trans (GC.out.2 25 _ rfl)
  have k26 : w7.cell? ⟨g, 26, none⟩ = some (.string ⟨#[126, 49]⟩) := (D5.out.cell (p := ⟨g, 26, none⟩) GC.out.1).trans (GC.out.2 26 _ rfl)
  have k31 : w7.cell? ⟨g, 31, none⟩ = some (.int .i64 27) := (D5.out.cell (p := ⟨g, 31, none⟩) GC.out.1).trans (GC.out.2 31 _ rfl)
  go_wp2_with fail
  have A8 := join_any (HE.out.on B5.out) (TS.out.keep D5.out) (by decide) (fun t ht => by
    have : ∀ t ∈ T1.map tkv, t.tx.size ≤ 100 := by decide
    have := this t ht
    omega)
  unfold JPost at A8
  rw [join1] at A8
  refine A8.mono ?_
  clear A8
  rintro e w8 ⟨rfl, hb⟩
  have B8 : Hid (Below w.heap.size w w8) := B5.out.trans (hb.mono B5.out.size)
  clear hb k25 k26 k31
  go_wp2_with fail
  have A9 := isName_any (HE.out.on B8.out) ⟨#[102, 39, 49]⟩ (by decide)
  rw [kindA] at A9
  refine A9.mono ?_
  clear A9
  rintro e w9 ⟨rfl, hb⟩
  have B9 : Hid (Below w.heap.size w w9) := B8.out.trans (hb.mono B8.out.size)
  clear hb
  rw [show (2 == 2) = true from rfl]
  go_wp2_with fail
  have A10 := isName_any (HE.out.on B9.out) ⟨#[105, 110]⟩ (by decide)
  rw [kindB] at A10
  refine A10.mono ?_
  clear A10
  rintro e w10 ⟨rfl, hb⟩
  have B10 : Hid (Below w.heap.size w w10) := B9.out.trans (hb.mono B9.out.size)
  clear hb
  rw [show (5 == 2) = false from rfl]
  go_wp2_with fail
  have A11 := isName_any (HE.out.on B10.out) ⟨#[102, 39]⟩ (by decide)
  rw [kindC] at A11
  refine A11.mono ?_
  clear A11
  rintro e w11 ⟨rfl, hb⟩
  have B11 : Hid (Below w.heap.size w w11) := B10.out.trans (hb.mono B10.out.size)
  clear hb
  rw [show (0 == 2) = false from rfl]
  go_wp2_with fail
  have A12 := plain_any (HE.out.on B11.out) ⟨#[102, 39, 49]⟩ (by decide)
  rw [plainD] at A12
  refine A12.mono ?_
  clear A12
  rintro e w12 ⟨rfl, hb⟩
  have B12 : Hid (Below w.heap.size w w12) := B11.out.trans (hb.mono B11.out.size)
  clear hb
  go_wp2_with fail
  have A13 := plain_any (HE.out.on B12.out) ⟨#[39, 97]⟩ (by decide)
  rw [plainE] at A13
  refine A13.mono ?_
  clear A13
  rintro e w13 ⟨rfl, hb⟩
  have B13 : Hid (Below w.heap.size w w13) := B12.out.trans (hb.mono B12.out.size)
  clear hb
  go_wp2_with fail
  have A14 := kind_any (HE.out.on B13.out) ⟨#[61, 62]⟩ (by decide)
  unfold KPost at A14
  rw [kindF] at A14
  refine A14.mono ?_
  clear A14
  rintro e w14 ⟨rfl, hb⟩
  have B14 : Hid (Below w.heap.size w w14) := B13.out.trans (hb.mono B13.out.size)
  clear hb
  rw [show ((6 : Nat) : Int) = 6 from rfl]
  go_wp2_with fail
  have A15 := digits_any (HE.out.on B14.out) (-12) (by decide) (by decide)
  rw [dig12] at A15
  refine A15.mono ?_
  clear A15
  rintro e w15 ⟨rfl, hb⟩
  have B15 : Hid (Below w.heap.size w w15) := B14.out.trans (hb.mono B14.out.size)
  clear hb
  go_wp2_with fail
  go_ret
  exact ⟨rfl, B15.out⟩
end Go.Proofs.YtfoijbcmjciihaaGreatDoor
