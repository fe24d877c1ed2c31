/- The example of the statements: walked. -/
import Derived.Test.YtnkahlloahgifaaGreatDoorCt
import Derived.Test.YtnkahlloahgifaaGreatDoorCv
import Derived.Test.YtnkahlloahgifaaGreatDoorCs
import Derived.Test.YtnkahlloahgifaaGreatDoorCi
import Derived.Test.YtnkahlloahgifaaGreatDoorCp
set_option linter.unusedSimpArgs false
set_option linter.unusedVariables false
namespace Go.Proofs.YtnkahlloahgifaaGreatDoor
open Go.RowKit RG Go.Maps

theorem eSum_eq : F0 [⟨#[109]⟩] eSum = xF := rfl

/-- Cells of a block that stay. -/
def CLs (w : World) (b : Nat) (cs : Array Value) : Prop := ∀ i x, cs[i]? = some x → w.cell? ⟨b, i, none⟩ = some x
theorem CLs.kept {w w' : World} {b : Nat} {cs : Array Value} (h : CLs w b cs) (hk : Kept w w') : CLs w' b cs := fun i x hx => hk _ _ (h i x hx)

def SnP (w : World) (e : Ending) (w' : World) : Prop := e = .returned (.bool true) ∧ Below w.heap.size w w'

set_option maxHeartbeats 4000000 in
set_option maxRecDepth 20000 in
theorem sane_any {w : World} (hE : Lx.Env w) : Calls Tryz.prog 14 #[] w (SnP w) := by
  have HE := Lib.hid hE
  clear hE
  go_enter Tryz.func14, Tryz.ntmps14
  go_wp2_with fail
  refine (sum_any w).mono ?_
  rintro en w1 ⟨cs, rfl, hT, hb⟩
  obtain ⟨nm, op, ch, pv, va, num, site, aa, ab, ca, cb, ga, oa, gb, ob, hcs, h1, h2, h3, h4, h5, h6⟩ := id hT
  have hpv : ∃ a n c, pv = .slice a n c := by obtain ⟨ad, c, e, _⟩ := h1.at'; exact ⟨_, _, _, e⟩
  have hva : ∃ a n c, va = .slice a n c := by obtain ⟨ad, c, e, _⟩ := h2.at'; exact ⟨_, _, _, e⟩
  obtain ⟨pa, pn, pc, rfl⟩ := hpv
  obtain ⟨xa, xn, xc, rfl⟩ := hva
  rw [Value.agg.injEq] at hcs
  subst hcs
  have FO : Hid (FnOk Lx.Env isNm w1 (.agg #[.string nm, .bool ch, .slice pa pn pc, .int .i64 eSum.kind, .string eSum.name, .string op, .int .i64 num, .int .i64 site, .slice xa xn xc, .slice aa eSum.arms.length ca, .slice ab eSum.body.length cb]) [⟨#[109]⟩] eSum) := ⟨nlaw, nlaw.keep _ _ _ (nlaw.size _ HE.out) HE.out hb, hT, fun d hd => by
    have := List.all_eq_true.1 xsmall d hd
    simp only [Bool.and_eq_true, List.all_eq_true, decide_eq_true_eq] at this
    exact ⟨fun x hx => Nat.le_trans (this.1 x hx) (by decide), fun x hx => Nat.le_trans (this.2 x hx) (by decide)⟩, by decide⟩
  have HG : Hid (RG.Good isNm [⟨#[109]⟩] eSum) := xgood
  have B1 : Hid (Below w.heap.size w (w1.alloc (.cells #[.string nm, .bool ch, .slice pa pn pc, .int .i64 eSum.kind, .string eSum.name, .string op, .int .i64 num, .int .i64 site, .slice xa xn xc, .slice aa eSum.arms.length ca, .slice ab eSum.body.length cb] 29))) := hb.alloc hb.size _
  have C1 : Hid (CLs (w1.alloc (.cells #[.string nm, .bool ch, .slice pa pn pc, .int .i64 eSum.kind, .string eSum.name, .string op, .int .i64 num, .int .i64 site, .slice xa xn xc, .slice aa eSum.arms.length ca, .slice ab eSum.body.length cb] 29)) w1.heap.size #[.string nm, .bool ch, .slice pa pn pc, .int .i64 eSum.kind, .string eSum.name, .string op, .int .i64 num, .int .i64 site, .slice xa xn xc, .slice aa eSum.arms.length ca, .slice ab eSum.body.length cb]) := fun i x hx => by rw [cell_of_row _ _ _ _ _ _ (heap_alloc_new w1 _)]; exact hx
  have K1 : Hid (Below w1.heap.size w1 (w1.alloc (.cells #[.string nm, .bool ch, .slice pa pn pc, .int .i64 eSum.kind, .string eSum.name, .string op, .int .i64 num, .int .i64 site, .slice xa xn xc, .slice aa eSum.arms.length ca, .slice ab eSum.body.length cb] 29))) := (Below.refl _ _).alloc (Nat.le_refl _) _
  clear hT hb h1 h2 h3 h4 h5 h6
  have y0 := C1.out 0 _ rfl
  have y1 := C1.out 1 _ rfl
  have y2 := C1.out 2 _ rfl
  have y3 := C1.out 3 _ rfl
  have y4 := C1.out 4 _ rfl
  have y5 := C1.out 5 _ rfl
  have y6 := C1.out 6 _ rfl
  have y7 := C1.out 7 _ rfl
  have y8 := C1.out 8 _ rfl
  have y9 := C1.out 9 _ rfl
  have y10 := C1.out 10 _ rfl
  go_wp2_with fail
  refine (bound_any (FO.out.keep K1.out)).mono ?_
  rintro en w2 ⟨hb, hq⟩
  rcases hq with ⟨-, l1, rfl, hl1⟩ | ⟨hng, -⟩
  rotate_left
  · exact absurd HG.out hng
  have B2 := Lib.hid (B1.out.trans (hb.mono B1.out.size))
  have K2 := Lib.hid (K1.out.trans (hb.mono K1.out.size))
  have C2 := Lib.hid (C1.out.kept (kept_below hb))
  have L1 := Lib.hid hl1
  clear hl1
  clear hb C1 y0 y1 y2 y3 y4 y5 y6 y7 y8 y9 y10
  have y0 := C2.out 0 _ rfl
  have y1 := C2.out 1 _ rfl
  have y2 := C2.out 2 _ rfl
  have y3 := C2.out 3 _ rfl
  have y4 := C2.out 4 _ rfl
  have y5 := C2.out 5 _ rfl
  have y6 := C2.out 6 _ rfl
  have y7 := C2.out 7 _ rfl
  have y8 := C2.out 8 _ rfl
  have y9 := C2.out 9 _ rfl
  have y10 := C2.out 10 _ rfl
  go_wp2_with fail
  refine (live_any sort_law (FO.out.keep K2.out) 4).mono ?_
  rintro en w3 ⟨hb, hq⟩
  rcases hq with ⟨-, i, l2, hi, -, rfl, hl2⟩ | ⟨-, ho, -⟩ | ⟨hng, -⟩
  rotate_left
  · exact absurd ho (by rw [show eSum.size = 7 from xsize]; decide)
  · exact absurd HG.out hng
  obtain rfl : i = 4 := by omega
  have B3 := Lib.hid (B2.out.trans (hb.mono B2.out.size))
  have K3 := Lib.hid (K2.out.trans (hb.mono K2.out.size))
  have C3 := Lib.hid (C2.out.kept (kept_below hb))
  have L1 := Lib.hid (StrsAt.kept L1.out (kept_below hb))
  have L2 := Lib.hid hl2
  clear hl2 hi
  clear hb C2 y0 y1 y2 y3 y4 y5 y6 y7 y8 y9 y10
  have y0 := C3.out 0 _ rfl
  have y1 := C3.out 1 _ rfl
  have y2 := C3.out 2 _ rfl
  have y3 := C3.out 3 _ rfl
  have y4 := C3.out 4 _ rfl
  have y5 := C3.out 5 _ rfl
  have y6 := C3.out 6 _ rfl
  have y7 := C3.out 7 _ rfl
  have y8 := C3.out 8 _ rfl
  have y9 := C3.out 9 _ rfl
  have y10 := C3.out 10 _ rfl
  go_wp2_with fail
  refine (conflict_any (FO.out.keep K3.out) ⟨#[104]⟩ ⟨#[114]⟩ (by decide) (by decide)).mono ?_
  rintro en w4 ⟨hb, hq⟩
  rcases hq with ⟨-, -, -, he⟩ | ⟨-, hno, -⟩ | ⟨hng, -⟩
  rotate_left
  · exact absurd hno (by rw [eSum_eq, xvars]; simp)
  · exact absurd HG.out hng
  rw [eSum_eq, xc1] at he
  subst he
  have B4 := Lib.hid (B3.out.trans (hb.mono B3.out.size))
  have K4 := Lib.hid (K3.out.trans (hb.mono K3.out.size))
  have C4 := Lib.hid (C3.out.kept (kept_below hb))
  have L1 := Lib.hid (StrsAt.kept L1.out (kept_below hb))
  have L2 := Lib.hid (StrsAt.kept L2.out (kept_below hb))
  clear hb C3 y0 y1 y2 y3 y4 y5 y6 y7 y8 y9 y10
  have y0 := C4.out 0 _ rfl
  have y1 := C4.out 1 _ rfl
  have y2 := C4.out 2 _ rfl
  have y3 := C4.out 3 _ rfl
  have y4 := C4.out 4 _ rfl
  have y5 := C4.out 5 _ rfl
  have y6 := C4.out 6 _ rfl
  have y7 := C4.out 7 _ rfl
  have y8 := C4.out 8 _ rfl
  have y9 := C4.out 9 _ rfl
  have y10 := C4.out 10 _ rfl
  go_wp2_with fail
  refine (conflict_any (FO.out.keep K4.out) ⟨#[116]⟩ ⟨#[114]⟩ (by decide) (by decide)).mono ?_
  rintro en w5 ⟨hb, hq⟩
  rcases hq with ⟨-, -, -, he⟩ | ⟨-, hno, -⟩ | ⟨hng, -⟩
  rotate_left
  · exact absurd hno (by rw [eSum_eq, xvars]; simp)
  · exact absurd HG.out hng
  rw [eSum_eq, xc2] at he
  subst he
  have B5 := Lib.hid (B4.out.trans (hb.mono B4.out.size))
  have K5 := Lib.hid (K4.out.trans (hb.mono K4.out.size))
  have C5 := Lib.hid (C4.out.kept (kept_below hb))
  have L1 := Lib.hid (StrsAt.kept L1.out (kept_below hb))
  have L2 := Lib.hid (StrsAt.kept L2.out (kept_below hb))
  clear hb C4 y0 y1 y2 y3 y4 y5 y6 y7 y8 y9 y10
  have y0 := C5.out 0 _ rfl
  have y1 := C5.out 1 _ rfl
  have y2 := C5.out 2 _ rfl
  have y3 := C5.out 3 _ rfl
  have y4 := C5.out 4 _ rfl
  have y5 := C5.out 5 _ rfl
  have y6 := C5.out 6 _ rfl
  have y7 := C5.out 7 _ rfl
  have y8 := C5.out 8 _ rfl
  have y9 := C5.out 9 _ rfl
  have y10 := C5.out 10 _ rfl
  go_wp2_with fail
  refine (width_any (FO.out.keep K5.out)).mono ?_
  rintro en w6 ⟨hb, hq⟩
  rcases hq with ⟨-, he⟩ | ⟨hng, -⟩
  rotate_left
  · exact absurd HG.out hng
  rw [eSum_eq, xwidth, show ((2 : Nat) : Int) = 2 from rfl] at he
  subst he
  have B6 := Lib.hid (B5.out.trans (hb.mono B5.out.size))
  have K6 := Lib.hid (K5.out.trans (hb.mono K5.out.size))
  have C6 := Lib.hid (C5.out.kept (kept_below hb))
  have L1 := Lib.hid (StrsAt.kept L1.out (kept_below hb))
  have L2 := Lib.hid (StrsAt.kept L2.out (kept_below hb))
  clear hb C5 y0 y1 y2 y3 y4 y5 y6 y7 y8 y9 y10
  have y0 := C6.out 0 _ rfl
  have y1 := C6.out 1 _ rfl
  have y2 := C6.out 2 _ rfl
  have y3 := C6.out 3 _ rfl
  have y4 := C6.out 4 _ rfl
  have y5 := C6.out 5 _ rfl
  have y6 := C6.out 6 _ rfl
  have y7 := C6.out 7 _ rfl
  have y8 := C6.out 8 _ rfl
  have y9 := C6.out 9 _ rfl
  have y10 := C6.out 10 _ rfl
  go_wp2_with fail
  refine (allocate_any (FO.out.keep K6.out)).mono ?_
  rintro en w7 ⟨hb, hq⟩
  rcases hq with ⟨-, av, he, hav⟩ | ⟨hng, -⟩
  rotate_left
  · exact absurd HG.out hng
  rw [eSum_eq, show (alloc xF).2 = 2 from by rw [xalloc], show ((2 : Nat) : Int) = 2 from rfl] at he
  rw [eSum_eq] at hav
  obtain ⟨aad, aac, hav0, -⟩ := id hav
  rw [xpairs] at hav0
  subst hav0
  subst he
  have B7 := Lib.hid (B6.out.trans (hb.mono B6.out.size))
  have K7 := Lib.hid (K6.out.trans (hb.mono K6.out.size))
  have C7 := Lib.hid (C6.out.kept (kept_below hb))
  have L1 := Lib.hid (StrsAt.kept L1.out (kept_below hb))
  have L2 := Lib.hid (StrsAt.kept L2.out (kept_below hb))
  have AV := Lib.hid hav
  clear hav
  clear hb C6 y0 y1 y2 y3 y4 y5 y6 y7 y8 y9 y10
  have hbl : w1.heap.size < w7.heap.size := World.block_lt_of_cell? _ _ (C7.out 0 _ rfl)
  have y0 := C7.out 0 _ rfl
  have y1 := C7.out 1 _ rfl
  have y2 := C7.out 2 _ rfl
  have y3 := C7.out 3 _ rfl
  have y4 := C7.out 4 _ rfl
  have y5 := C7.out 5 _ rfl
  have y6 := C7.out 6 _ rfl
  have y7 := C7.out 7 _ rfl
  have y8 := C7.out 8 _ rfl
  have y9 := C7.out 9 _ rfl
  have y10 := C7.out 10 _ rfl
  go_wp2_with fail
  have A7 : Hid (Below w7.heap.size w7 (w7.alloc (.cells #[.int .i64 2, .slice aad 7 aac] 56))) := (Below.refl _ _).alloc (Nat.le_refl _) _
  have AC7 : Hid (CLs (w7.alloc (.cells #[.int .i64 2, .slice aad 7 aac] 56)) w7.heap.size #[.int .i64 2, .slice aad 7 aac]) := fun i x hx => by rw [cell_of_row _ _ _ _ _ _ (heap_alloc_new w7 _)]; exact hx
  refine (count_any (FO.out.keep (K7.out.trans (A7.out.mono K7.out.size)))).mono ?_
  rintro en w8 ⟨hb, hq⟩
  rcases hq with ⟨-, he⟩ | ⟨hng, -⟩
  rotate_left
  · exact absurd HG.out hng
  rw [show eSum.size = 7 from xsize, show ((7 : Nat) : Int) = 7 from rfl] at he
  subst he
  have B8 := Lib.hid (B7.out.trans ((A7.out.mono B7.out.size).trans (hb.mono (Nat.le_trans B7.out.size A7.out.size))))
  have AC8 := Lib.hid (AC7.out.kept (kept_below hb))
  have L1 := Lib.hid (StrsAt.kept (StrsAt.kept L1.out (kept_below A7.out)) (kept_below hb))
  have L2 := Lib.hid (StrsAt.kept (StrsAt.kept L2.out (kept_below A7.out)) (kept_below hb))
  have AV := Lib.hid (VarsAt.kept (VarsAt.kept AV.out (kept_below A7.out)) (kept_below hb))
  clear hb C7 AC7 y0 y1 y2 y3 y4 y5 y6 y7 y8 y9 y10
  have N8 : Hid (StrsAt (w8.alloc (.cells #[.string ⟨#[109]⟩, .string ⟨#[99]⟩, .string ⟨#[104]⟩, .string ⟨#[116]⟩, .string ⟨#[114]⟩, .string ⟨#[115]⟩, .string ⟨#[107]⟩] 9)) (.slice (some ⟨w8.heap.size, 0, none⟩) 7 7) [⟨#[109]⟩, ⟨#[99]⟩, ⟨#[104]⟩, ⟨#[116]⟩, ⟨#[114]⟩, ⟨#[115]⟩, ⟨#[107]⟩]) := ⟨rfl, _, _, rfl, fun _ => ⟨w8.heap.size, 0, rfl, fun i x hx => by rw [Nat.zero_add, cell_of_row _ _ _ _ _ _ (heap_alloc_new w8 _)]; simpa [YtnkahlloahgifaaGreatDoor.strs] using hx⟩⟩
  have D8 : Hid (Below w8.heap.size w8 (w8.alloc (.cells #[.string ⟨#[109]⟩, .string ⟨#[99]⟩, .string ⟨#[104]⟩, .string ⟨#[116]⟩, .string ⟨#[114]⟩, .string ⟨#[115]⟩, .string ⟨#[107]⟩] 9))) := (Below.refl _ _).alloc (Nat.le_refl _) _
  go_wp2_with fail
  refine (sameTexts_any (StrsAt.kept L1.out (kept_below D8.out)) N8.out (by rw [eSum_eq, xvars]; decide)).mono ?_
  rintro en w9 ⟨hb, rfl⟩
  rw [show decide (vars (F0 [⟨#[109]⟩] eSum) = [⟨#[109]⟩, ⟨#[99]⟩, ⟨#[104]⟩, ⟨#[116]⟩, ⟨#[114]⟩, ⟨#[115]⟩, ⟨#[107]⟩]) = true from by rw [eSum_eq, xvars]; simp]
  have B9 := Lib.hid (B8.out.trans ((D8.out.mono B8.out.size).trans (hb.mono (Nat.le_trans B8.out.size D8.out.size))))
  have AC9 := Lib.hid ((AC8.out.kept (kept_below D8.out)).kept (kept_below hb))
  have L2 := Lib.hid (StrsAt.kept (StrsAt.kept L2.out (kept_below D8.out)) (kept_below hb))
  have AV := Lib.hid (VarsAt.kept (VarsAt.kept AV.out (kept_below D8.out)) (kept_below hb))
  clear hb AC8 N8 L1
  have N9 : Hid (StrsAt (w9.alloc (.cells #[.string ⟨#[104]⟩, .string ⟨#[114]⟩] 9)) (.slice (some ⟨w9.heap.size, 0, none⟩) 2 2) [⟨#[104]⟩, ⟨#[114]⟩]) := ⟨rfl, _, _, rfl, fun _ => ⟨w9.heap.size, 0, rfl, fun i x hx => by rw [Nat.zero_add, cell_of_row _ _ _ _ _ _ (heap_alloc_new w9 _)]; simpa [YtnkahlloahgifaaGreatDoor.strs] using hx⟩⟩
  have D9 : Hid (Below w9.heap.size w9 (w9.alloc (.cells #[.string ⟨#[104]⟩, .string ⟨#[114]⟩] 9))) := (Below.refl _ _).alloc (Nat.le_refl _) _
  go_wp2_with fail
  refine (sameTexts_any (StrsAt.kept L2.out (kept_below D9.out)) N9.out (by rw [eSum_eq, xlive]; decide)).mono ?_
  rintro en w10 ⟨hb, rfl⟩
  rw [show decide (liveAt (F0 [⟨#[109]⟩] eSum) 4 = [⟨#[104]⟩, ⟨#[114]⟩]) = true from by rw [eSum_eq, xlive]; simp]
  have B10 := Lib.hid (B9.out.trans ((D9.out.mono B9.out.size).trans (hb.mono (Nat.le_trans B9.out.size D9.out.size))))
  have AC10 := Lib.hid ((AC9.out.kept (kept_below D9.out)).kept (kept_below hb))
  have AV := Lib.hid (VarsAt.kept (VarsAt.kept AV.out (kept_below D9.out)) (kept_below hb))
  clear hb AC9 N9 L2
  have z0 := AC10.out 0 _ rfl
  have z1 := AC10.out 1 _ rfl
  go_wp2_with fail
  refine (reg_any ⟨#[115]⟩ AV.out (by rw [xpairs]; decide)).mono ?_
  rintro en w11 ⟨hb, rfl⟩
  rw [xreg]
  have B11 := Lib.hid (B10.out.trans (hb.mono B10.out.size))
  have AC11 := Lib.hid (AC10.out.kept (kept_below hb))
  clear hb AC10 z0 z1 AV
  have N11 : Hid (MvsAt (w11.alloc (.cells #[.int .i64 0, .int .i64 1, .int .i64 1, .int .i64 0] 81)) (.slice (some ⟨w11.heap.size, 0, none⟩) 2 2) [(0, 1), (1, 0)]) := ⟨_, _, rfl, fun _ => ⟨w11.heap.size, 0, rfl, fun i m hm => by
    have r := row8 (heap_alloc_new w11 (.cells #[.int .i64 0, .int .i64 1, .int .i64 1, .int .i64 0] 81))
    match i, hm with
    | 0, hm => simp at hm; subst hm; exact ⟨r 0 _ rfl, r 1 _ rfl⟩
    | 1, hm => simp at hm; subst hm; exact ⟨r 2 _ rfl, r 3 _ rfl⟩
    | i + 2, hm => simp at hm⟩⟩
  have D11 : Hid (Below w11.heap.size w11 (w11.alloc (.cells #[.int .i64 0, .int .i64 1, .int .i64 1, .int .i64 0] 81))) := (Below.refl _ _).alloc (Nat.le_refl _) _
  go_wp2_with fail
  refine (order_any (spare := 2) N11.out).mono ?_
  rintro en w12 ⟨hb, hq⟩
  rcases hq with ⟨-, o, ho, rfl⟩ | ⟨hng, -⟩
  rotate_left
  · rw [xmoves] at hng; cases hng
  obtain ⟨oa, oc, hoa, -⟩ := id ho
  rw [xorder] at hoa
  subst hoa
  have B12 := Lib.hid (B11.out.trans ((D11.out.mono B11.out.size).trans (hb.mono (Nat.le_trans B11.out.size D11.out.size))))
  have z0 := ((AC11.out.kept (kept_below D11.out)).kept (kept_below hb)) 0 _ rfl
  clear hb ho AC11 N11
  go_wp2_with fail
  go_ret
  exact ⟨rfl, B12.out⟩
end Go.Proofs.YtnkahlloahgifaaGreatDoor
