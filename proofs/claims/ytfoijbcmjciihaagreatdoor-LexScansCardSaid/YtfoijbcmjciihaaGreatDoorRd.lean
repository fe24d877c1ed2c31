/- The reference's signs and comments: walked. -/
import Derived.Test.YtfoijbcmjciihaaGreatDoorRc
import Derived.Test.YtfoijbcmjciihaaGreatDoorPn
set_option linter.unusedSimpArgs false
set_option linter.unusedVariables false
namespace Go.Proofs.YtfoijbcmjciihaaGreatDoor
open Go.RowKit

theorem lit6162 : (⟨#[61, 62]⟩ : ByteArray).toList = [61, 62] := by decide +kernel
theorem lit4562 : (⟨#[45, 62]⟩ : ByteArray).toList = [45, 62] := by decide +kernel

theorem sign_byte {k : Nat} (h : k < 14) : ∃ e, (bts signBs).getD k 0 = e ∧ LX.signs.drop k = e :: LX.signs.drop (k + 1) := by
  rw [signs_bts]
  refine ⟨_, rfl, ?_⟩
  exact LX.drop_get (show k < LX.signs.length from h)

/-- The signs of one byte. -/
def SignPost (w : World) (n : Nat) (e : Ending) (w' : World) : Prop := e = .returned (.int .i64 n) ∧ ∃ m, w' = w.drewN m

set_option maxHeartbeats 1000000 in
set_option maxRecDepth 20000 in
theorem rsign_any (w : World) (s : ByteArray) (hs : s.size ≤ 400000) (i : Nat) (hi : i < s.size) : Calls Tryz.prog 59 #[.string s, .int .i64 i] w (SignPost w (signLen ((bts s).drop i))) := by
  obtain ⟨c, hc⟩ : ∃ c, (bts s).getD i 0 = c := ⟨_, rfl⟩
  have bi := byte_at s hi hc
  have hz : (s.size : Int) ≤ 400000 := by omega
  have hiz : (i : Int) < (s.size : Int) := by omega
  have hd0 : (bts s).drop i = c :: (bts s).drop (i + 1) := by rw [LX.drop_get (by rw [bts_length]; exact hi), hc]
  obtain ⟨r, hr⟩ : ∃ r, r = LX.signs.contains c := ⟨_, rfl⟩
  by_cases h1 : i + 1 < s.size
  · obtain ⟨d, hd⟩ : ∃ d, (bts s).getD (i + 1) 0 = d := ⟨_, rfl⟩
    obtain ⟨x, hx, sl⟩ := two_at s h1 hc hd
    have e1 := two_eq hx ⟨#[61, 62]⟩ (a := 61) (b := 62) rfl
    have e2 := two_eq hx ⟨#[45, 62]⟩ (a := 45) (b := 62) rfl
    rw [lit6162] at e1
    rw [lit4562] at e2
    have hd1 : (bts s).drop (i + 1) = d :: (bts s).drop (i + 2) := by rw [LX.drop_get (by rw [bts_length]; exact h1), hd]
    have h1z : (i : Int) + 1 < (s.size : Int) := by omega
    have hL : signLen ((bts s).drop i) = if (c = 61 ∨ c = 45) ∧ d = 62 then 2 else if r then 1 else 0 := by
      rw [hd0, hd1, hr]; rfl
    rw [hL]
    obtain ⟨L1, hL1⟩ : ∃ L : Nat, L = if r then 1 else 0 := ⟨_, rfl⟩
    rw [← hL1]
    have HL1 := Lib.hid hL1
    clear hL1
    clear hL hd0 hd1 hc hd hi h1 hs
    by_cases h2 : (c = 61 ∨ c = 45) ∧ d = 62
    · rw [if_pos h2]
      obtain ⟨h3, rfl⟩ := h2
      rcases h3 with rfl | rfl
      · rw [show ((61 : Nat) == 61 && (62 : Nat) == 62) = true from rfl] at e1
        clear e2 hx bi hr
        go_enter Tryz.func59, Tryz.ntmps59
        go_wp2_with fail
        go_ret
        exact ⟨rfl, 0, rfl⟩
      · rw [show ((45 : Nat) == 61 && (62 : Nat) == 62) = false from rfl] at e1
        rw [show ((45 : Nat) == 45 && (62 : Nat) == 62) = true from rfl] at e2
        clear hx bi hr
        go_enter Tryz.func59, Tryz.ntmps59
        go_wp2_with fail
        go_ret
        exact ⟨rfl, 0, rfl⟩
    · rw [if_neg h2]
      have f1 : (x.toList == ([61, 62] : List UInt8)) = false := by
        rw [e1]; cases h : (c == 61 && d == 62) with
        | false => rfl
        | true => simp at h; exact absurd ⟨.inl h.1, h.2⟩ h2
      have f2 : (x.toList == ([45, 62] : List UInt8)) = false := by
        rw [e2]; cases h : (c == 45 && d == 62) with
        | false => rfl
        | true => simp at h; exact absurd ⟨.inr h.1, h.2⟩ h2
      have HR : Hid (r = (LX.signs.drop 0).contains c) := hr
      clear e1 e2 hx h2 hr
      go_enter Tryz.func59, Tryz.ntmps59
      go_wp2_with fail
      clear f1 f2 sl h1z
      go_loopw [6] (fun k wr => ∃ n : Nat, n ≤ 14 ∧ k = .int .i64 n ∧ r = (LX.signs.drop n).contains c ∧ ∃ m, wr = w.drewN m) (fun k _ => 14 - (intOf k).toNat)
      case atStart => exact ⟨0, by decide, rfl, HR.out, 0, rfl⟩
      case round =>
        obtain ⟨k, hk, rfl, hrk, m, rfl⟩ := hrel
        have HRK := Lib.hid hrk
        clear hrk
        by_cases hlt : k < 14
        · have hlz : (k : Int) < 14 := by omega
          obtain ⟨q, hq, hdr⟩ := sign_byte hlt
          have bk : ∀ m : World, (Instr.index 9 (.string ⟨#[40, 41, 44, 59, 58, 124, 61, 60, 43, 45, 42, 47, 37, 95]⟩) (.int .i64 k)).run Tryz.prog m = .ok (.int .u8 (q : Int)) m := byte_at signBs hlt hq
          have HD := Lib.hid hdr
          have HLT := Lib.hid hlt
          clear hq hdr hlt hk
          by_cases hqc : q = c
          · subst hqc
            go_wp2_with fail
            go_quiet (fail)
            go_wp2_with fail
            go_ret
            refine ⟨?_, _, (by first | rfl | rw [World.drewN_drewN])⟩
            rw [HL1.out, HRK.out, HD.out, List.contains_cons]
            simp
          · have k1 : ((q : Int) == (c : Int)) = false := beq_false_of_ne (by omega)
            have HQ := Lib.hid hqc
            clear hqc
            go_wp2_with fail
            go_quiet (fail)
            go_wp2_with fail
            go_roundw
            case rel => exact ⟨k + 1, HLT.out, by go_num, by rw [HRK.out, HD.out, List.contains_cons, show (c == q) = false from beq_false_of_ne fun e => HQ.out e.symm, Bool.false_or], _, (by first | rfl | rw [World.drewN_drewN])⟩
            case measure => have := HLT.out; simp [intOf]; omega
        · obtain rfl : k = 14 := by omega
          clear hlt hk
          go_wp2_with fail
          go_ret
          refine ⟨?_, _, (by first | rfl | rw [World.drewN_drewN])⟩
          rw [HL1.out, HRK.out]
          rfl
  · have h1z : ¬ (i : Int) + 1 < (s.size : Int) := by omega
    have hd1 : (bts s).drop (i + 1) = [] := List.drop_of_length_le (by rw [bts_length]; omega)
    have hL : signLen ((bts s).drop i) = if r then 1 else 0 := by
      rw [hd0, hd1, hr]
      unfold signLen
      rw [if_neg (fun e => absurd e.2 (by simp [LX.head0]))]
      rfl
    rw [hL]
    obtain ⟨L1, hL1⟩ : ∃ L : Nat, L = if r then 1 else 0 := ⟨_, rfl⟩
    rw [← hL1]
    have HL1 := Lib.hid hL1
    clear hL1
    have HR : Hid (r = (LX.signs.drop 0).contains c) := hr
    clear hL hd0 hd1 hc hi h1 hs hr
    go_enter Tryz.func59, Tryz.ntmps59
    go_wp2_with fail
    clear h1z
    go_loopw [6] (fun k wr => ∃ n : Nat, n ≤ 14 ∧ k = .int .i64 n ∧ r = (LX.signs.drop n).contains c ∧ ∃ m, wr = w.drewN m) (fun k _ => 14 - (intOf k).toNat)
    case atStart => exact ⟨0, by decide, rfl, HR.out, 0, rfl⟩
    case round =>
      obtain ⟨k, hk, rfl, hrk, m, rfl⟩ := hrel
      have HRK := Lib.hid hrk
      clear hrk
      by_cases hlt : k < 14
      · have hlz : (k : Int) < 14 := by omega
        obtain ⟨q, hq, hdr⟩ := sign_byte hlt
        have bk : ∀ m : World, (Instr.index 9 (.string ⟨#[40, 41, 44, 59, 58, 124, 61, 60, 43, 45, 42, 47, 37, 95]⟩) (.int .i64 k)).run Tryz.prog m = .ok (.int .u8 (q : Int)) m := byte_at signBs hlt hq
        have HD := Lib.hid hdr
        have HLT := Lib.hid hlt
        clear hq hdr hlt hk
        by_cases hqc : q = c
        · subst hqc
          go_wp2_with fail
          go_quiet (fail)
          go_wp2_with fail
          go_ret
          refine ⟨?_, _, (by first | rfl | rw [World.drewN_drewN])⟩
          rw [HL1.out, HRK.out, HD.out, List.contains_cons]
          simp
        · have k1 : ((q : Int) == (c : Int)) = false := beq_false_of_ne (by omega)
          have HQ := Lib.hid hqc
          clear hqc
          go_wp2_with fail
          go_quiet (fail)
          go_wp2_with fail
          go_roundw
          case rel => exact ⟨k + 1, HLT.out, by go_num, by rw [HRK.out, HD.out, List.contains_cons, show (c == q) = false from beq_false_of_ne fun e => HQ.out e.symm, Bool.false_or], _, (by first | rfl | rw [World.drewN_drewN])⟩
          case measure => have := HLT.out; simp [intOf]; omega
      · obtain rfl : k = 14 := by omega
        clear hlt hk
        go_wp2_with fail
        go_ret
        refine ⟨?_, _, (by first | rfl | rw [World.drewN_drewN])⟩
        rw [HL1.out, HRK.out]
        rfl

/-! ### Comments -/
def cmV (a b e : Int) : Value := .agg #[.int .i64 a, .int .i64 b, .int .i64 e]

theorem load66 {w : World} {b : Nat} {x y e : Int} (h : w.heap[b]? = some (.cells #[.int .i64 x, .int .i64 y, .int .i64 e] 66 (0, 0))) : (loadVar 66 ⟨b, 0, none⟩).run Tryz.prog w = .ok (cmV x y e) w := by
  have h0 : w.cell? ⟨b, 0, none⟩ = some (.int .i64 x) := by rw [cell_of_row _ _ 0 _ _ _ h]; rfl
  have h1 : w.cell? ⟨b, 1, none⟩ = some (.int .i64 y) := by rw [cell_of_row _ _ 1 _ _ _ h]; rfl
  have h2 : w.cell? ⟨b, 2, none⟩ = some (.int .i64 e) := by rw [cell_of_row _ _ 2 _ _ _ h]; rfl
  simp [loadVar, go_sem, h0, h1, h2, cmV]

theorem load66_new (w : World) (x y e : Int) : (loadVar 66 ⟨w.heap.size, 0, none⟩).run Tryz.prog (w.alloc (.cells #[.int .i64 x, .int .i64 y, .int .i64 e] 66)) = .ok (cmV x y e) (w.alloc (.cells #[.int .i64 x, .int .i64 y, .int .i64 e] 66)) :=
  load66 (heap_alloc_new w _)

/-- What a comment that begins at a place is. -/
def cmR (i : Nat) : LX.CR → Value
  | .fin n => cmV ((i + n : Nat) : Int) 0 0
  | .deep n => cmV 0 ((i + n : Nat) : Int) 6
  | .never => cmV 0 i 12

def CmPost (w : World) (v : Value) (e : Ending) (w' : World) : Prop := e = .returned v ∧ Below w.heap.size w w'

theorem lit4042 : (⟨#[40, 42]⟩ : ByteArray).toList = [40, 42] := by decide +kernel
theorem lit4241 : (⟨#[42, 41]⟩ : ByteArray).toList = [42, 41] := by decide +kernel

set_option maxHeartbeats 2000000 in
set_option maxRecDepth 20000 in
theorem rcomment_any (w : World) (s : ByteArray) (hs : s.size ≤ 400000) (i : Nat) (ho : LX.opens ((bts s).drop i) = true) : Calls Tryz.prog 34 #[.string s, .int .i64 i] w (CmPost w (cmR i (LX.cmt ((bts s).drop i) 0 0))) := by
  obtain ⟨r, hr⟩ : ∃ r, r = LX.cmt ((bts s).drop i) 0 0 := ⟨_, rfl⟩
  rw [← hr]
  have hil := (LX.opens_lt ho).1
  rw [bts_length] at hil
  have ho2 := LX.opens_two ho
  rw [LX.getD_drop', LX.getD_drop', Nat.add_zero] at ho2
  obtain ⟨V, hV⟩ : ∃ V, V = cmR i r := ⟨_, rfl⟩
  rw [← hV]
  have FIN : Hid (∀ x y e : Int, V = cmV x y e → CmPost w V (.returned (cmV x y e)) (w.alloc (.cells #[.int .i64 x, .int .i64 y, .int .i64 e] 66))) := fun x y e h => ⟨by rw [h], (Below.refl _ _).alloc (Nat.le_refl _) _⟩
  have HV := Lib.hid hV
  have HR := Lib.hid hr
  have HO := Lib.hid ho2
  have HI : Hid (i < s.size) := hil
  have hz : (s.size : Int) ≤ 400000 := by omega
  clear hV hr ho ho2 hil hs
  go_enter Tryz.func34, Tryz.ntmps34
  go_wp2_with fail
  go_loop [5, 6] (fun d j => ∃ q p : Nat, i ≤ p ∧ p ≤ s.size ∧ q ≤ 100 ∧ (q = 0 → p = i) ∧ d = .int .i64 q ∧ j = .int .i64 p ∧ r = LX.cmt ((bts s).drop p) q (p - i)) (fun _ j => s.size - (intOf j).toNat)
  case atStart => exact ⟨0, i, Nat.le_refl _, Nat.le_of_lt HI.out, by decide, fun _ => rfl, rfl, rfl, by rw [Nat.sub_self]; exact HR.out⟩
  case round =>
    obtain ⟨q, p, hp1, hp2, hq, hq0, rfl, rfl, hrr⟩ := hrel
    have HRR := Lib.hid hrr
    have HP := Lib.hid (And.intro hp1 hp2)
    have HQ0 := Lib.hid hq0
    have HQ : Hid (q ≤ 100) := hq
    clear hrr hp1 hp2 hq0
    by_cases hlt : p + 1 < s.size
    · have hlz : (p : Int) + 1 < (s.size : Int) := by omega
      obtain ⟨c, hc⟩ : ∃ c, (bts s).getD p 0 = c := ⟨_, rfl⟩
      obtain ⟨e, he⟩ : ∃ e, (bts s).getD (p + 1) 0 = e := ⟨_, rfl⟩
      obtain ⟨x, hx, sl⟩ := two_at s hlt hc he
      have e1 := two_eq hx ⟨#[40, 42]⟩ (a := 40) (b := 42) rfl
      have e2 := two_eq hx ⟨#[42, 41]⟩ (a := 42) (b := 41) rfl
      rw [lit4042] at e1
      rw [lit4241] at e2
      have hdr : (bts s).drop p = c :: e :: (bts s).drop (p + 2) := by
        rw [LX.drop_get (by rw [bts_length]; omega), hc, LX.drop_get (by rw [bts_length]; exact hlt), he]
      have hcm : r = if c = 40 ∧ e = 42 then (if 100 ≤ q then .deep (p - i) else LX.cmt ((bts s).drop (p + 2)) (q + 1) (p - i + 2)) else if c = 42 ∧ e = 41 then (if q = 1 then .fin (p - i + 2) else LX.cmt ((bts s).drop (p + 2)) (q - 1) (p - i + 2)) else LX.cmt ((bts s).drop (p + 1)) q (p - i + 1) := by
        rw [HRR.out, hdr, LX.cmt]
        have : (bts s).drop (p + 1) = e :: (bts s).drop (p + 2) := by rw [LX.drop_get (by rw [bts_length]; exact hlt), he]
        rw [this]
      have HC := Lib.hid hcm
      have HLT : Hid (p + 1 < s.size) := hlt
      have HCE := Lib.hid (And.intro hc he)
      clear hcm hdr hc he hlt hx
      by_cases h1 : c = 40 ∧ e = 42
      · have f1 : (x.toList == ([40, 42] : List UInt8)) = true := by rw [e1, h1.1, h1.2]; rfl
        have hc1 := HC.out
        rw [if_pos h1] at hc1
        have HC1 := Lib.hid hc1
        clear e1 e2 h1 hc1
        by_cases hq1 : 100 ≤ q
        · have hqz : (100 : Int) ≤ (q : Int) := by omega
          have hv : V = cmV 0 ((p : Nat) : Int) 6 := by
            rw [HV.out, HC1.out, if_pos hq1]
            have := HP.out.1
            show cmV 0 ((i + (p - i) : Nat) : Int) 6 = _
            rw [show i + (p - i) = p from by omega]
          have HVV := Lib.hid hv
          clear hv hq1 hq
          go_wp2_with fail
          exact bodyPost_ret (v := cmV 0 ((p : Nat) : Int) 6) (by rw [results_one_cell rfl]; simp [asAddr, load66_new]) rfl (by rw [HVV.out] at FIN ⊢; exact FIN.out 0 p 6 rfl)
        · have hqz : (q : Int) < 100 := by omega
          have hc2 := HC1.out
          rw [if_neg hq1] at hc2
          have HC2 := Lib.hid hc2
          have HQ2 : Hid (q < 100) := by show q < 100; omega
          clear hc2 hq1 hq
          go_wp2_with fail
          go_round
          case rel => exact ⟨q + 1, p + 2, by have := HP.out; omega, HLT.out, HQ2.out, fun h => by omega, by go_num, by go_num, by rw [HC2.out]; congr 1; have := HP.out; omega⟩
          case measure => have := HLT.out; simp [intOf]; omega
      · have f1 : (x.toList == ([40, 42] : List UInt8)) = false := by
          rw [e1]; cases h : (c == 40 && e == 42) with
          | false => rfl
          | true => simp at h; exact absurd h h1
        have hq0 : 0 < q := by
          rcases Nat.eq_zero_or_pos q with h | h
          · have := HQ0.out h
            exfalso
            apply h1
            rw [← HCE.out.1, ← HCE.out.2, this]
            exact HO.out
          · exact h
        have hc1 := HC.out
        rw [if_neg h1] at hc1
        by_cases h2 : c = 42 ∧ e = 41
        · have f2 : (x.toList == ([42, 41] : List UInt8)) = true := by rw [e2, h2.1, h2.2]; rfl
          rw [if_pos h2] at hc1
          have HC1 := Lib.hid hc1
          clear e1 e2 h1 h2 hc1
          by_cases hq1 : q = 1
          · subst hq1
            have hv : V = cmV ((p : Int) + 2) 0 0 := by
              rw [HV.out, HC1.out, if_pos rfl]
              have := HP.out.1
              show cmV ((i + (p - i + 2) : Nat) : Int) 0 0 = _
              rw [show i + (p - i + 2) = p + 2 from by omega]
              rfl
            have HVV := Lib.hid hv
            clear hv hq hq0
            go_wp2_with fail
            exact bodyPost_ret (v := cmV ((p : Int) + 2) 0 0) (by rw [results_one_cell rfl]; simp [asAddr, load66_new]) rfl (by rw [HVV.out] at FIN ⊢; exact FIN.out _ 0 0 rfl)
          · have hqz : (q : Int) ≤ 100 := by omega
            have hq1z : ((q : Int) - 1 == 0) = false := beq_false_of_ne (by omega)
            have hc2 := HC1.out
            rw [if_neg hq1] at hc2
            have HC2 := Lib.hid hc2
            have HQ2 : Hid (1 < q ∧ q ≤ 100) := ⟨by omega, HQ.out⟩
            have hq3 : (1 : Int) < (q : Int) := by omega
            clear hc2 hq1 hq hq0
            go_wp2_with fail
            go_round
            case rel =>
              exact ⟨q - 1, p + 2, by have := HP.out; omega, HLT.out, by have := HQ2.out; omega, fun h => by have := HQ2.out; omega, by have := HQ2.out; congr 1; omega, by go_num, by rw [HC2.out]; congr 1; have := HP.out; omega⟩
            case measure => have := HLT.out; simp [intOf]; omega
        · have f2 : (x.toList == ([42, 41] : List UInt8)) = false := by
            rw [e2]; cases h : (c == 42 && e == 41) with
            | false => rfl
            | true => simp at h; exact absurd h h2
          rw [if_neg h2] at hc1
          have HC1 := Lib.hid hc1
          have HQ2 : Hid (0 < q) := hq0
          clear e1 e2 h1 h2 hc1 hq hq0
          go_wp2_with fail
          go_round
          case rel => exact ⟨q, p + 1, by have := HP.out; omega, by have := HLT.out; omega, HQ.out, fun h => by have := HQ2.out; omega, rfl, by go_num, by rw [HC1.out]; congr 1; have := HP.out; omega⟩
          case measure => have := HLT.out; simp [intOf]; omega
    · have hge : (s.size : Int) ≤ (p : Int) + 1 := by omega
      have hpz : (p : Int) ≤ 400000 := by have := HP.out; omega
      have hv : V = cmV 0 i 12 := by
        have hn : r = .never := by
          rw [HRR.out]
          have hl : ((bts s).drop p).length ≤ 1 := by rw [List.length_drop, bts_length]; omega
          match h : (bts s).drop p, hl with
          | [], _ => rfl
          | [_], _ => rfl
          | _ :: _ :: _, hl => simp at hl
        rw [HV.out, hn]
        rfl
      have HVV := Lib.hid hv
      clear hv hlt hq
      go_wp2_with fail
      exact bodyPost_ret (v := cmV 0 i 12) (by rw [results_one_cell rfl]; simp [asAddr, load66_new]) rfl (by rw [HVV.out] at FIN ⊢; exact FIN.out 0 i 12 rfl)
end Go.Proofs.YtfoijbcmjciihaaGreatDoor
