/- The reference's Number and Digits: walked. -/
import Derived.Test.YtfoijbcmjciihaaGreatDoorNr
import Derived.Test.YtfoijbcmjciihaaGreatDoorBa
import Derived.Test.YtfoijbcmjciihaaGreatDoorQ
import Derived.Test.YtfoijbcmjciihaaGreatDoorG
set_option linter.unusedSimpArgs false
set_option linter.unusedVariables false
namespace Go.Proofs.YtfoijbcmjciihaaGreatDoor
open Go.RowKit

theorem rdigit_any (w : World) (c : Nat) : Calls Tryz.prog 52 #[.int .u8 c] w fun e w' => e = .returned (.bool (LX.digit c)) ∧ w' = w := by
  by_cases h1 : 48 ≤ c
  · have k1 : (48 : Int) ≤ (c : Int) := by omega
    have e : LX.digit c = decide ((c : Int) ≤ 57) := by unfold LX.digit; rw [decide_eq_true h1, Bool.true_and]; exact decide_eq_decide.2 (by omega)
    rw [e]
    go_enter Tryz.func52, Tryz.ntmps52
    go_wp2
    go_ret
    exact ⟨rfl, rfl⟩
  · have k1 : (c : Int) < 48 := by omega
    have e : LX.digit c = false := by unfold LX.digit; rw [decide_eq_false h1, Bool.false_and]
    rw [e]
    go_enter Tryz.func52, Tryz.ntmps52
    go_wp2
    go_ret
    exact ⟨rfl, rfl⟩

def RN (r : Option Int) (w : World) (e : Ending) (w' : World) : Prop := e = .returned (.tuple #[.int .i64 (r.getD 0), .int .i64 (if r.isSome then 0 else 13)]) ∧ w' = w

/-- What is answered behind the loop. -/
def rOut (i : Nat) (r : Option Int) : Option Int := match r with | none => none | some n => if i = 1 then some n else if n = -9223372036854775808 then none else some (-n)

theorem rn_none (i : Nat) (w : World) : RN (rOut i none) w (.returned (.tuple #[.int .i64 0, .int .i64 13])) w := ⟨rfl, rfl⟩

theorem w64_in (n : Int) (h : -9223372036854775808 ≤ n ∧ n ≤ 9223372036854775807) : wrap64 n = n := by unfold wrap64; omega

theorem tdiv_lt {v d : Int} (h0 : 0 ≤ d) (h1 : d ≤ 9) : v < (-9223372036854775808 + d).tdiv 10 ↔ 10 * v - d < -9223372036854775808 := by
  have e : (-9223372036854775808 + d).tdiv 10 = -((9223372036854775808 - d) / 10) := by
    rw [show (-9223372036854775808 + d : Int) = -(9223372036854775808 - d) from by omega, Int.neg_tdiv, Int.tdiv_eq_ediv_of_nonneg (by omega)]
  rw [e]
  omega

set_option maxHeartbeats 2000000 in
set_option maxRecDepth 20000 in
theorem refNumber_pos (w : World) (s : ByteArray) (hz : s.size ≤ 30) (c0 : Nat) (h0 : (bts s).getD 0 0 = c0) (hpos : 0 < s.size) (h126 : c0 ≠ 126) (h48 : c0 ≠ 48 ∨ s.size = 1) :
    Calls Tryz.prog 37 #[.string s] w (RN (rOut 0 (LX.rfold ((bts s).drop 0) 0)) w) := by
  have b0 : ∀ m, (Instr.index 9 (.string s) (.int .i64 0)).run Tryz.prog m = .ok (.int .u8 c0) m := byte_at s hpos h0
  have z0 : (0 : Int) < (s.size : Int) := by omega
  have z30 : (s.size : Int) ≤ 30 := by omega
  have z00 : ((s.size : Int) == 0) = false := beq_false_of_ne (by omega)
  have z01 : (s.size == 0) = false := beq_false_of_ne (by omega)
  have k126 : ((c0 : Int) == 126) = false := beq_false_of_ne (fun e => h126 (by omega))
  obtain ⟨r, hr⟩ : ∃ r, r = LX.rfold ((bts s).drop 0) 0 := ⟨_, rfl⟩
  rw [← hr]
  have HR := Lib.hid hr
  have HZ := Lib.hid hz
  have HP : Hid (0 ≤ s.size) := Nat.zero_le _
  by_cases h : c0 = 48
  · have k48 : ((c0 : Int) == 48) = true := by rw [h]; rfl
    have z1 : (s.size : Int) ≤ 1 := by omega
    clear h hz h0 hpos h126 h48 hr
    go_enter Tryz.func37, Tryz.ntmps37
    go_wp2_with fail
    clear b0 k126 k48 z00 z0 z01
    go_loop [5, 7] (fun n j => ∃ (k : Nat) (v : Int), 0 ≤ k ∧ k ≤ s.size ∧ j = .int .i64 k ∧ n = .int .i64 v ∧ -9223372036854775808 ≤ v ∧ v ≤ 0 ∧ r = LX.rfold ((bts s).drop k) v) (fun _ j => s.size - (intOf j).toNat)
    case atStart => exact ⟨0, 0, Nat.le_refl _, HP.out, rfl, rfl, by decide, by decide, HR.out⟩
    case round =>
      obtain ⟨k, v, hki, hk, rfl, rfl, hv1, hv2, hrr⟩ := hrel
      have HRR := Lib.hid hrr
      have HKI := Lib.hid hki
      clear hrr hki
      by_cases hlt : k < s.size
      · have hltz : (k : Int) < (s.size : Int) := by omega
        obtain ⟨c, hc⟩ : ∃ c, (bts s).getD k 0 = c := ⟨_, rfl⟩
        have bk := byte_at s hlt hc
        have hdrop : (bts s).drop k = c :: (bts s).drop (k + 1) := by rw [LX.drop_get (by rw [bts_length]; exact hlt), hc]
        have HD := Lib.hid hdrop
        have HLT := Lib.hid hlt
        have DC := rdigit_any w c
        cases hd : LX.digit c with
        | false =>
          have hn : r = none := by rw [HRR.out, HD.out, LX.rfold, if_pos hd]
          have HN := Lib.hid hn
          rw [hd] at DC
          have DG := Lib.hid DC
          clear hd DC hc hdrop hn hlt hk
          go_wp2_with fail
          refine DG.out.mono ?_
          rintro e w1 ⟨rfl, rfl⟩
          go_wp2_with fail
          go_ret2
          rw [HN.out]
          exact rn_none 0 _
        | true =>
          obtain ⟨h1, h2⟩ := LX.digit_iff.1 hd
          have c1 : (48 : Int) ≤ (c : Int) := by omega
          have c2 : (c : Int) ≤ 57 := by omega
          have HD2 := Lib.hid hd
          rw [hd] at DC
          have DG := Lib.hid DC
          have HV := Lib.hid (And.intro hv1 hv2)
          clear hd DC hc hdrop hlt hk h1 h2
          go_wp2_with fail
          refine DG.out.mono ?_
          rintro e w1 ⟨rfl, rfl⟩
          go_wp2_with fail
          · have hq : v < (-9223372036854775808 + ((c : Int) - 48)).tdiv 10 := by assumption
            rw [tdiv_lt (by omega) (by omega)] at hq
            have hn : r = none := by rw [HRR.out, HD.out, LX.rfold, if_neg (by rw [HD2.out]; decide), if_pos hq]
            go_ret2
            rw [hn]
            exact rn_none 0 _
          · have hq : (-9223372036854775808 + ((c : Int) - 48)).tdiv 10 ≤ v := by assumption
            have hq2 : ¬ 10 * v - ((c : Int) - 48) < -9223372036854775808 := by
              rw [← tdiv_lt (by omega) (by omega)]; omega
            go_round
            case rel => exact ⟨k + 1, 10 * v - ((c : Int) - 48), by have := HKI.out; omega, HLT.out, by go_num, by first | rfl | (rw [w64_in (10 * v) (by omega), w64_in _ (by omega)]), by omega, by have := HV.out; omega, by rw [HRR.out, HD.out, LX.rfold, if_neg (by rw [HD2.out]; decide), if_neg hq2]⟩
            case measure => have := HLT.out; simp [intOf]; omega
      · have hge : (s.size : Int) ≤ (k : Int) := by omega
        have hv : r = some v := by rw [HRR.out, List.drop_of_length_le (by rw [bts_length]; omega)]; rfl
        have HVR := Lib.hid hv
        clear hv hlt hk
        by_cases hm : v = -9223372036854775808
        · have km : (v == -9223372036854775808) = true := by simpa using hm
          have HM := Lib.hid hm
          clear hm
          go_wp2_with fail
          go_ret2
          rw [HVR.out]
          exact ⟨by unfold rOut; simp only [show ¬ (0 : Nat) = 1 from by decide, if_false, if_pos HM.out]; rfl, rfl⟩
        · have km : (v == -9223372036854775808) = false := by simpa using hm
          have hng : IntKind.i64.wrap (-v) = -v := wrap_in _ (by omega)
          have HM := Lib.hid hm
          clear hm
          go_wp2_with fail
          go_ret2
          rw [HVR.out]
          exact ⟨by unfold rOut; simp only [show ¬ (0 : Nat) = 1 from by decide, if_false, if_neg HM.out]; rfl, rfl⟩
  · have k48 : ((c0 : Int) == 48) = false := beq_false_of_ne (fun e => h (by omega))
    clear h hz h0 hpos h126 h48 hr
    go_enter Tryz.func37, Tryz.ntmps37
    go_wp2_with fail
    clear b0 k126 k48 z00 z0 z01
    go_loop [5, 7] (fun n j => ∃ (k : Nat) (v : Int), 0 ≤ k ∧ k ≤ s.size ∧ j = .int .i64 k ∧ n = .int .i64 v ∧ -9223372036854775808 ≤ v ∧ v ≤ 0 ∧ r = LX.rfold ((bts s).drop k) v) (fun _ j => s.size - (intOf j).toNat)
    case atStart => exact ⟨0, 0, Nat.le_refl _, HP.out, rfl, rfl, by decide, by decide, HR.out⟩
    case round =>
      obtain ⟨k, v, hki, hk, rfl, rfl, hv1, hv2, hrr⟩ := hrel
      have HRR := Lib.hid hrr
      have HKI := Lib.hid hki
      clear hrr hki
      by_cases hlt : k < s.size
      · have hltz : (k : Int) < (s.size : Int) := by omega
        obtain ⟨c, hc⟩ : ∃ c, (bts s).getD k 0 = c := ⟨_, rfl⟩
        have bk := byte_at s hlt hc
        have hdrop : (bts s).drop k = c :: (bts s).drop (k + 1) := by rw [LX.drop_get (by rw [bts_length]; exact hlt), hc]
        have HD := Lib.hid hdrop
        have HLT := Lib.hid hlt
        have DC := rdigit_any w c
        cases hd : LX.digit c with
        | false =>
          have hn : r = none := by rw [HRR.out, HD.out, LX.rfold, if_pos hd]
          have HN := Lib.hid hn
          rw [hd] at DC
          have DG := Lib.hid DC
          clear hd DC hc hdrop hn hlt hk
          go_wp2_with fail
          refine DG.out.mono ?_
          rintro e w1 ⟨rfl, rfl⟩
          go_wp2_with fail
          go_ret2
          rw [HN.out]
          exact rn_none 0 _
        | true =>
          obtain ⟨h1, h2⟩ := LX.digit_iff.1 hd
          have c1 : (48 : Int) ≤ (c : Int) := by omega
          have c2 : (c : Int) ≤ 57 := by omega
          have HD2 := Lib.hid hd
          rw [hd] at DC
          have DG := Lib.hid DC
          have HV := Lib.hid (And.intro hv1 hv2)
          clear hd DC hc hdrop hlt hk h1 h2
          go_wp2_with fail
          refine DG.out.mono ?_
          rintro e w1 ⟨rfl, rfl⟩
          go_wp2_with fail
          · have hq : v < (-9223372036854775808 + ((c : Int) - 48)).tdiv 10 := by assumption
            rw [tdiv_lt (by omega) (by omega)] at hq
            have hn : r = none := by rw [HRR.out, HD.out, LX.rfold, if_neg (by rw [HD2.out]; decide), if_pos hq]
            go_ret2
            rw [hn]
            exact rn_none 0 _
          · have hq : (-9223372036854775808 + ((c : Int) - 48)).tdiv 10 ≤ v := by assumption
            have hq2 : ¬ 10 * v - ((c : Int) - 48) < -9223372036854775808 := by
              rw [← tdiv_lt (by omega) (by omega)]; omega
            go_round
            case rel => exact ⟨k + 1, 10 * v - ((c : Int) - 48), by have := HKI.out; omega, HLT.out, by go_num, by first | rfl | (rw [w64_in (10 * v) (by omega), w64_in _ (by omega)]), by omega, by have := HV.out; omega, by rw [HRR.out, HD.out, LX.rfold, if_neg (by rw [HD2.out]; decide), if_neg hq2]⟩
            case measure => have := HLT.out; simp [intOf]; omega
      · have hge : (s.size : Int) ≤ (k : Int) := by omega
        have hv : r = some v := by rw [HRR.out, List.drop_of_length_le (by rw [bts_length]; omega)]; rfl
        have HVR := Lib.hid hv
        clear hv hlt hk
        by_cases hm : v = -9223372036854775808
        · have km : (v == -9223372036854775808) = true := by simpa using hm
          have HM := Lib.hid hm
          clear hm
          go_wp2_with fail
          go_ret2
          rw [HVR.out]
          exact ⟨by unfold rOut; simp only [show ¬ (0 : Nat) = 1 from by decide, if_false, if_pos HM.out]; rfl, rfl⟩
        · have km : (v == -9223372036854775808) = false := by simpa using hm
          have hng : IntKind.i64.wrap (-v) = -v := wrap_in _ (by omega)
          have HM := Lib.hid hm
          clear hm
          go_wp2_with fail
          go_ret2
          rw [HVR.out]
          exact ⟨by unfold rOut; simp only [show ¬ (0 : Nat) = 1 from by decide, if_false, if_neg HM.out]; rfl, rfl⟩

set_option maxHeartbeats 2000000 in
set_option maxRecDepth 20000 in
theorem refNumber_neg (w : World) (s : ByteArray) (hz : s.size ≤ 30) (c0 : Nat) (h0 : (bts s).getD 1 0 = c0) (hpos : 1 < s.size) (h126 : (bts s).getD 0 0 = 126) (h48 : c0 ≠ 48) :
    Calls Tryz.prog 37 #[.string s] w (RN (rOut 1 (LX.rfold ((bts s).drop 1) 0)) w) := by
  have b0 : ∀ m, (Instr.index 9 (.string s) (.int .i64 0)).run Tryz.prog m = .ok (.int .u8 126) m := byte_at (i := 0) s (by omega) h126
  have b1 : ∀ m, (Instr.index 9 (.string s) (.int .i64 1)).run Tryz.prog m = .ok (.int .u8 c0) m := byte_at s hpos h0
  have z0 : (0 : Int) < (s.size : Int) := by omega
  have z1 : (1 : Int) < (s.size : Int) := by omega
  have z30 : (s.size : Int) ≤ 30 := by omega
  have z00 : ((s.size : Int) == 1) = false := beq_false_of_ne (by omega)
  have z01 : (s.size == 1) = false := beq_false_of_ne (by omega)
  obtain ⟨r, hr⟩ : ∃ r, r = LX.rfold ((bts s).drop 1) 0 := ⟨_, rfl⟩
  rw [← hr]
  have HR := Lib.hid hr
  have HZ := Lib.hid hz
  have HP : Hid (1 ≤ s.size) := by show 1 ≤ s.size; omega
  first
  | (exfalso; exact absurd rfl h48)
  | skip
  · have k48 : ((c0 : Int) == 48) = false := beq_false_of_ne (fun e => h48 (by omega))
    clear hz h0 hpos h126 h48 hr
    go_enter Tryz.func37, Tryz.ntmps37
    go_wp2_with fail
    clear b0 b1 k48 z00 z0 z01 z1
    go_loop [5, 7] (fun n j => ∃ (k : Nat) (v : Int), 1 ≤ k ∧ k ≤ s.size ∧ j = .int .i64 k ∧ n = .int .i64 v ∧ -9223372036854775808 ≤ v ∧ v ≤ 0 ∧ r = LX.rfold ((bts s).drop k) v) (fun _ j => s.size - (intOf j).toNat)
    case atStart => exact ⟨1, 0, Nat.le_refl _, HP.out, rfl, rfl, by decide, by decide, HR.out⟩
    case round =>
      obtain ⟨k, v, hki, hk, rfl, rfl, hv1, hv2, hrr⟩ := hrel
      have HRR := Lib.hid hrr
      have HKI := Lib.hid hki
      clear hrr hki
      by_cases hlt : k < s.size
      · have hltz : (k : Int) < (s.size : Int) := by omega
        obtain ⟨c, hc⟩ : ∃ c, (bts s).getD k 0 = c := ⟨_, rfl⟩
        have bk := byte_at s hlt hc
        have hdrop : (bts s).drop k = c :: (bts s).drop (k + 1) := by rw [LX.drop_get (by rw [bts_length]; exact hlt), hc]
        have HD := Lib.hid hdrop
        have HLT := Lib.hid hlt
        have DC := rdigit_any w c
        cases hd : LX.digit c with
        | false =>
          have hn : r = none := by rw [HRR.out, HD.out, LX.rfold, if_pos hd]
          have HN := Lib.hid hn
          rw [hd] at DC
          have DG := Lib.hid DC
          clear hd DC hc hdrop hn hlt hk
          go_wp2_with fail
          refine DG.out.mono ?_
          rintro e w1 ⟨rfl, rfl⟩
          go_wp2_with fail
          go_ret2
          rw [HN.out]
          exact rn_none 1 _
        | true =>
          obtain ⟨h1, h2⟩ := LX.digit_iff.1 hd
          have c1 : (48 : Int) ≤ (c : Int) := by omega
          have c2 : (c : Int) ≤ 57 := by omega
          have HD2 := Lib.hid hd
          rw [hd] at DC
          have DG := Lib.hid DC
          have HV := Lib.hid (And.intro hv1 hv2)
          clear hd DC hc hdrop hlt hk h1 h2
          go_wp2_with fail
          refine DG.out.mono ?_
          rintro e w1 ⟨rfl, rfl⟩
          go_wp2_with fail
          · have hq : v < (-9223372036854775808 + ((c : Int) - 48)).tdiv 10 := by assumption
            rw [tdiv_lt (by omega) (by omega)] at hq
            have hn : r = none := by rw [HRR.out, HD.out, LX.rfold, if_neg (by rw [HD2.out]; decide), if_pos hq]
            go_ret2
            rw [hn]
            exact rn_none 1 _
          · have hq : (-9223372036854775808 + ((c : Int) - 48)).tdiv 10 ≤ v := by assumption
            have hq2 : ¬ 10 * v - ((c : Int) - 48) < -9223372036854775808 := by
              rw [← tdiv_lt (by omega) (by omega)]; omega
            go_round
            case rel => exact ⟨k + 1, 10 * v - ((c : Int) - 48), by have := HKI.out; omega, HLT.out, by go_num, by first | rfl | (rw [w64_in (10 * v) (by omega), w64_in _ (by omega)]), by omega, by have := HV.out; omega, by rw [HRR.out, HD.out, LX.rfold, if_neg (by rw [HD2.out]; decide), if_neg hq2]⟩
            case measure => have := HLT.out; simp [intOf]; omega
      · have hge : (s.size : Int) ≤ (k : Int) := by omega
        have hv : r = some v := by rw [HRR.out, List.drop_of_length_le (by rw [bts_length]; omega)]; rfl
        have HVR := Lib.hid hv
        clear hv hlt hk
        go_wp2_with fail
        go_ret2
        rw [HVR.out]
        exact ⟨rfl, rfl⟩

set_option maxRecDepth 20000 in
theorem refNumber_bad (w : World) (s : ByteArray) (h : s.size = (if (bts s).headD 0 = 126 then 1 else 0) ∨ 30 < s.size ∨ ((bts s).getD (if (bts s).headD 0 = 126 then 1 else 0) 0 = 48 ∧ 1 < s.size)) :
    Calls Tryz.prog 37 #[.string s] w (RN none w) := by
  have hh : (bts s).headD 0 = (bts s).getD 0 0 := by cases bts s <;> rfl
  rw [hh] at h
  have fin : Hid (RN none w (.returned (.tuple #[.int .i64 0, .int .i64 13])) w) := rn_none 0 w
  by_cases h0 : s.size = 0
  · have z0 : ¬ (0 : Int) < (s.size : Int) := by omega
    have z1 : (s.size : Int) = 0 := by omega
    clear h hh h0
    go_enter Tryz.func37, Tryz.ntmps37
    go_wp2_with fail
    go_ret2
    exact fin.out
  · have hpos : 0 < s.size := by omega
    have zp : (0 : Int) < (s.size : Int) := by omega
    obtain ⟨c0, hc0⟩ : ∃ c, (bts s).getD 0 0 = c := ⟨_, rfl⟩
    have b0 : ∀ m, (Instr.index 9 (.string s) (.int .i64 0)).run Tryz.prog m = .ok (.int .u8 c0) m := byte_at s hpos hc0
    rw [hc0] at h
    by_cases h126 : c0 = 126
    · rw [if_pos h126] at h
      have k126 : ((c0 : Int) == 126) = true := by rw [h126]; rfl
      by_cases h1 : s.size = 1
      · have z1 : ((s.size : Int) == 1) = true := by rw [h1]; rfl
        clear h h1 h126 hc0 hpos h0 hh
        go_enter Tryz.func37, Tryz.ntmps37
        go_wp2_with fail
        go_ret2
        exact fin.out
      · have z1 : ((s.size : Int) == 1) = false := beq_false_of_ne (by omega)
        have z1' : (s.size == 1) = false := beq_false_of_ne (by omega)
        by_cases h30 : 30 < s.size
        · have z30 : (30 : Int) < (s.size : Int) := by omega
          clear h h1 h126 hc0 hpos h0 hh h30
          go_enter Tryz.func37, Tryz.ntmps37
          go_wp2_with fail
          go_ret2
          exact fin.out
        · have z30 : (s.size : Int) ≤ 30 := by omega
          have g48 : (bts s).getD 1 0 = 48 := by
            rcases h with h | h | h
            · omega
            · omega
            · exact h.1
          have b1 : ∀ m, (Instr.index 9 (.string s) (.int .i64 1)).run Tryz.prog m = .ok (.int .u8 48) m := byte_at (i := 1) s (by omega) g48
          have z2 : (1 : Int) < (s.size : Int) := by omega
          clear h h1 h126 hc0 hpos h0 hh h30 g48
          go_enter Tryz.func37, Tryz.ntmps37
          go_wp2_with fail
          go_ret2
          exact fin.out
    · rw [if_neg h126] at h
      have k126 : ((c0 : Int) == 126) = false := beq_false_of_ne (fun e => h126 (by omega))
      have z1 : ((s.size : Int) == 0) = false := beq_false_of_ne (by omega)
      have z1' : (s.size == 0) = false := beq_false_of_ne (by omega)
      by_cases h30 : 30 < s.size
      · have z30 : (30 : Int) < (s.size : Int) := by omega
        clear h h126 hc0 hpos h0 hh h30
        go_enter Tryz.func37, Tryz.ntmps37
        go_wp2_with fail
        go_ret2
        exact fin.out
      · have z30 : (s.size : Int) ≤ 30 := by omega
        obtain rfl : c0 = 48 := by omega
        have z2 : (1 : Int) < (s.size : Int) := by omega
        clear h h126 hc0 hpos h0 hh h30 k126
        go_enter Tryz.func37, Tryz.ntmps37
        go_wp2_with fail
        go_ret2
        exact fin.out

theorem rOut_ref (l : List Nat) : LX.refNum l = if l.length = (if l.headD 0 = 126 then 1 else 0) ∨ 30 < l.length ∨ (l.getD (if l.headD 0 = 126 then 1 else 0) 0 = 48 ∧ 1 < l.length) then none else rOut (if l.headD 0 = 126 then 1 else 0) (LX.rfold (l.drop (if l.headD 0 = 126 then 1 else 0)) 0) := by
  unfold LX.refNum rOut
  rfl

theorem refNumber_any (w : World) (s : ByteArray) : Calls Tryz.prog 37 #[.string s] w (RN (LX.num (bts s)) w) := by
  rw [← LX.refNum_eq, rOut_ref, bts_length]
  by_cases h : s.size = (if (bts s).headD 0 = 126 then 1 else 0) ∨ 30 < s.size ∨ ((bts s).getD (if (bts s).headD 0 = 126 then 1 else 0) 0 = 48 ∧ 1 < s.size)
  · rw [if_pos h]; exact refNumber_bad w s h
  · rw [if_neg h]
    have hh : (bts s).headD 0 = (bts s).getD 0 0 := by cases bts s <;> rfl
    rw [hh] at h ⊢
    by_cases h126 : (bts s).getD 0 0 = 126
    · rw [if_pos h126] at h ⊢
      have h0 : 0 < s.size := by
        rcases Nat.eq_zero_or_pos s.size with h0 | h0
        · have : bts s = [] := List.length_eq_zero_iff.1 (by rw [bts_length]; exact h0)
          rw [this] at h126; cases h126
        · exact h0
      exact refNumber_neg w s (by omega) _ rfl (by omega) h126 (fun e => h (.inr (.inr ⟨e, by omega⟩)))
    · rw [if_neg h126] at h ⊢
      refine refNumber_pos w s (by omega) _ rfl (by omega) h126 ?_
      by_cases h48 : (bts s).getD 0 0 = 48
      · right
        by_cases h1 : s.size = 1
        · exact h1
        · exact absurd (.inr (.inr ⟨h48, by omega⟩)) h
      · exact .inl h48
end Go.Proofs.YtfoijbcmjciihaaGreatDoor
