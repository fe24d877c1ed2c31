/- The reference's Digits: walked. -/
import Derived.Test.YtfoijbcmjciihaaDoorNw
set_option linter.unusedSimpArgs false
set_option linter.unusedVariables false
namespace Go.Proofs.YtfoijbcmjciihaaDoor
open Go.RowKit

def chB (d : Nat) : ByteArray := ⟨#[UInt8.ofNat (48 + d)]⟩

theorem enc_digit (d : Nat) (h : d ≤ 9) : Utf8.encode (48 + (d : Int)) = chB d := by
  rcases (by omega : d = 0 ∨ d = 1 ∨ d = 2 ∨ d = 3 ∨ d = 4 ∨ d = 5 ∨ d = 6 ∨ d = 7 ∨ d = 8 ∨ d = 9) with rfl | rfl | rfl | rfl | rfl | rfl | rfl | rfl | rfl | rfl <;> rfl

theorem bts_ch (d : Nat) (h : d ≤ 9) (x : ByteArray) : bts (chB d ++ x) = (48 + d) :: bts x := by
  unfold chB bts
  rw [ByteArray.data_append, Array.toList_append, List.map_append]
  simp
  omega


theorem dd_length : ∀ (f m : Nat), m < 10 ^ f → (LX.dd m).length ≤ f
  | 0, m, h => by
    simp at h
    subst h
    rw [LX.dd_zero]; exact Nat.le_refl _
  | f + 1, m, h => by
    rcases Nat.eq_zero_or_pos m with h0 | h0
    · rw [h0, LX.dd_zero]; exact Nat.zero_le _
    · rw [LX.dd_step h0, List.length_append]
      have := dd_length f (m / 10) (by rw [Nat.pow_succ] at h; omega)
      simp
      omega

set_option maxHeartbeats 2000000 in
theorem refDigits_neg (w : World) (m : Nat) (h0 : 0 < m) (h1 : m ≤ 9223372036854775808) :
    Calls Tryd.prog 15 #[.int .i64 (-(m : Int))] w fun e w' => e = .returned (.string (digS (-(m : Int)))) ∧ w' = w := by
  have z0 : ((-(m : Int)) == 0) = false := beq_false_of_ne (by omega)
  have z1 : ¬ (0 : Int) < -(m : Int) := by omega
  have z2 : -(m : Int) < 0 := by omega
  have HD : Hid (∀ x : ByteArray, LX.dd m = bts x → digS (-(m : Int)) = ⟨#[126]⟩ ++ x) := fun x hx => bts_inj (by
    rw [bts_digS _ (by omega) (by omega), show bts (⟨#[126]⟩ ++ x) = 126 :: bts x from by
      unfold bts; rw [ByteArray.data_append, Array.toList_append, List.map_append]; rfl]
    unfold LX.digs
    rw [if_pos (by omega), ← hx, show (-(m : Int)).natAbs = m from by omega, LX.dd_nat10 30 m (by omega) (by rw [LX.pow30]; omega)])
  have HM : Hid (m ≤ 9223372036854775808) := h1
  have HL : Hid ((LX.dd m).length ≤ 30) := dd_length 30 m (by rw [LX.pow30]; omega)
  clear h0 h1
  go_enter Tryd.func15, Tryd.ntmps15
  go_wp2_with fail
  go_loop [3, 4] (fun r o => ∃ (k : Nat) (x : ByteArray), k ≤ m ∧ r = .int .i64 (-(k : Int)) ∧ o = .string x ∧ LX.dd m = LX.dd k ++ bts x) (fun r _ => (intOf r).natAbs)
  case atStart => exact ⟨m, ⟨#[]⟩, Nat.le_refl _, rfl, rfl, by rw [show bts ⟨#[]⟩ = [] from rfl, List.append_nil]⟩
  case round =>
    obtain ⟨k, x, hk, rfl, rfl, hx⟩ := hrel
    have HX := Lib.hid hx
    have hxs : x.size ≤ 30 := by
      have := congrArg List.length hx
      rw [List.length_append, bts_length] at this
      have := HL.out
      omega
    clear hx
    by_cases h : k = 0
    · have zk : (-(k : Int)) = 0 := by omega
      have zk1 : ((-(k : Int)) == 0) = true := by rw [zk]; rfl
      have HK := Lib.hid h
      have hsz : (⟨#[126]⟩ : ByteArray).size + x.size ≤ 9223372036854775807 := by
        show 1 + x.size ≤ _
        omega
      clear h zk
      go_wp2_with fail
      go_ret
      refine ⟨?_, rfl⟩
      rw [HD.out x (by have := HX.out; rw [HK.out, LX.dd_zero, List.nil_append] at this; exact this)]
      rfl
    · have zk : ((-(k : Int)) != 0) = true := by simp; omega
      have henc : Utf8.encode (48 + (k : Int) % 10) = chB (k % 10) := by
        rw [show (48 + (k : Int) % 10) = 48 + ((k % 10 : Nat) : Int) from by omega]
        exact enc_digit _ (by omega)
      have HE := Lib.hid henc
      have kb : (-(k : Int)) ≤ 0 := by omega
      have kb2 : -9223372036854775808 ≤ (-(k : Int)) := by have := HM.out; omega
      have hsz : (Utf8.encode (48 + (k : Int) % 10)).size + x.size ≤ 9223372036854775807 := by
        rw [henc]
        show 1 + x.size ≤ _
        omega
      have HK : Hid (0 < k ∧ k ≤ m) := ⟨by omega, hk⟩
      clear henc h hk hxs
      go_wp2_with fail
      go_round
      case rel =>
        refine ⟨k / 10, chB (k % 10) ++ x, by have := HK.out; omega, by first | rfl | (congr 1; omega), by rw [HE.out], ?_⟩
        rw [HX.out, LX.dd_step HK.out.1, bts_ch _ (by omega), List.append_assoc]
        rfl
      case measure => have := HK.out; simp [intOf]; omega

set_option maxHeartbeats 2000000 in
theorem refDigits_pos (w : World) (m : Nat) (h0 : 0 < m) (h1 : m ≤ 9223372036854775807) :
    Calls Tryd.prog 15 #[.int .i64 (m : Int)] w fun e w' => e = .returned (.string (digS (m : Int))) ∧ w' = w := by
  have z0 : ((m : Int) == 0) = false := beq_false_of_ne (by omega)
  have z1 : (0 : Int) < (m : Int) := by omega
  have z3 : (m : Int) ≤ 9223372036854775807 := by omega
  have HD : Hid (∀ x : ByteArray, LX.dd m = bts x → digS (m : Int) = x) := fun x hx => bts_inj (by
    rw [bts_digS _ (by omega) (by omega)]
    unfold LX.digs
    rw [if_neg (by omega), ← hx, show ((m : Int)).natAbs = m from by omega, LX.dd_nat10 30 m (by omega) (by rw [LX.pow30]; omega)])
  have HM : Hid (m ≤ 9223372036854775808) := by show m ≤ _; omega
  have HL : Hid ((LX.dd m).length ≤ 30) := dd_length 30 m (by rw [LX.pow30]; omega)
  have hw : IntKind.i64.wrap (-(m : Int)) = -(m : Int) := wrap_in _ (by omega)
  clear h0 h1
  go_enter Tryd.func15, Tryd.ntmps15
  go_wp2_with fail
  go_loop [3, 4] (fun r o => ∃ (k : Nat) (x : ByteArray), k ≤ m ∧ r = .int .i64 (-(k : Int)) ∧ o = .string x ∧ LX.dd m = LX.dd k ++ bts x) (fun r _ => (intOf r).natAbs)
  case atStart => exact ⟨m, ⟨#[]⟩, Nat.le_refl _, rfl, rfl, by rw [show bts ⟨#[]⟩ = [] from rfl, List.append_nil]⟩
  case round =>
    obtain ⟨k, x, hk, rfl, rfl, hx⟩ := hrel
    have HX := Lib.hid hx
    have hxs : x.size ≤ 30 := by
      have := congrArg List.length hx
      rw [List.length_append, bts_length] at this
      have := HL.out
      omega
    clear hx
    by_cases h : k = 0
    · have zk : (-(k : Int)) = 0 := by omega
      have zk1 : ((-(k : Int)) == 0) = true := by rw [zk]; rfl
      have HK := Lib.hid h
      have z2 : ¬ (m : Int) < 0 := by omega
      clear h zk
      go_wp2_with fail
      go_ret
      refine ⟨?_, rfl⟩
      rw [HD.out x (by have := HX.out; rw [HK.out, LX.dd_zero, List.nil_append] at this; exact this)]
      rfl
    · have zk : ((-(k : Int)) != 0) = true := by simp; omega
      have henc : Utf8.encode (48 + (k : Int) % 10) = chB (k % 10) := by
        rw [show (48 + (k : Int) % 10) = 48 + ((k % 10 : Nat) : Int) from by omega]
        exact enc_digit _ (by omega)
      have HE := Lib.hid henc
      have kb : (-(k : Int)) ≤ 0 := by omega
      have kb2 : -9223372036854775808 ≤ (-(k : Int)) := by have := HM.out; omega
      have hsz : (Utf8.encode (48 + (k : Int) % 10)).size + x.size ≤ 9223372036854775807 := by
        rw [henc]
        show 1 + x.size ≤ _
        omega
      have HK : Hid (0 < k ∧ k ≤ m) := ⟨by omega, hk⟩
      clear henc h hk hxs
      go_wp2_with fail
      go_round
      case rel =>
        refine ⟨k / 10, chB (k % 10) ++ x, by have := HK.out; omega, by first | rfl | (congr 1; omega), by rw [HE.out], ?_⟩
        rw [HX.out, LX.dd_step HK.out.1, bts_ch _ (by omega), List.append_assoc]
        rfl
      case measure => have := HK.out; simp [intOf]; omega

theorem refDigits_zero (w : World) : Calls Tryd.prog 15 #[.int .i64 0] w fun e w' => e = .returned (.string (digS 0)) ∧ w' = w := by
  rw [show digS 0 = ⟨#[48]⟩ from bts_inj (by rw [bts_digS _ (by decide) (by decide)]; rfl)]
  go_enter Tryd.func15, Tryd.ntmps15
  go_wp2_with fail
  go_ret
  exact ⟨rfl, rfl⟩

theorem refDigits_any (w : World) (n : Int) (h0 : -9223372036854775808 ≤ n) (h1 : n ≤ 9223372036854775807) :
    Calls Tryd.prog 15 #[.int .i64 n] w fun e w' => e = .returned (.string (digS n)) ∧ w' = w := by
  rcases Int.lt_trichotomy n 0 with h | h | h
  · obtain ⟨m, rfl⟩ : ∃ m : Nat, n = -(m : Int) := ⟨n.natAbs, by omega⟩
    exact refDigits_neg w m (by omega) (by omega)
  · subst h; exact refDigits_zero w
  · obtain ⟨m, rfl⟩ : ∃ m : Nat, n = (m : Int) := ⟨n.natAbs, by omega⟩
    exact refDigits_pos w m (by omega) (by omega)
end Go.Proofs.YtfoijbcmjciihaaDoor
