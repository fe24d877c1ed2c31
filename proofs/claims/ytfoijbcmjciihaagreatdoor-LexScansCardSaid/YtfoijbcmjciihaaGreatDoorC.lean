/- How many bytes from a place on are of a kind: the walk. -/
import Derived.Test.YtfoijbcmjciihaaGreatDoorB
set_option linter.unusedSimpArgs false
set_option linter.unusedVariables false
namespace Go.Proofs.YtfoijbcmjciihaaGreatDoor
open Go.RowKit

theorem wrap_in (x : Int) (h : -9223372036854775808 ≤ x ∧ x ≤ 9223372036854775807) : IntKind.i64.wrap x = x := by
  rw [IntKind.wrap_i64]; omega

theorem run_drop (p : Nat → Bool) (l : List Nat) (j : Nat) (h : j < l.length) : LX.run p (l.drop j) = if p (l.getD j 0) then LX.run p (l.drop (j + 1)) + 1 else 0 := by
  rw [List.drop_eq_getElem_cons h, LX.run]
  rw [List.getD_eq_getElem?_getD, List.getElem?_eq_getElem h]
  rfl

theorem run_end (p : Nat → Bool) (l : List Nat) (j : Nat) (h : l.length ≤ j) : LX.run p (l.drop j) = 0 := by
  rw [List.drop_of_length_le h]; rfl

theorem run_le (p : Nat → Bool) (l : List Nat) : LX.run p l ≤ l.length := by
  induction l with
  | nil => exact Nat.le_refl _
  | cons c t ih =>
    rw [LX.run]
    split
    · simp; exact ih
    · simp

set_option maxHeartbeats 1000000 in
set_option maxRecDepth 20000 in
theorem run_space {w : World} {b : Nat} {s : ByteArray} {i : Nat} (h : At w b s i) (k : Nat) (hk : k ≤ 500000) :
    Calls Tryz.prog 85 #[.pointer (some ⟨b, 0, none⟩), .int .i64 k, .func (.func 86) #[] #[]] w fun e w' => e = .returned (.int .i64 (LX.run LX.space ((bts s).drop (i + k)))) ∧ ∃ m, w' = w.drewN m := by
  obtain ⟨c0, c1, lt, le, sz⟩ := h
  have hi : (i : Int) ≤ 400000 := by omega
  have hk' : (k : Int) ≤ 500000 := by omega
  have HS := Lib.hid (show i ≤ s.size ∧ s.size ≤ 400000 from ⟨le, sz⟩)
  clear le sz
  have eg : ∀ (args : Array Value) (w : World), (callFunc 86 args).run Tryz.prog w = .ok (.enter 86 args) w := enters_of Tryz.func86 (by kernel_rfl) rfl
  go_enter Tryz.func85, Tryz.ntmps85
  go_wp2_with fail
  go_loopg [7] (s.size + 1) (fun gk v wr => ∃ n m : Nat, n ≤ s.size ∧ gk = s.size + 1 - n ∧ v = .int .i64 n ∧ wr = w.drewN m ∧ LX.run LX.space ((bts s).drop (i + k)) = n + LX.run LX.space ((bts s).drop (i + k + n)))
  case atStart => exact ⟨0, 0, Nat.zero_le _, rfl, rfl, rfl, by simp⟩
  case round =>
    obtain ⟨n, m, hn, hgk, rfl, rfl, hrun⟩ := hrel
    have H1 := Lib.hid hgk
    have H2 := Lib.hid hrun
    have hn4 : (n : Int) ≤ 400000 := by have := HS.out; omega
    clear hgk hrun hn
    have hw1 : IntKind.i64.wrap ((i : Int) + (k : Int)) = (i : Int) + (k : Int) := wrap_in _ (by omega)
    have hw2 : IntKind.i64.wrap ((i : Int) + (k : Int) + (n : Int)) = (i : Int) + (k : Int) + (n : Int) := wrap_in _ (by omega)
    by_cases hlt : i + k + n < s.size
    · have hltz : (i : Int) + (k : Int) + (n : Int) < (s.size : Int) := by omega
      have hix := fun m => run_byte s ((i : Int) + (k : Int) + (n : Int)) (i + k + n) (by omega) hlt m
      obtain ⟨c, hc⟩ : ∃ c, c = (bts s).getD (i + k + n) 0 := ⟨_, rfl⟩
      rw [← hc] at hix
      have HL := Lib.hid hlt
      have HC := Lib.hid hc
      clear hlt hc
      cases hp : LX.space c with
      | true =>
        have law : Hid (∀ W : World, Calls Tryz.prog 86 #[.int .u8 c] W fun e w' => e = .returned (.bool true) ∧ w' = W) := fun W => by have := space_any W c; rw [hp] at this; exact this
        have HP := Lib.hid hp
        clear hp
        go_wp2_with fail
        refine wp_region_quiet_lit (by kernel_rfl) (by kernel_rfl) ?_
        repeat (quiet_step ((go_at_call 86; exact (law.out _).mono fun e w'' ⟨he, hw⟩ => ⟨he, _, hw⟩)))
        refine wpQuiet_nil ?_
        intro _ hw'
        obtain ⟨nq, hw''⟩ := hw'
        subst hw''
        go_wp2_with fail
        go_roundg (s.size + 1 - (n + 1))
        case measure => have := H1.out; have := HL.out; omega
        case rel =>
          refine ⟨n + 1, _, by have := HL.out; omega, rfl, by go_num, by first | rfl | exact World.drewN_drewN _ _ _, ?_⟩
          have e := run_drop LX.space (bts s) (i + k + n) (by rw [bts_length]; exact HL.out)
          rw [← HC.out, if_pos HP.out] at e
          rw [H2.out, e]
          have e2 : i + k + (n + 1) = i + k + n + 1 := by omega
          rw [e2]
          omega
      | false =>
        have law : Hid (∀ W : World, Calls Tryz.prog 86 #[.int .u8 c] W fun e w' => e = .returned (.bool false) ∧ w' = W) := fun W => by have := space_any W c; rw [hp] at this; exact this
        have HP := Lib.hid hp
        clear hp
        go_wp2_with fail
        refine wp_region_quiet_lit (by kernel_rfl) (by kernel_rfl) ?_
        repeat (quiet_step ((go_at_call 86; exact (law.out _).mono fun e w'' ⟨he, hw⟩ => ⟨he, _, hw⟩)))
        refine wpQuiet_nil ?_
        intro _ hw'
        obtain ⟨nq, hw''⟩ := hw'
        subst hw''
        go_wp2_with fail
        go_ret
        refine ⟨?_, _, by first | rfl | exact World.drewN_drewN _ _ _⟩
        have e := run_drop LX.space (bts s) (i + k + n) (by rw [bts_length]; exact HL.out)
        rw [← HC.out, if_neg (by rw [HP.out]; decide)] at e
        rw [H2.out, e]
        rfl
    · have hltz : (s.size : Int) ≤ (i : Int) + (k : Int) + (n : Int) := by omega
      have hdec : ¬ (i : Int) + (k : Int) + (n : Int) < (s.size : Int) := by omega
      have hdec2 : decide ((i : Int) + (k : Int) + (n : Int) < (s.size : Int)) = false := decide_eq_false hdec
      clear hdec
      have HL := Lib.hid hlt
      clear hlt
      go_wp2_with fail
      go_quiet (fail)
      go_wp2_with fail
      go_ret
      refine ⟨?_, _, by first | rfl | exact World.drewN_drewN _ _ _⟩
      have e := run_end LX.space (bts s) (i + k + n) (by rw [bts_length]; have := HL.out; omega)
      rw [H2.out, e]
      rfl

set_option maxHeartbeats 1000000 in
set_option maxRecDepth 20000 in
theorem run_digit {w : World} {b : Nat} {s : ByteArray} {i : Nat} (h : At w b s i) (k : Nat) (hk : k ≤ 500000) :
    Calls Tryz.prog 85 #[.pointer (some ⟨b, 0, none⟩), .int .i64 k, .func (.func 90) #[] #[]] w fun e w' => e = .returned (.int .i64 (LX.run LX.digit ((bts s).drop (i + k)))) ∧ ∃ m, w' = w.drewN m := by
  obtain ⟨c0, c1, lt, le, sz⟩ := h
  have hi : (i : Int) ≤ 400000 := by omega
  have hk' : (k : Int) ≤ 500000 := by omega
  have HS := Lib.hid (show i ≤ s.size ∧ s.size ≤ 400000 from ⟨le, sz⟩)
  clear le sz
  have eg : ∀ (args : Array Value) (w : World), (callFunc 90 args).run Tryz.prog w = .ok (.enter 90 args) w := enters_of Tryz.func90 (by kernel_rfl) rfl
  go_enter Tryz.func85, Tryz.ntmps85
  go_wp2_with fail
  go_loopg [7] (s.size + 1) (fun gk v wr => ∃ n m : Nat, n ≤ s.size ∧ gk = s.size + 1 - n ∧ v = .int .i64 n ∧ wr = w.drewN m ∧ LX.run LX.digit ((bts s).drop (i + k)) = n + LX.run LX.digit ((bts s).drop (i + k + n)))
  case atStart => exact ⟨0, 0, Nat.zero_le _, rfl, rfl, rfl, by simp⟩
  case round =>
    obtain ⟨n, m, hn, hgk, rfl, rfl, hrun⟩ := hrel
    have H1 := Lib.hid hgk
    have H2 := Lib.hid hrun
    have hn4 : (n : Int) ≤ 400000 := by have := HS.out; omega
    clear hgk hrun hn
    have hw1 : IntKind.i64.wrap ((i : Int) + (k : Int)) = (i : Int) + (k : Int) := wrap_in _ (by omega)
    have hw2 : IntKind.i64.wrap ((i : Int) + (k : Int) + (n : Int)) = (i : Int) + (k : Int) + (n : Int) := wrap_in _ (by omega)
    by_cases hlt : i + k + n < s.size
    · have hltz : (i : Int) + (k : Int) + (n : Int) < (s.size : Int) := by omega
      have hix := fun m => run_byte s ((i : Int) + (k : Int) + (n : Int)) (i + k + n) (by omega) hlt m
      obtain ⟨c, hc⟩ : ∃ c, c = (bts s).getD (i + k + n) 0 := ⟨_, rfl⟩
      rw [← hc] at hix
      have HL := Lib.hid hlt
      have HC := Lib.hid hc
      clear hlt hc
      cases hp : LX.digit c with
      | true =>
        have law : Hid (∀ W : World, Calls Tryz.prog 90 #[.int .u8 c] W fun e w' => e = .returned (.bool true) ∧ w' = W) := fun W => by have := digit_any W c; rw [hp] at this; exact this
        have HP := Lib.hid hp
        clear hp
        go_wp2_with fail
        refine wp_region_quiet_lit (by kernel_rfl) (by kernel_rfl) ?_
        repeat (quiet_step ((go_at_call 90; exact (law.out _).mono fun e w'' ⟨he, hw⟩ => ⟨he, _, hw⟩)))
        refine wpQuiet_nil ?_
        intro _ hw'
        obtain ⟨nq, hw''⟩ := hw'
        subst hw''
        go_wp2_with fail
        go_roundg (s.size + 1 - (n + 1))
        case measure => have := H1.out; have := HL.out; omega
        case rel =>
          refine ⟨n + 1, _, by have := HL.out; omega, rfl, by go_num, by first | rfl | exact World.drewN_drewN _ _ _, ?_⟩
          have e := run_drop LX.digit (bts s) (i + k + n) (by rw [bts_length]; exact HL.out)
          rw [← HC.out, if_pos HP.out] at e
          rw [H2.out, e]
          have e2 : i + k + (n + 1) = i + k + n + 1 := by omega
          rw [e2]
          omega
      | false =>
        have law : Hid (∀ W : World, Calls Tryz.prog 90 #[.int .u8 c] W fun e w' => e = .returned (.bool false) ∧ w' = W) := fun W => by have := digit_any W c; rw [hp] at this; exact this
        have HP := Lib.hid hp
        clear hp
        go_wp2_with fail
        refine wp_region_quiet_lit (by kernel_rfl) (by kernel_rfl) ?_
        repeat (quiet_step ((go_at_call 90; exact (law.out _).mono fun e w'' ⟨he, hw⟩ => ⟨he, _, hw⟩)))
        refine wpQuiet_nil ?_
        intro _ hw'
        obtain ⟨nq, hw''⟩ := hw'
        subst hw''
        go_wp2_with fail
        go_ret
        refine ⟨?_, _, by first | rfl | exact World.drewN_drewN _ _ _⟩
        have e := run_drop LX.digit (bts s) (i + k + n) (by rw [bts_length]; exact HL.out)
        rw [← HC.out, if_neg (by rw [HP.out]; decide)] at e
        rw [H2.out, e]
        rfl
    · have hltz : (s.size : Int) ≤ (i : Int) + (k : Int) + (n : Int) := by omega
      have hdec : ¬ (i : Int) + (k : Int) + (n : Int) < (s.size : Int) := by omega
      have hdec2 : decide ((i : Int) + (k : Int) + (n : Int) < (s.size : Int)) = false := decide_eq_false hdec
      clear hdec
      have HL := Lib.hid hlt
      clear hlt
      go_wp2_with fail
      go_quiet (fail)
      go_wp2_with fail
      go_ret
      refine ⟨?_, _, by first | rfl | exact World.drewN_drewN _ _ _⟩
      have e := run_end LX.digit (bts s) (i + k + n) (by rw [bts_length]; have := HL.out; omega)
      rw [H2.out, e]
      rfl

set_option maxHeartbeats 1000000 in
set_option maxRecDepth 20000 in
theorem run_part {w : World} {b : Nat} {s : ByteArray} {i : Nat} (h : At w b s i) (k : Nat) (hk : k ≤ 500000) :
    Calls Tryz.prog 85 #[.pointer (some ⟨b, 0, none⟩), .int .i64 k, .func (.func 96) #[] #[]] w fun e w' => e = .returned (.int .i64 (LX.run LX.part ((bts s).drop (i + k)))) ∧ ∃ m, w' = w.drewN m := by
  obtain ⟨c0, c1, lt, le, sz⟩ := h
  have hi : (i : Int) ≤ 400000 := by omega
  have hk' : (k : Int) ≤ 500000 := by omega
  have HS := Lib.hid (show i ≤ s.size ∧ s.size ≤ 400000 from ⟨le, sz⟩)
  clear le sz
  have eg : ∀ (args : Array Value) (w : World), (callFunc 96 args).run Tryz.prog w = .ok (.enter 96 args) w := enters_of Tryz.func96 (by kernel_rfl) rfl
  go_enter Tryz.func85, Tryz.ntmps85
  go_wp2_with fail
  go_loopg [7] (s.size + 1) (fun gk v wr => ∃ n m : Nat, n ≤ s.size ∧ gk = s.size + 1 - n ∧ v = .int .i64 n ∧ wr = w.drewN m ∧ LX.run LX.part ((bts s).drop (i + k)) = n + LX.run LX.part ((bts s).drop (i + k + n)))
  case atStart => exact ⟨0, 0, Nat.zero_le _, rfl, rfl, rfl, by simp⟩
  case round =>
    obtain ⟨n, m, hn, hgk, rfl, rfl, hrun⟩ := hrel
    have H1 := Lib.hid hgk
    have H2 := Lib.hid hrun
    have hn4 : (n : Int) ≤ 400000 := by have := HS.out; omega
    clear hgk hrun hn
    have hw1 : IntKind.i64.wrap ((i : Int) + (k : Int)) = (i : Int) + (k : Int) := wrap_in _ (by omega)
    have hw2 : IntKind.i64.wrap ((i : Int) + (k : Int) + (n : Int)) = (i : Int) + (k : Int) + (n : Int) := wrap_in _ (by omega)
    by_cases hlt : i + k + n < s.size
    · have hltz : (i : Int) + (k : Int) + (n : Int) < (s.size : Int) := by omega
      have hix := fun m => run_byte s ((i : Int) + (k : Int) + (n : Int)) (i + k + n) (by omega) hlt m
      obtain ⟨c, hc⟩ : ∃ c, c = (bts s).getD (i + k + n) 0 := ⟨_, rfl⟩
      rw [← hc] at hix
      have HL := Lib.hid hlt
      have HC := Lib.hid hc
      clear hlt hc
      cases hp : LX.part c with
      | true =>
        have law : Hid (∀ W : World, Calls Tryz.prog 96 #[.int .u8 c] W fun e w' => e = .returned (.bool true) ∧ w' = W) := fun W => by have := part_any W c; rw [hp] at this; exact this
        have HP := Lib.hid hp
        clear hp
        go_wp2_with fail
        refine wp_region_quiet_lit (by kernel_rfl) (by kernel_rfl) ?_
        repeat (quiet_step ((go_at_call 96; exact (law.out _).mono fun e w'' ⟨he, hw⟩ => ⟨he, _, hw⟩)))
        refine wpQuiet_nil ?_
        intro _ hw'
        obtain ⟨nq, hw''⟩ := hw'
        subst hw''
        go_wp2_with fail
        go_roundg (s.size + 1 - (n + 1))
        case measure => have := H1.out; have := HL.out; omega
        case rel =>
          refine ⟨n + 1, _, by have := HL.out; omega, rfl, by go_num, by first | rfl | exact World.drewN_drewN _ _ _, ?_⟩
          have e := run_drop LX.part (bts s) (i + k + n) (by rw [bts_length]; exact HL.out)
          rw [← HC.out, if_pos HP.out] at e
          rw [H2.out, e]
          have e2 : i + k + (n + 1) = i + k + n + 1 := by omega
          rw [e2]
          omega
      | false =>
        have law : Hid (∀ W : World, Calls Tryz.prog 96 #[.int .u8 c] W fun e w' => e = .returned (.bool false) ∧ w' = W) := fun W => by have := part_any W c; rw [hp] at this; exact this
        have HP := Lib.hid hp
        clear hp
        go_wp2_with fail
        refine wp_region_quiet_lit (by kernel_rfl) (by kernel_rfl) ?_
        repeat (quiet_step ((go_at_call 96; exact (law.out _).mono fun e w'' ⟨he, hw⟩ => ⟨he, _, hw⟩)))
        refine wpQuiet_nil ?_
        intro _ hw'
        obtain ⟨nq, hw''⟩ := hw'
        subst hw''
        go_wp2_with fail
        go_ret
        refine ⟨?_, _, by first | rfl | exact World.drewN_drewN _ _ _⟩
        have e := run_drop LX.part (bts s) (i + k + n) (by rw [bts_length]; exact HL.out)
        rw [← HC.out, if_neg (by rw [HP.out]; decide)] at e
        rw [H2.out, e]
        rfl
    · have hltz : (s.size : Int) ≤ (i : Int) + (k : Int) + (n : Int) := by omega
      have hdec : ¬ (i : Int) + (k : Int) + (n : Int) < (s.size : Int) := by omega
      have hdec2 : decide ((i : Int) + (k : Int) + (n : Int) < (s.size : Int)) = false := decide_eq_false hdec
      clear hdec
      have HL := Lib.hid hlt
      clear hlt
      go_wp2_with fail
      go_quiet (fail)
      go_wp2_with fail
      go_ret
      refine ⟨?_, _, by first | rfl | exact World.drewN_drewN _ _ _⟩
      have e := run_end LX.part (bts s) (i + k + n) (by rw [bts_length]; have := HL.out; omega)
      rw [H2.out, e]
      rfl

end Go.Proofs.YtfoijbcmjciihaaGreatDoor
