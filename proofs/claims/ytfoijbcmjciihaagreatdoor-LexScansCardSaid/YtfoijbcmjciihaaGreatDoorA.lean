/- The tests of a byte; a byte of the text; how many bytes are of a kind. -/
import Derived.Test.YtfoijbcmjciihaaGreatDoorProg
import Derived.Test.YtfoijbcmjciihaaGreatDoorS
import Derived.WalkKit
import Derived.Below
import Derived.Lib.Hide
import Derived.BigQuiet
import Derived.Deep.QuietTactic
import Derived.Deep.LoopGhost
import Derived.Handy
set_option linter.unusedSimpArgs false
set_option linter.unusedVariables false
namespace Go.Proofs.YtfoijbcmjciihaaGreatDoor
open Go.RowKit

theorem small_any (w : World) (c : Nat) : Calls Tryz.prog 92 #[.int .u8 c] w fun e w' => e = .returned (.bool (LX.small c)) ∧ w' = w := by
  by_cases h1 : 97 ≤ c
  · have k1 : (97 : Int) ≤ (c : Int) := by omega
    have e : LX.small c = decide ((c : Int) ≤ 122) := by unfold LX.small; rw [decide_eq_true h1, Bool.true_and]; exact decide_eq_decide.2 (by omega)
    rw [e]
    go_enter Tryz.func92, Tryz.ntmps92
    go_wp2
    go_ret
    exact ⟨rfl, rfl⟩
  · have k1 : (c : Int) < 97 := by omega
    have e : LX.small c = false := by unfold LX.small; rw [decide_eq_false h1, Bool.false_and]
    rw [e]
    go_enter Tryz.func92, Tryz.ntmps92
    go_wp2
    go_ret
    exact ⟨rfl, rfl⟩

theorem great_any (w : World) (c : Nat) : Calls Tryz.prog 94 #[.int .u8 c] w fun e w' => e = .returned (.bool (LX.great c)) ∧ w' = w := by
  by_cases h1 : 65 ≤ c
  · have k1 : (65 : Int) ≤ (c : Int) := by omega
    have e : LX.great c = decide ((c : Int) ≤ 90) := by unfold LX.great; rw [decide_eq_true h1, Bool.true_and]; exact decide_eq_decide.2 (by omega)
    rw [e]
    go_enter Tryz.func94, Tryz.ntmps94
    go_wp2
    go_ret
    exact ⟨rfl, rfl⟩
  · have k1 : (c : Int) < 65 := by omega
    have e : LX.great c = false := by unfold LX.great; rw [decide_eq_false h1, Bool.false_and]
    rw [e]
    go_enter Tryz.func94, Tryz.ntmps94
    go_wp2
    go_ret
    exact ⟨rfl, rfl⟩

theorem digit_any (w : World) (c : Nat) : Calls Tryz.prog 90 #[.int .u8 c] w fun e w' => e = .returned (.bool (LX.digit c)) ∧ w' = w := by
  by_cases h1 : 48 ≤ c
  · have k1 : (48 : Int) ≤ (c : Int) := by omega
    have e : LX.digit c = decide ((c : Int) ≤ 57) := by unfold LX.digit; rw [decide_eq_true h1, Bool.true_and]; exact decide_eq_decide.2 (by omega)
    rw [e]
    go_enter Tryz.func90, Tryz.ntmps90
    go_wp2
    go_ret
    exact ⟨rfl, rfl⟩
  · have k1 : (c : Int) < 48 := by omega
    have e : LX.digit c = false := by unfold LX.digit; rw [decide_eq_false h1, Bool.false_and]
    rw [e]
    go_enter Tryz.func90, Tryz.ntmps90
    go_wp2
    go_ret
    exact ⟨rfl, rfl⟩

theorem space_any (w : World) (c : Nat) : Calls Tryz.prog 86 #[.int .u8 c] w fun e w' => e = .returned (.bool (LX.space c)) ∧ w' = w := by
  by_cases h1 : c = 32
  · subst h1
    go_enter Tryz.func86, Tryz.ntmps86
    go_wp2
    go_ret
    exact ⟨rfl, rfl⟩
  · by_cases h2 : c = 9
    · subst h2
      go_enter Tryz.func86, Tryz.ntmps86
      go_wp2
      go_ret
      exact ⟨rfl, rfl⟩
    · by_cases h3 : c = 10
      · subst h3
        go_enter Tryz.func86, Tryz.ntmps86
        go_wp2
        go_ret
        exact ⟨rfl, rfl⟩
      · have k1 : ((c : Int) == 32) = false := by simp; omega
        have k2 : ((c : Int) == 9) = false := by simp; omega
        have k3 : ((c : Int) == 10) = false := by simp; omega
        have e : LX.space c = ((c : Int) == 13) := by
          unfold LX.space
          rw [show (c == 32) = false from by simp [h1], show (c == 9) = false from by simp [h2], show (c == 10) = false from by simp [h3], Bool.false_or, Bool.false_or, Bool.false_or]
          by_cases h4 : c = 13
          · subst h4; rfl
          · rw [show (c == 13) = false from by simp [h4]]; symm; simp; omega
        rw [e]
        have h1' : ¬ (c : Int) = 32 := by omega
        have h2' : ¬ (c : Int) = 9 := by omega
        have h3' : ¬ (c : Int) = 10 := by omega
        clear e h1 h2 h3
        go_enter Tryz.func86, Tryz.ntmps86
        go_wp2
        go_ret
        exact ⟨rfl, rfl⟩

theorem part_any (w : World) (c : Nat) : Calls Tryz.prog 96 #[.int .u8 c] w fun e w' => e = .returned (.bool (LX.part c)) ∧ w' = w := by
  unfold LX.part
  have s := small_any w c
  have g := great_any w c
  have d := digit_any w c
  cases hs : LX.small c with
  | true =>
    rw [hs] at s
    go_enter Tryz.func96, Tryz.ntmps96
    go_wp2_with (go_at_call 92; refine s.mono ?_; rintro e w' ⟨rfl, rfl⟩)
    go_ret
    exact ⟨rfl, rfl⟩
  | false =>
    rw [hs] at s
    cases hg : LX.great c with
    | true =>
      rw [hg] at g
      go_enter Tryz.func96, Tryz.ntmps96
      go_wp2_with (first
        | (go_at_call 92; refine s.mono ?_; rintro e w' ⟨rfl, rfl⟩)
        | (go_at_call 94; refine g.mono ?_; rintro e w' ⟨rfl, rfl⟩))
      go_ret
      exact ⟨rfl, rfl⟩
    | false =>
      rw [hg] at g
      cases hd : LX.digit c with
      | true =>
        rw [hd] at d
        go_enter Tryz.func96, Tryz.ntmps96
        go_wp2_with (first
          | (go_at_call 92; refine s.mono ?_; rintro e w' ⟨rfl, rfl⟩)
          | (go_at_call 94; refine g.mono ?_; rintro e w' ⟨rfl, rfl⟩)
          | (go_at_call 90; refine d.mono ?_; rintro e w' ⟨rfl, rfl⟩))
        go_ret
        exact ⟨rfl, rfl⟩
      | false =>
        rw [hd] at d
        go_enter Tryz.func96, Tryz.ntmps96
        go_wp2_with (first
          | (go_at_call 92; refine s.mono ?_; rintro e w' ⟨rfl, rfl⟩)
          | (go_at_call 94; refine g.mono ?_; rintro e w' ⟨rfl, rfl⟩)
          | (go_at_call 90; refine d.mono ?_; rintro e w' ⟨rfl, rfl⟩))
        go_ret
        refine ⟨?_, rfl⟩
        show Ending.returned (Value.bool _) = _
        congr 2
        by_cases h : c = 95
        · subst h; rfl
        · rw [show (c == 95) = false from by simp [h]]; simp; omega
end Go.Proofs.YtfoijbcmjciihaaGreatDoor
