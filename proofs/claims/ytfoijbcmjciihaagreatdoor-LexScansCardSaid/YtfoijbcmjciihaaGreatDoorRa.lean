/- The reference's small functions: walked. -/
import Derived.Test.YtfoijbcmjciihaaGreatDoorNw
import Derived.Test.YtfoijbcmjciihaaGreatDoorBa
import Derived.Test.YtfoijbcmjciihaaGreatDoorC
import Derived.Test.YtfoijbcmjciihaaGreatDoorQ
set_option linter.unusedSimpArgs false
set_option linter.unusedVariables false
namespace Go.Proofs.YtfoijbcmjciihaaGreatDoor
open Go.RowKit

theorem rsmall_any (w : World) (c : Nat) : Calls Tryz.prog 54 #[.int .u8 c] w fun e w' => e = .returned (.bool (LX.small c)) ∧ w' = w := by
  by_cases h1 : 97 ≤ c
  · have k1 : (97 : Int) ≤ (c : Int) := by omega
    have e : LX.small c = decide ((c : Int) ≤ 122) := by unfold LX.small; rw [decide_eq_true h1, Bool.true_and]; exact decide_eq_decide.2 (by omega)
    rw [e]
    go_enter Tryz.func54, Tryz.ntmps54
    go_wp2
    go_ret
    exact ⟨rfl, rfl⟩
  · have k1 : (c : Int) < 97 := by omega
    have e : LX.small c = false := by unfold LX.small; rw [decide_eq_false h1, Bool.false_and]
    rw [e]
    go_enter Tryz.func54, Tryz.ntmps54
    go_wp2
    go_ret
    exact ⟨rfl, rfl⟩

theorem rgreat_any (w : World) (c : Nat) : Calls Tryz.prog 56 #[.int .u8 c] w fun e w' => e = .returned (.bool (LX.great c)) ∧ w' = w := by
  by_cases h1 : 65 ≤ c
  · have k1 : (65 : Int) ≤ (c : Int) := by omega
    have e : LX.great c = decide ((c : Int) ≤ 90) := by unfold LX.great; rw [decide_eq_true h1, Bool.true_and]; exact decide_eq_decide.2 (by omega)
    rw [e]
    go_enter Tryz.func56, Tryz.ntmps56
    go_wp2
    go_ret
    exact ⟨rfl, rfl⟩
  · have k1 : (c : Int) < 65 := by omega
    have e : LX.great c = false := by unfold LX.great; rw [decide_eq_false h1, Bool.false_and]
    rw [e]
    go_enter Tryz.func56, Tryz.ntmps56
    go_wp2
    go_ret
    exact ⟨rfl, rfl⟩

theorem rinner_any (w : World) (c : Nat) : Calls Tryz.prog 53 #[.int .u8 c] w fun e w' => e = .returned (.bool (LX.part c)) ∧ w' = w := by
  unfold LX.part
  have s := rsmall_any w c
  have g := rgreat_any w c
  have d := rdigit_any w c
  cases hs : LX.small c with
  | true =>
    rw [hs] at s
    go_enter Tryz.func53, Tryz.ntmps53
    go_wp2_with (go_at_call 54; refine s.mono ?_; rintro e w' ⟨rfl, rfl⟩)
    go_ret
    exact ⟨rfl, rfl⟩
  | false =>
    rw [hs] at s
    cases hg : LX.great c with
    | true =>
      rw [hg] at g
      go_enter Tryz.func53, Tryz.ntmps53
      go_wp2_with (first
        | (go_at_call 54; refine s.mono ?_; rintro e w' ⟨rfl, rfl⟩)
        | (go_at_call 56; refine g.mono ?_; rintro e w' ⟨rfl, rfl⟩))
      go_ret
      exact ⟨rfl, rfl⟩
    | false =>
      rw [hg] at g
      cases hd : LX.digit c with
      | true =>
        rw [hd] at d
        go_enter Tryz.func53, Tryz.ntmps53
        go_wp2_with (first
          | (go_at_call 54; refine s.mono ?_; rintro e w' ⟨rfl, rfl⟩)
          | (go_at_call 56; refine g.mono ?_; rintro e w' ⟨rfl, rfl⟩)
          | (go_at_call 52; refine d.mono ?_; rintro e w' ⟨rfl, rfl⟩))
        go_ret
        exact ⟨rfl, rfl⟩
      | false =>
        rw [hd] at d
        go_enter Tryz.func53, Tryz.ntmps53
        go_wp2_with (first
          | (go_at_call 54; refine s.mono ?_; rintro e w' ⟨rfl, rfl⟩)
          | (go_at_call 56; refine g.mono ?_; rintro e w' ⟨rfl, rfl⟩)
          | (go_at_call 52; refine d.mono ?_; rintro e w' ⟨rfl, rfl⟩))
        go_ret
        refine ⟨?_, rfl⟩
        show Ending.returned (Value.bool _) = _
        congr 2
        by_cases h : c = 95
        · subst h; rfl
        · rw [show (c == 95) = false from by simp [h]]; simp; omega

theorem rspace_any (w : World) (c : Nat) : Calls Tryz.prog 33 #[.int .u8 c] w fun e w' => e = .returned (.bool (LX.space c)) ∧ w' = w := by
  by_cases h2 : c = 9
  · subst h2
    go_enter Tryz.func33, Tryz.ntmps33
    go_wp2
    go_ret
    exact ⟨rfl, rfl⟩
  · by_cases h3 : c = 10
    · subst h3
      go_enter Tryz.func33, Tryz.ntmps33
      go_wp2
      go_ret
      exact ⟨rfl, rfl⟩
    · by_cases h4 : c = 13
      · subst h4
        go_enter Tryz.func33, Tryz.ntmps33
        go_wp2
        go_ret
        exact ⟨rfl, rfl⟩
      · by_cases h1 : c = 32
        · subst h1
          go_enter Tryz.func33, Tryz.ntmps33
          go_wp2
          go_ret
          exact ⟨rfl, rfl⟩
        · have k1 : ((c : Int) == 32) = false := beq_false_of_ne (by omega)
          have k2 : ((c : Int) == 9) = false := beq_false_of_ne (by omega)
          have k3 : ((c : Int) == 10) = false := beq_false_of_ne (by omega)
          have k4 : ((c : Int) == 13) = false := beq_false_of_ne (by omega)
          have e : LX.space c = false := by
            unfold LX.space
            rw [show (c == 32) = false from beq_false_of_ne h1, show (c == 9) = false from beq_false_of_ne h2, show (c == 10) = false from beq_false_of_ne h3, show (c == 13) = false from beq_false_of_ne h4]
            rfl
          rw [e]
          clear e h1 h2 h3 h4
          go_enter Tryz.func33, Tryz.ntmps33
          go_wp2
          go_ret
          exact ⟨rfl, rfl⟩

/-- A run from a place on. -/
theorem rplain_any (w : World) (s : ByteArray) (hs : s.size ≤ 400000) (i : Nat) (hi : i ≤ s.size) : Calls Tryz.prog 55 #[.string s, .int .i64 i] w fun e w' => e = .returned (.int .i64 ((i + LX.run LX.part ((bts s).drop i) : Nat) : Int)) ∧ w' = w := by
  have hz : (s.size : Int) ≤ 400000 := by omega
  have HI : Hid (i ≤ s.size) := hi
  obtain ⟨r, hr0⟩ : ∃ r, r = i + LX.run LX.part ((bts s).drop i) := ⟨_, rfl⟩
  rw [← hr0]
  have HR0 := Lib.hid hr0
  clear hs hi hr0
  go_enter Tryz.func55, Tryz.ntmps55
  go_wp2_with fail
  go_loop [5] (fun j => ∃ k : Nat, i ≤ k ∧ k ≤ s.size ∧ j = .int .i64 k ∧ r = k + LX.run LX.part ((bts s).drop k)) (fun j => s.size - (intOf j).toNat)
  case atStart => exact ⟨i, Nat.le_refl _, HI.out, rfl, HR0.out⟩
  case round =>
    obtain ⟨k, hk1, hk2, rfl, hr⟩ := hrel
    have HR := Lib.hid hr
    have HK := Lib.hid hk1
    clear hr hk1
    by_cases hlt : k < s.size
    · have hlz : (k : Int) < (s.size : Int) := by omega
      obtain ⟨c, hc⟩ : ∃ c, (bts s).getD k 0 = c := ⟨_, rfl⟩
      have bk := byte_at s hlt hc
      have hrun := run_drop LX.part (bts s) k (by rw [bts_length]; exact hlt)
      rw [hc] at hrun
      have HRUN := Lib.hid hrun
      have HLT := Lib.hid hlt
      have D := rinner_any w c
      cases hp : LX.part c with
      | true =>
        rw [hp] at D
        have HD := Lib.hid D
        have HP := Lib.hid hp
        clear hrun hc D hp hlt hk2
        go_wp2_with fail
        refine HD.out.mono ?_
        rintro e w1 ⟨rfl, rfl⟩
        go_wp2_with fail
        go_round
        case rel => exact ⟨k + 1, by have := HK.out; omega, HLT.out, by go_num, by rw [HR.out, HRUN.out, if_pos HP.out]; omega⟩
        case measure => have := HLT.out; simp [intOf]; omega
      | false =>
        rw [hp] at D
        have HD := Lib.hid D
        have HP := Lib.hid hp
        clear hrun hc D hp hlt hk2
        go_wp2_with fail
        refine HD.out.mono ?_
        rintro e w1 ⟨rfl, rfl⟩
        go_wp2_with fail
        go_ret
        refine ⟨?_, rfl⟩
        rw [HR.out, HRUN.out, if_neg (by rw [HP.out]; decide)]
        rfl
    · have hge : (s.size : Int) ≤ (k : Int) := by omega
      have hend : LX.run LX.part ((bts s).drop k) = 0 := by rw [List.drop_of_length_le (by rw [bts_length]; omega)]; rfl
      have HE := Lib.hid hend
      clear hend hlt hk2
      go_wp2_with fail
      go_ret
      refine ⟨?_, rfl⟩
      rw [HR.out, HE.out]
      rfl
end Go.Proofs.YtfoijbcmjciihaaGreatDoor
