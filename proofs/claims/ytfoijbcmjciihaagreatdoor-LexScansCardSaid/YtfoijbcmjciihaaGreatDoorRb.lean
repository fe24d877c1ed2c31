/- The reference's names: walked. -/
import Derived.Test.YtfoijbcmjciihaaGreatDoorRa
set_option linter.unusedSimpArgs false
set_option linter.unusedVariables false
namespace Go.Proofs.YtfoijbcmjciihaaGreatDoor
open Go.RowKit

theorem run_spec (p : Nat → Bool) (T : List Nat) (i : Nat) : (∀ k, i ≤ k → k < i + LX.run p (T.drop i) → k < T.length ∧ p (T.getD k 0) = true ∧ LX.run p (T.drop i) = (k - i) + LX.run p (T.drop k)) ∧ (i ≤ T.length → i + LX.run p (T.drop i) ≤ T.length) := by
  generalize hn : LX.run p (T.drop i) = n
  induction n generalizing i with
  | zero => exact ⟨fun k h1 h2 => by omega, fun h => by omega⟩
  | succ n ih =>
    have hl : i < T.length := by
      rcases Nat.lt_or_ge i T.length with h | h
      · exact h
      · rw [List.drop_of_length_le h] at hn; cases hn
    have hs := LX.run_step (p := p) hl
    rw [hn] at hs
    cases hp : p (T.getD i 0) with
    | false => rw [hp] at hs; simp at hs
    | true =>
      rw [hp, if_pos rfl] at hs
      obtain ⟨h1, h2⟩ := ih (i + 1) (by omega)
      refine ⟨fun k a b => ?_, fun _ => by have := h2 (by omega); omega⟩
      rcases Nat.eq_or_lt_of_le a with e | e
      · subst e
        exact ⟨hl, hp, by rw [hn]; omega⟩
      · obtain ⟨c1, c2, c3⟩ := h1 k (by omega) (by omega)
        exact ⟨c1, c2, by omega⟩

theorem nameLen_at {T : List Nat} {i n : Nat} (hn : n = LX.run LX.part (T.drop i)) : LX.nameLen (T.drop i) = if i + n < T.length ∧ T.getD (i + n) 0 = 39 ∧ 0 < LX.run LX.digit (T.drop (i + n + 1)) then n + 1 + LX.run LX.digit (T.drop (i + n + 1)) else n := by
  unfold LX.nameLen
  simp only [← hn, List.drop_drop]
  rcases Nat.lt_or_ge (i + n) T.length with h | h
  · rw [LX.drop_get h]
    simp only []
    by_cases hc : T.getD (i + n) 0 = 39 ∧ 0 < LX.run LX.digit (T.drop (i + n + 1))
    · rw [if_pos hc, if_pos ⟨h, hc⟩]
    · rw [if_neg hc, if_neg (fun e => hc e.2)]
  · rw [List.drop_of_length_le h, if_neg (fun e => by omega)]


set_option maxHeartbeats 2000000 in
set_option maxRecDepth 50000 in
/-- Behind the letters. -/
theorem rnamed_any (w : World) (s : ByteArray) (hs : s.size ≤ 400000) (i : Nat) (hi : i ≤ s.size) : Calls Tryz.prog 57 #[.string s, .int .i64 i] w fun e w' => e = .returned (.int .i64 ((i + LX.nameLen ((bts s).drop i) : Nat) : Int)) ∧ w' = w := by
  obtain ⟨n, hn⟩ : ∃ n, n = LX.run LX.part ((bts s).drop i) := ⟨_, rfl⟩
  have hnl := nameLen_at hn
  obtain ⟨sp1, sp2⟩ := run_spec LX.part (bts s) i
  rw [← hn] at sp1 sp2
  have hle := sp2 (by rw [bts_length]; exact hi)
  obtain ⟨m, hm⟩ : ∃ m, m = LX.run LX.digit ((bts s).drop (i + n + 1)) := ⟨_, rfl⟩
  rw [← hm] at hnl
  obtain ⟨sq1, sq2⟩ := run_spec LX.digit (bts s) (i + n + 1)
  rw [← hm] at sq1 sq2
  have hstop : i + n < s.size → LX.part ((bts s).getD (i + n) 0) = false := fun h => LX.run_stops LX.part (bts s) n i hn.symm (by rw [bts_length]; exact h)
  have hstop2 : i + n + 1 + m < s.size → LX.digit ((bts s).getD (i + n + 1 + m) 0) = false := fun h => LX.run_stops LX.digit (bts s) m (i + n + 1) hm.symm (by rw [bts_length]; exact h)
  rw [bts_length] at hnl hle
  simp only [bts_length] at sp1 sq1 sq2
  obtain ⟨j0, hj0⟩ : ∃ j, j = i + n := ⟨_, rfl⟩
  obtain ⟨L, hL⟩ : ∃ L, L = LX.nameLen ((bts s).drop i) := ⟨_, rfl⟩
  rw [← hL] at hnl ⊢
  rw [← hj0] at hnl hle sp1 sq1 sq2 hstop hstop2
  have hz : (s.size : Int) ≤ 400000 := by omega
  have HJ := Lib.hid hj0
  have HNL := Lib.hid hnl
  have SP1 := Lib.hid sp1
  have SQ1 := Lib.hid sq1
  have ST1 := Lib.hid hstop
  have ST2 := Lib.hid hstop2
  have HLE : Hid (i ≤ j0 ∧ j0 ≤ s.size) := ⟨by omega, hle⟩
  have HM2 : Hid (j0 < s.size → j0 + 1 + m ≤ s.size) := fun h => sq2 (by omega)
  clear hn hnl sp1 sp2 hm sq1 sq2 hstop hstop2 hle hj0 hL hs hi
  go_enter Tryz.func57, Tryz.ntmps57
  go_wp2_with fail
  go_loop [5] (fun j => ∃ k : Nat, i ≤ k ∧ k ≤ j0 ∧ j = .int .i64 k) (fun j => s.size - (intOf j).toNat)
  case atStart => exact ⟨i, Nat.le_refl _, HLE.out.1, rfl⟩
  case round =>
    obtain ⟨k, hk1, hk2, rfl⟩ := hrel
    have HK : Hid (i ≤ k) := hk1
    clear hk1
    by_cases hlt : k < j0
    · have hks : k < s.size := by have := HLE.out.2; omega
      have hkz : (k : Int) < (s.size : Int) := by omega
      obtain ⟨c, hc⟩ : ∃ c, (bts s).getD k 0 = c := ⟨_, rfl⟩
      have bk := byte_at s hks hc
      have hp := (SP1.out k HK.out hlt).2.1
      rw [hc] at hp
      have D := rinner_any w c
      rw [hp] at D
      have HD := Lib.hid D
      have HLT : Hid (k < j0) := hlt
      clear hc hp D hlt hk2
      go_wp2_with fail
      refine HD.out.mono ?_
      rintro e w1 ⟨rfl, rfl⟩
      go_wp2_with fail
      go_round
      case rel => exact ⟨k + 1, by have := HK.out; omega, HLT.out, by go_num⟩
      case measure => have := HLT.out; have := HLE.out.2; simp [intOf]; omega
    · obtain rfl : k = j0 := by omega
      clear hk2 hlt
      by_cases hend : k < s.size
      · have hkz : (k : Int) < (s.size : Int) := by omega
        obtain ⟨c, hc⟩ : ∃ c, (bts s).getD k 0 = c := ⟨_, rfl⟩
        have bk := byte_at s hend hc
        have hp := ST1.out hend
        rw [hc] at hp
        have D := rinner_any w c
        rw [hp] at D
        have HD := Lib.hid D
        have HC := Lib.hid hc
        have HEND : Hid (k < s.size) := hend
        clear hc hp D
        go_wp2_with fail
        refine HD.out.mono ?_
        rintro e w1 ⟨rfl, rfl⟩
        go_wp2_with fail
        go_loop [6] (fun q => ∃ p : Nat, k + 1 ≤ p ∧ p ≤ k + 1 + m ∧ q = .int .i64 p) (fun q => s.size - (intOf q).toNat)
        case atStart => exact ⟨k + 1, Nat.le_refl _, by omega, by go_num⟩
        case round =>
          obtain ⟨p, hp1, hp2, rfl⟩ := hrel
          have HP1 : Hid (k + 1 ≤ p) := hp1
          by_cases hpm : p < k + 1 + m
          · have hps := (SQ1.out p hp1 hpm).1
            have hpz : (p : Int) < (s.size : Int) := by omega
            obtain ⟨d, hd⟩ : ∃ d, (bts s).getD p 0 = d := ⟨_, rfl⟩
            have bp := byte_at s hps hd
            have hdd := (SQ1.out p hp1 hpm).2.1
            rw [hd] at hdd
            have DD := rdigit_any w1 d
            rw [hdd] at DD
            have HDD := Lib.hid DD
            have HPM : Hid (p < k + 1 + m ∧ p < s.size) := ⟨hpm, hps⟩
            clear hd hdd DD hpm hps hp1 hp2
            go_wp2_with fail
            refine HDD.out.mono ?_
            rintro e w2 ⟨rfl, rfl⟩
            go_wp2_with fail
            go_round
            case rel => exact ⟨p + 1, by have := HP1.out; omega, HPM.out.1, by go_num⟩
            case measure => have := HPM.out.2; simp [intOf]; omega
          · have HPE : Hid (p = k + 1 + m) := by show p = k + 1 + m; omega
            have hm2 := HM2.out hend
            clear hpm hp1 hp2
            by_cases hpe : p < s.size
            · have hpz : (p : Int) < (s.size : Int) := by omega
              obtain ⟨d, hd⟩ : ∃ d, (bts s).getD p 0 = d := ⟨_, rfl⟩
              have bp := byte_at s hpe hd
              have hdd := ST2.out (by rw [← HPE.out]; exact hpe)
              rw [← HPE.out, hd] at hdd
              have DD := rdigit_any w1 d
              rw [hdd] at DD
              have HDD := Lib.hid DD
              clear hd hdd DD
              by_cases h39 : c = 39
              · have k39 : ((c : Int) == 39) = true := by rw [h39]; rfl
                by_cases hm0 : 0 < m
                · have km : (k : Int) + 1 < (p : Int) := by have := HPE.out; omega
                  have hfin : L = n + 1 + m := by
                    have := HNL.out
                    rw [if_pos ⟨hend, by rw [HC.out]; exact h39, hm0⟩] at this
                    exact this
                  have HFIN := Lib.hid hfin
                  clear hfin h39 hm0 hend hm2 hpe
                  go_wp2_with fail
                  refine HDD.out.mono ?_
                  rintro e w2 ⟨rfl, rfl⟩
                  go_wp2_with fail
                  go_ret
                  refine ⟨?_, rfl⟩
                  rw [HFIN.out]
                  show Ending.returned (Value.int .i64 _) = Ending.returned (Value.int .i64 _)
                  congr 2
                  have := HJ.out
                  have := HPE.out
                  omega
                · have km : (p : Int) ≤ (k : Int) + 1 := by have := HPE.out; omega
                  have hfin : L = n := by
                    have := HNL.out
                    rw [if_neg (fun e => hm0 e.2.2)] at this
                    exact this
                  have HFIN := Lib.hid hfin
                  clear hfin h39 hm0 hend hm2 hpe
                  go_wp2_with fail
                  refine HDD.out.mono ?_
                  rintro e w2 ⟨rfl, rfl⟩
                  go_wp2_with fail
                  go_ret
                  refine ⟨?_, rfl⟩
                  rw [HFIN.out]
                  show Ending.returned (Value.int .i64 _) = Ending.returned (Value.int .i64 _)
                  congr 2
                  have := HJ.out
                  have := HPE.out
                  omega
              · have k39 : ((c : Int) == 39) = false := beq_false_of_ne (by omega)
                have hfin : L = n := by
                  have := HNL.out
                  rw [if_neg (fun e => h39 (by rw [← HC.out]; exact e.2.1))] at this
                  exact this
                have HFIN := Lib.hid hfin
                clear hfin h39 hend hm2 hpe
                go_wp2_with fail
                refine HDD.out.mono ?_
                rintro e w2 ⟨rfl, rfl⟩
                go_wp2_with fail
                go_ret
                refine ⟨?_, rfl⟩
                rw [HFIN.out]
                show Ending.returned (Value.int .i64 _) = Ending.returned (Value.int .i64 _)
                congr 2
                have := HJ.out
                have := HPE.out
                omega
            · have hpz : (s.size : Int) ≤ (p : Int) := by omega
              by_cases h39 : c = 39
              · have k39 : ((c : Int) == 39) = true := by rw [h39]; rfl
                by_cases hm0 : 0 < m
                · have km : (k : Int) + 1 < (p : Int) := by have := HPE.out; omega
                  have hfin : L = n + 1 + m := by
                    have := HNL.out
                    rw [if_pos ⟨hend, by rw [HC.out]; exact h39, hm0⟩] at this
                    exact this
                  have HFIN := Lib.hid hfin
                  clear hfin h39 hm0 hend hm2 hpe
                  go_wp2_with fail
                  go_ret
                  refine ⟨?_, rfl⟩
                  rw [HFIN.out]
                  show Ending.returned (Value.int .i64 _) = Ending.returned (Value.int .i64 _)
                  congr 2
                  have := HJ.out
                  have := HPE.out
                  omega
                · have km : (p : Int) ≤ (k : Int) + 1 := by have := HPE.out; omega
                  have hfin : L = n := by
                    have := HNL.out
                    rw [if_neg (fun e => hm0 e.2.2)] at this
                    exact this
                  have HFIN := Lib.hid hfin
                  clear hfin h39 hm0 hend hm2 hpe
                  go_wp2_with fail
                  go_ret
                  refine ⟨?_, rfl⟩
                  rw [HFIN.out]
                  show Ending.returned (Value.int .i64 _) = Ending.returned (Value.int .i64 _)
                  congr 2
                  have := HJ.out
                  have := HPE.out
                  omega
              · have k39 : ((c : Int) == 39) = false := beq_false_of_ne (by omega)
                have hfin : L = n := by
                  have := HNL.out
                  rw [if_neg (fun e => h39 (by rw [← HC.out]; exact e.2.1))] at this
                  exact this
                have HFIN := Lib.hid hfin
                clear hfin h39 hend hm2 hpe
                go_wp2_with fail
                go_ret
                refine ⟨?_, rfl⟩
                rw [HFIN.out]
                show Ending.returned (Value.int .i64 _) = Ending.returned (Value.int .i64 _)
                congr 2
                have := HJ.out
                have := HPE.out
                omega
      · obtain rfl : k = s.size := by have := HLE.out.2; omega
        have hkz : (s.size : Int) ≤ (s.size : Int) := Int.le_refl _
        have hfin : L = s.size - i := by
          have := HNL.out
          rw [if_neg (fun e => by omega)] at this
          have := HJ.out
          omega
        have HF := Lib.hid hfin
        clear hfin hend
        go_wp2_with fail
        go_loop [6] (fun q => q = .int .i64 ((s.size : Int) + 1)) (fun q => 0)
        case atStart => rfl
        case round =>
          subst hrel
          go_wp2_with fail
          go_ret
          refine ⟨?_, rfl⟩
          rw [HF.out]
          show Ending.returned (Value.int .i64 (s.size : Int)) = Ending.returned (Value.int .i64 ((i + (s.size - i) : Nat) : Int))
          have := HLE.out.1
          congr 2
          omega
end Go.Proofs.YtfoijbcmjciihaaGreatDoor
