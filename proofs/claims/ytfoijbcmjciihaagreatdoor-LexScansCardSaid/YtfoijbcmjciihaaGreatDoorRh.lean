/- The reference's read at numbers: walked. -/
import Derived.Test.YtfoijbcmjciihaaGreatDoorRf
set_option linter.unusedSimpArgs false
set_option linter.unusedVariables false
namespace Go.Proofs.YtfoijbcmjciihaaGreatDoor
open Go.RowKit

set_option maxHeartbeats 4000000 in
set_option maxRecDepth 20000 in
theorem rread_digit (w : World) (s : ByteArray) (i c : Nat) (h : RdAt s i c) (hc : LX.digit c = true) :
    Calls Tryz.prog 35 #[.string s, .int .i64 i] w (RdPost w (rdV s i (LX.token ((bts s).drop i)))) := by
  obtain ⟨d, hd⟩ : ∃ d, d = 0 + LX.run LX.digit ((bts s).drop (i + 0)) := ⟨_, rfl⟩
  have htok : LX.token ((bts s).drop i) = match LX.num (((bts s).drop i).take d) with
      | none => .bad 13
      | some v => if LX.part ((bts s).getD (i + d) 0) || (bts s).getD (i + d) 0 == 39 then .bad 13 else .tok 1 v d := by
    refine Eq.trans ?_ (number_eq s i 0 d hd)
    rw [h.drop]
    unfold LX.token
    simp only []
    have h126 : c ≠ 126 := fun e => by rw [e] at hc; cases hc
    rw [if_pos (by rw [hc]; rfl), if_neg h126]
  obtain ⟨sp1, sp2⟩ := run_spec LX.digit (bts s) (i + 0)
  have hle := sp2 (by rw [bts_length]; have := h.lt; omega)
  rw [bts_length] at hle
  simp only [bts_length] at sp1
  have hstop : i + d < s.size → LX.digit ((bts s).getD (i + d) 0) = false := fun hh => by
    have := LX.run_stops LX.digit (bts s) _ (i + 0) rfl (by rw [bts_length]; omega)
    rw [show i + 0 + LX.run LX.digit ((bts s).drop (i + 0)) = i + d from by omega] at this
    exact this
  have hend0 : s.size ≤ i + d → (bts s).getD (i + d) 0 = 0 := fun hh => by
    rw [List.getD_eq_getElem?_getD, List.getElem?_eq_none (by rw [bts_length]; exact hh)]; rfl
  obtain ⟨J, hJ⟩ : ∃ J, J = i + d := ⟨_, rfl⟩
  rw [← hJ] at htok hstop hend0
  have b0 := byte_at s h.lt h.byte
  have h126 : c ≠ 126 := fun e => by rw [e] at hc; cases hc
  have k126 : ((c : Int) == 126) = false := beq_false_of_ne (by omega)
  have DG : Hid (∀ W, Calls Tryz.prog 52 #[.int .u8 c] W fun e w' => e = .returned (.bool true) ∧ w' = W) := fun W => by
    have := rdigit_any W c
    rw [hc] at this
    exact this
  have sl : ∀ m, (Instr.slice 9 (.string s) (some (.int .i64 i)) (some (.int .i64 J)) none).run Tryz.prog m = .ok (.string (s.extract i (i + d))) m := fun m => by
    have := slice_mid s i d (by omega) m
    rw [show (i : Int) + (d : Int) = (J : Int) from by omega] at this
    exact this
  obtain ⟨tx, htx⟩ : ∃ t, t = s.extract i (i + d) := ⟨_, rfl⟩
  rw [← htx] at sl
  have hbt : bts tx = ((bts s).drop i).take d := by rw [htx, bts_extract, Nat.add_sub_cancel_left]
  rw [← hbt] at htok
  obtain ⟨V, hV⟩ : ∃ V, V = rdV s i (LX.token ((bts s).drop i)) := ⟨_, rfl⟩
  rw [← hV]
  rw [htok] at hV
  have hz : (s.size : Int) ≤ 400000 := by have := h.size; omega
  have hiz : (i : Int) < (s.size : Int) := by have := h.lt; omega
  have SP1 : Hid (∀ k, i + 0 ≤ k → k < J → k < s.size ∧ LX.digit ((bts s).getD k 0) = true) := fun k a b => ⟨(sp1 k a (by omega)).1, (sp1 k a (by omega)).2.1⟩
  have HJ : Hid (i + 0 ≤ J ∧ J ≤ s.size) := ⟨by omega, by omega⟩
  have FIN : Hid (∀ v : Int, LX.num (bts tx) = some v → (LX.part ((bts s).getD J 0) || (bts s).getD J 0 == 39) = false → V = .tuple #[tokV 1 v tx i, .int .i64 0]) := fun v h1 h2 => by
    rw [hV, h1]
    simp only []
    rw [h2, htx]
    rfl
  have BAD : Hid ((LX.num (bts tx) = none ∨ (LX.part ((bts s).getD J 0) || (bts s).getD J 0 == 39) = true) → V = .tuple #[tokV 0 0 ⟨#[]⟩ 0, .int .i64 13]) := fun h1 => by
    rw [hV]
    cases h2 : LX.num (bts tx) with
    | none => rfl
    | some v =>
      simp only []
      rcases h1 with h1 | h1
      · rw [h2] at h1; cases h1
      · rw [h1]; rfl
  have RNB : Hid (∀ W, Calls Tryz.prog 37 #[.string tx] W (RN (LX.num (bts tx)) W)) := fun W => refNumber_any W tx
  have ST := Lib.hid hstop
  have EN := Lib.hid hend0
  obtain ⟨r, hr⟩ : ∃ r, r = LX.num (bts tx) := ⟨_, rfl⟩
  rw [← hr] at FIN BAD RNB
  clear hr hV htok hbt htx sp1 sp2 hle hstop hend0 hJ hd h126 hc h
  go_enter Tryz.func35, Tryz.ntmps35
  go_wp2_with fail
  refine (DG.out _).mono ?_
  rintro e w1 ⟨rfl, rfl⟩
  go_wp2_with fail
  go_loop [7] (fun j => ∃ k : Nat, i + 0 ≤ k ∧ k ≤ J ∧ j = .int .i64 k) (fun j => s.size - (intOf j).toNat)
  case atStart => exact ⟨i + 0, Nat.le_refl _, HJ.out.1, rfl⟩
  case round =>
    obtain ⟨k, hk1, hk2, rfl⟩ := hrel
    have HK : Hid (i + 0 ≤ k) := hk1
    by_cases hlt : k < J
    · obtain ⟨hks, hdk⟩ := SP1.out k hk1 hlt
      have hkz : (k : Int) < (s.size : Int) := by omega
      obtain ⟨x, hx⟩ : ∃ x, (bts s).getD k 0 = x := ⟨_, rfl⟩
      have bk := byte_at s hks hx
      rw [hx] at hdk
      have DX : Hid (∀ W, Calls Tryz.prog 52 #[.int .u8 x] W fun e w' => e = .returned (.bool true) ∧ w' = W) := fun W => by
        have := rdigit_any W x
        rw [hdk] at this
        exact this
      have HLT : Hid (k < J ∧ k < s.size) := ⟨hlt, hks⟩
      clear hx hdk hlt hk1 hk2 hks
      go_wp2_with fail
      refine (DX.out _).mono ?_
      rintro e w1 ⟨rfl, rfl⟩
      go_wp2_with fail
      go_round
      case rel => exact ⟨k + 1, by have := HK.out; omega, HLT.out.1, by go_num⟩
      case measure => have := HLT.out.2; simp [intOf]; omega
    · obtain rfl : k = J := by omega
      have hJi : (i : Int) ≤ (k : Int) := by omega
      clear hk1 hk2 hlt
      by_cases hend : k < s.size
      · have hkz : (k : Int) < (s.size : Int) := by omega
        obtain ⟨x, hx⟩ : ∃ x, (bts s).getD k 0 = x := ⟨_, rfl⟩
        have bk := byte_at s hend hx
        have hdk := ST.out hend
        rw [hx] at hdk FIN BAD
        have DX : Hid (∀ W, Calls Tryz.prog 52 #[.int .u8 x] W fun e w' => e = .returned (.bool false) ∧ w' = W) := fun W => by
          have := rdigit_any W x
          rw [hdk] at this
          exact this
        have INX : Hid (∀ W, Calls Tryz.prog 53 #[.int .u8 x] W fun e w' => e = .returned (.bool (LX.part x)) ∧ w' = W) := fun W => rinner_any W x
        clear hdk hend hx
        cases r with
        | none =>
          have HV := Lib.hid (BAD.out (.inl rfl))
          clear FIN BAD
          go_wp2_with fail
          refine (DX.out _).mono ?_
          rintro e w1 ⟨rfl, rfl⟩
          go_wp2_with fail
          refine (RNB.out _).mono ?_
          rintro e w1 ⟨rfl, rfl⟩
          go_wp2_with fail
          go_returns
          exact ⟨by rw [HV.out]; rfl, (Below.refl _ _).alloc (Nat.le_refl _) _⟩
        | some v =>
          obtain ⟨pb, hpb⟩ : ∃ b, b = LX.part x := ⟨_, rfl⟩
          rw [← hpb] at FIN BAD INX
          clear hpb
          cases pb with
          | true =>
            have HV := Lib.hid (BAD.out (.inr rfl))
            clear FIN BAD
            go_wp2_with fail
            refine (DX.out _).mono ?_
            rintro e w1 ⟨rfl, rfl⟩
            go_wp2_with fail
            refine (RNB.out _).mono ?_
            rintro e w1 ⟨rfl, rfl⟩
            go_wp2_with fail
            refine (INX.out _).mono ?_
            rintro e w1 ⟨rfl, rfl⟩
            go_wp2_with fail
            go_returns
            exact ⟨by rw [HV.out]; rfl, (Below.refl _ _).alloc (Nat.le_refl _) _⟩
          | false =>
            by_cases h39 : x = 39
            · have HV := Lib.hid (BAD.out (.inr (by rw [h39]; rfl)))
              have k39 : ((x : Int) == 39) = true := by rw [h39]; rfl
              clear FIN BAD h39
              go_wp2_with fail
              refine (DX.out _).mono ?_
              rintro e w1 ⟨rfl, rfl⟩
              go_wp2_with fail
              refine (RNB.out _).mono ?_
              rintro e w1 ⟨rfl, rfl⟩
              go_wp2_with fail
              refine (INX.out _).mono ?_
              rintro e w1 ⟨rfl, rfl⟩
              go_wp2_with fail
              go_returns
              exact ⟨by rw [HV.out]; rfl, (Below.refl _ _).alloc (Nat.le_refl _) _⟩
            · have HV := Lib.hid (FIN.out v rfl (by rw [show (x == 39) = false from beq_false_of_ne h39]; rfl))
              have k39 : ((x : Int) == 39) = false := beq_false_of_ne (by omega)
              clear FIN BAD h39
              go_wp2_with fail
              refine (DX.out _).mono ?_
              rintro e w1 ⟨rfl, rfl⟩
              go_wp2_with fail
              refine (RNB.out _).mono ?_
              rintro e w1 ⟨rfl, rfl⟩
              go_wp2_with fail
              refine (INX.out _).mono ?_
              rintro e w1 ⟨rfl, rfl⟩
              go_wp2_with fail
              go_returns
              exact ⟨by rw [HV.out]; rfl, (Below.refl _ _).alloc (Nat.le_refl _) _⟩
      · have hkz : (s.size : Int) ≤ (k : Int) := by omega
        have hkz2 : (k : Int) ≤ (s.size : Int) := by have := HJ.out.2; omega
        have he0 := EN.out (by omega)
        rw [he0] at FIN BAD
        clear he0 hend
        cases r with
        | none =>
          have HV := Lib.hid (BAD.out (.inl rfl))
          clear FIN BAD
          go_wp2_with fail
          refine (RNB.out _).mono ?_
          rintro e w1 ⟨rfl, rfl⟩
          go_wp2_with fail
          go_returns
          exact ⟨by rw [HV.out]; rfl, (Below.refl _ _).alloc (Nat.le_refl _) _⟩
        | some v =>
          have HV := Lib.hid (FIN.out v rfl rfl)
          clear FIN BAD
          go_wp2_with fail
          refine (RNB.out _).mono ?_
          rintro e w1 ⟨rfl, rfl⟩
          go_wp2_with fail
          go_returns
          exact ⟨by rw [HV.out]; rfl, (Below.refl _ _).alloc (Nat.le_refl _) _⟩

set_option maxHeartbeats 4000000 in
set_option maxRecDepth 20000 in
theorem rread_tilde (w : World) (s : ByteArray) (i c : Nat) (h : RdAt s i c) (hc : c = 126) :
    Calls Tryz.prog 35 #[.string s, .int .i64 i] w (RdPost w (rdV s i (LX.token ((bts s).drop i)))) := by
  obtain ⟨d, hd⟩ : ∃ d, d = 1 + LX.run LX.digit ((bts s).drop (i + 1)) := ⟨_, rfl⟩
  have htok : LX.token ((bts s).drop i) = match LX.num (((bts s).drop i).take d) with
      | none => .bad 13
      | some v => if LX.part ((bts s).getD (i + d) 0) || (bts s).getD (i + d) 0 == 39 then .bad 13 else .tok 1 v d := by
    refine Eq.trans ?_ (number_eq s i 1 d hd)
    rw [h.drop]
    unfold LX.token
    simp only []
    rw [if_pos (by rw [hc]; rfl), if_pos hc]
  obtain ⟨sp1, sp2⟩ := run_spec LX.digit (bts s) (i + 1)
  have hle := sp2 (by rw [bts_length]; have := h.lt; omega)
  rw [bts_length] at hle
  simp only [bts_length] at sp1
  have hstop : i + d < s.size → LX.digit ((bts s).getD (i + d) 0) = false := fun hh => by
    have := LX.run_stops LX.digit (bts s) _ (i + 1) rfl (by rw [bts_length]; omega)
    rw [show i + 1 + LX.run LX.digit ((bts s).drop (i + 1)) = i + d from by omega] at this
    exact this
  have hend0 : s.size ≤ i + d → (bts s).getD (i + d) 0 = 0 := fun hh => by
    rw [List.getD_eq_getElem?_getD, List.getElem?_eq_none (by rw [bts_length]; exact hh)]; rfl
  obtain ⟨J, hJ⟩ : ∃ J, J = i + d := ⟨_, rfl⟩
  rw [← hJ] at htok hstop hend0
  have b0 := byte_at s h.lt h.byte
  have k126 : ((c : Int) == 126) = true := by rw [hc]; rfl
  have sl : ∀ m, (Instr.slice 9 (.string s) (some (.int .i64 i)) (some (.int .i64 J)) none).run Tryz.prog m = .ok (.string (s.extract i (i + d))) m := fun m => by
    have := slice_mid s i d (by omega) m
    rw [show (i : Int) + (d : Int) = (J : Int) from by omega] at this
    exact this
  obtain ⟨tx, htx⟩ : ∃ t, t = s.extract i (i + d) := ⟨_, rfl⟩
  rw [← htx] at sl
  have hbt : bts tx = ((bts s).drop i).take d := by rw [htx, bts_extract, Nat.add_sub_cancel_left]
  rw [← hbt] at htok
  obtain ⟨V, hV⟩ : ∃ V, V = rdV s i (LX.token ((bts s).drop i)) := ⟨_, rfl⟩
  rw [← hV]
  rw [htok] at hV
  have hz : (s.size : Int) ≤ 400000 := by have := h.size; omega
  have hiz : (i : Int) < (s.size : Int) := by have := h.lt; omega
  have SP1 : Hid (∀ k, i + 1 ≤ k → k < J → k < s.size ∧ LX.digit ((bts s).getD k 0) = true) := fun k a b => ⟨(sp1 k a (by omega)).1, (sp1 k a (by omega)).2.1⟩
  have HJ : Hid (i + 1 ≤ J ∧ J ≤ s.size) := ⟨by omega, by omega⟩
  have FIN : Hid (∀ v : Int, LX.num (bts tx) = some v → (LX.part ((bts s).getD J 0) || (bts s).getD J 0 == 39) = false → V = .tuple #[tokV 1 v tx i, .int .i64 0]) := fun v h1 h2 => by
    rw [hV, h1]
    simp only []
    rw [h2, htx]
    rfl
  have BAD : Hid ((LX.num (bts tx) = none ∨ (LX.part ((bts s).getD J 0) || (bts s).getD J 0 == 39) = true) → V = .tuple #[tokV 0 0 ⟨#[]⟩ 0, .int .i64 13]) := fun h1 => by
    rw [hV]
    cases h2 : LX.num (bts tx) with
    | none => rfl
    | some v =>
      simp only []
      rcases h1 with h1 | h1
      · rw [h2] at h1; cases h1
      · rw [h1]; rfl
  have RNB : Hid (∀ W, Calls Tryz.prog 37 #[.string tx] W (RN (LX.num (bts tx)) W)) := fun W => refNumber_any W tx
  have ST := Lib.hid hstop
  have EN := Lib.hid hend0
  obtain ⟨r, hr⟩ : ∃ r, r = LX.num (bts tx) := ⟨_, rfl⟩
  rw [← hr] at FIN BAD RNB
  clear hr hV htok hbt htx sp1 sp2 hle hstop hend0 hJ hd hc h
  go_enter Tryz.func35, Tryz.ntmps35
  skip
  go_wp2_with fail
  go_loop [7] (fun j => ∃ k : Nat, i + 1 ≤ k ∧ k ≤ J ∧ j = .int .i64 k) (fun j => s.size - (intOf j).toNat)
  case atStart => exact ⟨i + 1, Nat.le_refl _, HJ.out.1, by go_num⟩
  case round =>
    obtain ⟨k, hk1, hk2, rfl⟩ := hrel
    have HK : Hid (i + 1 ≤ k) := hk1
    by_cases hlt : k < J
    · obtain ⟨hks, hdk⟩ := SP1.out k hk1 hlt
      have hkz : (k : Int) < (s.size : Int) := by omega
      obtain ⟨x, hx⟩ : ∃ x, (bts s).getD k 0 = x := ⟨_, rfl⟩
      have bk := byte_at s hks hx
      rw [hx] at hdk
      have DX : Hid (∀ W, Calls Tryz.prog 52 #[.int .u8 x] W fun e w' => e = .returned (.bool true) ∧ w' = W) := fun W => by
        have := rdigit_any W x
        rw [hdk] at this
        exact this
      have HLT : Hid (k < J ∧ k < s.size) := ⟨hlt, hks⟩
      clear hx hdk hlt hk1 hk2 hks
      go_wp2_with fail
      refine (DX.out _).mono ?_
      rintro e w1 ⟨rfl, rfl⟩
      go_wp2_with fail
      go_round
      case rel => exact ⟨k + 1, by have := HK.out; omega, HLT.out.1, by go_num⟩
      case measure => have := HLT.out.2; simp [intOf]; omega
    · obtain rfl : k = J := by omega
      have hJi : (i : Int) ≤ (k : Int) := by omega
      clear hk1 hk2 hlt
      by_cases hend : k < s.size
      · have hkz : (k : Int) < (s.size : Int) := by omega
        obtain ⟨x, hx⟩ : ∃ x, (bts s).getD k 0 = x := ⟨_, rfl⟩
        have bk := byte_at s hend hx
        have hdk := ST.out hend
        rw [hx] at hdk FIN BAD
        have DX : Hid (∀ W, Calls Tryz.prog 52 #[.int .u8 x] W fun e w' => e = .returned (.bool false) ∧ w' = W) := fun W => by
          have := rdigit_any W x
          rw [hdk] at this
          exact this
        have INX : Hid (∀ W, Calls Tryz.prog 53 #[.int .u8 x] W fun e w' => e = .returned (.bool (LX.part x)) ∧ w' = W) := fun W => rinner_any W x
        clear hdk hend hx
        cases r with
        | none =>
          have HV := Lib.hid (BAD.out (.inl rfl))
          clear FIN BAD
          go_wp2_with fail
          refine (DX.out _).mono ?_
          rintro e w1 ⟨rfl, rfl⟩
          go_wp2_with fail
          refine (RNB.out _).mono ?_
          rintro e w1 ⟨rfl, rfl⟩
          go_wp2_with fail
          go_returns
          exact ⟨by rw [HV.out]; rfl, (Below.refl _ _).alloc (Nat.le_refl _) _⟩
        | some v =>
          obtain ⟨pb, hpb⟩ : ∃ b, b = LX.part x := ⟨_, rfl⟩
          rw [← hpb] at FIN BAD INX
          clear hpb
          cases pb with
          | true =>
            have HV := Lib.hid (BAD.out (.inr rfl))
            clear FIN BAD
            go_wp2_with fail
            refine (DX.out _).mono ?_
            rintro e w1 ⟨rfl, rfl⟩
            go_wp2_with fail
            refine (RNB.out _).mono ?_
            rintro e w1 ⟨rfl, rfl⟩
            go_wp2_with fail
            refine (INX.out _).mono ?_
            rintro e w1 ⟨rfl, rfl⟩
            go_wp2_with fail
            go_returns
            exact ⟨by rw [HV.out]; rfl, (Below.refl _ _).alloc (Nat.le_refl _) _⟩
          | false =>
            by_cases h39 : x = 39
            · have HV := Lib.hid (BAD.out (.inr (by rw [h39]; rfl)))
              have k39 : ((x : Int) == 39) = true := by rw [h39]; rfl
              clear FIN BAD h39
              go_wp2_with fail
              refine (DX.out _).mono ?_
              rintro e w1 ⟨rfl, rfl⟩
              go_wp2_with fail
              refine (RNB.out _).mono ?_
              rintro e w1 ⟨rfl, rfl⟩
              go_wp2_with fail
              refine (INX.out _).mono ?_
              rintro e w1 ⟨rfl, rfl⟩
              go_wp2_with fail
              go_returns
              exact ⟨by rw [HV.out]; rfl, (Below.refl _ _).alloc (Nat.le_refl _) _⟩
            · have HV := Lib.hid (FIN.out v rfl (by rw [show (x == 39) = false from beq_false_of_ne h39]; rfl))
              have k39 : ((x : Int) == 39) = false := beq_false_of_ne (by omega)
              clear FIN BAD h39
              go_wp2_with fail
              refine (DX.out _).mono ?_
              rintro e w1 ⟨rfl, rfl⟩
              go_wp2_with fail
              refine (RNB.out _).mono ?_
              rintro e w1 ⟨rfl, rfl⟩
              go_wp2_with fail
              refine (INX.out _).mono ?_
              rintro e w1 ⟨rfl, rfl⟩
              go_wp2_with fail
              go_returns
              exact ⟨by rw [HV.out]; rfl, (Below.refl _ _).alloc (Nat.le_refl _) _⟩
      · have hkz : (s.size : Int) ≤ (k : Int) := by omega
        have hkz2 : (k : Int) ≤ (s.size : Int) := by have := HJ.out.2; omega
        have he0 := EN.out (by omega)
        rw [he0] at FIN BAD
        clear he0 hend
        cases r with
        | none =>
          have HV := Lib.hid (BAD.out (.inl rfl))
          clear FIN BAD
          go_wp2_with fail
          refine (RNB.out _).mono ?_
          rintro e w1 ⟨rfl, rfl⟩
          go_wp2_with fail
          go_returns
          exact ⟨by rw [HV.out]; rfl, (Below.refl _ _).alloc (Nat.le_refl _) _⟩
        | some v =>
          have HV := Lib.hid (FIN.out v rfl rfl)
          clear FIN BAD
          go_wp2_with fail
          refine (RNB.out _).mono ?_
          rintro e w1 ⟨rfl, rfl⟩
          go_wp2_with fail
          go_returns
          exact ⟨by rw [HV.out]; rfl, (Below.refl _ _).alloc (Nat.le_refl _) _⟩
end Go.Proofs.YtfoijbcmjciihaaGreatDoor
