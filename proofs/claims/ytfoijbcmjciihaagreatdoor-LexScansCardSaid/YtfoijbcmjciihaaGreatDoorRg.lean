/- The reference's read at signs and numbers: walked. -/
import Derived.Test.YtfoijbcmjciihaaGreatDoorRf
set_option linter.unusedSimpArgs false
set_option linter.unusedVariables false
namespace Go.Proofs.YtfoijbcmjciihaaGreatDoor
open Go.RowKit

theorem tok_sign {c : Nat} {l : List Nat} (hd : LX.digit c = false) (h126 : c ≠ 126) (hs : LX.small c = false) (hg : LX.great c = false) (h39 : ¬ (c = 39 ∧ LX.small (LX.head0 l) = true)) :
    LX.token (c :: l) = if signLen (c :: l) = 0 then .bad 11 else .tok 6 0 (signLen (c :: l)) := by
  unfold LX.token
  simp only []
  rw [if_neg (by rw [hd]; simp [h126]), if_neg (by rw [hs]; decide), if_neg (by rw [hg]; decide), if_neg h39]
  have hL : signLen (c :: l) = if (c = 61 ∨ c = 45) ∧ LX.head0 l = 62 then 2 else if LX.signs.contains c then 1 else 0 := rfl
  rw [hL]
  by_cases h1 : (c = 61 ∨ c = 45) ∧ LX.head0 l = 62
  · rw [if_pos h1, if_pos h1, if_neg (by decide)]
  · rw [if_neg h1, if_neg h1]
    cases h2 : LX.signs.contains c with
    | true => rfl
    | false => rfl

theorem signLen_le {l : List Nat} (h : l ≠ []) : signLen l ≤ l.length := by
  match l, h with
  | [c], _ =>
    unfold signLen
    rw [if_neg (fun e => absurd e.2 (by simp [LX.head0]))]
    split <;> simp
  | c :: d :: r, _ =>
    unfold signLen
    split
    · simp
    · split <;> simp

set_option maxHeartbeats 2000000 in
set_option maxRecDepth 20000 in
theorem rread_sign (w : World) (s : ByteArray) (i c : Nat) (h : RdAt s i c) (hdg : LX.digit c = false) (h126 : c ≠ 126) (hsm : LX.small c = false) (hgr : LX.great c = false) (h39 : c ≠ 39) :
    Calls Tryz.prog 35 #[.string s, .int .i64 i] w (RdPost w (rdV s i (LX.token ((bts s).drop i)))) := by
  obtain ⟨n, hn⟩ : ∃ n, n = signLen ((bts s).drop i) := ⟨_, rfl⟩
  have hle := signLen_le (l := (bts s).drop i) (by rw [h.drop]; simp)
  rw [← hn, List.length_drop, bts_length] at hle
  have h39' : ¬ (c = 39 ∧ LX.small (LX.head0 ((bts s).drop (i + 1))) = true) := fun e => h39 e.1
  have k39 : ((c : Int) == 39) = false := beq_false_of_ne (by omega)
  have htok : LX.token ((bts s).drop i) = if n = 0 then .bad 11 else .tok 6 0 n := by
    rw [hn, h.drop]
    exact tok_sign hdg h126 hsm hgr h39'
  have k126 : ((c : Int) == 126) = false := beq_false_of_ne (by omega)
  have b0 := byte_at s h.lt h.byte
  have DG : Hid (∀ W, Calls Tryz.prog 52 #[.int .u8 c] W fun e w' => e = .returned (.bool false) ∧ w' = W) := fun W => by
    have := rdigit_any W c
    rw [hdg] at this
    exact this
  have SM : Hid (∀ W, Calls Tryz.prog 54 #[.int .u8 c] W fun e w' => e = .returned (.bool false) ∧ w' = W) := fun W => by
    have := rsmall_any W c
    rw [hsm] at this
    exact this
  have GR : Hid (∀ W, Calls Tryz.prog 56 #[.int .u8 c] W fun e w' => e = .returned (.bool false) ∧ w' = W) := fun W => by
    have := rgreat_any W c
    rw [hgr] at this
    exact this
  have SG : Hid (∀ W, Calls Tryz.prog 59 #[.string s, .int .i64 i] W (SignPost W n)) := fun W => by
    rw [hn]; exact rsign_any W s h.size i h.lt
  have sl : ∀ m, (Instr.slice 9 (.string s) (some (.int .i64 i)) (some (.int .i64 ((i : Int) + (n : Int)))) none).run Tryz.prog m = .ok (.string (s.extract i (i + n))) m := slice_mid s i n (by have := h.lt; omega)
  obtain ⟨tx, htx⟩ : ∃ t, t = s.extract i (i + n) := ⟨_, rfl⟩
  rw [← htx] at sl
  obtain ⟨V, hV⟩ : ∃ V, V = rdV s i (LX.token ((bts s).drop i)) := ⟨_, rfl⟩
  rw [← hV]
  rw [htok] at hV
  have hz : (s.size : Int) ≤ 400000 := by have := h.size; omega
  have hiz : (i : Int) < (s.size : Int) := by have := h.lt; omega
  have hnz : (i : Int) + (n : Int) ≤ (s.size : Int) := by have := h.lt; omega
  by_cases h0 : n = 0
  · have hv : V = .tuple #[tokV 0 0 ⟨#[]⟩ 0, .int .i64 11] := by rw [hV, if_pos h0]; rfl
    have HV := Lib.hid hv
    have k0 : ((n : Int) == 0) = true := by rw [h0]; rfl
    clear hv hV htok h hdg hsm hgr hn hle htx h126 h39' h0 h39
    go_enter Tryz.func35, Tryz.ntmps35
    go_wp2_with fail
    refine (DG.out _).mono ?_
    rintro e w1 ⟨rfl, rfl⟩
    go_wp2_with fail
    refine (SM.out _).mono ?_
    rintro e w1 ⟨rfl, rfl⟩
    go_wp2_with fail
    refine (GR.out _).mono ?_
    rintro e w1 ⟨rfl, rfl⟩
    go_wp2_with fail
    refine (SG.out _).mono ?_
    rintro e w1 ⟨rfl, m, rfl⟩
    go_wp2_with fail
    go_returns
    exact ⟨by rw [HV.out]; rfl, ((((below_drawn ((Below.refl _ _).alloc (Nat.le_refl _) _) m).setCell (Nat.le_refl _) _).setCell (Nat.le_refl _) _).setCell (Nat.le_refl _) _).setCell (Nat.le_refl _) _⟩
  · have hv : V = .tuple #[tokV 6 0 tx i, .int .i64 0] := by rw [hV, if_neg h0, htx]; rfl
    have HV := Lib.hid hv
    have k0 : ((n : Int) == 0) = false := beq_false_of_ne (by omega)
    clear hv hV htok h hdg hsm hgr hn hle htx h126 h39' h0 h39
    go_enter Tryz.func35, Tryz.ntmps35
    go_wp2_with fail
    refine (DG.out _).mono ?_
    rintro e w1 ⟨rfl, rfl⟩
    go_wp2_with fail
    refine (SM.out _).mono ?_
    rintro e w1 ⟨rfl, rfl⟩
    go_wp2_with fail
    refine (GR.out _).mono ?_
    rintro e w1 ⟨rfl, rfl⟩
    go_wp2_with fail
    refine (SG.out _).mono ?_
    rintro e w1 ⟨rfl, m, rfl⟩
    go_wp2_with fail
    go_returns
    exact ⟨by rw [HV.out]; rfl, ((((below_drawn ((Below.refl _ _).alloc (Nat.le_refl _) _) m).setCell (Nat.le_refl _) _).setCell (Nat.le_refl _) _).setCell (Nat.le_refl _) _).setCell (Nat.le_refl _) _⟩

set_option maxHeartbeats 2000000 in
set_option maxRecDepth 20000 in
theorem rread_quote_end (w : World) (s : ByteArray) (i c : Nat) (h : RdAt s i c) (hdg : LX.digit c = false) (h126 : c ≠ 126) (hsm : LX.small c = false) (hgr : LX.great c = false) (h39 : c = 39) (hend : s.size ≤ i + 1) :
    Calls Tryz.prog 35 #[.string s, .int .i64 i] w (RdPost w (rdV s i (LX.token ((bts s).drop i)))) := by
  obtain ⟨n, hn⟩ : ∃ n, n = signLen ((bts s).drop i) := ⟨_, rfl⟩
  have hle := signLen_le (l := (bts s).drop i) (by rw [h.drop]; simp)
  rw [← hn, List.length_drop, bts_length] at hle
  have h39' : ¬ (c = 39 ∧ LX.small (LX.head0 ((bts s).drop (i + 1))) = true) := fun e => by
    rw [List.drop_of_length_le (by rw [bts_length]; exact hend)] at e
    exact absurd e.2 (by decide)
  have k39 : ((c : Int) == 39) = true := by rw [h39]; rfl
  have hend' : (s.size : Int) ≤ (i : Int) + 1 := by omega
  have htok : LX.token ((bts s).drop i) = if n = 0 then .bad 11 else .tok 6 0 n := by
    rw [hn, h.drop]
    exact tok_sign hdg h126 hsm hgr h39'
  have k126 : ((c : Int) == 126) = false := beq_false_of_ne (by omega)
  have b0 := byte_at s h.lt h.byte
  have DG : Hid (∀ W, Calls Tryz.prog 52 #[.int .u8 c] W fun e w' => e = .returned (.bool false) ∧ w' = W) := fun W => by
    have := rdigit_any W c
    rw [hdg] at this
    exact this
  have SM : Hid (∀ W, Calls Tryz.prog 54 #[.int .u8 c] W fun e w' => e = .returned (.bool false) ∧ w' = W) := fun W => by
    have := rsmall_any W c
    rw [hsm] at this
    exact this
  have GR : Hid (∀ W, Calls Tryz.prog 56 #[.int .u8 c] W fun e w' => e = .returned (.bool false) ∧ w' = W) := fun W => by
    have := rgreat_any W c
    rw [hgr] at this
    exact this
  have SG : Hid (∀ W, Calls Tryz.prog 59 #[.string s, .int .i64 i] W (SignPost W n)) := fun W => by
    rw [hn]; exact rsign_any W s h.size i h.lt
  have sl : ∀ m, (Instr.slice 9 (.string s) (some (.int .i64 i)) (some (.int .i64 ((i : Int) + (n : Int)))) none).run Tryz.prog m = .ok (.string (s.extract i (i + n))) m := slice_mid s i n (by have := h.lt; omega)
  obtain ⟨tx, htx⟩ : ∃ t, t = s.extract i (i + n) := ⟨_, rfl⟩
  rw [← htx] at sl
  obtain ⟨V, hV⟩ : ∃ V, V = rdV s i (LX.token ((bts s).drop i)) := ⟨_, rfl⟩
  rw [← hV]
  rw [htok] at hV
  have hz : (s.size : Int) ≤ 400000 := by have := h.size; omega
  have hiz : (i : Int) < (s.size : Int) := by have := h.lt; omega
  have hnz : (i : Int) + (n : Int) ≤ (s.size : Int) := by have := h.lt; omega
  by_cases h0 : n = 0
  · have hv : V = .tuple #[tokV 0 0 ⟨#[]⟩ 0, .int .i64 11] := by rw [hV, if_pos h0]; rfl
    have HV := Lib.hid hv
    have k0 : ((n : Int) == 0) = true := by rw [h0]; rfl
    clear hv hV htok h hdg hsm hgr hn hle htx h126 h39' h0 h39 hend
    go_enter Tryz.func35, Tryz.ntmps35
    go_wp2_with fail
    refine (DG.out _).mono ?_
    rintro e w1 ⟨rfl, rfl⟩
    go_wp2_with fail
    refine (SM.out _).mono ?_
    rintro e w1 ⟨rfl, rfl⟩
    go_wp2_with fail
    refine (GR.out _).mono ?_
    rintro e w1 ⟨rfl, rfl⟩
    go_wp2_with fail
    refine (SG.out _).mono ?_
    rintro e w1 ⟨rfl, m, rfl⟩
    go_wp2_with fail
    go_returns
    exact ⟨by rw [HV.out]; rfl, ((((below_drawn ((Below.refl _ _).alloc (Nat.le_refl _) _) m).setCell (Nat.le_refl _) _).setCell (Nat.le_refl _) _).setCell (Nat.le_refl _) _).setCell (Nat.le_refl _) _⟩
  · have hv : V = .tuple #[tokV 6 0 tx i, .int .i64 0] := by rw [hV, if_neg h0, htx]; rfl
    have HV := Lib.hid hv
    have k0 : ((n : Int) == 0) = false := beq_false_of_ne (by omega)
    clear hv hV htok h hdg hsm hgr hn hle htx h126 h39' h0 h39 hend
    go_enter Tryz.func35, Tryz.ntmps35
    go_wp2_with fail
    refine (DG.out _).mono ?_
    rintro e w1 ⟨rfl, rfl⟩
    go_wp2_with fail
    refine (SM.out _).mono ?_
    rintro e w1 ⟨rfl, rfl⟩
    go_wp2_with fail
    refine (GR.out _).mono ?_
    rintro e w1 ⟨rfl, rfl⟩
    go_wp2_with fail
    refine (SG.out _).mono ?_
    rintro e w1 ⟨rfl, m, rfl⟩
    go_wp2_with fail
    go_returns
    exact ⟨by rw [HV.out]; rfl, ((((below_drawn ((Below.refl _ _).alloc (Nat.le_refl _) _) m).setCell (Nat.le_refl _) _).setCell (Nat.le_refl _) _).setCell (Nat.le_refl _) _).setCell (Nat.le_refl _) _⟩

set_option maxHeartbeats 2000000 in
set_option maxRecDepth 20000 in
theorem rread_quote (w : World) (s : ByteArray) (i c : Nat) (h : RdAt s i c) (hdg : LX.digit c = false) (h126 : c ≠ 126) (hsm : LX.small c = false) (hgr : LX.great c = false) (h39 : c = 39) (hlt : i + 1 < s.size) (hnx : LX.small ((bts s).getD (i + 1) 0) = false) :
    Calls Tryz.prog 35 #[.string s, .int .i64 i] w (RdPost w (rdV s i (LX.token ((bts s).drop i)))) := by
  obtain ⟨n, hn⟩ : ∃ n, n = signLen ((bts s).drop i) := ⟨_, rfl⟩
  have hle := signLen_le (l := (bts s).drop i) (by rw [h.drop]; simp)
  rw [← hn, List.length_drop, bts_length] at hle
  obtain ⟨x, hx⟩ : ∃ x, (bts s).getD (i + 1) 0 = x := ⟨_, rfl⟩
  rw [hx] at hnx
  have h39' : ¬ (c = 39 ∧ LX.small (LX.head0 ((bts s).drop (i + 1))) = true) := fun e => by
    rw [LX.drop_get (by rw [bts_length]; exact hlt), hx] at e
    have h2 : LX.small x = true := e.2
    rw [hnx] at h2
    cases h2
  have k39 : ((c : Int) == 39) = true := by rw [h39]; rfl
  have hlt' : (i : Int) + 1 < (s.size : Int) := by omega
  have b1 : ∀ m, (Instr.index 9 (.string s) (.int .i64 ((i : Int) + 1))).run Tryz.prog m = .ok (.int .u8 (x : Int)) m := byte_at s hlt hx
  have SX : Hid (∀ W, Calls Tryz.prog 54 #[.int .u8 x] W fun e w' => e = .returned (.bool false) ∧ w' = W) := fun W => by
    have := rsmall_any W x
    rw [hnx] at this
    exact this
  have htok : LX.token ((bts s).drop i) = if n = 0 then .bad 11 else .tok 6 0 n := by
    rw [hn, h.drop]
    exact tok_sign hdg h126 hsm hgr h39'
  have k126 : ((c : Int) == 126) = false := beq_false_of_ne (by omega)
  have b0 := byte_at s h.lt h.byte
  have DG : Hid (∀ W, Calls Tryz.prog 52 #[.int .u8 c] W fun e w' => e = .returned (.bool false) ∧ w' = W) := fun W => by
    have := rdigit_any W c
    rw [hdg] at this
    exact this
  have SM : Hid (∀ W, Calls Tryz.prog 54 #[.int .u8 c] W fun e w' => e = .returned (.bool false) ∧ w' = W) := fun W => by
    have := rsmall_any W c
    rw [hsm] at this
    exact this
  have GR : Hid (∀ W, Calls Tryz.prog 56 #[.int .u8 c] W fun e w' => e = .returned (.bool false) ∧ w' = W) := fun W => by
    have := rgreat_any W c
    rw [hgr] at this
    exact this
  have SG : Hid (∀ W, Calls Tryz.prog 59 #[.string s, .int .i64 i] W (SignPost W n)) := fun W => by
    rw [hn]; exact rsign_any W s h.size i h.lt
  have sl : ∀ m, (Instr.slice 9 (.string s) (some (.int .i64 i)) (some (.int .i64 ((i : Int) + (n : Int)))) none).run Tryz.prog m = .ok (.string (s.extract i (i + n))) m := slice_mid s i n (by have := h.lt; omega)
  obtain ⟨tx, htx⟩ : ∃ t, t = s.extract i (i + n) := ⟨_, rfl⟩
  rw [← htx] at sl
  obtain ⟨V, hV⟩ : ∃ V, V = rdV s i (LX.token ((bts s).drop i)) := ⟨_, rfl⟩
  rw [← hV]
  rw [htok] at hV
  have hz : (s.size : Int) ≤ 400000 := by have := h.size; omega
  have hiz : (i : Int) < (s.size : Int) := by have := h.lt; omega
  have hnz : (i : Int) + (n : Int) ≤ (s.size : Int) := by have := h.lt; omega
  by_cases h0 : n = 0
  · have hv : V = .tuple #[tokV 0 0 ⟨#[]⟩ 0, .int .i64 11] := by rw [hV, if_pos h0]; rfl
    have HV := Lib.hid hv
    have k0 : ((n : Int) == 0) = true := by rw [h0]; rfl
    clear hv hV htok h hdg hsm hgr hn hle htx h126 h39' h0 h39 hlt hnx hx
    go_enter Tryz.func35, Tryz.ntmps35
    go_wp2_with fail
    refine (DG.out _).mono ?_
    rintro e w1 ⟨rfl, rfl⟩
    go_wp2_with fail
    refine (SX.out _).mono ?_
    rintro e w1 ⟨rfl, rfl⟩
    go_wp2_with fail
    refine (SM.out _).mono ?_
    rintro e w1 ⟨rfl, rfl⟩
    go_wp2_with fail
    refine (GR.out _).mono ?_
    rintro e w1 ⟨rfl, rfl⟩
    go_wp2_with fail
    refine (SG.out _).mono ?_
    rintro e w1 ⟨rfl, m, rfl⟩
    go_wp2_with fail
    go_returns
    exact ⟨by rw [HV.out]; rfl, ((((below_drawn ((Below.refl _ _).alloc (Nat.le_refl _) _) m).setCell (Nat.le_refl _) _).setCell (Nat.le_refl _) _).setCell (Nat.le_refl _) _).setCell (Nat.le_refl _) _⟩
  · have hv : V = .tuple #[tokV 6 0 tx i, .int .i64 0] := by rw [hV, if_neg h0, htx]; rfl
    have HV := Lib.hid hv
    have k0 : ((n : Int) == 0) = false := beq_false_of_ne (by omega)
    clear hv hV htok h hdg hsm hgr hn hle htx h126 h39' h0 h39 hlt hnx hx
    go_enter Tryz.func35, Tryz.ntmps35
    go_wp2_with fail
    refine (DG.out _).mono ?_
    rintro e w1 ⟨rfl, rfl⟩
    go_wp2_with fail
    refine (SX.out _).mono ?_
    rintro e w1 ⟨rfl, rfl⟩
    go_wp2_with fail
    refine (SM.out _).mono ?_
    rintro e w1 ⟨rfl, rfl⟩
    go_wp2_with fail
    refine (GR.out _).mono ?_
    rintro e w1 ⟨rfl, rfl⟩
    go_wp2_with fail
    refine (SG.out _).mono ?_
    rintro e w1 ⟨rfl, m, rfl⟩
    go_wp2_with fail
    go_returns
    exact ⟨by rw [HV.out]; rfl, ((((below_drawn ((Below.refl _ _).alloc (Nat.le_refl _) _) m).setCell (Nat.le_refl _) _).setCell (Nat.le_refl _) _).setCell (Nat.le_refl _) _).setCell (Nat.le_refl _) _⟩
end Go.Proofs.YtfoijbcmjciihaaGreatDoor
