/- The reference's read: walked. -/
import Derived.Test.YtfoijbcmjciihaaGreatDoorRb
import Derived.Test.YtfoijbcmjciihaaGreatDoorRd
import Derived.Test.YtfoijbcmjciihaaGreatDoorM
import Derived.Handy
set_option linter.unusedSimpArgs false
set_option linter.unusedVariables false
namespace Go.Proofs.YtfoijbcmjciihaaGreatDoor
open Go.RowKit

/-- What is read. -/
def rdV (s : ByteArray) (i : Nat) : LX.TR → Value
  | .tok k v n => .tuple #[tokV k v (s.extract i (i + n)) i, .int .i64 0]
  | .bad e => .tuple #[tokV 0 0 ⟨#[]⟩ 0, .int .i64 e]

def RdPost (w : World) (v : Value) (e : Ending) (w' : World) : Prop := e = .returned v ∧ Below w.heap.size w w'

/-- The byte at a place, and what it is not. -/
structure RdAt (s : ByteArray) (i c : Nat) : Prop where
  size : s.size ≤ 400000
  lt : i < s.size
  byte : (bts s).getD i 0 = c

theorem RdAt.drop {s : ByteArray} {i c : Nat} (h : RdAt s i c) : (bts s).drop i = c :: (bts s).drop (i + 1) := by
  rw [LX.drop_get (by rw [bts_length]; exact h.lt), h.byte]

set_option maxHeartbeats 2000000 in
set_option maxRecDepth 20000 in
theorem rread_var (w : World) (s : ByteArray) (i : Nat) (h : RdAt s i 39) (h1 : i + 1 < s.size) (hsm : LX.small ((bts s).getD (i + 1) 0) = true) :
    Calls Tryz.prog 35 #[.string s, .int .i64 i] w (RdPost w (rdV s i (LX.token ((bts s).drop i)))) := by
  obtain ⟨d, hd⟩ : ∃ d, (bts s).getD (i + 1) 0 = d := ⟨_, rfl⟩
  rw [hd] at hsm
  have hd1 : (bts s).drop (i + 1) = d :: (bts s).drop (i + 2) := by rw [LX.drop_get (by rw [bts_length]; exact h1), hd]
  obtain ⟨n, hn⟩ : ∃ n, n = LX.run LX.part ((bts s).drop (i + 1)) := ⟨_, rfl⟩
  have htok : LX.token ((bts s).drop i) = if 24 < 1 + n then .bad 2 else .tok 4 0 (1 + n) := by
    rw [h.drop]
    unfold LX.token
    simp only []
    rw [if_neg (by decide), if_neg (by decide), if_neg (by decide), if_pos ⟨trivial, by rw [hd1]; exact hsm⟩, ← hn]
    rfl
  have hle := (run_spec LX.part (bts s) (i + 1)).2 (by rw [bts_length]; omega)
  rw [← hn, bts_length] at hle
  have b0 := byte_at s h.lt h.byte
  have b1 : ∀ m, (Instr.index 9 (.string s) (.int .i64 ((i : Int) + 1))).run Tryz.prog m = .ok (.int .u8 (d : Int)) m := byte_at s h1 hd
  have PL : Hid (∀ W, Calls Tryz.prog 55 #[.string s, .int .i64 ((i : Int) + 1)] W fun e w' => e = .returned (.int .i64 ((i : Int) + 1 + n)) ∧ w' = W) := fun W => by
    have := rplain_any W s h.size (i + 1) (by omega)
    rw [← hn] at this
    exact this
  have HSM : Hid (∀ W, Calls Tryz.prog 54 #[.int .u8 d] W fun e w' => e = .returned (.bool true) ∧ w' = W) := fun W => by
    have := rsmall_any W d
    rw [hsm] at this
    exact this
  have DG : Hid (∀ W, Calls Tryz.prog 52 #[.int .u8 39] W fun e w' => e = .returned (.bool false) ∧ w' = W) := fun W => rdigit_any W 39
  have sl : ∀ m, (Instr.slice 9 (.string s) (some (.int .i64 i)) (some (.int .i64 ((i : Int) + 1 + n))) none).run Tryz.prog m = .ok (.string (s.extract i (i + (1 + n)))) m := fun m => by
    have := slice_mid s i (1 + n) (by omega) m
    rw [show (i : Int) + ((1 + n : Nat) : Int) = (i : Int) + 1 + n from by omega] at this
    exact this
  obtain ⟨tx, htx⟩ : ∃ t, t = s.extract i (i + (1 + n)) := ⟨_, rfl⟩
  rw [← htx] at sl
  obtain ⟨V, hV⟩ : ∃ V, V = rdV s i (LX.token ((bts s).drop i)) := ⟨_, rfl⟩
  rw [← hV]
  rw [htok] at hV
  have hz : (s.size : Int) ≤ 400000 := by have := h.size; omega
  have hiz : (i : Int) + 1 < (s.size : Int) := by omega
  have hnz : (i : Int) + 1 + (n : Int) ≤ (s.size : Int) := by omega
  have hn0 : (0 : Int) ≤ (n : Int) := by omega
  by_cases h24 : 24 < 1 + n
  · have hv : V = .tuple #[tokV 0 0 ⟨#[]⟩ 0, .int .i64 2] := by rw [hV, if_pos h24]; rfl
    have HV := Lib.hid hv
    have h24z : (24 : Int) < 1 + (n : Int) := by omega
    clear hv hV htok hd1 hd hsm h h1 hn hle h24 htx
    go_enter Tryz.func35, Tryz.ntmps35
    go_wp2_with fail
    refine (DG.out _).mono ?_
    rintro e w1 ⟨rfl, rfl⟩
    go_wp2_with fail
    refine (HSM.out _).mono ?_
    rintro e w1 ⟨rfl, rfl⟩
    go_wp2_with fail
    refine (PL.out _).mono ?_
    rintro e w1 ⟨rfl, rfl⟩
    go_wp2_with fail
    go_returns
    exact ⟨by rw [HV.out]; rfl, (Below.refl _ _).alloc (Nat.le_refl _) _⟩
  · have hv : V = .tuple #[tokV 4 0 tx i, .int .i64 0] := by rw [hV, if_neg h24, htx]; rfl
    have HV := Lib.hid hv
    have h24z : 1 + (n : Int) ≤ 24 := by omega
    clear hv hV htok hd1 hd hsm h h1 hn hle h24 htx
    go_enter Tryz.func35, Tryz.ntmps35
    go_wp2_with fail
    refine (DG.out _).mono ?_
    rintro e w1 ⟨rfl, rfl⟩
    go_wp2_with fail
    refine (HSM.out _).mono ?_
    rintro e w1 ⟨rfl, rfl⟩
    go_wp2_with fail
    refine (PL.out _).mono ?_
    rintro e w1 ⟨rfl, rfl⟩
    go_wp2_with fail
    go_returns
    exact ⟨by rw [HV.out]; rfl, (Below.refl _ _).alloc (Nat.le_refl _) _⟩
end Go.Proofs.YtfoijbcmjciihaaGreatDoor
