/- A byte and a piece of a text. -/
import Derived.Test.YtfoijbcmjciihaaGreatDoorB
set_option linter.unusedSimpArgs false
set_option linter.unusedVariables false
namespace Go.Proofs.YtfoijbcmjciihaaGreatDoor
open Go.RowKit

theorem slice_mid (s : ByteArray) (i n : Nat) (h : i + n ≤ s.size) (m : World) : (Instr.slice 9 (.string s) (some (.int .i64 i)) (some (.int .i64 ((i : Int) + (n : Int)))) none).run Tryz.prog m = .ok (.string (s.extract i (i + n))) m := by
  have := run_slice_string (P := Tryz.prog) m 9 s .i64 .i64 i ((i : Int) + (n : Int)) Tryz.underlying9 (by omega) (by omega) (by omega)
  rw [this]
  have e : ((i : Int) + (n : Int)).toNat = i + n := by omega
  rw [e]
  simp

theorem byte_at (s : ByteArray) {i c : Nat} (h : i < s.size) (hc : (bts s).getD i 0 = c) (m : World) : (Instr.index 9 (.string s) (.int .i64 i)).run Tryz.prog m = .ok (.int .u8 (c : Int)) m := by
  rw [run_byte s i i rfl h m, hc]

end Go.Proofs.YtfoijbcmjciihaaGreatDoor
