/- IsName, Plain, Check: walked. -/
import Derived.Test.YtnkahlloahgifaaGreatDoorLxP
import Derived.Test.YtnkahlloahgifaaGreatDoorLxW
set_option linter.unusedSimpArgs false
set_option linter.unusedVariables false
namespace Go.Proofs.YtnkahlloahgifaaGreatDoor.Lx
namespace LX
def plainOf (l : List Nat) : Bool := if kindOf l = 2 ∨ kindOf l = 3 then !l.contains 39 else kindOf l == 4
/-- Whether a token is valid. -/
def checkOf (k v : Int) (l : List Nat) (p : Int) : Bool := decide (0 ≤ p) && (kindOf l : Int) == k && k != 0 && v == (if k = 1 then (num l).getD 0 else 0)
end LX
open Go.RowKit

theorem isName_any {w : World} (henv : Env w) (s : ByteArray) (hmax : s.size ≤ 9223372036854775807) :
    Calls Tryz.prog 108 #[.string s] w fun e w' => e = .returned (.bool (LX.kindOf (bts s) == 2)) ∧ Below w.heap.size w w' := by
  have K := Lib.hid (kind_any henv s hmax)
  obtain ⟨r, hr⟩ : ∃ r, r = LX.kindOf (bts s) := ⟨_, rfl⟩
  unfold KPost at K
  rw [← hr] at K ⊢
  have e1 : ((r : Int) == 2) = (r == 2) := by rw [Bool.eq_iff_iff, beq_iff_eq, beq_iff_eq]; omega
  have HE := Lib.hid e1
  clear hr henv e1
  go_enter Tryz.func108, Tryz.ntmps108
  go_wp2_with fail
  refine K.out.mono ?_
  rintro e w1 ⟨rfl, hb⟩
  have HB := Lib.hid hb
  clear hb
  go_wp2_with fail
  go_ret
  exact ⟨by rw [← HE.out]; rfl, HB.out⟩

end Go.Proofs.YtnkahlloahgifaaGreatDoor.Lx
