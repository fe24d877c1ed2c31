/- Part. -/
import Derived.Test.YtnkahlloahgifaaGreatDoorVPrd
import Derived.Test.YtnkahlloahgifaaGreatDoorVPrg
import Derived.Test.YtnkahlloahgifaaGreatDoorVPtf
set_option maxHeartbeats 16000000
set_option maxRecDepth 100000
set_option linter.unusedSimpArgs false
set_option linter.unusedVariables false
namespace RG
open RF
theorem apI_zero (F:List Nd) (reg:Nm→Int) (i:Nat):ApI F reg i 0:=fun j x h=>absurd h (Nat.not_lt_zero _)
theorem apI_succ {F:List Nd}{reg:Nm→Int}{i k:Nat}{x:Nm}(h:ApI F reg i k) (hx:(nd F i).binds[k]?=some x) (h1:∀ y∈named F (cross F i),reg y≠reg x) (h2:∀ m y,m<k→(nd F i).binds[m]?=some y→reg y≠reg x):ApI F reg i (k+1):=fun j y hj hy=>by
 by_cases e:j=k
 ·subst e
  rw [hx] at hy
  obtain rfl:=Option.some.inj hy
  exact⟨h1,h2⟩
 exact h j y (by omega) hy
end RG
