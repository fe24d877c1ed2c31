/- Part. -/
import Derived.Test.YtnkahlloahgifaaGreatDoorVPta
set_option maxHeartbeats 16000000
set_option maxRecDepth 100000
set_option linter.unusedSimpArgs false
set_option linter.unusedVariables false
namespace RG
theorem getD_mem {F:List Nd}{p:Nat}(hp:p<(vars F).length):(vars F).getD p ⟨#[]⟩∈vars F:=by
 rw [List.getD_eq_getElem?_getD,List.getElem?_eq_getElem hp]
 exact List.getElem_mem hp
end RG
