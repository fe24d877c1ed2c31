/- Part. -/
import Derived.Test.YtnkahlloahgifaaGreatDoorVPrd
set_option maxHeartbeats 16000000
set_option maxRecDepth 100000
set_option linter.unusedSimpArgs false
set_option linter.unusedVariables false
namespace RG
theorem clash_lives (F:List Nd) (a b:Nm) (i:Nat):clash F a b i=((has (nd F i).binds a&&has (nd F i).binds b)||((has (nd F i).binds a&&lv F i b)||(has (nd F i).binds b&&lv F i a))):=by
 unfold clash cross
 cases has (nd F i).binds a<;>cases has (nd F i).binds b<;>cases lv F i a<;>cases lv F i b<;>rfl
end RG
namespace RG
open RF
theorem any_range_succ (q:Nat→Bool) (i:Nat):(List.range (i+1)).any q=((List.range i).any q||q i):=by
 rw [List.range_succ,List.any_append];simp
def cfl (F:List Nd) (x y:Nm) (i:Nat):Bool:=(List.range i).any (clash F x y)
theorem cfl_succ (F:List Nd) (x y:Nm) (i:Nat):cfl F x y (i+1)=(cfl F x y i||clash F x y i):=any_range_succ _ _
theorem cfl_true {F:List Nd}{x y:Nm}{i:Nat}(hi:i<F.length) (h:clash F x y i=true):cfl F x y F.length=true :=
 List.any_eq_true.2 ⟨i,List.mem_range.2 hi,h⟩
end RG
