/- RegsSteps: what the row asks of the program's text. -/
import Derived.Test.YtnkahlloahgifaaGreatDoorVA
import Derived.Test.YtnkahlloahgifaaGreatDoorRows
import Derived.Test.YtnkahlloahgifaaGreatDoorTie
import Derived.ProofKit
import Derived.JoinedOf
import Derived.MakeChecks
namespace Go.Proofs.YtnkahlloahgifaaGreatDoor.regsSteps
open Go.Proofs.YtnkahlloahgifaaGreatDoor
theorem closed1:(Rows.regsStepsRow.inPlace==Tryz.prog.inPlace 6)=true:=by kernel_rfl
theorem closed2:(Rows.regsStepsRow.unfollowed==Tryz.prog.unfollowed 6)=true:=by kernel_rfl
theorem closed3:(Rows.regsStepsRow.recurses==Tryz.prog.recurses 6)=true:=by kernel_rfl
theorem closed4:(Rows.regsStepsRow.named==Tryz.prog.varsNamed 6)=true:=by kernel_rfl
theorem closed:joinedFacts Tryz.pinned.checked.prog 6 Tryz.f6 Rows.regsStepsSpec Rows.regsStepsRow=true:=by
 show joinedFacts Tryz.prog 6 Tryz.f6 Rows.regsStepsSpec Rows.regsStepsRow=true
 unfold joinedFacts
 rw [closed1,closed2,closed3,closed4]
 kernel_rfl
end Go.Proofs.YtnkahlloahgifaaGreatDoor.regsSteps
