/- RegsNames: what the row asks of the program's text. -/
import Derived.Test.YtnkahlloahgifaaGreatDoorVB
import Derived.Test.YtnkahlloahgifaaGreatDoorRows
import Derived.Test.YtnkahlloahgifaaGreatDoorTie
import Derived.ProofKit
import Derived.JoinedOf
import Derived.MakeChecks
set_option maxHeartbeats 16000000
set_option maxRecDepth 100000
namespace Go.Proofs.YtnkahlloahgifaaGreatDoor
namespace regsNames
open Go.Proofs.YtnkahlloahgifaaGreatDoor
theorem closed1:(Rows.regsNamesRow.inPlace==Tryz.prog.inPlace 4)=true:=by kernel_rfl
theorem closed2:(Rows.regsNamesRow.unfollowed==Tryz.prog.unfollowed 4)=true:=by kernel_rfl
theorem closed3:(Rows.regsNamesRow.recurses==Tryz.prog.recurses 4)=true:=by kernel_rfl
theorem closed4:(Rows.regsNamesRow.named==Tryz.prog.varsNamed 4)=true:=by kernel_rfl
theorem closed:joinedFacts Tryz.pinned.checked.prog 4 Tryz.f4 Rows.regsNamesSpec Rows.regsNamesRow=true:=by
 show joinedFacts Tryz.prog 4 Tryz.f4 Rows.regsNamesSpec Rows.regsNamesRow=true;unfold joinedFacts;rw [closed1,closed2,closed3,closed4]
 kernel_rfl
end regsNames
end Go.Proofs.YtnkahlloahgifaaGreatDoor
