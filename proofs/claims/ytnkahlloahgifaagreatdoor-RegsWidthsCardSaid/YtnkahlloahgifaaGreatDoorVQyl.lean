/- RegsWidths: what the row asks of the program's text. -/
import Derived.Test.YtnkahlloahgifaaGreatDoorVB
import Derived.Test.YtnkahlloahgifaaGreatDoorRows
import Derived.Test.YtnkahlloahgifaaGreatDoorTie
import Derived.ProofKit
import Derived.JoinedOf
import Derived.MakeChecks
set_option maxHeartbeats 16000000
set_option maxRecDepth 100000
namespace Go.Proofs.YtnkahlloahgifaaGreatDoor.regsWidths
open Go.Proofs.YtnkahlloahgifaaGreatDoor
theorem closed1:(Rows.regsWidthsRow.inPlace==Tryz.prog.inPlace 5)=true:=by kernel_rfl
theorem closed2:(Rows.regsWidthsRow.unfollowed==Tryz.prog.unfollowed 5)=true:=by kernel_rfl
theorem closed3:(Rows.regsWidthsRow.recurses==Tryz.prog.recurses 5)=true:=by kernel_rfl
theorem closed4:(Rows.regsWidthsRow.named==Tryz.prog.varsNamed 5)=true:=by kernel_rfl
theorem closed:joinedFacts Tryz.pinned.checked.prog 5 Tryz.f5 Rows.regsWidthsSpec Rows.regsWidthsRow=true:=by
 show joinedFacts Tryz.prog 5 Tryz.f5 Rows.regsWidthsSpec Rows.regsWidthsRow=true
 unfold joinedFacts
 rw [closed1,closed2,closed3,closed4]
 kernel_rfl
end Go.Proofs.YtnkahlloahgifaaGreatDoor.regsWidths
