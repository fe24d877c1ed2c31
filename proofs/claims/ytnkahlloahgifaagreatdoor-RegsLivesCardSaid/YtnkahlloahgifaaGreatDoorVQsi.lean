/- RegsLives: what the row asks of the program's text. -/
import Derived.Test.YtnkahlloahgifaaGreatDoorVB
import Derived.Test.YtnkahlloahgifaaGreatDoorRows
import Derived.Test.YtnkahlloahgifaaGreatDoorTie
import Derived.ProofKit
import Derived.JoinedOf
import Derived.MakeChecks
set_option maxHeartbeats 16000000
set_option maxRecDepth 100000
namespace Go.Proofs.YtnkahlloahgifaaGreatDoor.regsLives
open Go.Proofs.YtnkahlloahgifaaGreatDoor
theorem closed1:(Rows.regsLivesRow.inPlace==Tryz.prog.inPlace 3)=true:=by kernel_rfl
theorem closed2:(Rows.regsLivesRow.unfollowed==Tryz.prog.unfollowed 3)=true:=by kernel_rfl
theorem closed3:(Rows.regsLivesRow.recurses==Tryz.prog.recurses 3)=true:=by kernel_rfl
theorem closed4:(Rows.regsLivesRow.named==Tryz.prog.varsNamed 3)=true:=by kernel_rfl
theorem closed:joinedFacts Tryz.pinned.checked.prog 3 Tryz.f3 Rows.regsLivesSpec Rows.regsLivesRow=true:=by
 show joinedFacts Tryz.prog 3 Tryz.f3 Rows.regsLivesSpec Rows.regsLivesRow=true
 unfold joinedFacts
 rw [closed1,closed2,closed3,closed4]
 kernel_rfl
end Go.Proofs.YtnkahlloahgifaaGreatDoor.regsLives
