/- RegsChecks: what the row asks of the program's text. -/
import Derived.Test.YtnkahlloahgifaaGreatDoorVB
import Derived.Test.YtnkahlloahgifaaGreatDoorRows
import Derived.Test.YtnkahlloahgifaaGreatDoorTie
import Derived.ProofKit
import Derived.JoinedOf
import Derived.MakeChecks
set_option maxHeartbeats 16000000
set_option maxRecDepth 100000
namespace Go.Proofs.YtnkahlloahgifaaGreatDoor.regsChecks
open Go.Proofs.YtnkahlloahgifaaGreatDoor
theorem closed1:(Rows.regsChecksRow.inPlace==Tryz.prog.inPlace 10)=true:=by kernel_rfl
theorem closed2:(Rows.regsChecksRow.unfollowed==Tryz.prog.unfollowed 10)=true:=by kernel_rfl
theorem closed3:(Rows.regsChecksRow.recurses==Tryz.prog.recurses 10)=true:=by kernel_rfl
theorem closed4:(Rows.regsChecksRow.named==Tryz.prog.varsNamed 10)=true:=by kernel_rfl
theorem closed:joinedFacts Tryz.pinned.checked.prog 10 Tryz.f10 Rows.regsChecksSpec Rows.regsChecksRow=true:=by
 show joinedFacts Tryz.prog 10 Tryz.f10 Rows.regsChecksSpec Rows.regsChecksRow=true
 unfold joinedFacts
 rw [closed1,closed2,closed3,closed4]
 kernel_rfl
end Go.Proofs.YtnkahlloahgifaaGreatDoor.regsChecks
