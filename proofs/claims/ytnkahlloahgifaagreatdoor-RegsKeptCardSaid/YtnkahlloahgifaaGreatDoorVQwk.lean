/- RegsKept: what the row asks of the program's text. -/
import Derived.Test.YtnkahlloahgifaaGreatDoorVB
import Derived.Test.YtnkahlloahgifaaGreatDoorRows
import Derived.Test.YtnkahlloahgifaaGreatDoorTie
import Derived.ProofKit
import Derived.JoinedOf
import Derived.MakeChecks
set_option maxHeartbeats 16000000
set_option maxRecDepth 100000
namespace Go.Proofs.YtnkahlloahgifaaGreatDoor.regsKept
open Go.Proofs.YtnkahlloahgifaaGreatDoor
theorem closed1:(Rows.regsKeptRow.inPlace==Tryz.prog.inPlace 11)=true:=by kernel_rfl
theorem closed2:(Rows.regsKeptRow.unfollowed==Tryz.prog.unfollowed 11)=true:=by kernel_rfl
theorem closed3:(Rows.regsKeptRow.recurses==Tryz.prog.recurses 11)=true:=by kernel_rfl
theorem closed4:(Rows.regsKeptRow.named==Tryz.prog.varsNamed 11)=true:=by kernel_rfl
theorem closed:joinedFacts Tryz.pinned.checked.prog 11 Tryz.f11 Rows.regsKeptSpec Rows.regsKeptRow=true:=by
 show joinedFacts Tryz.prog 11 Tryz.f11 Rows.regsKeptSpec Rows.regsKeptRow=true
 unfold joinedFacts
 rw [closed1,closed2,closed3,closed4]
 kernel_rfl
end Go.Proofs.YtnkahlloahgifaaGreatDoor.regsKept
