/- RegsFunctions: what the row asks of the program's text. -/
import Derived.Test.YtnkahlloahgifaaGreatDoorVA
import Derived.Test.YtnkahlloahgifaaGreatDoorRows
import Derived.Test.YtnkahlloahgifaaGreatDoorTie
import Derived.ProofKit
import Derived.JoinedOf
import Derived.MakeChecks
namespace Go.Proofs.YtnkahlloahgifaaGreatDoor.regsFunctions
open Go.Proofs.YtnkahlloahgifaaGreatDoor
theorem closed1:(Rows.regsFunctionsRow.inPlace==Tryz.prog.inPlace 7)=true:=by kernel_rfl
theorem closed2:(Rows.regsFunctionsRow.unfollowed==Tryz.prog.unfollowed 7)=true:=by kernel_rfl
theorem closed3:(Rows.regsFunctionsRow.recurses==Tryz.prog.recurses 7)=true:=by kernel_rfl
theorem closed4:(Rows.regsFunctionsRow.named==Tryz.prog.varsNamed 7)=true:=by kernel_rfl
theorem closed:joinedFacts Tryz.pinned.checked.prog 7 Tryz.f7 Rows.regsFunctionsSpec Rows.regsFunctionsRow=true:=by
 show joinedFacts Tryz.prog 7 Tryz.f7 Rows.regsFunctionsSpec Rows.regsFunctionsRow=true
 unfold joinedFacts
 rw [closed1,closed2,closed3,closed4]
 kernel_rfl
end Go.Proofs.YtnkahlloahgifaaGreatDoor.regsFunctions
