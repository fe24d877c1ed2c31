/- RegsTwo: what the row asks of the program's text. -/
import Derived.Test.YtnkahlloahgifaaGreatDoorVA
import Derived.Test.YtnkahlloahgifaaGreatDoorRows
import Derived.Test.YtnkahlloahgifaaGreatDoorTie
import Derived.ProofKit
import Derived.JoinedOf
import Derived.MakeChecks
namespace Go.Proofs.YtnkahlloahgifaaGreatDoor.regsTwo
open Go.Proofs.YtnkahlloahgifaaGreatDoor
theorem closed1:(Rows.regsTwoRow.inPlace==Tryz.prog.inPlace 12)=true:=by kernel_rfl
theorem closed2:(Rows.regsTwoRow.unfollowed==Tryz.prog.unfollowed 12)=true:=by kernel_rfl
theorem closed3:(Rows.regsTwoRow.recurses==Tryz.prog.recurses 12)=true:=by kernel_rfl
theorem closed4:(Rows.regsTwoRow.named==Tryz.prog.varsNamed 12)=true:=by kernel_rfl
theorem closed:joinedFacts Tryz.pinned.checked.prog 12 Tryz.f12 Rows.regsTwoSpec Rows.regsTwoRow=true:=by
 show joinedFacts Tryz.prog 12 Tryz.f12 Rows.regsTwoSpec Rows.regsTwoRow=true
 unfold joinedFacts
 rw [closed1,closed2,closed3,closed4]
 kernel_rfl
end Go.Proofs.YtnkahlloahgifaaGreatDoor.regsTwo
