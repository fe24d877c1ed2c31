/- RegsFewest: what the row asks of the program's text. -/
import Derived.Test.YtnkahlloahgifaaGreatDoorVA
import Derived.Test.YtnkahlloahgifaaGreatDoorRows
import Derived.Test.YtnkahlloahgifaaGreatDoorTie
import Derived.ProofKit
import Derived.JoinedOf
import Derived.MakeChecks
namespace Go.Proofs.YtnkahlloahgifaaGreatDoor.regsFewest
open Go.Proofs.YtnkahlloahgifaaGreatDoor
theorem closed1:(Rows.regsFewestRow.inPlace==Tryz.prog.inPlace 13)=true:=by kernel_rfl
theorem closed2:(Rows.regsFewestRow.unfollowed==Tryz.prog.unfollowed 13)=true:=by kernel_rfl
theorem closed3:(Rows.regsFewestRow.recurses==Tryz.prog.recurses 13)=true:=by kernel_rfl
theorem closed4:(Rows.regsFewestRow.named==Tryz.prog.varsNamed 13)=true:=by kernel_rfl
theorem closed:joinedFacts Tryz.pinned.checked.prog 13 Tryz.f13 Rows.regsFewestSpec Rows.regsFewestRow=true:=by
 show joinedFacts Tryz.prog 13 Tryz.f13 Rows.regsFewestSpec Rows.regsFewestRow=true
 unfold joinedFacts
 rw [closed1,closed2,closed3,closed4]
 kernel_rfl
end Go.Proofs.YtnkahlloahgifaaGreatDoor.regsFewest
