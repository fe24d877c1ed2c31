/- What is known of names: the lexer's contract. -/
import Derived.Test.YtnkahlloahgifaaGreatDoorCb
import Derived.Test.YtnkahlloahgifaaGreatDoorLxR
import Derived.Test.YtnkahlloahgifaaGreatDoorShelf
set_option linter.unusedSimpArgs false
set_option linter.unusedVariables false
namespace Go.Proofs.YtnkahlloahgifaaGreatDoor
open Go.RowKit RG

/-- Whether a text is a name. -/
def isNm (s : Nm) : Bool := Lx.LX.kindOf (Lx.bts s) == 2

theorem nlaw : NLaw Lx.Env isNm where
  call := fun W s he hs => Lx.isName_any he s (by unfold maxLen at hs; omega)
  keep := fun B W W' hB h hb => Lx.Env.keep h hb hB
  size := fun W h => h.size

theorem sort_law : Go.Proofs.YtnkahlloahgifaaGreatDoor.SortLaw := by
  intro blk cap zs w h1 h2 h3
  exact Tryz.slices_Sort_int blk 0 cap zs w h1 h2 h3
end Go.Proofs.YtnkahlloahgifaaGreatDoor
