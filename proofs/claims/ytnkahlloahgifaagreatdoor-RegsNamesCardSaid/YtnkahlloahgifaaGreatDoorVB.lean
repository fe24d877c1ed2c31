/- Short names. -/
import Derived.Test.YtnkahlloahgifaaGreatDoorVA
import Derived.Laws.Rows
import Derived.Laws.World
import Derived.Lib.SliceRun
import Derived.OrdersHeld
import Derived.Deep.RegionHeld
import Derived.Below
namespace Go.Proofs.YtnkahlloahgifaaGreatDoor
theorem zb : type_of% @Go.cell_of_row := @Go.cell_of_row
theorem zs1 : type_of% @Go.frozen_of_row := @Go.frozen_of_row
theorem zs2 : type_of% @Go.heap_alloc_new := @Go.heap_alloc_new
theorem zs3 : type_of% @Go.World.block_lt_of_cell? := @Go.World.block_lt_of_cell?
theorem zs4 : type_of% @Go.Lib.cell?_alloc_some := @Go.Lib.cell?_alloc_some
theorem zs5 : type_of% @Go.wpAnyH_take := @Go.wpAnyH_take
theorem zs6 : type_of% @Go.wpAnyH_ready := @Go.wpAnyH_ready
theorem zs7 : type_of% @Go.AllReadyH.cons := @Go.AllReadyH.cons
theorem zs8 : type_of% @Go.AllReadyH.nil := @Go.AllReadyH.nil
theorem zs9 : type_of% @Go.RowKit.Below.refl := @Go.RowKit.Below.refl
theorem zt1 : type_of% @Go.RowKit.Below.heap_setCell := @Go.RowKit.Below.heap_setCell
theorem zt2 : type_of% @Go.RowKit.Below.heap_alloc := @Go.RowKit.Below.heap_alloc
end Go.Proofs.YtnkahlloahgifaaGreatDoor
