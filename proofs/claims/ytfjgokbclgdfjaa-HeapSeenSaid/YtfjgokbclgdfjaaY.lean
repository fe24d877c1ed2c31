/- place. -/
import Derived.Test.YtfjgokbclgdfjaaX
import Derived.BigRegion
set_option linter.unusedSimpArgs false
set_option linter.unusedVariables false
namespace Go.Proofs.Ytfjgokbclgdfjaa
open Go.RowKit HM

set_option maxHeartbeats 4000000 in
set_option maxRecDepth 20000 in
theorem place_any (w : World) (b ob : Nat) (hne : ob ≠ b) (v2 v3 v4 : Value) (size cur bump used ep : Int) (h1 : w.cell? ⟨ob, 1, none⟩ = some (.int .i64 size)) (h2 : w.cell? ⟨ob, 2, none⟩ = some v2) (h3 : w.cell? ⟨ob, 3, none⟩ = some v3) (h4 : w.cell? ⟨ob, 4, none⟩ = some v4)
    (f : ∀ o, w.frozen? ⟨ob, o, none⟩ = false) (g : ∀ o, w.frozen? ⟨b, o, none⟩ = false) (c3 : w.cell? ⟨b, 3, none⟩ = some (.int .i64 cur)) (c4 : w.cell? ⟨b, 4, none⟩ = some (.int .i64 used)) (c5 : w.cell? ⟨b, 5, none⟩ = some (.int .i64 bump)) (c9 : w.cell? ⟨b, 9, none⟩ = some (.int .i64 ep))
    (b1 : 0 ≤ bump) (b2 : bump ≤ 1000000) (b3 : 0 ≤ size) (b4 : size ≤ 1000000) (b5 : 0 ≤ used) (b6 : used ≤ 1000000) :
    Calls Try.prog 79 #[.pointer (some ⟨b, 0, none⟩), .pointer (some ⟨ob, 0, none⟩)] w fun e w' => e = .returned (.tuple #[]) ∧ w' = (((((w.setCell ⟨ob, 2, none⟩ (.int .i64 cur)).setCell ⟨ob, 3, none⟩ (.int .i64 bump)).setCell ⟨ob, 4, none⟩ (.int .i64 ep)).setCell ⟨b, 5, none⟩ (.int .i64 (bump + size))).setCell ⟨b, 4, none⟩ (.int .i64 (used + size))).drewN 3 := by
  have hne' : b ≠ ob := fun e => hne e.symm
  have l1 : ob < w.heap.size := World.block_lt_of_cell? w _ h1
  have l2 : b < w.heap.size := World.block_lt_of_cell? w _ c3
  go_enter Try.func79, Try.ntmps79
  go_wp2
  go_region
  go_wp2
  go_region
  go_wp2
  go_region
  go_wp2
  go_end0
  exact ⟨rfl, rfl⟩
end Go.Proofs.Ytfjgokbclgdfjaa
