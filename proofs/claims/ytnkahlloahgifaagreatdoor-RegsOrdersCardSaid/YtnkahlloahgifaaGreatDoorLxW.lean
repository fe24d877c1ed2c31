/- A region that draws, that reads, and whose calls only make memory: walked once, in the order of the text. -/
import Derived.Test.YtnkahlloahgifaaGreatDoorLxA
set_option linter.unusedSimpArgs false
set_option linter.unusedVariables false
namespace Go.Proofs.YtnkahlloahgifaaGreatDoor.Lx
open Go.RowKit

/-- The worlds that such a region may be in. -/
structure Wg (w : World) where
  v : World
  ch : Below w.heap.size w v

def Wg.first (w : World) : Wg w := ⟨w.drew, (Below.refl _ _).drew⟩

theorem Wg.cell {w : World} (x : Wg w) {b o : Nat} {v : Value} (hb : b < w.heap.size) (h : w.cell? ⟨b, o, none⟩ = some v) : x.v.cell? ⟨b, o, none⟩ = some v := (x.ch.cell (p := ⟨b, o, none⟩) hb).trans h

theorem Wg.call {P : Program} {w : World} {f : FuncId} {args : Array Value} {v : Value} (h : ∀ x : Wg w, Calls P f args x.v fun e w' => e = .returned v ∧ Below x.v.heap.size x.v w') (x : Wg w) :
    Calls P f args x.v fun e w' => e = .returned v ∧ ∃ y : Wg w, w' = y.v := by
  refine (h x).mono ?_
  rintro e w' ⟨rfl, hb⟩
  exact ⟨rfl, ⟨w', x.ch.trans (hb.mono x.ch.size)⟩, rfl⟩

theorem wp_region_below {P : Program} {id : Nat} {Q : Exit → Act → World → Prop} {a : Act} {w : World} {l : List Oper} (hm : P.follows .mixedOrders = true) (hB : Region.lexB .any l.toArray = true)
    (h : wpQuiet P l.toArray (fun w' => ∃ x : Wg w, w' = x.v) (fun a' => ∀ x : Wg w, Q .normal a' x.v) l a) : (Code.region id l.toArray true).wp P Q a w := by
  refine wp_region_quiet (C := fun w' => ∃ x : Wg w, w' = x.v) hm hB ⟨Wg.first w, rfl⟩ ?_
  simp only [List.toList_toArray]
  have e : (fun a' => ∀ x : Wg w, Q .normal a' x.v) = fun a' => ∀ w', (∃ x : Wg w, w' = x.v) → Q .normal a' w' := by
    funext a'
    exact propext ⟨fun h w' ⟨x, e⟩ => e ▸ h x, fun h x => h _ ⟨x, rfl⟩⟩
  rw [← e]
  exact h
end Go.Proofs.YtnkahlloahgifaaGreatDoor.Lx
