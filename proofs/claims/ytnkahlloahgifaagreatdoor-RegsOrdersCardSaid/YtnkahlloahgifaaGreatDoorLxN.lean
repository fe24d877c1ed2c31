/- What a scan leaves. -/
import Derived.Test.YtnkahlloahgifaaGreatDoorLxM
set_option linter.unusedSimpArgs false
set_option linter.unusedVariables false
namespace Go.Proofs.YtnkahlloahgifaaGreatDoor.Lx
namespace LX
def Res.toks : Res → List Tok
  | .ok l _ => l
  | .bad _ _ => []
def Res.spot : Res → Nat
  | .ok _ _ => 0
  | .bad p _ => p
def Res.err : Res → Nat
  | .ok _ _ => 0
  | .bad _ e => e
/-- What a text of at most so many bytes has. -/
def up (most : Nat) (l : List Nat) : Res := if most < l.length then .bad 0 2 else scan l
end LX
open Go.RowKit

/-- What Scan and Long leave. -/
def TkPost (w : World) (r : LX.Res) (e : Ending) (w' : World) : Prop :=
  ∃ a c, e = .returned (.tuple #[.slice a r.toks.length c, .int .i64 r.spot, .int .i64 r.err]) ∧ w'.ownsRow w.heap.size 154 4 (.slice a r.toks.length c) r.toks.length (flatT r.toks) ∧ Below w.heap.size w w'

theorem tk_bad {w w' : World} (p e : Nat) (h : Below w.heap.size w w') : TkPost w (.bad p e) (.returned (.tuple #[.slice none 0 0, .int .i64 p, .int .i64 e])) w' :=
  ⟨none, 0, rfl, World.ownsRow_nil _ _ _ _, h⟩

theorem owns_slice {w : World} {base e size n : Nat} {v : Value} {xs : List Value} (h : w.ownsRow base e size v n xs) : ∃ a c, v = .slice a n c := by
  rcases h.2 with ⟨rfl, h0⟩ | ⟨g, cap, cur, rfl, _⟩
  · rw [h0]; exact ⟨_, _, rfl⟩
  · exact ⟨_, _, rfl⟩

end Go.Proofs.YtnkahlloahgifaaGreatDoor.Lx
