/- The methods of *free. -/
import Derived.Test.YtfjgokbclgdfjaaJ
set_option linter.unusedSimpArgs false
set_option linter.unusedVariables false
namespace Go.Proofs.Ytfjgokbclgdfjaa
open Go.RowKit HM

theorem meth_less0 (w : World) (b : Nat) : (method 263 91 (.pointer (some ⟨b, 14, none⟩)) "Less").run Try.prog w = (do let r ← loadVar 45 ⟨b, 14, none⟩; pure ((128 : FuncId), r)).run Try.prog w := by
  kernel_rfl
theorem meth_len0 (w : World) (b : Nat) : (method 263 91 (.pointer (some ⟨b, 14, none⟩)) "Len").run Try.prog w = (do let r ← loadVar 45 ⟨b, 14, none⟩; pure ((82 : FuncId), r)).run Try.prog w := by
  kernel_rfl
theorem meth_swap0 (w : World) (b : Nat) : (method 263 91 (.pointer (some ⟨b, 14, none⟩)) "Swap").run Try.prog w = (do let r ← loadVar 45 ⟨b, 14, none⟩; pure ((130 : FuncId), r)).run Try.prog w := by
  kernel_rfl
theorem meth_push (w : World) (b : Nat) : (method 263 91 (.pointer (some ⟨b, 14, none⟩)) "Push").run Try.prog w = .ok (132, .pointer (some ⟨b, 14, none⟩)) w := by
  kernel_rfl
theorem meth_pop (w : World) (b : Nat) : (method 263 91 (.pointer (some ⟨b, 14, none⟩)) "Pop").run Try.prog w = .ok (131, .pointer (some ⟨b, 14, none⟩)) w := by
  kernel_rfl
theorem load45 (w : World) (b : Nat) (a : Option Addr) (n c : Nat) (h : w.cell? ⟨b, 14, none⟩ = some (.slice a n c)) : (loadVar 45 ⟨b, 14, none⟩).run Try.prog w = .ok (.slice a n c) w := by
  simp [loadVar, h]
theorem meth_less {w : World} {b : Nat} {a : Option Addr} {n c : Nat} (h : w.cell? ⟨b, 14, none⟩ = some (.slice a n c)) : (method 263 91 (.pointer (some ⟨b, 14, none⟩)) "Less").run Try.prog w = .ok (128, .slice a n c) w := by
  rw [meth_less0]; simp [load45 w b a n c h]
theorem meth_len {w : World} {b : Nat} {a : Option Addr} {n c : Nat} (h : w.cell? ⟨b, 14, none⟩ = some (.slice a n c)) : (method 263 91 (.pointer (some ⟨b, 14, none⟩)) "Len").run Try.prog w = .ok (82, .slice a n c) w := by
  rw [meth_len0]; simp [load45 w b a n c h]
theorem meth_swap {w : World} {b : Nat} {a : Option Addr} {n c : Nat} (h : w.cell? ⟨b, 14, none⟩ = some (.slice a n c)) : (method 263 91 (.pointer (some ⟨b, 14, none⟩)) "Swap").run Try.prog w = .ok (130, .slice a n c) w := by
  rw [meth_swap0]; simp [load45 w b a n c h]
end Go.Proofs.Ytfjgokbclgdfjaa
