/- The states of the statement on weak references; the room is any. -/
import Derived.Test.YtfjgokbclgdfjaaGm2
namespace Go.Proofs.Ytfjgokbclgdfjaa.HM

def y1 (R : Nat) : S := (S.new R).made 3 [.num 8]
def y2 (R : Nat) : S := (y1 R).made 4 [.obj 0]
def y3 (R : Nat) : S := (y2 R).addWeak 1
def y4 (R : Nat) : S := (y3 R).drop 0
def y5 (R : Nat) : S := (y4 R).drop 1
def y6 (R : Nat) : S := (y5 R).begin
def y7 (R : Nat) : S := (y6 R).step.1
def y8 (R : Nat) : S := (y7 R).collect
def p6 (R : Nat) : S := (y6 R).give 1
def p7 (R : Nat) : S := (p6 R).collect
def p8 (R : Nat) : S := (p7 R).give 0

/-- The state behind k steps. -/
def yk (R k : Nat) : S := if k = 0 then y6 R else y7 R

theorem y_new (R : Nat) (h : 20 ≤ R) : (S.new R).fitsB (1 + 1) ∧ (S.new R).handles = [] ∧ (S.new R).objs.length = 0 := ⟨by show 0 + 0 + (1 + 1) ≤ R; omega, rfl, rfl⟩
theorem y1_f (R : Nat) (h : 20 ≤ R) : (y1 R).fitsB (1 + 1) ∧ (y1 R).handles = [some 0] ∧ (y1 R).objs.length = 1 := ⟨by show 2 + 0 + (1 + 1) ≤ R; omega, by kernel_rfl, by kernel_rfl⟩
theorem y2_f (R : Nat) : (y2 R).handles = [some 0, some 1] ∧ (y2 R).weak = [] ∧ (y3 R).handles = [some 0, some 1] ∧ (y4 R).handles = [none, some 1] := ⟨by kernel_rfl, by kernel_rfl, by kernel_rfl, by kernel_rfl⟩
theorem y5_f (R : Nat) : (y5 R).phase = 0 ∧ (y5 R).epoch = 0 := ⟨by kernel_rfl, by kernel_rfl⟩
theorem y7_f (R : Nat) : (y7 R).phase = 0 ∧ (y7 R).weak = [1] ∧ (y7 R).objs[1]? = some ⟨4, [.num 4, .obj 0], 0, 2, 0⟩ ∧ (y7 R).done = 1 ∧ (y7 R).epoch = 1 := ⟨by kernel_rfl, by kernel_rfl, by kernel_rfl, by kernel_rfl, by kernel_rfl⟩
theorem y8_f (R : Nat) : (y8 R).weak = [1] ∧ (y8 R).objs[1]? = some ⟨4, [.num 4, .obj 0], 0, 2, 0⟩ ∧ (y8 R).done = 2 ∧ (y8 R).used = 0 := ⟨by kernel_rfl, by kernel_rfl, by kernel_rfl, by kernel_rfl⟩
theorem y6_f (R : Nat) : (y6 R).handles = [none, none] ∧ (y6 R).weak = [1] ∧ (y6 R).objs[1]? = some ⟨4, [.num 4, .obj 0], 0, 2, 0⟩ ∧ (y6 R).done = 0 := ⟨by kernel_rfl, by kernel_rfl, by kernel_rfl, by kernel_rfl⟩
theorem p6_f (R : Nat) : (p6 R).epoch = 1 := by kernel_rfl
theorem p7_f (R : Nat) : (p7 R).used = 4 ∧ (p7 R).handles = [some 1, none] ∧ ((p7 R).objs[1]? = some ⟨4, [.num 4, .obj 0], 0, 0, 2⟩) := ⟨by kernel_rfl, by kernel_rfl, by kernel_rfl⟩
theorem p8_f (R : Nat) : (p8 R).handles = [some 1, some 0] ∧ ((p8 R).objs[0]? = some ⟨3, [.num 3, .num 8], 0, 2, 2⟩) := ⟨by kernel_rfl, by kernel_rfl⟩
theorem yk_step (R k : Nat) : (yk R k).step.1 = yk R (k + 1) := by
  unfold yk
  by_cases h : k = 0
  · simp [h]; rfl
  · simp [h, S.step, (y7_f R).1]
end Go.Proofs.Ytfjgokbclgdfjaa.HM
