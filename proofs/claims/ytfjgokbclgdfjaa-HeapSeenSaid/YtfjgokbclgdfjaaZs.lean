/- The states of the chapter's examples. -/
import Derived.Test.YtfjgokbclgdfjaaGm
set_option linter.unusedSimpArgs false
set_option linter.unusedVariables false
namespace Go.Proofs.Ytfjgokbclgdfjaa.HM

def five : List W := [.num 1, .num 2, .num 3, .num 4, .num 5]
def z1 : S := (S.new 10).made 0 []
def z2 : S := z1.made (-1) [.obj 0]
def z3 : S := z2.made 1 [.num 7, .obj 1]
def z4 : S := z3.drop 0
def z5 : S := z4.drop 1
def z6 : S := z5.give 1
def z7 : S := z6.give 0
def z8 : S := z7.setC 1 (.num 5)
def z9 : S := z8.drop 1
def z10 : S := z9.collect
def z11 : S := z10.collect
def z12 : S := z11.drop 2
def z13 : S := z12.collect
def z14 : S := z13.made 2 five

theorem z1_f : z1.fitsB 2 ∧ z1.handles = [some 0] ∧ z1.objs.length = 1 := by decide
theorem z2_f : z2.fitsB 3 ∧ z2.handles = [some 0, some 1] ∧ z2.objs.length = 2 := by decide
theorem z3_f : z3.used = 6 ∧ z3.handles = [some 0, some 1, some 2] := by decide
theorem z5_f : z4.handles = [none, some 1, some 2] ∧ z5.handles = [none, none, some 2] := by decide
theorem z7_f : z6.handles = [some 1, none, some 2] ∧ z7.handles = [some 1, some 0, some 2] := by decide
theorem z10_f : z9.epoch = 0 ∧ z10.used = 5 ∧ z10.epoch = 1 ∧ ¬ z10.fitsB 6 ∧ ¬ z11.fitsB 6 ∧ z11.used = 5 ∧ z11.handles = [some 1, none, some 2] ∧ z10.handles = [some 1, none, some 2] ∧ z12.epoch = 2 := by decide
theorem z14_f : z13.fitsB 6 ∧ z13.handles = [some 1, none, none] ∧ z13.objs.length = 3 ∧ z14.used = 8 := by decide
end Go.Proofs.Ytfjgokbclgdfjaa.HM
