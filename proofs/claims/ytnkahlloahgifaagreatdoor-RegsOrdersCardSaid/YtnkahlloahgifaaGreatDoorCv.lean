/- The example of the statements: plain facts. -/
import Derived.Test.YtnkahlloahgifaaGreatDoorCh
import Derived.KernelRfl
import Derived.Test.YtnkahlloahgifaaGreatDoorCr
import Derived.Test.YtnkahlloahgifaaGreatDoorCp
set_option linter.unusedSimpArgs false
set_option linter.unusedVariables false
namespace Go.Proofs.YtnkahlloahgifaaGreatDoor
open RG

def xEnd : TE := .mk 9 ⟨#[]⟩ [⟨#[107]⟩] .nil .nil
def xAdd : TE := .mk 1 ⟨#[107]⟩ [⟨#[104]⟩, ⟨#[115]⟩] .nil (.cons xEnd .nil)
def xRead : TE := .mk 5 ⟨#[115]⟩ [⟨#[114]⟩] .nil (.cons xAdd .nil)
def xMod : TE := .mk 4 ⟨#[114]⟩ [⟨#[116]⟩] .nil (.cons xRead .nil)
def xNil : TE := .mk 9 ⟨#[]⟩ [⟨#[]⟩] .nil .nil
def xSplit : TE := .mk 7 ⟨#[]⟩ [⟨#[99]⟩] (.cons [] xNil (.cons [⟨#[104]⟩, ⟨#[116]⟩] xMod .nil)) .nil
def xSum : TE := .mk 5 ⟨#[99]⟩ [⟨#[109]⟩] .nil (.cons xSplit .nil)
def xF : List Nd := F0 [⟨#[109]⟩] xSum

theorem xsize : xSum.size = 7 := by kernel_rfl
theorem xvars : vars xF = [⟨#[109]⟩, ⟨#[99]⟩, ⟨#[104]⟩, ⟨#[116]⟩, ⟨#[114]⟩, ⟨#[115]⟩, ⟨#[107]⟩] := by kernel_rfl
theorem xlive : liveAt xF 4 = [⟨#[104]⟩, ⟨#[114]⟩] := by kernel_rfl
theorem xc1 : conflict xF ⟨#[104]⟩ ⟨#[114]⟩ = true := by kernel_rfl
theorem xc2 : conflict xF ⟨#[116]⟩ ⟨#[114]⟩ = false := by kernel_rfl
theorem xwidth : width xF = 2 := by kernel_rfl
theorem xalloc : alloc xF = ([0, 0, 0, 1, 1, 1, 0], 2) := by kernel_rfl
theorem xorder : (RM.order [(0, 1), (1, 0)] 2).length = 3 := by kernel_rfl
theorem xmoves : RM.areMoves [(0, 1), (1, 0)] 2 = true := by kernel_rfl
theorem xnames : (vars xF).all isNm = true := by kernel_rfl
theorem xform : xF.all (fun d => nodeOk d.e) = true := by kernel_rfl
theorem xscope : xSum.inScope [⟨#[109]⟩] = true := by kernel_rfl
theorem xsmall : xF.all (fun d => d.binds.all (fun x => decide (x.size ≤ 1)) && d.e.args.all (fun x => decide (x.size ≤ 1))) = true := by kernel_rfl
theorem xnodup : (vars xF).Nodup := by rw [xvars]; decide
theorem xgood : RG.Good isNm [⟨#[109]⟩] xSum where
  params := by decide
  size := by rw [xsize]; decide
  form := List.all_eq_true.1 xform
  names := List.all_eq_true.1 xnames
  nodup := xnodup
  inScope := xscope
theorem xreg : regFind (pairs xF (alloc xF).1) ⟨#[115]⟩ = some 1 := by kernel_rfl
theorem xpairs : (pairs xF (alloc xF).1).length = 7 := by kernel_rfl
end Go.Proofs.YtnkahlloahgifaaGreatDoor
