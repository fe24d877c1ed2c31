/- A call that makes new blocks alone (whatever they are) leaves what came in as it was: the row's answer, for arguments that are integers. -/
import Derived.Test.YtfjgokbclgdfjaaSane
import Derived.Test.YtfjgokbclgdfjaaRows
import Derived.WalkKit
import Derived.ProofKit
import Derived.OpenShut
set_option linter.unusedSimpArgs false
set_option linter.unusedVariables false
namespace Go.Proofs.Ytfjgokbclgdfjaa
open Go.ChangeShapes Go.WideShapes Go.ChangeAt Go.RowKit

theorem kept_of_ch {ρ' : Nat → Nat} {w w' : World} (h : Ch Mine (fun _ => 0) ρ' w w') (may : MemPlace → Prop) : w.keptBut w' may := by
  have hb : ∀ k, k < w.heap.size → w'.heap[k]? = w.heap[k]? := fun k hk => h.block k hk (by simp [Mine])
  refine ⟨h.os, h.output, fun i hi => ?_⟩
  rw [hb i hi]
  split <;> simp_all

theorem frozen_of_ch {ρ' : Nat → Nat} {w w' : World} (h : Ch Mine (fun _ => 0) ρ' w w') (a : Addr) (ha : a.block < w.heap.size) : w'.frozen? a = w.frozen? a :=
  World.frozen?_of_block (h.block a.block ha (by simp [Mine]))

variable {P : Program} {H : Type} {enc : TypeId × Value → H}

/-- What is handed back and what came in stand, the places told are the old ones, and no old block is other than it was. -/
theorem post_of_ch {f : Func} {s : ChangeSpec} {apart fresh handsOn again : Bool} {ρ' : Nat → Nat} {W W' : World} {args : Array Value} {v : Value} {ds gs : List (DataW H)} {before pa pv : List MemPlace}
    (whole : DataW.Whole enc P f.params.toList s.vars apart W args.toList ds gs before) (same : before = pa ++ pv) (hch : Ch Mine (fun _ => 0) ρ' W W')
    (out : ∀ (b : Nat) (sp : Nat → Bool) (hd : Bool), DataW.TrodAll enc P W' b sp hd f.resultTypes.toList (v.resultList f.resultTypes.size) (s.fn H (ds ++ gs)).results [])
    (back : ∀ sp : Nat → Bool, (∀ p ∈ before, sp p.block = true) → DataW.TrodAll enc P W' 0 sp true f.params.toList args.toList (s.fn H (ds ++ gs)).args pa)
    (vars : ∀ sp : Nat → Bool, (∀ p ∈ before, sp p.block = true) → DataW.TrodVars enc P W' sp s.vars (s.fn H (ds ++ gs)).vars pv)
    (ok : ∀ (j : Nat) (t : TypeId) (r : Value), f.resultTypes[j]? = some t → (v.resultList f.resultTypes.size)[j]? = some r → Value.okWide P W' .any 0 t r) :
    s.post enc P f apart fresh handsOn again W args v W' := by
  have lt : ∀ p ∈ before, p.block < W.heap.size := whole.lt
  have old : ∀ p ∈ before, decide (p.block < W.heap.size) = true := fun p hp => decide_eq_true (lt p hp)
  have hw := whole
  obtain ⟨_, _, _, _, _, cold, once⟩ := hw
  subst same
  refine ⟨ds, gs, _, [], pa, pv, whole, out _ _ _, back _ old, vars _ old, kept_of_ch hch _, fun _ => ⟨ok, _, _, ([] ++ pa) ++ pv, ⟨[] ++ pa, pv, trodAll_append (back _ fun _ _ => rfl) (out _ _ _), vars _ fun _ _ => rfl, rfl, ?_, ?_⟩, ?_⟩⟩
  · intro b off hp
    rw [frozen_of_ch hch ⟨b, off, none⟩ (lt _ hp)]
    exact cold b off hp
  · exact once
  · intro p hp _
    simpa using hp
end Go.Proofs.Ytfjgokbclgdfjaa
