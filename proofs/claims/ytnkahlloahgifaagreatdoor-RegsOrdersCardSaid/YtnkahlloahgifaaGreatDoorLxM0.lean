/- The maker of the iterator; the deferred function that recovers: walked. -/
import Derived.Test.YtnkahlloahgifaaGreatDoorLxL0
import Derived.RangeFuncLeaves
import Derived.RangeFuncRecord
import Derived.RecoverIn
import Derived.TacticsInMore
import Derived.RegionTactic
import Derived.Outline
set_option linter.unusedSimpArgs false
set_option linter.unusedVariables false
namespace Go.Proofs.YtnkahlloahgifaaGreatDoor.Lx
open Go.RowKit

theorem tokens_any (w : World) (b : Nat) : Calls Tryz.prog 139 #[.pointer (some ⟨b, 0, none⟩)] w fun e w' => e = .returned (.func (.func 141) #[] #[.pointer (some ⟨w.heap.size, 0, none⟩)]) ∧ w' = w.alloc (.cells #[.pointer (some ⟨b, 0, none⟩)] 200) := by
  go_enter Tryz.func139, Tryz.ntmps139
  go_wp2
  go_ret
  exact ⟨rfl, rfl⟩

theorem caught_idle (n lb wb : Nat) (w : World) :
    CallsDIn Fence.wide n Tryz.prog 138 #[.pointer (some ⟨lb, 0, none⟩), .pointer (some ⟨wb, 0, none⟩)] .returning w fun e u' w' => e = .returned (.tuple #[]) ∧ u' = .returning ∧ w' = w := by
  refine callsDIn_of_wpSIn Tryz.func138 rfl (by trivial) fun c₀ cs hu => ?_
  apply wpSIn_seq
  apply wpSIn_region
  simp [wpOpsSIn, go_sem, recoverD, hu, Tryz.ntmps138, Exit.thenS]
  refine wpSIn_of_wpIn rfl (wpIn_wide.2 ?_)
  go_wp2
  cases c₀
  simp_all [bodyPostS, results, Tryz.results138]

/-- From one world to another two blocks have changed, and new ones have come. -/
structure Two (w w' : World) (x y : Nat) (ox oy : Obj) : Prop where
  os : w'.os = w.os
  tape : w'.tape = w.tape
  output : w'.output = w.output
  size : w.heap.size ≤ w'.heap.size
  hx : w'.heap[x]? = some ox
  hy : w'.heap[y]? = some oy
  block : ∀ k, k < w.heap.size → k ≠ x → k ≠ y → w'.heap[k]? = w.heap[k]?

set_option maxHeartbeats 400000 in
set_option maxRecDepth 20000 in
theorem caught_thrown (n lb wb : Nat) (w : World) (i e : Int) (v x y : Value) (hl : w.heap[lb]? = some (.cells #[v] 201 (0, 0))) (hw : w.heap[wb]? = some (.cells #[x, y] 203 (0, 0))) (hne : lb ≠ wb) :
    CallsDIn Fence.wide n Tryz.prog 138 #[.pointer (some ⟨lb, 0, none⟩), .pointer (some ⟨wb, 0, none⟩)] (.panicking [{ v := .iface 203 (.agg #[.int .i64 i, .int .i64 e]), recovered := false }]) w
      fun r u' w' => r = .returned (.tuple #[]) ∧ u' = .panicking [{ v := .iface 203 (.agg #[.int .i64 i, .int .i64 e]), recovered := true }] ∧
        Two w w' lb wb (.cells #[.slice none 0 0] 201 (0, 0)) (.cells #[.int .i64 i, .int .i64 e] 203 (0, 0)) := by
  have h0 : w.cell? ⟨lb, 0, none⟩ = some v := by rw [cell_of_row _ _ 0 _ _ _ hl]; rfl
  have h1 : w.cell? ⟨wb, 0, none⟩ = some x := by rw [cell_of_row _ _ 0 _ _ _ hw]; rfl
  have h2 : w.cell? ⟨wb, 1, none⟩ = some y := by rw [cell_of_row _ _ 1 _ _ _ hw]; rfl
  have f0 : w.frozen? ⟨lb, 0, none⟩ = false := frozen_of_row w lb 0 _ _ hl
  have f1 : w.frozen? ⟨wb, 0, none⟩ = false := frozen_of_row w wb 0 _ _ hw
  have f2 : w.frozen? ⟨wb, 1, none⟩ = false := frozen_of_row w wb 1 _ _ hw
  have HL := Lib.hid hl
  have HW := Lib.hid hw
  have HN := Lib.hid hne
  have hta : ∀ W : World, (Instr.typeAssert (.iface 203 (.agg #[.int .i64 i, .int .i64 e])) 20 203 true).run Tryz.prog W = .ok (.tuple #[.agg #[.int .i64 i, .int .i64 e], .bool true]) W := fun W => by kernel_rfl
  refine callsDIn_of_wpSIn Tryz.func138 rfl (by trivial) fun c₀ cs hu => ?_
  simp only [Tryz.ntmps138, List.size_toArray, List.length_cons, List.length_nil, Nat.reduceAdd, Nat.reduceSub, Array.replicate_succ, Array.replicate_zero, List.push_toArray, List.append_toArray, List.nil_append, List.cons_append]
  apply wpSIn_seq
  apply wpSIn_region
  simp [wpOpsSIn, go_sem, recoverD, hu, Exit.thenS]
  refine wpSIn_of_wpIn rfl (wpIn_wide.2 ?_)
  clear hl hw hne
  go_wp2
  obtain ⟨z, hz⟩ : ∃ z, z = w.heap.size := ⟨_, rfl⟩
  obtain ⟨V, hV⟩ : ∃ V, V = w.alloc (.cells #[.int .i64 i, .int .i64 e] 203) := ⟨_, rfl⟩
  rw [← hV, ← hz]
  have hlt : lb < w.heap.size ∧ wb < w.heap.size := ⟨(Array.getElem?_eq_some_iff.1 HL.out).1, (Array.getElem?_eq_some_iff.1 HW.out).1⟩
  have kb : ∀ k, k < w.heap.size → V.heap[k]? = w.heap[k]? := fun k hk => by rw [hV]; exact Below.heap_alloc _ _ _ hk
  have vl := (kb lb hlt.1).trans HL.out
  have vw := (kb wb hlt.2).trans HW.out
  have vz : V.heap[z]? = some (.cells #[.int .i64 i, .int .i64 e] 203 (0, 0)) := by rw [hV, hz]; exact heap_alloc_new w _
  have nlz : lb ≠ z := by omega
  have nwz : wb ≠ z := by omega
  have c0 : V.cell? ⟨lb, 0, none⟩ = some v := by rw [cell_of_row _ _ 0 _ _ _ vl]; rfl
  have c1 : V.cell? ⟨wb, 0, none⟩ = some x := by rw [cell_of_row _ _ 0 _ _ _ vw]; rfl
  have c2 : V.cell? ⟨wb, 1, none⟩ = some y := by rw [cell_of_row _ _ 1 _ _ _ vw]; rfl
  have g0 : V.frozen? ⟨lb, 0, none⟩ = false := frozen_of_row V lb 0 _ _ vl
  have g1 : V.frozen? ⟨wb, 0, none⟩ = false := frozen_of_row V wb 0 _ _ vw
  have g2 : V.frozen? ⟨wb, 1, none⟩ = false := frozen_of_row V wb 1 _ _ vw
  have c3 : V.cell? ⟨z, 0, none⟩ = some (.int .i64 i) := by rw [cell_of_row _ _ 0 _ _ _ vz]; rfl
  have c4 : V.cell? ⟨z, 1, none⟩ = some (.int .i64 e) := by rw [cell_of_row _ _ 1 _ _ _ vz]; rfl
  have hne := HN.out
  have END : Hid (Two w (((V.setCell ⟨lb, 0, none⟩ (.slice none 0 0)).setCell ⟨wb, 0, none⟩ (.int .i64 i)).setCell ⟨wb, 1, none⟩ (.int .i64 e)) lb wb (.cells #[.slice none 0 0] 201 (0, 0)) (.cells #[.int .i64 i, .int .i64 e] 203 (0, 0))) := by
    have k1 : ∀ k, k ≠ lb → k ≠ wb → (((V.setCell ⟨lb, 0, none⟩ (.slice none 0 0)).setCell ⟨wb, 0, none⟩ (.int .i64 i)).setCell ⟨wb, 1, none⟩ (.int .i64 e)).heap[k]? = V.heap[k]? := fun k h1 h2 => by
      rw [Below.heap_setCell _ _ _ k h2, Below.heap_setCell _ _ _ k h2, Below.heap_setCell _ _ _ k h1]
    refine ⟨by rw [hV]; rfl, by rw [hV]; rfl, by rw [hV]; rfl, by rw [hV]; simp, ?_, ?_, fun k hk h1 h2 => (k1 k h1 h2).trans (kb k hk)⟩
    · rw [Below.heap_setCell _ _ _ lb HN.out, Below.heap_setCell _ _ _ lb HN.out]
      exact heap_setCell_same _ lb 0 _ _ _ vl
    · have h1 : (V.setCell ⟨lb, 0, none⟩ (.slice none 0 0)).heap[wb]? = some (.cells #[x, y] 203 (0, 0)) := (Below.heap_setCell _ _ _ wb (Ne.symm HN.out)).trans vw
      exact heap_setCell_same _ wb 1 _ _ _ (heap_setCell_same _ wb 0 _ _ (.int .i64 i) h1)
  clear hV hz hlt kb vl vw vz h0 h1 h2 f0 f1 f2
  go_region
  all_goals
    have E := END.out
    exact ⟨rfl, _, rfl, .tuple #[], results_none rfl _ _ _, rfl, rfl, ⟨E.os, E.tape, E.output, E.size, E.hx, E.hy, E.block⟩⟩
end Go.Proofs.YtnkahlloahgifaaGreatDoor.Lx
