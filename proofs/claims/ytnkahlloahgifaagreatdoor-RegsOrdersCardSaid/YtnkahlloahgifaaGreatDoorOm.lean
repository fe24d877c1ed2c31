/- A slice of moves that came in, opened. -/
import Derived.Test.YtnkahlloahgifaaGreatDoorCq
import Derived.Test.YtnkahlloahgifaaGreatDoorLxJo
import Derived.Deep.Slices
import Derived.Deep.Fields
import Derived.ChangeSame
import Derived.Carry
import Derived.SizedLaws
set_option linter.unusedSimpArgs false
set_option linter.unusedVariables false
namespace Go.Proofs.YtnkahlloahgifaaGreatDoor
open Go.ChangeShapes Go.WideShapes Go.ChangeAt Go.RowKit Go.Deep

section
variable {H : Type} {enc : TypeId × Value → H} {P : Program} {w : World} {base : Nat} {spare : Nat → Bool} {held : Bool}
theorem open_slice_fields {t e : TypeId} {fs : Array Field} {fuel : Nat} {cs : List Value} {x : DataW H × List MemPlace} (ht : P.underlying t = some (.slice e)) (he : P.underlying e = some (.struct fs))
    (hone : oneCellFields P fs = true) (hC : P.cellsOf e = fs.size) (h : DataW.trod enc P w base spare held fuel t cs = some x) :
    (cs = [.slice none 0 0] ∧ x = (.nil, [])) ∨
    ∃ (a : Addr) (len cap m : Nat) (D : Nat → DataW H) (Pl : Nat → List MemPlace), cs = [.slice (some a) len cap] ∧ base ≤ a.block ∧ len ≤ cap ∧ cap ≤ maxLen ∧ m = (if spare a.block then cap else len) ∧
      x = (.slice ((List.range len).map D) ((List.range (m - len)).map fun j => D (len + j)), MemPlace.row a (m * fs.size) ++ (List.range m).flatMap Pl) ∧
      ∀ i, i < m → ∃ (ys : List (DataW H × List MemPlace)) (n : Nat), D i = .agg (ys.map (·.1)) ∧ Pl i = ys.flatMap (·.2) ∧ ys.length = fs.size ∧
        ∀ (j : Nat) (f : Field), fs[j]? = some f → ∃ (v : Value) (y : DataW H × List MemPlace), w.cell? (a.add (i * fs.size + j)) = some v ∧ ys[j]? = some y ∧ DataW.trod enc P w base spare held n f.type [v] = some y := by
  rcases open_slice ht h with h0 | ⟨a, len, cap, m, n, D, Pl, hcs, hb, hl, hm, hmm, hx, hi⟩
  · exact .inl h0
  · refine .inr ⟨a, len, cap, m, D, Pl, hcs, hb, hl, hm, hmm, by rw [hC] at hx; exact hx, fun i him => ?_⟩
    obtain ⟨cs', hc, ht'⟩ := hi i him
    rw [hC] at hc
    obtain ⟨ys, n', hn', hy, hlen, hyl, hf⟩ := DataW.trod_struct he ht'
    obtain ⟨_, hcl, hat⟩ := World.cells?_some hc
    simp only [Prod.mk.injEq] at hy
    refine ⟨ys, n', hy.1, hy.2, hyl, fun j f hj => ?_⟩
    obtain ⟨ho, hk⟩ := hone_of hone j f hj
    have hjl : j < fs.size := (Array.getElem?_eq_some_iff.1 hj).1
    have hcell := hat j hjl
    have hv : cs'[j]? = some (cs'[j]'(by omega)) := List.getElem?_eq_getElem (by omega)
    have h1 := hf j f hj
    rw [ho, hk] at h1
    have hone' : (cs'.drop j).take 1 = [cs'[j]'(by omega)] := by
      rw [List.drop_eq_getElem_cons (by omega)]
      rfl
    rw [hone'] at h1
    have hys : ys[j]? = some (ys[j]'(by omega)) := List.getElem?_eq_getElem (by omega)
    refine ⟨_, _, ?_, hys, h1.trans hys⟩
    rw [← Go.Deep.add_add, hcell, hv]
end

theorem cellsOf81 : Tryz.prog.cellsOf 81 = 2 := by kernel_rfl
set_option maxRecDepth 100000 in
theorem under81 : ∃ fs, Tryz.prog.underlying 81 = some (.struct fs) ∧ oneCellFields Tryz.prog fs = true ∧ fs.size = 2 ∧ (fs[0]?).map (·.type) = some 3 ∧ (fs[1]?).map (·.type) = some 3 :=
  ⟨_, Tryz.underlying81, by kernel_rfl, by kernel_rfl, by kernel_rfl, by kernel_rfl⟩
theorem laidOut : laidOutB Tryz.prog = true := by kernel_rfl

theorem addr_plain {W : World} {a : Addr} {v : Value} (h : W.cell? a = some v) : a = ⟨a.block, a.off, none⟩ ∧ a.block < W.heap.size := by
  unfold World.cell? at h
  split at h
  · rename_i c t f hb
    split at h
    · cases h
    · rename_i hs
      refine ⟨?_, (Array.getElem?_eq_some_iff.1 hb).1⟩
      obtain ⟨b, o, s⟩ := a
      cases s with
      | none => rfl
      | some k => exact absurd rfl hs
  · cases h

set_option maxRecDepth 100000 in
theorem open_moves {H : Type} {enc : TypeId × Value → H} {W : World} {base : Nat} {v : Value} {d : DataW H} {p : List MemPlace} (hv : Value.okWide Tryz.prog W .any base 74 v) (h : DataW.Trod enc Tryz.prog W 0 (fun _ => true) true 74 v d p) :
    ∃ l : List RM.Mv, MvsAt W v l ∧ MvWf l ∧ l.length ≤ maxLen := by
  obtain ⟨a, len, cap, rfl⟩ := okWide_slice Tryz.underlying74 hv
  obtain ⟨fuel, hf⟩ := h
  obtain ⟨fs, hu, h1, hsz, t0, t1⟩ := under81
  rcases open_slice_fields Tryz.underlying74 hu h1 (cellsOf81.trans hsz.symm) hf with ⟨hcs, hx⟩ | ⟨a', len', cap', m, D, Pl, hcs, _, hl, hcap, hm, hx, hi⟩
  · have hcs' : [Value.slice a len cap] = [Value.slice none 0 0] := hcs
    simp only [List.cons.injEq, Value.slice.injEq, and_true] at hcs'
    obtain ⟨rfl, rfl, rfl⟩ := hcs'
    exact ⟨[], ⟨none, 0, rfl, fun h => absurd h (Nat.lt_irrefl _)⟩, fun m hm => absurd hm (by simp), Nat.zero_le _⟩
  · have hcs' : [Value.slice a len cap] = [Value.slice (some a') len' cap'] := hcs
    simp only [List.cons.injEq, Value.slice.injEq, and_true] at hcs'
    obtain ⟨rfl, rfl, rfl⟩ := hcs'
    simp only [if_true] at hm
    subst hm
    have key : ∀ i, i < len → ∃ t : RM.Mv, ((Lit.int .i64 t.1).wf = true ∧ (Lit.int .i64 t.2).wf = true) ∧ W.cell? (a'.add (i * 2)) = some (.int .i64 t.1) ∧ W.cell? (a'.add (i * 2 + 1)) = some (.int .i64 t.2) := fun i hil => by
      obtain ⟨ys, n, _, _, _, hj⟩ := hi i (by omega)
      rw [hsz] at hj
      have get : ∀ (j : Nat) (ty : TypeId), (fs[j]?).map (·.type) = some ty → ∃ v x, W.cell? (a'.add (i * 2 + j)) = some v ∧ DataW.trod enc Tryz.prog W 0 (fun _ => true) true n ty [v] = some x := fun j ty he => by
        cases hq : fs[j]? with
        | none => rw [hq] at he; cases he
        | some f =>
          rw [hq] at he
          obtain ⟨v, y, e1, _, e3⟩ := hj j f hq
          have e4 : f.type = ty := by simpa using he
          rw [e4] at e3
          exact ⟨v, y, e1, e3⟩
      obtain ⟨v0, x0, c0, r0⟩ := get 0 3 t0
      obtain ⟨v1, x1, c1, r1⟩ := get 1 3 t1
      obtain ⟨n0, e0, _, w0⟩ := DataW.trod_int Tryz.underlying3 r0
      obtain ⟨n1, e1, _, w1⟩ := DataW.trod_int Tryz.underlying3 r1
      simp only [List.cons.injEq, and_true] at e0 e1
      subst e0 e1
      exact ⟨(n0, n1), ⟨w0, w1⟩, c0, c1⟩
    obtain ⟨f, hf⟩ : ∃ f : Nat → RM.Mv, ∀ i, i < len → ((Lit.int .i64 (f i).1).wf = true ∧ (Lit.int .i64 (f i).2).wf = true) ∧ W.cell? (a'.add (i * 2)) = some (.int .i64 (f i).1) ∧ W.cell? (a'.add (i * 2 + 1)) = some (.int .i64 (f i).2) := by
      refine ⟨fun i => if h : i < len then Classical.choose (key i h) else (0, 0), fun i h => ?_⟩
      simp only [dif_pos h]
      exact Classical.choose_spec (key i h)
    have hlen : ((List.range len).map f).length = len := by simp
    refine ⟨(List.range len).map f, ⟨some a', _, by rw [hlen], fun h0 => ?_⟩, fun t ht => ?_, by rw [hlen]; omega⟩
    · rw [hlen] at h0
      obtain ⟨hp, hb⟩ := addr_plain (hf 0 h0).2.1
      have hp' : a' = ⟨a'.block, a'.off, none⟩ := hp
      generalize a'.block = g at hp' hb
      generalize a'.off = off at hp'
      subst hp'
      refine ⟨g, off, rfl, fun i t ht => ?_⟩
      have hil : i < len := by
        have := (List.getElem?_eq_some_iff.1 ht).1
        simpa using this
      rw [List.getElem?_map, List.getElem?_range hil] at ht
      simp only [Option.map_some, Option.some.injEq] at ht
      subst ht
      obtain ⟨_, c0, c1⟩ := hf i hil
      have e : ∀ k, (⟨g, off, none⟩ : Addr).add k = ⟨g, off + k, none⟩ := fun k => by
        unfold Addr.add
        split
        · rename_i h; rw [h]; rfl
        · rfl
      rw [e] at c0 c1
      exact ⟨c0, c1⟩
    · obtain ⟨i, hi, rfl⟩ := List.mem_map.1 ht
      exact (hf i (List.mem_range.1 hi)).1
end Go.Proofs.YtnkahlloahgifaaGreatDoor
