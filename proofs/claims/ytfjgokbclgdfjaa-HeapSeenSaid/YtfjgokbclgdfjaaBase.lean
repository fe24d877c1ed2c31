/- Frames by roles of blocks, and rows of one-cell elements that may begin anywhere in their array. No program in sight. -/
import Derived.WalkKit
import Derived.Below
import Derived.Lib.Hide
import Derived.Deep.QuietTactic
set_option linter.unusedSimpArgs false
set_option linter.unusedVariables false
namespace Go.Proofs.Ytfjgokbclgdfjaa
open Go.RowKit

/-- Each block of the heap has a role (0: none of ours). From w to w' only old blocks with a role of M have changed; old roles stand. -/
structure Ch (M : Nat → Prop) (ρ ρ' : Nat → Nat) (w w' : World) : Prop where
  os : w'.os = w.os
  tape : w'.tape = w.tape
  output : w'.output = w.output
  size : w.heap.size ≤ w'.heap.size
  block : ∀ k, k < w.heap.size → ¬ M (ρ k) → w'.heap[k]? = w.heap[k]?
  role : ∀ k, k < w.heap.size → ρ' k = ρ k
  fresh : ∀ k, w'.heap.size ≤ k → ρ' k = 0

theorem Ch.refl {M : Nat → Prop} {ρ : Nat → Nat} {w : World} (h : ∀ k, w.heap.size ≤ k → ρ k = 0) : Ch M ρ ρ w w :=
  ⟨rfl, rfl, rfl, Nat.le_refl _, fun _ _ _ => rfl, fun _ _ => rfl, h⟩

theorem Ch.trans {M : Nat → Prop} {ρ ρ1 ρ2 : Nat → Nat} {w w1 w2 : World} (h : Ch M ρ ρ1 w w1) (k : Ch M ρ1 ρ2 w1 w2) : Ch M ρ ρ2 w w2 :=
  ⟨k.os.trans h.os, k.tape.trans h.tape, k.output.trans h.output, Nat.le_trans h.size k.size,
   fun i hi hm => (k.block i (Nat.lt_of_lt_of_le hi h.size) (by rw [h.role i hi]; exact hm)).trans (h.block i hi hm),
   fun i hi => (k.role i (Nat.lt_of_lt_of_le hi h.size)).trans (h.role i hi), k.fresh⟩

theorem Ch.mono {M M' : Nat → Prop} {ρ ρ' : Nat → Nat} {w w' : World} (h : Ch M ρ ρ' w w') (hm : ∀ r, M r → M' r) : Ch M' ρ ρ' w w' :=
  ⟨h.os, h.tape, h.output, h.size, fun k hk hn => h.block k hk (fun x => hn (hm _ x)), h.role, h.fresh⟩

theorem Ch.drewN {M : Nat → Prop} {ρ ρ' : Nat → Nat} {w w' : World} (h : Ch M ρ ρ' w w') (n : Nat) : Ch M ρ ρ' w (w'.drewN n) :=
  ⟨h.os, h.tape, h.output, h.size, h.block, h.role, h.fresh⟩

theorem Ch.drew {M : Nat → Prop} {ρ ρ' : Nat → Nat} {w w' : World} (h : Ch M ρ ρ' w w') : Ch M ρ ρ' w w'.drew :=
  ⟨h.os, h.tape, h.output, h.size, h.block, h.role, h.fresh⟩

theorem Ch.alloc {M : Nat → Prop} {ρ ρ' : Nat → Nat} {w w' : World} (h : Ch M ρ ρ' w w') (o : Obj) : Ch M ρ ρ' w (w'.alloc o) :=
  ⟨h.os, h.tape, h.output, by have := h.size; simp; omega, fun k hk hm => (Below.heap_alloc w' o k (Nat.lt_of_lt_of_le hk h.size)).trans (h.block k hk hm), h.role,
   fun k hk => h.fresh k (by simp at hk; omega)⟩

theorem Ch.setCell {M : Nat → Prop} {ρ ρ' : Nat → Nat} {w w' : World} (h : Ch M ρ ρ' w w') (a : Addr) (v : Value) (hm : a.block < w.heap.size → M (ρ a.block)) : Ch M ρ ρ' w (w'.setCell a v) :=
  ⟨h.os, h.tape, h.output, by simpa using h.size, fun k hk hn => (Below.heap_setCell w' a v k (by rintro rfl; exact hn (hm hk))).trans (h.block k hk hn), h.role,
   fun k hk => h.fresh k (by simpa using hk)⟩

theorem Ch.setRow {M : Nat → Prop} {ρ ρ' : Nat → Nat} {w w' : World} (h : Ch M ρ ρ' w w') (g : Nat) (cs : Array Value) (hm : g < w.heap.size → M (ρ g)) : Ch M ρ ρ' w (w'.setRow g cs) :=
  ⟨h.os, h.tape, h.output, by simpa using h.size, fun k hk hn => (setRow_other w' g k cs (by rintro rfl; exact hn (hm hk))).trans (h.block k hk hn), h.role,
   fun k hk => h.fresh k (by simpa using hk)⟩

/-- What is changed in blocks of ours alone leaves all below B as it was, if ours begin at B. -/
theorem Ch.below {M : Nat → Prop} {ρ ρ' : Nat → Nat} {w w' : World} {B : Nat} (h : Ch M ρ ρ' w w') (hB : B ≤ w.heap.size) (hr : ∀ k, k < B → ¬ M (ρ k)) : Below B w w' :=
  ⟨h.os, h.tape, h.output, h.size, fun k hk => h.block k (by omega) (hr k hk)⟩

theorem Ch.keep {M : Nat → Prop} {ρ ρ' : Nat → Nat} {w w' : World} (h : Ch M ρ ρ' w w') {k : Nat} {o : Obj} (ho : w.heap[k]? = some o) (hn : ¬ M (ρ k)) : w'.heap[k]? = some o := by
  rw [h.block k (Array.getElem?_eq_some_iff.1 ho).1 hn]; exact ho

theorem Ch.keepRole {M : Nat → Prop} {ρ ρ' : Nat → Nat} {w w' : World} (h : Ch M ρ ρ' w w') {k : Nat} {o : Obj} (ho : w.heap[k]? = some o) : ρ' k = ρ k :=
  h.role k (Array.getElem?_eq_some_iff.1 ho).1

/-- A new block gets a role. -/
def roleAt (ρ : Nat → Nat) (b r : Nat) : Nat → Nat := fun k => if k = b then r else ρ k
theorem roleAt_same (ρ : Nat → Nat) (b r : Nat) : roleAt ρ b r b = r := by simp [roleAt]
theorem roleAt_other (ρ : Nat → Nat) (b r : Nat) {k : Nat} (h : k ≠ b) : roleAt ρ b r k = ρ k := by simp [roleAt, h]

theorem Ch.named {M : Nat → Prop} {ρ ρ' : Nat → Nat} {w w' : World} (h : Ch M ρ ρ' w w') (b r : Nat) (h1 : w.heap.size ≤ b) (h2 : b < w'.heap.size) : Ch M ρ (roleAt ρ' b r) w w' :=
  ⟨h.os, h.tape, h.output, h.size, h.block, fun k hk => by rw [roleAt_other _ _ _ (by omega)]; exact h.role k hk,
   fun k hk => by rw [roleAt_other _ _ _ (by omega)]; exact h.fresh k hk⟩

/-- The slice v has the elements xs, in an array of the role r (nil: none). -/
def RowAt (w : World) (ρ : Nat → Nat) (r : Nat) (T : TypeId) (v : Value) (xs : List Value) : Prop :=
  (v = .slice none 0 0 ∧ xs = []) ∨
  ∃ g off cap cur, v = .slice (some ⟨g, off, none⟩) xs.length cap ∧ ρ g = r ∧ w.heap[g]? = some (.cells cur T (0, 0)) ∧ xs.length ≤ cap ∧ cap ≤ maxLen ∧ off + cap ≤ cur.size ∧
    ∀ i, i < xs.length → cur[off + i]? = xs[i]?

theorem RowAt.nil (w : World) (ρ : Nat → Nat) (r : Nat) (T : TypeId) : RowAt w ρ r T (.slice none 0 0) [] := .inl ⟨rfl, rfl⟩

theorem RowAt.keep {M : Nat → Prop} {w w' : World} {ρ ρ' : Nat → Nat} {r : Nat} {T : TypeId} {v : Value} {xs : List Value} (h : RowAt w ρ r T v xs) (c : Ch M ρ ρ' w w') (hn : ¬ M r) : RowAt w' ρ' r T v xs := by
  rcases h with h | ⟨g, off, cap, cur, hv, hr, hg, rest⟩
  · exact .inl h
  · exact .inr ⟨g, off, cap, cur, hv, by rw [c.keepRole hg]; exact hr, c.keep hg (by rw [hr]; exact hn), rest⟩

theorem RowAt.cell {w : World} {ρ : Nat → Nat} {r : Nat} {T : TypeId} {v : Value} {xs : List Value} (h : RowAt w ρ r T v xs) {i : Nat} {x : Value} (hx : xs[i]? = some x) :
    ∃ g off cap, v = .slice (some ⟨g, off, none⟩) xs.length cap ∧ ρ g = r ∧ xs.length ≤ cap ∧ cap ≤ maxLen ∧ w.cell? ⟨g, off + i, none⟩ = some x := by
  have hi : i < xs.length := (List.getElem?_eq_some_iff.1 hx).1
  rcases h with ⟨_, rfl⟩ | ⟨g, off, cap, cur, hv, hr, hg, h1, h2, h3, h4⟩
  · simp at hi
  · exact ⟨g, off, cap, hv, hr, h1, h2, by rw [cell_of_row w g (off + i) cur T (0, 0) hg, h4 i hi, hx]⟩

theorem RowAt.shape {w : World} {ρ : Nat → Nat} {r : Nat} {T : TypeId} {v : Value} {xs : List Value} (h : RowAt w ρ r T v xs) : ∃ a n c, v = .slice a n c := by
  rcases h with ⟨rfl, rfl⟩ | ⟨g, off, cap, cur, hv, _⟩
  · exact ⟨_, _, _, rfl⟩
  · exact ⟨_, _, _, hv⟩

/-- The slice behind its first element: the value as the walk writes it. -/
theorem RowAt.tail {w : World} {ρ : Nat → Nat} {r : Nat} {T : TypeId} {g off cap : Nat} {x : Value} {xs : List Value} (h : RowAt w ρ r T (.slice (some ⟨g, off, none⟩) (xs.length + 1) cap) (x :: xs)) :
    RowAt w ρ r T (.slice (some (if cap = 1 then ⟨g, off, none⟩ else ⟨g, off + 1, none⟩)) xs.length (cap - 1)) xs := by
  rcases h with ⟨h, _⟩ | ⟨g', off', cap', cur, hv, hr, hg, h1, h2, h3, h4⟩
  · simp at h
  · simp only [Value.slice.injEq, Option.some.injEq, Addr.mk.injEq] at hv
    obtain ⟨⟨rfl, rfl, _⟩, hl, rfl⟩ := hv
    simp only [List.length_cons] at h1 h4
    by_cases hc : cap = 1
    · subst hc
      obtain rfl : xs = [] := List.eq_nil_of_length_eq_zero (by omega)
      exact .inr ⟨g, off, 0, cur, by simp, hr, hg, by simp, by simp [maxLen], by omega, by simp⟩
    · rw [if_neg hc]
      refine .inr ⟨g, off + 1, cap - 1, cur, rfl, hr, hg, by omega, by omega, by omega, fun i hi => ?_⟩
      have := h4 (i + 1) (by omega)
      simpa [Nat.add_assoc, Nat.add_comm 1 i] using this

/-- append(s, x) of one element. -/
theorem run_append_row {P : Program} (w : World) (t ty e : TypeId) (i : TypeInfo) (z : Value) (ht : P.underlying t = some (.slice e)) (hi : P.info? e = some i) (hz : i.zero = some z)
    (hsize : i.size = 1) (hby : i.bytes = 8) (hzs : z.cells.size = 1) (ρ : Nat → Nat) (r : Nat) (v : Value) (xs : List Value) (hrow : RowAt w ρ r e v xs) (hρ : ∀ k, w.heap.size ≤ k → ρ k = 0)
    (ad : Addr) (c : Nat) (x : Value) (hx : w.cell? ad = some x) (h1 : x.oneCell' = true) (hlen : xs.length < 1000000000) :
    ∃ v' w' ρ', (Builtin.append_ #[t, t] ty #[v, .slice (some ad) 1 c]).run P w = .ok v' w' ∧ RowAt w' ρ' r e v' (xs ++ [x]) ∧ Ch (· = r) ρ ρ' w w' ∧ ∀ k, w.heap.size ≤ k → ρ' k = 0 ∨ ρ' k = r := by
  have hsp : ad.add 0 = ad := Addr.add_zero' ad
  have hnews : ∀ j u, [x][j]? = some u → w.cell? (ad.add j) = some u := by
    intro j u hu
    cases j with
    | zero => simp at hu; subst hu; rw [hsp]; exact hx
    | succ j => simp at hu
  -- the array is new
  have grown : ∀ (old : Nat) (cells : Array Value), cells.size = xs.length + 1 → (∀ j, j < xs.length + 1 → cells[j]? = (xs ++ [x])[j]?) → old < xs.length + 1 →
      RowAt (w.drew.alloc (.cells (cells ++ Builtin.zeroCells z.cells (grownCap w (xs.length + 1) old e - (xs.length + 1))) e)) (roleAt ρ w.heap.size r) r e
        (.slice (some ⟨w.heap.size, 0, none⟩) (xs.length + 1) (grownCap w (xs.length + 1) old e)) (xs ++ [x]) ∧
      Ch (· = r) ρ (roleAt ρ w.heap.size r) w (w.drew.alloc (.cells (cells ++ Builtin.zeroCells z.cells (grownCap w (xs.length + 1) old e - (xs.length + 1))) e)) ∧
      ∀ k, w.heap.size ≤ k → roleAt ρ w.heap.size r k = 0 ∨ roleAt ρ w.heap.size r k = r := by
    intro old cells hcs hcj ho
    have hge := grownCap_ge w (xs.length + 1) old e
    have hcm : grownCap w (xs.length + 1) old e ≤ maxLen := grownCap_le_maxLen w (xs.length + 1) old e (by simp only [maxLen]; omega)
    refine ⟨.inr ⟨w.heap.size, 0, grownCap w (xs.length + 1) old e, _, by simp, roleAt_same _ _ _, heap_alloc_new w.drew _, by simpa using hge, hcm, ?_, ?_⟩, ?_, ?_⟩
    · simp [size_zeroCells, hzs, hcs]; omega
    · intro j hj
      simp only [List.length_append, List.length_cons, List.length_nil] at hj
      rw [Nat.zero_add, Array.getElem?_append_left (by omega)]
      exact hcj j (by omega)
    · exact (((Ch.refl hρ).drew).alloc _).named _ _ (Nat.le_refl _) (by simp)
    · intro k hk
      by_cases hkb : k = w.heap.size
      · subst hkb; exact .inr (roleAt_same _ _ _)
      · rw [roleAt_other _ _ _ hkb]; exact .inl (hρ k hk)
  rcases hrow with ⟨rfl, rfl⟩ | ⟨g, off, cap, cur, rfl, hr, hg, hl, hm, hs, hcur⟩
  · have hrun := run_append_nil (P := P) w t ty e i z ht hi hz ad 1 c [x] (by simp [hsize]) hnews (by omega) (by omega) (by omega)
    obtain ⟨g1, g2, g3⟩ := grown 0 #[x] (by simp) (by intro j hj; simp at hj; subst hj; simp) (by simp)
    exact ⟨_, _, _, by simpa using hrun, by simpa using g1, by simpa using g2, g3⟩
  · by_cases hroom : xs.length + 1 ≤ cap
    · have hf := run_firstCells_some (P := P) w 1 1 ad 1 c [x] (by simp) hnews
      have hst := run_storeCells_at P g (off + xs.length) e [x] 0 cur w hg (by simp; omega) (by simpa using h1)
      simp only [Nat.add_zero] at hst
      refine ⟨.slice (some ⟨g, off, none⟩) (xs.length + 1) cap, w.setRow g (cur.toList.take (off + xs.length) ++ [x] ++ cur.toList.drop (off + xs.length + [x].length)).toArray, ρ, ?_, .inr ⟨g, off, cap, _, by simp, hr, setRow_heap w g cur _ e _ hg, by simpa using hroom, hm, ?_, ?_⟩, (Ch.refl hρ).setRow _ _ (fun _ => hr), fun k hk => .inl (hρ k hk)⟩
      · simp [Builtin.append_, run_underlying ht, sizeOf, typeInfo, hi, hsize, Builtin.lenOf, hroom, hf, Addr.add_lit, hst]
      · simp; omega
      · intro j hj
        simp only [List.length_append, List.length_cons, List.length_nil] at hj
        have htk : (cur.toList.take (off + xs.length)).length = off + xs.length := by simp; omega
        by_cases hjl : j < xs.length
        · rw [List.getElem?_append_left hjl, ← hcur j hjl]
          simp [List.getElem?_append, show off + j < off + xs.length by omega]
          intro h; omega
        · obtain rfl : j = xs.length := by omega
          simp [List.getElem?_append, List.getElem?_take]
          have h2 : min (off + xs.length) cur.size = off + xs.length := by omega
          simp [h2]
    · have holds : ∀ j u, xs[j]? = some u → w.cell? ((⟨g, off, none⟩ : Addr).add j) = some u := by
        intro j u hu
        have hj : j < xs.length := (List.getElem?_eq_some_iff.1 hu).1
        rw [Addr.add_lit, cell_of_row w g (off + j) cur e (0, 0) hg, hcur j hj, hu]
      have hrun := run_append_grow (P := P) w t ty e i z ht hi hz ⟨g, off, none⟩ xs.length cap xs (by simp [hsize]) holds ad 1 c [x] (by simp [hsize]) hnews (by omega) (by omega)
        (growslice_fits (by omega) (by rw [hby]; omega))
      obtain ⟨g1, g2, g3⟩ := grown cap (xs.toArray ++ [x].toArray) (by simp) (by intro j hj; simp [List.getElem?_append]) (by omega)
      exact ⟨_, _, _, by simpa using hrun, by simpa using g1, by simpa using g2, g3⟩

theorem wpList_append_row {P : Program} {w : World} {ops : Array Oper} {rest : List Oper} {o : Oper} {a : Act} {Q : Exit → Act → World → Prop} (hgd : o.guard = none) (s x : Operand) (t : TypeId)
    (ho : o.op = .call { callee := .builtin .append, args := #[s, x], argTypes := #[t, t] })
    (e : TypeId) (i : TypeInfo) (z : Value) (ht : P.underlying t = some (.slice e)) (hi : P.info? e = some i) (hz : i.zero = some z)
    (hsize : i.size = 1) (hby : i.bytes = 8) (hzs : z.cells.size = 1) (ρ : Nat → Nat) (r : Nat) (v : Value) (xs : List Value) (hs : a.eval s = v) (hrow : RowAt w ρ r e v xs) (hρ : ∀ k, w.heap.size ≤ k → ρ k = 0)
    (ad : Addr) (c : Nat) (y : Value) (hx : a.eval x = .slice (some ad) 1 c) (hc : w.cell? ad = some y) (h1 : y.oneCell' = true) (hlen : xs.length < 1000000000)
    (h : ∀ v' w' ρ', RowAt w' ρ' r e v' (xs ++ [y]) → Ch (· = r) ρ ρ' w w' → (∀ k, w.heap.size ≤ k → ρ' k = 0 ∨ ρ' k = r) → wpList P ops Q rest (a.put o.dst v') w') : wpList P ops Q (o :: rest) a w := by
  refine wpList_plain hgd fun K hK => ?_
  obtain ⟨v', w', ρ', hr, h2, h3, h4⟩ := run_append_row (P := P) w t o.type e i z ht hi hz hsize hby hzs ρ r v xs hrow hρ ad c y hc h1 hlen
  unfold Oper.wp execOp
  simp only [ho, resolve, invoke, builtin, Sem.run_bind, Sem.run_pure, Result.andThen_ok, List.map_toArray, List.map_cons, List.map_nil, hs, hx, hr]
  exact hK _ _ (h v' w' ρ' h2 h3 h4)

end Go.Proofs.Ytfjgokbclgdfjaa
