/- Rows of integers of one's own. -/
import Derived.Test.YtnkahlloahgifaaGreatDoorCq
import Derived.Laws.OwnMore
set_option linter.unusedSimpArgs false
set_option linter.unusedVariables false
namespace Go.Proofs.YtnkahlloahgifaaGreatDoor
open Go.RowKit RG Go.Maps

theorem ints_at {l : List Int} {i : Nat} {x : Int} (h : l[i]? = some x) : (ints l)[i]? = some (.int .i64 x) := by unfold ints; rw [List.getElem?_map, h]; rfl
theorem ints_one {l : List Int} {u : Value} (h : u ∈ ints l) : u.oneCell' = true := by
  unfold ints at h
  obtain ⟨x, _, rfl⟩ := List.mem_map.1 h
  rfl
theorem ints_set (l : List Int) (i : Nat) (x : Int) : (ints l).set i (.int .i64 x) = ints (l.set i x) := by unfold ints; rw [List.map_set]

/-- A slice of integers. -/
def IsAt (w : World) (v : Value) (l : List Int) : Prop := SlAt w v l.length (ints l)
theorem IsAt.kept {w w' : World} {v : Value} {l : List Int} (h : IsAt w v l) (hb : Kept w w') : IsAt w' v l := SlAt.kept h hb
theorem IsAt.shape {w : World} {v : Value} {l : List Int} (h : IsAt w v l) : ∃ a c, v = .slice a l.length c := by
  obtain ⟨_, ad, c, e, _⟩ := h
  exact ⟨_, _, e⟩
theorem IsAt.nil (w : World) : IsAt w (.slice none 0 0) [] := ⟨rfl, none, 0, rfl, fun h => absurd h (Nat.lt_irrefl _)⟩
theorem IsAt.read {w : World} {ad : Option Addr} {n c : Nat} {l : List Int} (h : IsAt w (.slice ad n c) l) (hn : n = l.length) {k : Nat} (hk : k < n) :
    ∃ g o x, ad = some ⟨g, o, none⟩ ∧ l[k]? = some x ∧ w.cell? ⟨g, o + k, none⟩ = some (.int .i64 x) := by
  obtain ⟨_, ad', c', e, hat⟩ := h
  simp only [Value.slice.injEq] at e
  obtain ⟨g, o, e2, hat⟩ := hat (by omega)
  obtain ⟨x, hx⟩ : ∃ x, l[k]? = some x := ⟨_, List.getElem?_eq_getElem (by omega)⟩
  exact ⟨g, o, x, by rw [e.1, e2], hx, hat k _ (ints_at hx)⟩

/-- A row of integers of one's own. -/
def IOwn (w : World) (base : Nat) (v : Value) (l : List Int) : Prop := w.ownsRow base 3 1 v l.length (ints l)
theorem IOwn.nil (w : World) (base : Nat) : IOwn w base (.slice none 0 0) [] := World.ownsRow_nil _ _ _ _
theorem IOwn.shape {w : World} {base : Nat} {v : Value} {l : List Int} (h : IOwn w base v l) : ∃ a c, v = .slice a l.length c := own_sliceI h
theorem IOwn.at' {w : World} {base : Nat} {v : Value} {l : List Int} (h : IOwn w base v l) : IsAt w v l := by
  obtain ⟨h1, h2⟩ := h
  rcases h2 with ⟨rfl, h0⟩ | ⟨g, cap, cur, rfl, hb, hg, k1, k2, k3, k4⟩
  · exact ⟨ints_length l, none, 0, by rw [h0], fun h => by omega⟩
  · refine ⟨ints_length l, some ⟨g, 0, none⟩, cap, rfl, fun h0 => ⟨g, 0, rfl, fun i x hi => ?_⟩⟩
    have hl := (List.getElem?_eq_some_iff.1 hi).1
    rw [ints_length] at hl
    rw [Nat.zero_add, cell_of_row _ _ _ _ _ _ hg, ← Array.getElem?_toList, ← List.getElem?_take_of_lt (show i < l.length * 1 by omega), k4]; exact hi
theorem IOwn.lt {w : World} {base : Nat} {v : Value} {l : List Int} (h : IOwn w base v l) {k : Nat} (hk : v.ownBlock = some k) : base ≤ k ∧ k < w.heap.size := World.ownsRow.lt h k hk
theorem IOwn.keep {w w' : World} {base : Nat} {v : Value} {l : List Int} (h : IOwn w base v l) (hk : ∀ k, base ≤ k → k < w.heap.size → w'.heap[k]? = w.heap[k]?) : IOwn w' base v l := by
  obtain ⟨h1, h2⟩ := h
  refine ⟨h1, ?_⟩
  rcases h2 with h2 | ⟨g, cap, cur, rfl, hb, hg, rest⟩
  · exact .inl h2
  · exact .inr ⟨g, cap, cur, rfl, hb, (hk g hb (Array.getElem?_eq_some_iff.1 hg).1).trans hg, rest⟩
theorem IOwn.keepOwn {w w' : World} {base : Nat} {v : Value} {l : List Int} (h : IOwn w base v l) (hk : ∀ k, v.ownBlock = some k → w'.heap[k]? = w.heap[k]?) : IOwn w' base v l := by
  obtain ⟨h1, h2⟩ := h
  refine ⟨h1, ?_⟩
  rcases h2 with h2 | ⟨g, cap, cur, rfl, hb, hg, rest⟩
  · exact .inl h2
  · exact .inr ⟨g, cap, cur, rfl, hb, (hk g rfl).trans hg, rest⟩
/-- Where a row lies that is not empty. -/
theorem IOwn.full {w : World} {base : Nat} {v : Value} {l : List Int} (h : IOwn w base v l) (h0 : 0 < l.length) :
    ∃ g c, v = .slice (some ⟨g, 0, none⟩) l.length c ∧ base ≤ g ∧ g < w.heap.size ∧ (∀ i x, l[i]? = some x → w.cell? ⟨g, i, none⟩ = some (.int .i64 x)) ∧ ∀ i, w.frozen? ⟨g, i, none⟩ = false := by
  obtain ⟨h1, h2⟩ := id h
  rcases h2 with ⟨rfl, h0'⟩ | ⟨g, cap, cur, rfl, hb, hg, k1, k2, k3, k4⟩
  · omega
  · refine ⟨g, cap, rfl, hb, (Array.getElem?_eq_some_iff.1 hg).1, fun i x hi => ?_, fun i => frozen_of_row _ _ _ _ _ hg⟩
    have hl := (List.getElem?_eq_some_iff.1 hi).1
    rw [World.ownsRow.cellAt h i (by omega)]; exact ints_at hi
theorem IOwn.stored {w : World} {base g n c : Nat} {l : List Int} (h : IOwn w base (.slice (some ⟨g, 0, none⟩) n c) l) (i : Nat) (x : Int) : IOwn (w.setCell ⟨g, i, none⟩ (.int .i64 x)) base (.slice (some ⟨g, 0, none⟩) n c) (l.set i x) := by
  have hn : n = l.length := by
    obtain ⟨a, c', e⟩ := h.shape
    simp only [Value.slice.injEq] at e
    exact e.2.1
  subst hn
  have := (World.ownsRow.stored h i (.int .i64 x)).1
  unfold IOwn
  rw [List.length_set, ← ints_set]; exact this
/-- A slice literal of one integer. -/
theorem IOwn.lit {w : World} {base : Nat} (hb : base ≤ w.heap.size) (x : Int) : IOwn (w.alloc (.cells #[.int .i64 x] 3)) base (.slice (some ⟨w.heap.size, 0, none⟩) 1 1) [x] :=
  World.ownsRow_lit w #[.int .i64 x] 1 hb (by decide) rfl
theorem news1 (w : World) (x : Value) (T : TypeId) : ∀ (j : Nat) (u : Value), [x][j]? = some u → (w.alloc (.cells #[x] T)).cell? ((⟨w.heap.size, 0, none⟩ : Addr).add j) = some u := fun j u hu => by
  rw [Addr.add_lit, cell_of_row _ _ _ _ _ _ (heap_alloc_new w _), Nat.zero_add]
  match j, hu with
  | 0, hu => exact hu
  | j + 1, hu => simp at hu
theorem IOwn.size {w : World} {base : Nat} {v : Value} {l : List Int} (h : IOwn w base v l) : l.length ≤ maxLen := by
  rcases h.2 with ⟨rfl, h0⟩ | ⟨g, cap, cur, rfl, hb, hg, k1, k2, k3, k4⟩
  · rw [h0]; exact Nat.zero_le _
  · omega
end Go.Proofs.YtnkahlloahgifaaGreatDoor
