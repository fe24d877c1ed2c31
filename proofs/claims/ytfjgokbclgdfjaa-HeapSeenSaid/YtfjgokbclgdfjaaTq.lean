/- What the transcript says, step by step; how far a heap grows; small functions. What each kind of operation leaves at naught; the operations as they lie in memory. -/
import Derived.Test.YtfjgokbclgdfjaaHl
import Derived.Test.YtfjgokbclgdfjaaShelf
import Derived.Test.YtfjgokbclgdfjaaHroom
set_option linter.unusedSimpArgs false
set_option linter.unusedVariables false
namespace Go.Proofs.Ytfjgokbclgdfjaa
open Go.RowKit HM Go.Sort

theorem sortLaw : SortLaw := fun blk cap zs w h1 h2 h3 => Try.slices_Sort_int blk 0 cap zs w h1 h2 h3

def fin (c : Bool) (s : S) (l : List Opn) : S := l.foldl (fun s o => (doOp c s o).1) s

theorem trans_snoc (c : Bool) (o : Opn) : ∀ (l : List Opn) (s : S), trans c s (l ++ [o]) = trans c s l ++ ((doOp c (fin c s l) o).2.ints ++ handsFrom 0 (doOp c (fin c s l) o).1.handles)
  | [], s => by simp [trans, fin]
  | p :: l, s => by
    have ih := trans_snoc c o l (doOp c s p).1
    rw [List.cons_append, trans, ih, trans]
    simp [fin, List.append_assoc]

theorem fin_snoc (c : Bool) (o : Opn) (l : List Opn) (s : S) : fin c s (l ++ [o]) = (doOp c (fin c s l) o).1 := by simp [fin]

theorem grew_refl (s : S) : Grew s s := ⟨by omega, by omega, by omega, by omega⟩

theorem same_lens {s t : S} (h : Same s t) : t.handles.length = s.handles.length ∧ t.objs.length = s.objs.length ∧ t.weak.length = s.weak.length := ⟨by rw [h.handles], h.len'.symm, by rw [h.weak]⟩

theorem grew_same {s t : S} (h : Same s t) (he : t.epoch ≤ s.epoch + 1) : Grew s t := by
  obtain ⟨a, b, c⟩ := same_lens h
  exact ⟨by omega, by omega, by omega, he⟩

theorem grew_give {s : S} (i : Nat) : Grew s (s.give i) := by
  have f := give_facts s i
  have hw : (s.give i).weak = s.weak := (same_shade s i).weak
  refine ⟨?_, by omega, by rw [hw]; omega, by omega⟩
  show (handIn s.handles i).length ≤ _
  rw [handIn_length]
  split <;> omega

theorem grew_made {s : S} (tag : Int) (ws : List W) : Grew s (s.made tag ws) := by
  have f := made_facts s tag ws
  refine ⟨?_, by omega, ?_, by omega⟩
  · rw [made_handles, handIn_length]; split <;> omega
  · have h1 : (s.made tag ws).weak = s.weak := by
      unfold S.made
      have h2 : ((((s.place (s.newO tag ws)).shades ws).give s.objs.length)).weak = ((s.place (s.newO tag ws)).shades ws).weak := (same_shade _ _).weak
      rw [h2, (same_shades ws _).weak]
      rfl
    rw [h1]; omega

theorem grew_collect_made {s : S} (h : Inv s) (tag : Int) (ws : List W) : Grew s (s.collect.made tag ws) := by
  obtain ⟨a1, a2, a3, a4⟩ := wf_collect h.wf h.ph
  obtain ⟨b1, b2, b3⟩ := same_lens a3
  have g := grew_made (s := s.collect) tag ws
  have f := made_facts s.collect tag ws
  exact ⟨by have := g.hl; omega, by have := g.ol; omega, by have := g.wl; omega, by omega⟩

theorem grew_makeN {s : S} (h : Inv s) (tag : Int) (ws : List W) : Grew s (makeN s tag ws).1 := by
  unfold makeN
  split
  · exact grew_made tag ws
  · split
    · exact grew_collect_made h tag ws
    · obtain ⟨a1, a2, a3, a4⟩ := wf_collect h.wf h.ph
      exact grew_same a3 (by show s.collect.epoch ≤ _; omega)

theorem grew_slotN (s : S) (x : W) : Grew s (slotN s x).1 := by
  cases x with
  | num n => exact grew_refl s
  | obj i => exact grew_give i

theorem grew_doOp {s : S} (h : Inv s) (c : Bool) (o : Opn) : Grew s (doOp c s o).1 := by
  unfold doOp
  split
  · split
    · exact grew_refl s
    · split
      · exact grew_makeN h _ _
      · exact grew_refl s
  · split
    · exact grew_makeN h _ _
    · exact grew_refl s
  · split
    · rename_i i x _ _
      unfold setN
      split
      · exact grew_refl s
      · split
        · have hs := shadeW_same s x
          refine ⟨?_, ?_, ?_, ?_⟩
          · show (s.shadeW x).handles.length ≤ _; rw [hs.2.2.2.2.2.1]; omega
          · show ((s.shadeW x).objs.modify i _).length ≤ _; rw [List.length_modify, hs.2.2.2.2.2.2.2.2.2.2.2.1]; omega
          · show (s.shadeW x).weak.length ≤ _; rw [hs.2.2.2.2.2.2.2.2.2.2.1]; omega
          · show (s.shadeW x).epoch ≤ _; rw [hs.2.2.2.2.2.2.1]; omega
        · exact grew_refl s
    · exact grew_refl s
  · split
    · unfold getN
      split
      · exact grew_refl s
      · split
        · split
          · exact grew_slotN s _
          · exact grew_refl s
        · exact grew_refl s
    · exact grew_refl s
  · split <;> exact grew_refl s
  · split
    · unfold fieldN
      split
      · exact grew_refl s
      · split
        · exact grew_refl s
        · split
          · exact grew_refl s
          · split
            · exact grew_slotN s _
            · exact grew_refl s
    · exact grew_refl s
  · split
    · exact grew_give _
    · exact grew_refl s
  · split
    · exact ⟨by show (s.handles.set _ none).length ≤ _; rw [List.length_set]; omega, Nat.le_succ _, Nat.le_succ _, Nat.le_succ _⟩
    · exact grew_refl s
  · split
    · exact ⟨Nat.le_succ _, Nat.le_succ _, by show (s.weak ++ [_]).length ≤ _; simp, Nat.le_succ _⟩
    · exact grew_refl s
  · split
    · refine grew_same (same_begin s) ?_
      unfold S.begin
      split
      · show s.epoch ≤ _; omega
      · show s.epoch + 1 ≤ _; omega
    · exact grew_refl s
  · split
    · obtain ⟨a, b, c, d, _⟩ := wf_step h.wf h.ph
      exact grew_same c (by show s.step.1.epoch ≤ _; omega)
    · exact grew_refl s
  · split
    · obtain ⟨a1, a2, a3, a4⟩ := wf_collect h.wf h.ph
      exact grew_same a3 (by show s.collect.epoch ≤ _; omega)
    · exact grew_refl s
  · exact grew_refl s

/-- After some operations. -/
structure After (s : S) (i : Nat) : Prop where
  inv : Inv s
  hl : s.handles.length ≤ i
  ol : s.objs.length ≤ i
  wl : s.weak.length ≤ i
  ep : s.epoch ≤ i

theorem After.step {s : S} {i : Nat} (h : After s i) (c : Bool) (o : Opn) (ho : o.a ≤ 9223372036854775807) : After (doOp c s o).1 (i + 1) := by
  have g := grew_doOp h.inv c o
  exact ⟨inv_doOp h.inv c o ho, by have := g.hl; have := h.hl; omega, by have := g.ol; have := h.ol; omega, by have := g.wl; have := h.wl; omega, by have := g.ep; have := h.ep; omega⟩

theorem After.few {s : S} {i : Nat} (h : After s i) (hi : i ≤ 150) : Few s := ⟨by have := h.hl; omega, by have := h.ol; omega, by have := h.wl; omega, by have := h.ep; omega⟩

theorem After.take {c : Bool} {s : S} (h : After s 0) {l : List Opn} (hl : ∀ o ∈ l, o.a ≤ 9223372036854775807) : ∀ i, i ≤ l.length → After (fin c s (l.take i)) i
  | 0, _ => by rw [List.take_zero]; exact h
  | i + 1, hi => by
    have hlt : i < l.length := hi
    rw [List.take_add_one, List.getElem?_eq_getElem hlt]
    show After (fin c s (l.take i ++ [l[i]])) (i + 1)
    rw [fin_snoc]
    exact (After.take h hl i (by omega)).step c _ (hl _ (List.getElem_mem hlt))

theorem ints_small (x : Ans) : x.ints.length ≤ 5 := by unfold Ans.ints; split <;> simp

theorem hands_small (hs : List (Option Nat)) (k : Nat) : (handsFrom k hs).length ≤ hs.length := by rw [handsFrom_len]; exact List.length_filter_le _ _

theorem trans_small {c : Bool} {s : S} (h : After s 0) {l : List Opn} (hl : ∀ o ∈ l, o.a ≤ 9223372036854775807) : ∀ i, i ≤ l.length → (trans c s (l.take i)).length ≤ i * (i + 5)
  | 0, _ => by rw [List.take_zero]; simp [trans]
  | i + 1, hi => by
    have hlt : i < l.length := hi
    have ih := trans_small h hl (c := c) i (by omega)
    rw [List.take_add_one, List.getElem?_eq_getElem hlt]
    show (trans c s (l.take i ++ [l[i]])).length ≤ _
    rw [trans_snoc, List.length_append, List.length_append]
    have a1 := ints_small (doOp c (fin c s (l.take i)) l[i]).2
    have a2 := hands_small (doOp c (fin c s (l.take i)) l[i]).1.handles 0
    have a3 := ((After.take h hl (c := c) i (by omega)).step c l[i] (hl _ (List.getElem_mem hlt))).hl
    have : (i + 1) * (i + 1 + 5) = i * (i + 5) + i + (i + 6) := by rw [Nat.add_mul, show i + 1 + 5 = (i + 5) + 1 from by omega, Nat.mul_succ]; omega
    omega

set_option maxRecDepth 20000 in
theorem which_any {w : World} {ρ : Nat → Nat} (hρ : ∀ k, w.heap.size ≤ k → ρ k = 0) (k a b : Int) (f : Value) (hk : InI k) (hf : ∃ ad n c, f = .slice ad n c) :
    Calls Try.prog 38 #[.agg #[.int .i64 k, .int .i64 a, .int .i64 b, f]] w fun e w' => e = .returned (.int .i64 (k % 15)) ∧ Ch (fun _ => False) ρ ρ w w' := by
  obtain ⟨ad, n, c, rfl⟩ := hf
  have HR := Lib.hid hρ
  clear hρ
  have HM : Hid (∀ w, Calls Try.prog 13 #[.int .i64 k, .int .i64 15] w fun e w' => e = .returned (.int .i64 (k % 15)) ∧ w' = w) := fun w => mod_any w k 15 hk (by decide) (by decide)
  clear hk
  go_enter Try.func38, Try.ntmps38
  go_wp2_with fail
  refine (HM.out _).mono ?_
  rintro e w1 ⟨rfl, rfl⟩
  go_wp2_with fail
  go_ret
  exact ⟨rfl, (Ch.refl HR.out).alloc _⟩

set_option maxRecDepth 20000 in
theorem content_none {w : World} {ρ : Nat → Nat} (hρ : ∀ k, w.heap.size ≤ k → ρ k = 0) (k a b : Int) (ad : Option Addr) (c : Nat) :
    Calls Try.prog 75 #[.agg #[.int .i64 k, .int .i64 a, .int .i64 b, .slice ad 0 c]] w fun e w' => e = .returned (slotV false b) ∧ Ch (fun _ => False) ρ ρ w w' := by
  have HR := Lib.hid hρ
  clear hρ
  go_enter Try.func75, Try.ntmps75
  go_wp2_with fail
  go_returns
  exact ⟨rfl, ((Ch.refl HR.out).alloc _).alloc _⟩

set_option maxRecDepth 20000 in
theorem content_some {w : World} {ρ : Nat → Nat} (hρ : ∀ k, w.heap.size ≤ k → ρ k = 0) (k a b : Int) {g off n : Nat} (hn : 0 < n) (c : Nat) (r : Bool) (m : Int) (hg : g < w.heap.size) (h0 : w.cell? ⟨g, off, none⟩ = some (.bool r)) (h1 : w.cell? ⟨g, off + 1, none⟩ = some (.int .i64 m)) :
    Calls Try.prog 75 #[.agg #[.int .i64 k, .int .i64 a, .int .i64 b, .slice (some ⟨g, off, none⟩) n c]] w fun e w' => e = .returned (slotV r m) ∧ Ch (fun _ => False) ρ ρ w w' := by
  have HR := Lib.hid hρ
  have hz : ((n : Int) == 0) = false := beq_false_of_ne (by omega)
  have hz2 : (n == 0) = false := beq_false_of_ne (by omega)
  have hz3 : (0 : Int) < (n : Int) := by omega
  clear hρ
  go_enter Try.func75, Try.ntmps75
  go_wp2_with fail
  go_returns
  exact ⟨rfl, ((Ch.refl HR.out).alloc _).alloc _⟩

/-- Two rows of the same integers. -/
structure IntsAt (w : World) (v : Value) (ns : List Int) : Prop where
  shape : ∃ a c, v = .slice a ns.length c ∧ (ns ≠ [] → ∃ g, a = some ⟨g, 0, none⟩ ∧ ∀ j x, ns[j]? = some x → w.cell? ⟨g, j, none⟩ = some (.int .i64 x))

set_option maxHeartbeats 1000000 in
set_option maxRecDepth 20000 in
theorem sameInts_any {w : World} {va vb : Value} {ns : List Int} (ha : IntsAt w va ns) (hb : IntsAt w vb ns) (hl : ns.length ≤ 1000000) :
    Calls Try.prog 42 #[va, vb] w fun e w' => e = .returned (.bool true) ∧ ∃ k, w' = w.drewN k := by
  obtain ⟨a, c, rfl, HA⟩ := ha.shape
  obtain ⟨b, d, rfl, HB⟩ := hb.shape
  have HA := Lib.hid HA
  have HB := Lib.hid HB
  obtain ⟨n, hn⟩ : ∃ n, n = ns.length := ⟨_, rfl⟩
  rw [← hn] at hl ⊢
  have HN := Lib.hid hn
  clear ha hb hn
  go_enter Try.func42, Try.ntmps42
  go_wp2_with fail
  go_loopw [5] (fun i wr => ∃ k q : Nat, k ≤ n ∧ i = .int .i64 k ∧ wr = w.drewN q) (fun i _ => n - (intOf i).toNat)
  case atStart => exact ⟨0, 0, Nat.zero_le _, rfl, rfl⟩
  case round =>
    obtain ⟨k, q, hk, rfl, rfl⟩ := hrel
    by_cases hlt : k < n
    · have hltz : (k : Int) < (n : Int) := by omega
      have hne : ns ≠ [] := fun e => by rw [e] at HN; have := HN.out; simp at this; omega
      obtain ⟨x, hx⟩ : ∃ x, ns[k]? = some x := ⟨_, List.getElem?_eq_getElem (by have := HN.out; omega)⟩
      obtain ⟨g, rfl, hg⟩ := HA.out hne
      obtain ⟨g2, rfl, hg2⟩ := HB.out hne
      have c0 := hg k x hx
      have c1 := hg2 k x hx
      have HLT := Lib.hid hlt
      clear hg hg2 hx hne hlt hk
      go_wp2_with fail
      go_quiet (fail)
      go_wp2_with fail
      go_roundw
      case rel => exact ⟨k + 1, _, HLT.out, by go_num, rfl⟩
      case measure => have := HLT.out; simp [intOf]; omega
    · have hge : (n : Int) ≤ (k : Int) := by omega
      clear hlt hk
      go_wp2_with fail
      go_ret
      exact ⟨rfl, q, rfl⟩
end Go.Proofs.Ytfjgokbclgdfjaa

namespace Go.Proofs.Ytfjgokbclgdfjaa
open Go.RowKit HM Go.Sort

theorem makeN_ans (s : S) (tag : Int) (ws : List W) : (makeN s tag ws).2.b = 0 ∧ (makeN s tag ws).2.slot = (false, 0) := by
  unfold makeN
  split
  · exact ⟨rfl, rfl⟩
  · split <;> exact ⟨rfl, rfl⟩

theorem slotN_ans (s : S) (x : W) : (slotN s x).2.a = 0 ∧ (slotN s x).2.b = 0 := by cases x <;> exact ⟨rfl, rfl⟩

theorem ans_make (c : Bool) (s : S) (o : Opn) (h : o.which = 0 ∨ o.which = 1) : (doOp c s o).2.b = 0 ∧ (doOp c s o).2.slot = (false, 0) := by
  unfold doOp
  rcases h with h | h <;> rw [h] <;> simp only []
  · split
    · exact ⟨rfl, rfl⟩
    · split
      · exact makeN_ans _ _ _
      · exact ⟨rfl, rfl⟩
  · split
    · exact makeN_ans _ _ _
    · exact ⟨rfl, rfl⟩

theorem ans_set (c : Bool) (s : S) (o : Opn) (h : o.which = 2 ∨ o.which = 9) : (doOp c s o).2.a = 0 ∧ (doOp c s o).2.b = 0 ∧ (doOp c s o).2.slot = (false, 0) := by
  unfold doOp
  rcases h with h | h <;> rw [h] <;> simp only []
  · split
    · unfold setN
      split
      · exact ⟨rfl, rfl, rfl⟩
      · split <;> exact ⟨rfl, rfl, rfl⟩
    · exact ⟨rfl, rfl, rfl⟩
  · split <;> exact ⟨rfl, rfl, rfl⟩

theorem ans_get (c : Bool) (s : S) (o : Opn) (h : o.which = 3 ∨ o.which = 5) : (doOp c s o).2.a = 0 ∧ (doOp c s o).2.b = 0 := by
  unfold doOp
  rcases h with h | h <;> rw [h] <;> simp only []
  · split
    · unfold getN
      split
      · exact ⟨rfl, rfl⟩
      · split
        · split
          · exact slotN_ans _ _
          · exact ⟨rfl, rfl⟩
        · exact ⟨rfl, rfl⟩
    · exact ⟨rfl, rfl⟩
  · split
    · unfold fieldN
      split
      · exact ⟨rfl, rfl⟩
      · split
        · exact ⟨rfl, rfl⟩
        · split
          · exact ⟨rfl, rfl⟩
          · split
            · exact slotN_ans _ _
            · exact ⟨rfl, rfl⟩
    · exact ⟨rfl, rfl⟩

theorem ans_tag (c : Bool) (s : S) (o : Opn) (h : o.which = 4) : (doOp c s o).2.slot = (false, 0) := by
  unfold doOp
  rw [h]
  simp only []
  split
  · unfold tagN
    split
    · rfl
    · split <;> rfl
  · rfl

theorem ans_dup (c : Bool) (s : S) (o : Opn) (h : o.which = 8 ∨ o.which = 10) : (doOp c s o).2.b = 0 ∧ (doOp c s o).2.slot = (false, 0) := by
  unfold doOp
  rcases h with h | h <;> rw [h] <;> simp only [] <;> split <;> exact ⟨rfl, rfl⟩

theorem ans_rest (c : Bool) (s : S) (o : Opn) (h : o.which = 6 ∨ o.which = 7 ∨ o.which = 11 ∨ 11 < o.which) : (doOp c s o).2 = Ans.none ∧ ((c = false ∨ o.which < 12 ∨ 14 < o.which) → (doOp c s o).1 = s) := by
  unfold doOp
  rcases h with h | h | h | h
  · rw [h]; exact ⟨rfl, fun _ => rfl⟩
  · rw [h]; exact ⟨rfl, fun _ => rfl⟩
  · rw [h]; exact ⟨rfl, fun _ => rfl⟩
  · have h15 : o.which < 15 := by unfold Opn.which; omega
    have h3 : o.which = 12 ∨ o.which = 13 ∨ o.which = 14 := by omega
    rcases h3 with e | e | e <;> rw [e] <;> cases c <;> simp

/-- An operation as it lies in memory. -/
structure OpAt (w : World) (o : Opn) (g off : Nat) : Prop where
  k : w.cell? ⟨g, off, none⟩ = some (.int .i64 o.kind)
  a : w.cell? ⟨g, off + 1, none⟩ = some (.int .i64 o.a)
  b : w.cell? ⟨g, off + 2, none⟩ = some (.int .i64 o.b)
  f : ∃ (fa : Option Addr) (fc fg fo : Nat), w.cell? ⟨g, off + 3, none⟩ = some (.slice fa o.fs.length fc) ∧ FieldsC w o.fs fg fo o.fs.length ∧ (0 < o.fs.length → fa = some ⟨fg, fo, none⟩)
  ik : InI o.kind
  ia : InI o.a
  ib : InI o.b
  ifs : ∀ (j : Nat) (r : Bool) (m : Int), o.fs[j]? = some (r, m) → InI m
  lt : g < w.heap.size

theorem FieldsC.keep {w w' : World} {fs : List (Bool × Int)} {g off n : Nat} (h : FieldsC w fs g off n) (hs : w.heap.size ≤ w'.heap.size) (hk : ∀ k, k < w.heap.size → w'.heap[k]? = w.heap[k]?) : FieldsC w' fs g off n :=
  ⟨h.fn, fun h0 => Nat.lt_of_lt_of_le (h.gl h0) hs, fun j r m hj => by
    have hlt : g < w.heap.size := h.gl (by have := (List.getElem?_eq_some_iff.1 hj).1; have := h.fn; omega)
    obtain ⟨a, b⟩ := h.cells j r m hj
    exact ⟨(World.cell?_of_block (w := w) (hk _ hlt)).trans a, (World.cell?_of_block (w := w) (hk _ hlt)).trans b⟩⟩

theorem OpAt.keep {w w' : World} {o : Opn} {g off : Nat} (h : OpAt w o g off) (hs : w.heap.size ≤ w'.heap.size) (hk : ∀ k, k < w.heap.size → w'.heap[k]? = w.heap[k]?) : OpAt w' o g off := by
  have hb := hk g h.lt
  obtain ⟨fa, fc, fg, fo, h1, h2, h3⟩ := h.f
  exact ⟨(World.cell?_of_block (w := w) hb).trans h.k, (World.cell?_of_block (w := w) hb).trans h.a, (World.cell?_of_block (w := w) hb).trans h.b,
    ⟨fa, fc, fg, fo, (World.cell?_of_block (w := w) hb).trans h1, h2.keep hs hk, h3⟩, h.ik, h.ia, h.ib, h.ifs, Nat.lt_of_lt_of_le h.lt hs⟩

/-- A list of operations as it lies in memory. -/
structure OpsAt (w : World) (v : Value) (l : List Opn) : Prop where
  shape : ∃ ad c, v = .slice ad l.length c ∧ (l ≠ [] → ∃ g off, ad = some ⟨g, off, none⟩ ∧ ∀ i o, l[i]? = some o → OpAt w o g (off + i * 4))

theorem OpsAt.keep {w w' : World} {v : Value} {l : List Opn} (h : OpsAt w v l) (hb : Below w.heap.size w w') : OpsAt w' v l := by
  obtain ⟨ad, c, h1, h2⟩ := h.shape
  refine ⟨ad, c, h1, fun hn => ?_⟩
  obtain ⟨g, off, h3, h4⟩ := h2 hn
  exact ⟨g, off, h3, fun i o ho => (h4 i o ho).keep hb.size hb.block⟩

/-- The content of an operation, as a call leaves it. -/
theorem content_any {w : World} {ρ : Nat → Nat} (hρ : ∀ k, w.heap.size ≤ k → ρ k = 0) (o : Opn) {fa : Option Addr} {fc fg fo : Nat} (hf : FieldsC w o.fs fg fo o.fs.length) (ha : 0 < o.fs.length → fa = some ⟨fg, fo, none⟩) :
    Calls Try.prog 75 #[.agg #[.int .i64 o.kind, .int .i64 o.a, .int .i64 o.b, .slice fa o.fs.length fc]] w fun e w' => e = .returned (slotV o.content.1 o.content.2) ∧ Ch (fun _ => False) ρ ρ w w' := by
  cases hfs : o.fs with
  | nil =>
    have : o.content = (false, o.b) := by unfold Opn.content; rw [hfs]
    rw [this]
    exact content_none hρ _ _ _ _ _
  | cons f t =>
    have : o.content = f := by unfold Opn.content; rw [hfs]
    rw [this]
    have hl : 0 < o.fs.length := by rw [hfs]; simp
    rw [ha hl, ← hfs]
    obtain ⟨a, b⟩ := hf.cells 0 f.1 f.2 (by rw [hfs]; rfl)
    exact content_some hρ _ _ _ hl _ f.1 f.2 (hf.gl hl) (by simpa using a) (by simpa using b)

theorem content_in {o : Opn} (hb : InI o.b) (hf : ∀ (j : Nat) (r : Bool) (m : Int), o.fs[j]? = some (r, m) → InI m) : InI o.content.2 := by
  unfold Opn.content
  cases hfs : o.fs with
  | nil => exact hb
  | cons f t => exact hf 0 f.1 f.2 (by rw [hfs]; rfl)

theorem which_lt (o : Opn) : o.which < 15 := by unfold Opn.which; omega
theorem which_int (o : Opn) : o.kind % 15 = (o.which : Int) := by unfold Opn.which; omega
end Go.Proofs.Ytfjgokbclgdfjaa

