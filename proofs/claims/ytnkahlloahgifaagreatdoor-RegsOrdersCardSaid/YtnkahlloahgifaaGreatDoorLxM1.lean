/- The memory of the loop over the tokens. -/
import Derived.Test.YtnkahlloahgifaaGreatDoorLxL0
import Derived.RangeFuncBox
set_option linter.unusedSimpArgs false
set_option linter.unusedVariables false
namespace Go.Proofs.YtnkahlloahgifaaGreatDoor.Lx
open Go.RowKit

def ofB (l : List Nat) : ByteArray := ⟨(l.map UInt8.ofNat).toArray⟩

theorem ofB_bts (t : ByteArray) : ofB (bts t) = t := by
  unfold ofB bts
  rw [List.map_map]
  have : (UInt8.ofNat ∘ UInt8.toNat) = id := by funext x; simp
  rw [this, List.map_id]

/-- The tokens' row. -/
def flatT : List LX.Tok → List Value
  | [] => []
  | t :: r => .int .i64 t.kind :: .int .i64 t.num :: .string (ofB t.text) :: .int .i64 t.place :: flatT r

theorem flatT_append (a b : List LX.Tok) : flatT (a ++ b) = flatT a ++ flatT b := by
  induction a with
  | nil => rfl
  | cons x r ih => simp [flatT, ih]

theorem flatT_length (a : List LX.Tok) : (flatT a).length = 4 * a.length := by
  induction a with
  | nil => rfl
  | cons x r ih => simp only [flatT, List.length_cons, ih]; omega

theorem owns_keep {w w' : World} {base e size n : Nat} {v : Value} {xs : List Value} (h : w.ownsRow base e size v n xs) (hk : ∀ k, v.ownBlock = some k → w'.heap[k]? = w.heap[k]?) : w'.ownsRow base e size v n xs := by
  obtain ⟨h1, h2⟩ := h
  rcases h2 with h2 | ⟨g, cap, cur, rfl, hb, hg, rest⟩
  · exact ⟨h1, .inl h2⟩
  · exact ⟨h1, .inr ⟨g, cap, cur, rfl, hb, (hk g rfl).trans hg, rest⟩⟩

theorem owns_blk {w : World} {base e size n : Nat} {v : Value} {xs : List Value} (h : w.ownsRow base e size v n xs) {k : Nat} (hk : v.ownBlock = some k) : base ≤ k ∧ ∃ c, w.heap[k]? = some (.cells c e (0, 0)) := by
  rcases h.2 with ⟨rfl, _⟩ | ⟨g, cap, cur, rfl, hb, hg, _⟩
  · simp [Value.ownBlock] at hk
  · simp [Value.ownBlock] at hk; subst hk; exact ⟨hb, _, hg⟩

/-- The loop's memory. -/
structure Jt (w : World) (D l lb wb : Nat) (rcd : Loop) (ts : List LX.Tok) (W : World) : Prop where
  blk : W.heap[D]? = some (.deferred (some []))
  loop : W.heap[l]? = some (.loop rcd)
  wrong : W.heap[wb]? = some (.cells #[.int .i64 0, .int .i64 0] 203 (0, 0))
  row : ∃ v, Boxed W lb 201 v ∧ W.ownsRow w.heap.size 154 4 v ts.length (flatT ts)
  below : Below w.heap.size w W

theorem Jt.kt {w W W' : World} {D l lb wb : Nat} {rcd : Loop} {ts : List LX.Tok} (h : Jt w D l lb wb rcd ts W) (k : Kt w.heap.size W W') : Jt w D l lb wb rcd ts W' := by
  obtain ⟨v, h1, h2⟩ := h.row
  refine ⟨k.block _ _ h.blk (.inr ⟨nofun, nofun⟩), k.block _ _ h.loop (.inr ⟨nofun, nofun⟩), k.block _ _ h.wrong (.inr ⟨fun c r e => ?_, fun c r e => ?_⟩), ⟨v, k.block _ _ h1 (.inr ⟨fun c r e => ?_, fun c r e => ?_⟩), owns_keep h2 fun q hq => ?_⟩, h.below.trans (k.below h.below.size)⟩
  · simp at e
  · simp at e
  · simp at e
  · simp at e
  · obtain ⟨_, c, hc⟩ := owns_blk h2 hq
    rw [hc]
    exact k.block _ _ hc (.inr ⟨fun c r e => by simp at e, fun c r e => by simp at e⟩)

/-- A record's turn. -/
theorem Jt.put {w W : World} {D l lb wb : Nat} {rcd : Loop} {ts : List LX.Tok} (h : Jt w D l lb wb rcd ts W) (r' : Loop) (hl : w.heap.size ≤ l) : Jt w D l lb wb r' ts (W.putObj l (.loop r')) ∧ Kb w.heap.size W (W.putObj l (.loop r')) := by
  have ho : ∀ k o, W.heap[k]? = some o → (∀ r : Loop, o ≠ Obj.loop r) → (W.putObj l (.loop r')).heap[k]? = some o := fun k o hk hr =>
    (World.putObj_heap_other fun e => by subst e; rw [h.loop] at hk; simp only [Option.some.injEq] at hk; exact hr _ hk.symm).trans hk
  obtain ⟨v, h1, h2⟩ := h.row
  refine ⟨⟨ho _ _ h.blk nofun, World.putObj_heap_same (Array.getElem?_eq_some_iff.1 h.loop).1, ho _ _ h.wrong nofun, ⟨v, ho _ _ h1 nofun, owns_keep h2 fun q hq => ?_⟩, ?_⟩, ?_⟩
  · obtain ⟨_, c, hc⟩ := owns_blk h2 hq
    rw [hc]
    exact ho _ _ hc nofun
  · exact h.below.trans ⟨rfl, rfl, rfl, by simp, fun k hk => World.putObj_heap_other (by omega)⟩
  · refine ⟨rfl, rfl, rfl, by simp, fun k o hk ht => ?_⟩
    rcases ht with ht | ⟨c, rfl⟩ | ⟨c, rfl⟩ | ⟨es, cl, rfl⟩ | ⟨c, rfl⟩
    · exact (World.putObj_heap_other (by omega)).trans hk
    · exact ho _ _ hk nofun
    · exact ho _ _ hk nofun
    · exact ho _ _ hk nofun
    · exact ho _ _ hk nofun

theorem Kb.trans {n0 : Nat} {w w1 w2 : World} (h : Kb n0 w w1) (k : Kb n0 w1 w2) : Kb n0 w w2 :=
  ⟨k.os.trans h.os, k.tape.trans h.tape, k.output.trans h.output, Nat.le_trans h.size k.size, fun q o ho hq => k.block q o (h.block q o ho hq) hq⟩

theorem Kb.of_below {n0 : Nat} {w w' : World} (h : Below w.heap.size w w') : Kb n0 w w' :=
  ⟨h.os, h.tape, h.output, h.size, fun k o ho _ => (h.block k (Array.getElem?_eq_some_iff.1 ho).1).trans ho⟩

theorem Jt.alloc {w W : World} {D l lb wb : Nat} {rcd : Loop} {ts : List LX.Tok} (h : Jt w D l lb wb rcd ts W) (o : Obj) : Jt w D l lb wb rcd ts (W.alloc o) ∧ Kb w.heap.size W (W.alloc o) := by
  have hb : Below W.heap.size W (W.alloc o) := (Below.refl _ _).alloc (Nat.le_refl _) _
  exact ⟨h.kt (Kt.of_below hb), Kb.of_below hb⟩

/-- A token more. -/
theorem Jt.more {w W w1 : World} {D l lb wb : Nat} {rcd : Loop} {ts : List LX.Tok} {v v' : Value} {tmp : Obj} (h : Jt w D l lb wb rcd ts W) (t : LX.Tok) (hv : Boxed W lb 201 v) (hrow : W.ownsRow w.heap.size 154 4 v ts.length (flatT ts))
    (hlb : w.heap.size ≤ lb) (hown : w1.ownsRow w.heap.size 154 4 v' (ts.length + 1) (flatT ts ++ [.int .i64 t.kind, .int .i64 t.num, .string (ofB t.text), .int .i64 t.place])) (hg : (W.alloc tmp).grownBy w1 v.ownBlock) :
    Boxed w1 lb 201 v ∧ Jt w D l lb wb rcd (ts ++ [t]) (w1.setCell ⟨lb, 0, none⟩ v') ∧ Kb w.heap.size W (w1.setCell ⟨lb, 0, none⟩ v') := by
  obtain ⟨b1, b2, b3, b4, b5⟩ := hv.appended (by decide) hrow h.below.size hlb hown hg
  have keep : ∀ k o, W.heap[k]? = some o → (∀ c : Array Value, o ≠ Obj.cells c 154 (0, 0)) → (∀ c : Array Value, o ≠ Obj.cells c 201 (0, 0)) → (w1.setCell ⟨lb, 0, none⟩ v').heap[k]? = some o := fun k o hk h39 h35 => by
    have hlt := (Array.getElem?_eq_some_iff.1 hk).1
    rw [Below.heap_setCell _ _ _ k (fun e => by
      have e : k = lb := e
      subst e
      rw [show W.heap[k]? = _ from hv] at hk
      simp only [Option.some.injEq] at hk
      exact h35 _ hk.symm)]
    refine (hg.block k (by simp; omega) fun e => ?_).trans ((Below.heap_alloc W tmp k hlt).trans hk)
    obtain ⟨_, c, hc⟩ := owns_blk hrow e.symm
    rw [hc] at hk
    simp only [Option.some.injEq] at hk
    exact h39 _ hk.symm
  refine ⟨b1, ⟨keep _ _ h.blk nofun nofun, keep _ _ h.loop nofun nofun, keep _ _ h.wrong (fun c e => by simp at e) (fun c e => by simp at e), ⟨v', b2, ?_⟩, h.below.trans b5⟩, ⟨b5.os, b5.tape, b5.output, b5.size, fun k o hk ht => ?_⟩⟩
  · rw [List.length_append, flatT_append]
    exact b3
  · rcases ht with ht | ⟨c, rfl⟩ | ⟨c, rfl⟩ | ⟨es, cl, rfl⟩ | ⟨c, rfl⟩
    · exact (b5.block k ht).trans hk
    · exact keep _ _ hk (fun c e => by simp at e) (fun c e => by simp at e)
    · exact keep _ _ hk (fun c e => by simp at e) (fun c e => by simp at e)
    · exact keep _ _ hk nofun nofun
    · exact keep _ _ hk (fun c e => by simp at e) (fun c e => by simp at e)
end Go.Proofs.YtnkahlloahgifaaGreatDoor.Lx
