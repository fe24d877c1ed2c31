/- What the iterator of the tokens keeps of the loop's memory, and what a round of the loop keeps of the iterator's. -/
import Derived.Test.YtnkahlloahgifaaGreatDoorLxG
import Derived.Test.YtnkahlloahgifaaGreatDoorLxQ
set_option linter.unusedSimpArgs false
set_option linter.unusedVariables false
namespace Go.Proofs.YtnkahlloahgifaaGreatDoor.Lx
open Go.RowKit

/-- The iterator's word: all but scanners and comments' rows from n0 on stays. -/
structure Kt (n0 : Nat) (w w' : World) : Prop where
  os : w'.os = w.os
  tape : w'.tape = w.tape
  output : w'.output = w.output
  size : w.heap.size ≤ w'.heap.size
  block : ∀ k o, w.heap[k]? = some o → (k < n0 ∨ ((∀ c r, o ≠ .cells c 222 r) ∧ (∀ c r, o ≠ .cells c 228 r))) → w'.heap[k]? = some o

theorem Kt.refl (n0 : Nat) (w : World) : Kt n0 w w := ⟨rfl, rfl, rfl, Nat.le_refl _, fun _ _ h _ => h⟩
theorem Kt.trans {n0 : Nat} {w w1 w2 : World} (h : Kt n0 w w1) (k : Kt n0 w1 w2) : Kt n0 w w2 :=
  ⟨k.os.trans h.os, k.tape.trans h.tape, k.output.trans h.output, Nat.le_trans h.size k.size, fun q o ho hq => k.block q o (h.block q o ho hq) hq⟩
theorem Kt.drewN {n0 : Nat} {w w' : World} (h : Kt n0 w w') (m : Nat) : Kt n0 w (w'.drewN m) := ⟨h.os, h.tape, h.output, h.size, h.block⟩
theorem Kt.of_below {n0 : Nat} {w w' : World} (h : Below w.heap.size w w') : Kt n0 w w' :=
  ⟨h.os, h.tape, h.output, h.size, fun k o ho _ => (h.block k (Array.getElem?_eq_some_iff.1 ho).1).trans ho⟩

/-- A round's word. -/
structure Kb (n0 : Nat) (w w' : World) : Prop where
  os : w'.os = w.os
  tape : w'.tape = w.tape
  output : w'.output = w.output
  size : w.heap.size ≤ w'.heap.size
  block : ∀ k o, w.heap[k]? = some o → (k < n0 ∨ (∃ c, o = .cells c 222 (0, 0)) ∨ (∃ c, o = .cells c 228 (0, 0)) ∨ (∃ es cl, o = .map es cl) ∨ (∃ c, o = .cells c 200 (0, 0))) → w'.heap[k]? = some o

theorem Kb.below {n0 : Nat} {w w' : World} (h : Kb n0 w w') (hn : n0 ≤ w.heap.size) : Below n0 w w' :=
  ⟨h.os, h.tape, h.output, h.size, fun k hk => by
    have ho : w.heap[k]? = some w.heap[k] := Array.getElem?_eq_getElem (by omega)
    rw [ho]
    exact h.block k _ ho (.inl hk)⟩

/-- The iterator's memory. -/
structure It (n0 : Nat) (w : World) (b mb ib : Nat) (s : ByteArray) (i : Nat) (cv : Value) (cs : List (Nat × Nat)) : Prop where
  sc : Sc w b s i mb cv
  cm : Cm w b cv cs
  hb : n0 ≤ b
  hcv : ∀ k, cv.ownBlock = some k → n0 ≤ k
  wd : Wd w mb
  env : Env w
  hmb : mb ≠ b
  box : w.heap[ib]? = some (.cells #[.pointer (some ⟨b, 0, none⟩)] 200 (0, 0))
  n30 : 10 ≤ n0
  n0w : n0 ≤ w.heap.size

theorem Cm.blk {w : World} {b : Nat} {cv : Value} {cs : List (Nat × Nat)} (h : Cm w b cv cs) {k : Nat} (hk : cv.ownBlock = some k) : ∃ c, w.heap[k]? = some (.cells c 228 (0, 0)) := by
  rcases h.row.2 with ⟨rfl, _⟩ | ⟨g, cap, cur, rfl, _, hg, _⟩
  · simp [Value.ownBlock] at hk
  · simp [Value.ownBlock] at hk; subst hk; exact ⟨_, hg⟩

theorem Wd.keep {w w' : World} {mb : Nat} (h : Wd w mb) (hk : ∀ o, w.heap[mb]? = some o → (∃ es cl, o = .map es cl) → w'.heap[mb]? = some o) : Wd w' mb := by
  obtain ⟨es, cl, h1, h2⟩ := h
  exact ⟨es, cl, hk _ h1 ⟨_, _, rfl⟩, h2⟩

theorem Fr.kt {n0 : Nat} {w w' : World} {b mb i : Nat} {s : ByteArray} {cv cv' : Value} {cs : List (Nat × Nat)} (h : Fr w w' b cv cv') (hs : Sc w b s i mb cv) (hc : Cm w b cv cs) (hb : n0 ≤ b) (hcv : ∀ k, cv.ownBlock = some k → n0 ≤ k) : Kt n0 w w' := by
  refine ⟨h.os, h.tape, h.output, h.size, fun k o ho hk => ?_⟩
  refine (h.block k (Array.getElem?_eq_some_iff.1 ho).1 ?_ ?_).trans ho
  · rintro rfl
    rcases hk with hk | ⟨hk, _⟩
    · omega
    · rw [hs.1] at ho
      simp only [Option.some.injEq] at ho
      exact hk _ _ ho.symm
  · intro hk2
    rcases hk with hk | ⟨_, hk⟩
    · have := hcv k hk2; omega
    · obtain ⟨c, hc2⟩ := hc.blk hk2
      rw [hc2] at ho
      simp only [Option.some.injEq] at ho
      exact hk _ _ ho.symm

theorem Kt.below {n0 : Nat} {w w' : World} (h : Kt n0 w w') (hn : n0 ≤ w.heap.size) : Below n0 w w' :=
  ⟨h.os, h.tape, h.output, h.size, fun k hk => by
    have ho : w.heap[k]? = some w.heap[k] := Array.getElem?_eq_getElem (by omega)
    rw [ho]
    exact h.block k _ ho (.inl hk)⟩

theorem It.kt {n0 : Nat} {w w' : World} {b mb ib i i' : Nat} {s : ByteArray} {cv cv' : Value} {cs cs' : List (Nat × Nat)} (h : It n0 w b mb ib s i cv cs) (k : Kt n0 w w') (hs : Sc w' b s i' mb cv') (hc : Cm w' b cv' cs') (hcv : ∀ k, cv'.ownBlock = some k → n0 ≤ k) : It n0 w' b mb ib s i' cv' cs' :=
  ⟨hs, hc, h.hb, hcv, h.wd.keep (fun o ho he => by obtain ⟨es, cl, rfl⟩ := he; exact k.block mb _ ho (.inr ⟨nofun, nofun⟩)),
    h.env.keep (k.below h.n0w) h.n30, h.hmb, k.block ib _ h.box (.inr ⟨fun c r e => by simp at e, fun c r e => by simp at e⟩), h.n30, Nat.le_trans h.n0w k.size⟩

theorem It.fr {n0 : Nat} {w w' : World} {b mb ib i i' : Nat} {s : ByteArray} {cv cv' : Value} {cs cs' : List (Nat × Nat)} (h : It n0 w b mb ib s i cv cs) (k : Fr w w' b cv cv') (hs : Sc w' b s i' mb cv') (hc : Cm w' b cv' cs') : It n0 w' b mb ib s i' cv' cs' :=
  h.kt (k.kt h.sc h.cm h.hb h.hcv) hs hc fun q hq => by
    rcases k.own with e | ⟨p, e, hp⟩
    · exact h.hcv q (e ▸ hq)
    · rw [e] at hq; cases hq; exact Nat.le_trans h.n0w hp

theorem It.below {n0 : Nat} {w w' : World} {b mb ib i : Nat} {s : ByteArray} {cv : Value} {cs : List (Nat × Nat)} (h : It n0 w b mb ib s i cv cs) (k : Below w.heap.size w w') : It n0 w' b mb ib s i cv cs :=
  h.kt (Kt.of_below k) ⟨(k.block b (Array.getElem?_eq_some_iff.1 h.sc.1).1).trans h.sc.1, h.sc.2⟩ (h.cm.keep fun q hq _ => k.block q hq) h.hcv

theorem It.kb {n0 : Nat} {w w' : World} {b mb ib i : Nat} {s : ByteArray} {cv : Value} {cs : List (Nat × Nat)} (h : It n0 w b mb ib s i cv cs) (k : Kb n0 w w') : It n0 w' b mb ib s i cv cs :=
  ⟨⟨k.block b _ h.sc.1 (.inr (.inl ⟨_, rfl⟩)), h.sc.2⟩, h.cm.keep (fun q _ hq => by obtain ⟨c, hc⟩ := h.cm.blk hq; rw [hc]; exact k.block q _ hc (.inr (.inr (.inl ⟨_, rfl⟩)))), h.hb, h.hcv,
    h.wd.keep fun o ho he => k.block mb o ho (.inr (.inr (.inr (.inl he)))), h.env.keep (k.below h.n0w) h.n30, h.hmb, k.block ib _ h.box (.inr (.inr (.inr (.inr ⟨_, rfl⟩)))), h.n30, Nat.le_trans h.n0w k.size⟩

theorem It.drewN {n0 : Nat} {w : World} {b mb ib i : Nat} {s : ByteArray} {cv : Value} {cs : List (Nat × Nat)} (h : It n0 w b mb ib s i cv cs) (m : Nat) : It n0 (w.drewN m) b mb ib s i cv cs := h.below (below_drawn (Below.refl _ _) m)

/-- The index goes on. -/
theorem It.adv {n0 : Nat} {w w' : World} {b mb ib i j : Nat} {s : ByteArray} {cv : Value} {cs : List (Nat × Nat)} (h : It n0 w b mb ib s i cv cs) (k : Mv w w' b j) (hj : j ≤ s.size) : It n0 w' b mb ib s j cv cs ∧ Kt n0 w w' := by
  have f := k.fr cv
  refine ⟨h.fr f (h.sc.mv k hj) (h.cm.keep fun p hp hb => k.block p fun e => h.cm.ne (by rw [hb, e])), f.kt h.sc h.cm h.hb h.hcv⟩
end Go.Proofs.YtnkahlloahgifaaGreatDoor.Lx
