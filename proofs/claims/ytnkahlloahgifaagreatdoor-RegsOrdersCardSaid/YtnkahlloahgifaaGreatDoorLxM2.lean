/- The law of the loop over the tokens. -/
import Derived.Test.YtnkahlloahgifaaGreatDoorLxL
import Derived.Test.YtnkahlloahgifaaGreatDoorLxM1
import Derived.RangeFuncIn
import Derived.RangeFuncRecord
import Derived.Shelf.Abstract
set_option linter.unusedSimpArgs false
set_option linter.unusedVariables false
namespace Go.Proofs.YtnkahlloahgifaaGreatDoor.Lx
open Go.RowKit

/-- A loop's record. -/
def recOf (fn : FuncId) (tmps : Array Value) (assign body : Code) (D : Nat) (st : LoopState) : Loop := { state := st, pending := none, fn, tmps, params := #[11], assign, body, defers := D }

theorem loop_law {assign body : Code} {Q : Exit → Act → World → Prop} {a : Act} {w W2 : World} {b mb ib lb : Nat} {s : ByteArray}
    (hg : a.eval (.tmp 10) = .func (.func 141) #[] #[.pointer (some ⟨ib, 0, none⟩)])
    (hI : It w.heap.size W2 b mb ib s 0 (.slice none 0 0) [])
    (hw : W2.heap[lb + 1]? = some (.cells #[.int .i64 0, .int .i64 0] 203 (0, 0))) (hv : Boxed W2 lb 201 (.slice none 0 0)) (hB : Below w.heap.size w W2)
    (hround : ∀ (rcd : Loop) (ts : List LX.Tok) (k : Nat) (v : Int) (p : Nat) (tx : ByteArray) (W : World), rcd.state = .ready → rcd.pending = none → Jt w W2.heap.size (W2.heap.size + 1) lb (lb + 1) rcd ts W → ts.length < s.size →
      assign.wpIn (Fence.wide.inRound (W2.heap.size + 1)) 1 Tryz.prog (Exit.then (fun a₁ w₁ => ∃ w₂, (Instr.beginRound (W2.heap.size + 1)).run Tryz.prog w₁ = .ok () w₂ ∧
        body.wpIn (Fence.wide.inRound (W2.heap.size + 1)) 1 Tryz.prog (roundPost Tryz.prog (W2.heap.size + 1) fun e W' => e = .returned (.bool true) ∧
          Jt w W2.heap.size (W2.heap.size + 1) lb (lb + 1) rcd (ts ++ [⟨k, v, bts tx, p⟩]) W' ∧ Kb w.heap.size W W') a₁ w₂) (fun _ _ _ => False))
        { tmps := a.tmps.setIfInBounds 11 (tokV k v tx p), defers := [] } W)
    (hdone : ∀ (rcd : Loop) (W : World) (i : Nat) (cv : Value) (ts : List LX.Tok) (cs : List (Nat × Nat)), LX.scan (bts s) = .ok ts cs →
      Jt w W2.heap.size (W2.heap.size + 1) lb (lb + 1) rcd ts W → It w.heap.size W b mb ib s i cv cs →
      Q .normal { a with defers := { target := .collected W2.heap.size, args := #[] } :: a.defers } W)
    (hthrown : ∀ (rcd : Loop) (W : World) (p er : Nat) (ts : List LX.Tok), LX.scan (bts s) = .bad p er →
      Jt w W2.heap.size (W2.heap.size + 1) lb (lb + 1) rcd ts W →
      Q (.panic [{ v := .iface 203 (.agg #[.int .i64 p, .int .i64 er]), recovered := false }]) { a with defers := { target := .collected W2.heap.size, args := #[] } :: a.defers } W) :
    (Code.rangeFunc (.tmp 10) #[11] assign body).wp Tryz.prog Q a W2 := by
  refine (wpIn_wide (n := 2)).1 ?_
  refine wpIn_rangeFunc ?_
  intro fn hfn
  obtain ⟨D, hD⟩ : ∃ D, D = W2.heap.size := ⟨_, rfl⟩
  obtain ⟨l, hl⟩ : ∃ l, l = W2.heap.size + 1 := ⟨_, rfl⟩
  obtain ⟨W3, hW3⟩ : ∃ W, W = (W2.alloc (.deferred (some []))).alloc (.loop (recOf fn a.tmps assign body W2.heap.size .ready)) := ⟨_, rfl⟩
  have he : (Instr.enterLoop fn a.tmps #[11] assign body Fence.wide.round).run Tryz.prog W2 = .ok (l, [{ target := .collected D, args := #[] }]) W3 := by
    rw [hl, hD, hW3]
    exact run_enterLoop_outer fn a.tmps #[11] assign body
  have h3 : Below W2.heap.size W2 W3 := by rw [hW3]; exact ((Below.refl _ _).alloc (Nat.le_refl _) _).alloc (by simp) _
  have hD3 : W3.heap[D]? = some (.deferred (some [])) := by
    rw [hW3, hD, Below.heap_alloc _ _ _ (by simp)]; exact World.alloc_heap_new W2 _
  have hl3 : W3.heap[l]? = some (.loop (recOf fn a.tmps assign body W2.heap.size .ready)) := by
    rw [hW3, hl]
    have := World.alloc_heap_new (W2.alloc (.deferred (some []))) (.loop (recOf fn a.tmps assign body W2.heap.size .ready))
    rw [World.size_alloc] at this
    exact this
  refine ⟨l, [{ target := .collected D, args := #[] }], W3, { target := .fn (.func 141) #[.pointer (some ⟨ib, 0, none⟩)], args := #[.func (.yield l) #[] #[]] }, W3, 141,
    #[.func (.yield l) #[] #[]] ++ #[.pointer (some ⟨ib, 0, none⟩)], W3, he, ?_, ?_, ?_, (fun _ => by decide), ?_⟩
  · simp only [resolve, hg]
    simp [go_sem]
  · intro f' _; exact trivial
  · have eg := enters_of Tryz.func141 (by kernel_rfl) rfl
    simp [invoke, go_sem, eg]
  · subst hD
    subst hl
    have J0 : Jt w W2.heap.size (W2.heap.size + 1) lb (lb + 1) (recOf fn a.tmps assign body W2.heap.size .ready) [] W3 :=
      ⟨hD3, hl3, (h3.block _ (Array.getElem?_eq_some_iff.1 hw).1).trans hw, ⟨_, (h3.block _ (Array.getElem?_eq_some_iff.1 hv).1).trans hv, World.ownsRow_nil _ _ _ _⟩, hB.trans (h3.mono hB.size)⟩
    refine callsIn_wide.2 ((toks_in (n0 := w.heap.size) 1 (W2.heap.size + 1) (Jt w W2.heap.size (W2.heap.size + 1) lb (lb + 1) (recOf fn a.tmps assign body W2.heap.size .ready)) (fun ts W W' h k => h.kt k) ?_ (hI.below h3) J0).mono ?_)
    · intro ts k v p tx W hJ hlen
      have hy := run_yield (P := Tryz.prog) (args := #[tokV k v tx p]) hJ.loop rfl
      have hf : ((recOf fn a.tmps assign body W2.heap.size .ready).params.zip #[tokV k v tx p]).foldl (fun tmps (t, a) => tmps.setIfInBounds t a) (recOf fn a.tmps assign body W2.heap.size .ready).tmps = a.tmps.setIfInBounds 11 (tokV k v tx p) := by
        simp [recOf]
      rw [hf] at hy
      exact ⟨fn, _, assign, body, hy, roundIn_of_wpIn trivial (hround _ ts k v p tx W rfl rfl hJ hlen)⟩
    · intro e W hp
      unfold IPost at hp
      cases hs : LX.scan (bts s) with
      | ok ts cs =>
        rw [hs] at hp
        obtain ⟨rfl, hJ, i, cv, hit⟩ := hp
        have h2 := hJ.put (recOf fn a.tmps assign body W2.heap.size .exhausted) (by have := hB.size; omega)
        refine ⟨none, W.putObj (W2.heap.size + 1) (.loop (recOf fn a.tmps assign body W2.heap.size .exhausted)), run_endLoop hJ.loop (by simp [recOf]), ?_⟩
        exact hdone _ _ i cv ts cs hs h2.1 (hit.kb h2.2)
      | bad p er =>
        rw [hs] at hp
        obtain ⟨rfl, ts, hJ⟩ := hp
        exact hthrown _ W p er ts hs hJ
end Go.Proofs.YtnkahlloahgifaaGreatDoor.Lx
