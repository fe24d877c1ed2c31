/- A new object in memory. -/
import Derived.Test.YtfjgokbclgdfjaaV
set_option linter.unusedSimpArgs false
set_option linter.unusedVariables false
namespace Go.Proofs.Ytfjgokbclgdfjaa
open Go.RowKit HM

namespace HM
def S.place (s : S) (o : O) : S := { s with objs := s.objs ++ [o], bump := s.bump + o.size, used := s.used + o.size }
def S.newO (s : S) (tag : Int) (ws : List W) : O := ⟨tag, .num tag :: ws, s.cur, s.bump, s.epoch⟩
end HM

theorem RowAt.reRole {w : World} {ρ : Nat → Nat} {r : Nat} {T : TypeId} {v : Value} {xs : List Value} (h : RowAt w ρ r T v xs) {ob x : Nat} (hr : ρ ob ≠ r) : RowAt w (roleAt ρ ob x) r T v xs := by
  rcases h with h | ⟨g, off, cap, cur, hv, hg, rest⟩
  · exact .inl h
  · exact .inr ⟨g, off, cap, cur, hv, by rw [roleAt_other _ _ _ (by rintro rfl; exact hr hg)]; exact hg, rest⟩

def Ad.more (A : Ad) (ob : Nat) : Ad := { A with ob := A.ob ++ [ob] }
theorem Ad.more_sp (A : Ad) (ob k : Nat) : (A.more ob).sp k = A.sp k := rfl
theorem Ad.more_old (A : Ad) (ob : Nat) {i : Nat} (h : i < A.ob.length) : (A.more ob).obj i = A.obj i := by
  unfold Ad.obj Ad.more
  simp [List.getD, List.getElem?_append_left h]
theorem Ad.more_new (A : Ad) (ob : Nat) : (A.more ob).obj A.ob.length = ob := by
  unfold Ad.obj Ad.more
  simp [List.getD]

theorem wptr_more (A : Ad) (ob : Nat) {x : W} (h : ∀ q, x = .obj q → q < A.ob.length) : wptr (A.more ob) x = wptr A x := by
  cases x with
  | num n => rfl
  | obj q => simp only [wptr, Ad.ptr]; rw [Ad.more_old _ _ (h q rfl)]

theorem map_ptr_more (A : Ad) (ob : Nat) {l : List Nat} (h : ∀ i, i ∈ l → i < A.ob.length) : l.map (A.more ob).ptr = l.map A.ptr := by
  refine List.map_congr_left fun i hi => ?_
  unfold Ad.ptr
  rw [Ad.more_old _ _ (h i hi)]

theorem Alive.lt {s : S} {i : Nat} (h : s.Alive i) : i < s.objs.length := by
  obtain ⟨o, ho, _⟩ := h
  exact (List.getElem?_eq_some_iff.1 ho).1

theorem placed_rep {w V : World} {ρ : Nat → Nat} {A : Ad} {s : S} (h : Rep w ρ A s) (hw : WF s) {ob : Nat} (hob : ρ ob = 0) (hobl : ob < w.heap.size) (o : O) (ho : o.space = s.cur ∧ o.place = s.bump)
    (c : Ch (· ≤ 3) ρ ρ w V)
    (hsp : ∀ k, A.sp k ≠ A.sp s.cur → V.heap[A.sp k]? = w.heap[A.sp k]?)
    (hhb : ∀ gs ds ks, w.heap[A.hb]? = some (.cells (hcells A s gs ds ks) 49 (0, 0)) → V.heap[A.hb]? = some (.cells (hcells A (s.place o) gs ds ks) 49 (0, 0)))
    (hobj : V.heap[ob]? = some (.cells (objCells o) 97 (0, 0)))
    {cl c' : List Value} (hcl : w.heap[A.sp s.cur]? = some (.cells cl.toArray 85 (0, 0))) (hcl' : V.heap[A.sp s.cur]? = some (.cells c'.toArray 85 (0, 0))) (hlen : c'.length = 2 * s.room)
    (hin : ∀ (j : Nat) (x : W), o.ws[j]? = some x → c'[2 * (s.bump + j)]? = some (.int .i64 (wnum x)) ∧ c'[2 * (s.bump + j) + 1]? = some (wptr A x))
    (hout : ∀ j, j < 2 * s.bump → c'[j]? = cl[j]?)
    (hnew : ∀ q, W.obj q ∈ o.ws → q < s.objs.length) (hnd : s.done ≤ o.epoch) : Rep V (roleAt ρ ob (8 + s.objs.length)) (A.more ob) (s.place o) := by
  have hl := h.len
  obtain ⟨gs, ds, ks, hh, hgr, ⟨da, hd, hdr⟩, hk⟩ := h.head
  have hne : ∀ {k : Nat}, ρ k ≠ 0 → k ≠ ob := fun hk e => by subst e; exact hk hob
  have hro : ∀ {k : Nat}, ρ k ≠ 0 → roleAt ρ ob (8 + s.objs.length) k = ρ k := fun hk => roleAt_other _ _ _ (hne hk)
  have hgrey : ∀ i, i ∈ s.grey → i < A.ob.length := fun i hi => by
    obtain ⟨o', ho', _⟩ := hw.greyE i hi
    rw [hl]; exact (List.getElem?_eq_some_iff.1 ho').1
  have hweak : ∀ i, i ∈ s.weak → i < A.ob.length := fun i hi => by rw [hl]; exact hw.weak i hi
  have hget : ∀ {i : Nat} {o' : O}, (s.place o).objs[i]? = some o' → (i < s.objs.length ∧ s.objs[i]? = some o') ∨ (i = s.objs.length ∧ o' = o) := fun {i o'} hi => by
    simp only [S.place, List.getElem?_append] at hi
    split at hi
    · exact .inl ⟨by assumption, hi⟩
    · rename_i hge
      cases hm : i - s.objs.length with
      | zero => rw [hm] at hi; simp at hi; exact .inr ⟨by omega, hi.symm⟩
      | succ m => rw [hm] at hi; simp at hi
  refine ⟨fun k hk => ?_, (hro (show ρ A.hb ≠ 0 by simp [h.rh])).trans h.rh, (hro (show ρ A.s0 ≠ 0 by simp [h.r0])).trans h.r0, (hro (show ρ A.s1 ≠ 0 by simp [h.r1])).trans h.r1, (hro (show ρ A.mb ≠ 0 by simp [h.rm])).trans h.rm, by simp [Ad.more, S.place, hl], fun i hi => ?_,
    ⟨gs, ds, ks, ?_, ?_, ⟨da, (hd.keep c (by decide)).reRole (by rw [hob]; decide), hdr⟩, ?_⟩, ?_, fun i o' hi => ?_, fun k => ?_, fun i o' hi hdn j x hx => ?_⟩
  · have := c.size
    rw [roleAt_other _ _ _ (by omega)]
    exact c.fresh k hk
  · simp only [S.place, List.length_append, List.length_cons, List.length_nil] at hi
    by_cases e : i < s.objs.length
    · rw [Ad.more_old _ _ (by omega), hro (by rw [h.ro i e]; omega)]
      exact h.ro i e
    · have : i = A.ob.length := by omega
      subst this
      rw [Ad.more_new, roleAt_same, hl]
  · exact hhb gs ds ks hh
  · rw [show (s.place o).grey = s.grey from rfl, map_ptr_more A ob hgrey]
    exact (hgr.keep c (by decide)).reRole (by rw [hob]; decide)
  · rw [show (s.place o).weak = s.weak from rfl, map_ptr_more A ob hweak]
    exact (hk.keep c (by decide)).reRole (by rw [hob]; decide)
  · obtain ⟨D, h1, h2, h3, h4⟩ := h.map.keep (w' := V) (c.block _ h.map.lt (by rw [h.rm]; decide))
    refine ⟨D, h1, h2, h3, fun j i hj => ⟨(h4 j i hj).1, fun z => ?_⟩⟩
    rw [Ad.more_old _ _ (by rw [hl]; exact Alive.lt (hw.hand j i hj))]
    exact (h4 j i hj).2 z
  · rcases hget hi with ⟨hil, hi'⟩ | ⟨rfl, rfl⟩
    · rw [Ad.more_old _ _ (by omega), c.block _ (h.lt (by rw [h.ro i hil]; omega)) (by rw [h.ro i hil]; omega)]
      exact h.objs i o' hi'
    · rw [← hl, Ad.more_new]; exact hobj
  · rw [Ad.more_sp]
    by_cases hm : A.sp k = A.sp s.cur
    · rw [hm]; exact ⟨_, hcl', by simp [S.place, hlen]⟩
    · obtain ⟨cc, g1, g2⟩ := h.sp k
      exact ⟨cc, by rw [hsp k hm]; exact g1, g2⟩
  · rw [Ad.more_sp]
    rcases hget hi with ⟨hil, hi'⟩ | ⟨rfl, rfl⟩
    · have hxm : x ∈ o'.ws := List.mem_of_getElem? hx
      rw [wptr_more A ob (fun q e => by subst e; rw [hl]; exact Alive.lt (hw.refs i o' hi' hdn q hxm))]
      have hwd := h.words i o' hi' hdn j x hx
      have hkl : j < o'.size := (List.getElem?_eq_some_iff.1 hx).1
      have hloc := hw.loc i o' hi' hdn
      by_cases hsc : A.sp o'.space = A.sp s.cur
      · have hcs : o'.space = s.cur := by
          by_cases hb : s.Black i o'
          · exact (hloc.1 hb).1
          · exact absurd hsc (h.sp_ne (hloc.2 hb).1 hw.cur (hloc.2 hb).2.1)
        have hpl : o'.place + o'.size ≤ s.bump := by
          by_cases hb : s.Black i o'
          · exact (hloc.1 hb).2
          · exact absurd hcs (hloc.2 hb).2.1
        rw [hsc] at hwd ⊢
        rw [cell_of_row w _ _ _ _ _ hcl, cell_of_row w _ _ _ _ _ hcl] at hwd
        rw [cell_of_row V _ _ _ _ _ hcl', cell_of_row V _ _ _ _ _ hcl']
        simp only [List.getElem?_toArray] at hwd ⊢
        rw [hout _ (by omega), hout _ (by omega)]
        exact hwd
      · exact ⟨(World.cell?_of_block (w := w) (hsp _ hsc)).trans hwd.1, (World.cell?_of_block (w := w) (hsp _ hsc)).trans hwd.2⟩
    · have hxm : x ∈ o'.ws := List.mem_of_getElem? hx
      rw [wptr_more A ob (fun q e => by subst e; rw [hl]; exact hnew q hxm)]
      rw [ho.1, ho.2, cell_of_row V _ _ _ _ _ hcl', cell_of_row V _ _ _ _ _ hcl']
      simp only [List.getElem?_toArray]
      exact hin j x hx
end Go.Proofs.Ytfjgokbclgdfjaa
