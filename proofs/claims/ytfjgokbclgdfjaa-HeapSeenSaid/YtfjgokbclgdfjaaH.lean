/- What trace has done when an object's words are copied. -/
import Derived.Test.YtfjgokbclgdfjaaF
set_option linter.unusedSimpArgs false
set_option linter.unusedVariables false
namespace Go.Proofs.Ytfjgokbclgdfjaa
open Go.RowKit HM

theorem trace_moved {w : World} {ρ : Nat → Nat} {A : Ad} {s : S} (h : Rep w ρ A s) {i : Nat} {o : O} {rest : List Nat} (hi : s.objs[i]? = some o) (hod : s.done ≤ o.epoch) (hosp : o.space ≤ 1) (hcur : s.cur ≤ 1) (hne : o.space ≠ s.cur)
    (hbump : s.bump + o.size ≤ s.room) (hst : o.size ≤ s.stay)
    (hdisj : ∀ (k : Nat) (o' : O), s.objs[k]? = some o' → s.done ≤ o'.epoch → k ≠ i → o'.space ≤ 1 ∧ (o'.space = s.cur → o'.place + o'.size ≤ s.bump))
    {gs gs' ds ks : Value} (hh : w.heap[A.hb]? = some (.cells (hcells A s gs ds ks) 49 (0, 0))) (hgr : RowAt w ρ 5 83 gs' (rest.map A.ptr))
    (hd : ∃ da : List Int, RowAt w ρ 6 3 ds (da.map (Value.int .i64)) ∧ Drops da s.handles) (hk : RowAt w ρ 7 83 ks (s.weak.map A.ptr))
    {cl : List Value} (hcl : w.heap[A.sp s.cur]? = some (.cells cl.toArray 85 (0, 0))) (hcln : cl.length = 2 * s.room) (m : Nat) {V V' : World}
    (hV : V = ((((w.setCell ⟨A.hb, 13, none⟩ gs').setCell ⟨A.obj i, 2, none⟩ (.int .i64 s.cur)).setCell ⟨A.obj i, 3, none⟩ (.int .i64 s.bump)).setCell ⟨A.hb, 5, none⟩ (.int .i64 (s.bump + o.size))).setCell ⟨A.hb, 6, none⟩ (.int .i64 (s.stay - o.size)))
    (hV' : V' = (V.drewN m).setRow (A.sp s.cur) (laidOver cl (s.bump * 2) (wcells A o.ws)).toArray) :
    Rep V' ρ A (moved s i o rest) ∧ Ch (fun r => r = 1 ∨ r = 2 ∨ r = 3 ∨ r = 8 + i) ρ ρ w V' := by
  have hil : i < s.objs.length := (List.getElem?_eq_some_iff.1 hi).1
  have hbo := h.hb_ne_obj hil
  have hob : A.obj i ≠ A.hb := fun e => hbo e.symm
  have hspb : ∀ k, A.sp k ≠ A.hb := fun k e => by rcases h.sp_role k with e1 | e1 <;> rw [e, h.rh] at e1 <;> omega
  have hspo : ∀ k j, j < s.objs.length → A.sp k ≠ A.obj j := fun k j hj e => by rcases h.sp_role k with e1 | e1 <;> rw [e, h.ro j hj] at e1 <;> omega
  have c1 : Ch (fun r => r = 1 ∨ r = 2 ∨ r = 3 ∨ r = 8 + i) ρ ρ w V := by
    rw [hV]
    exact (((((Ch.refl h.rho).setCell _ _ fun _ => .inl h.rh).setCell _ _ fun _ => .inr (.inr (.inr (h.ro i hil)))).setCell _ _ fun _ => .inr (.inr (.inr (h.ro i hil)))).setCell _ _ fun _ => .inl h.rh).setCell _ _ fun _ => .inl h.rh
  have c : Ch (fun r => r = 1 ∨ r = 2 ∨ r = 3 ∨ r = 8 + i) ρ ρ w V' := by
    rw [hV']
    exact (c1.drewN m).setRow _ _ fun _ => by rcases h.sp_role s.cur with e | e <;> simp [e]
  have hVo : ∀ g, g ≠ A.hb → g ≠ A.obj i → V.heap[g]? = w.heap[g]? := fun g h1 h2 => by
    rw [hV, Below.heap_setCell _ _ _ _ h1, Below.heap_setCell _ _ _ _ h1, Below.heap_setCell _ _ _ _ h2, Below.heap_setCell _ _ _ _ h2, Below.heap_setCell _ _ _ _ h1]
  have hVs : ∀ g, g ≠ A.sp s.cur → V'.heap[g]? = V.heap[g]? := fun g h1 => by rw [hV', setRow_other _ _ _ _ h1]; rfl
  have hlen : (wcells A o.ws).length = o.size * 2 := wcells_length A o.ws
  have hfit : s.bump * 2 + (wcells A o.ws).length ≤ cl.length := by rw [hlen, hcln]; omega
  have hnew : V'.heap[A.sp s.cur]? = some (.cells (laidOver cl (s.bump * 2) (wcells A o.ws)).toArray 85 (0, 0)) := by
    rw [hV']
    refine setRow_heap _ _ cl.toArray _ _ _ ?_
    show V.heap[A.sp s.cur]? = _
    rw [hVo _ (hspb _) (hspo _ _ hil)]; exact hcl
  refine ⟨h.turn' c (by simp [moved]) ⟨gs', ds, ks, ?_, hgr.keep c (by omega), ?_, hk.keep c (by omega)⟩ (h.map.keep (c.block _ h.map.lt (by rw [h.rm]; omega))) (fun j o' hj => ?_) (fun k => ?_) (fun j o' hj hl k x hx => ?_), c⟩
  · rw [hVs _ (hspb _).symm, hV]
    have s1 := heap_setCell_same w A.hb 13 _ _ gs' hh
    have s2 : ((w.setCell ⟨A.hb, 13, none⟩ gs').setCell ⟨A.obj i, 2, none⟩ (.int .i64 s.cur)).heap[A.hb]? = _ := (Below.heap_setCell _ _ _ _ hbo).trans s1
    have s3 : (((w.setCell ⟨A.hb, 13, none⟩ gs').setCell ⟨A.obj i, 2, none⟩ (.int .i64 s.cur)).setCell ⟨A.obj i, 3, none⟩ (.int .i64 s.bump)).heap[A.hb]? = _ := (Below.heap_setCell _ _ _ _ hbo).trans s2
    rw [heap_setCell_same _ A.hb 6 _ _ _ (heap_setCell_same _ A.hb 5 _ _ _ s3)]
    simp [hcells, moved]
    omega
  · obtain ⟨da, h1, h2⟩ := hd
    exact ⟨da, h1.keep c (by omega), h2⟩
  · simp only [moved, List.getElem?_set] at hj
    by_cases hji : i = j
    · subst hji
      rw [if_pos rfl, if_pos hil] at hj
      obtain rfl := Option.some.inj hj
      rw [hVs _ (hspo _ _ hil).symm, hV, Below.heap_setCell _ _ _ _ hob, Below.heap_setCell _ _ _ _ hob]
      have s1 : (w.setCell ⟨A.hb, 13, none⟩ gs').heap[A.obj i]? = _ := (Below.heap_setCell _ _ _ _ hob).trans (h.objs i o hi)
      rw [heap_setCell_same _ (A.obj i) 3 _ _ _ (heap_setCell_same _ (A.obj i) 2 _ _ _ s1)]
      rfl
    · rw [if_neg hji] at hj
      have hjl : j < s.objs.length := (List.getElem?_eq_some_iff.1 hj).1
      rw [c.block _ (h.lt (by rw [h.ro j hjl]; omega)) (by rw [h.ro j hjl]; omega)]
      exact h.objs j o' hj
  · by_cases hm : A.sp k = A.sp s.cur
    · rw [hm]
      exact ⟨_, hnew, by simp [laidOver_length _ _ _ hfit, hcln, moved]⟩
    · obtain ⟨cc, g1, g2⟩ := h.sp k
      exact ⟨cc, by rw [hVs _ hm, hVo _ (hspb k) (hspo k i hil)]; exact g1, g2⟩
  · simp only [moved, List.getElem?_set] at hj hl
    by_cases hji : i = j
    · subst hji
      rw [if_pos rfl, if_pos hil] at hj
      obtain rfl := Option.some.inj hj
      simp only at hx ⊢
      have hkl : k < o.size := (List.getElem?_eq_some_iff.1 hx).1
      have hw := wcells_even A o.ws k x hx
      have e1 : 2 * (s.bump + k) = s.bump * 2 + k * 2 := by omega
      rw [e1, cell_of_row V' _ _ _ _ _ hnew, Nat.add_assoc, cell_of_row V' _ _ _ _ _ hnew]
      simp only [List.getElem?_toArray]
      rw [laidOver_in _ _ _ hfit _ (by rw [hlen]; omega), laidOver_in _ _ _ hfit _ (by rw [hlen]; omega)]
      exact hw
    · rw [if_neg hji] at hj
      have hd' := hdisj j o' hj hl (fun e => hji e.symm)
      have hw := h.words j o' hj hl k x hx
      have hkl : k < o'.size := (List.getElem?_eq_some_iff.1 hx).1
      by_cases hsc : o'.space = s.cur
      · have hpl := hd'.2 hsc
        rw [hsc] at hw ⊢
        rw [cell_of_row w _ _ _ _ _ hcl, cell_of_row w _ _ _ _ _ hcl] at hw
        rw [cell_of_row V' _ _ _ _ _ hnew, cell_of_row V' _ _ _ _ _ hnew]
        simp only [List.getElem?_toArray] at hw ⊢
        rw [laidOver_out _ _ _ hfit _ (by omega), laidOver_out _ _ _ hfit _ (by omega)]
        exact hw
      · have hb : V'.heap[A.sp o'.space]? = w.heap[A.sp o'.space]? := by
          rw [hVs _ (h.sp_ne hd'.1 hcur hsc), hVo _ (hspb _) (hspo _ _ hil)]
        exact ⟨(World.cell?_of_block (w := w) hb).trans hw.1, (World.cell?_of_block (w := w) hb).trans hw.2⟩

end Go.Proofs.Ytfjgokbclgdfjaa
