/- Set. -/
import Derived.Test.YtfjgokbclgdfjaaNew
import Derived.Deep.RegionWith
set_option linter.unusedSimpArgs false
set_option linter.unusedVariables false
namespace Go.Proofs.Ytfjgokbclgdfjaa
open Go.RowKit HM

namespace HM
/-- The content of a modifiable is replaced. -/
def S.setC (s : S) (i : Nat) (x : W) : S := { s.shadeW x with objs := (s.shadeW x).objs.modify i (fun o => { o with ws := [.num o.tag, x] }) }
end HM

theorem setC_rep {w : World} {ρ : Nat → Nat} {A : Ad} {s : S} (h : Rep w ρ A s) (hw : WF s) {i : Nat} {o : O} (ho : s.objs[i]? = some o) (hod : s.done ≤ o.epoch) (hsz : o.size = 2) (x : W) (hroom : o.space ≤ 1) :
    Rep ((w.setCell ⟨A.sp o.space, o.place * 2 + 2, none⟩ (.int .i64 (wnum x))).setCell ⟨A.sp o.space, o.place * 2 + 2 + 1, none⟩ (wptr A x)) ρ A { s with objs := s.objs.modify i (fun o => { o with ws := [.num o.tag, x] }) } ∧
      Ch Mine ρ ρ w ((w.setCell ⟨A.sp o.space, o.place * 2 + 2, none⟩ (.int .i64 (wnum x))).setCell ⟨A.sp o.space, o.place * 2 + 2 + 1, none⟩ (wptr A x)) := by
  obtain ⟨r, hr, hr1, _⟩ := hw.shape i o ho
  have hloc := hw.loc i o ho hod
  obtain ⟨gs, ds, ks, hh, hgr, hd, hk⟩ := h.head
  obtain ⟨cc, hcc, hccs⟩ := h.sp o.space
  have hspr : A.sp o.space ≠ A.hb := fun e => by rcases h.sp_role o.space with e1 | e1 <;> rw [e, h.rh] at e1 <;> omega
  have hspm : ρ (A.sp o.space) = 2 ∨ ρ (A.sp o.space) = 3 := h.sp_role o.space
  obtain ⟨V, hV⟩ : ∃ V, V = (w.setCell ⟨A.sp o.space, o.place * 2 + 2, none⟩ (.int .i64 (wnum x))).setCell ⟨A.sp o.space, o.place * 2 + 2 + 1, none⟩ (wptr A x) := ⟨_, rfl⟩
  rw [← hV]
  have c : Ch (fun r => r = 2 ∨ r = 3) ρ ρ w V := by rw [hV]; exact ((Ch.refl h.rho).setCell _ _ fun _ => hspm).setCell _ _ fun _ => hspm
  have hVs : V.heap[A.sp o.space]? = some (.cells ((cc.set! (o.place * 2 + 2) (.int .i64 (wnum x))).set! (o.place * 2 + 2 + 1) (wptr A x)) 85 (0, 0)) := by
    rw [hV]; exact heap_setCell_same _ _ _ _ _ _ (heap_setCell_same w _ _ _ _ _ hcc)
  have hVo : ∀ g, g ≠ A.sp o.space → V.heap[g]? = w.heap[g]? := fun g hg => by rw [hV, Below.heap_setCell _ _ _ _ hg, Below.heap_setCell _ _ _ _ hg]
  have hpl : o.place + o.size ≤ s.room := by
    have hroomS := hw.room
    by_cases hb : s.Black i o
    · have := (hloc.1 hb).2; omega
    · exact (hloc.2 hb).2.2
  clear hV
  have hget : ∀ {j : Nat} {o' : O}, (s.objs.modify i (fun o => { o with ws := [.num o.tag, x] }))[j]? = some o' → (j = i ∧ o' = { o with ws := [.num o.tag, x] }) ∨ (j ≠ i ∧ s.objs[j]? = some o') := fun {j o'} hj => by
    rw [List.getElem?_modify] at hj
    by_cases e : i = j
    · subst e
      simp [ho] at hj
      exact .inl ⟨rfl, hj.symm⟩
    · simp [e] at hj
      exact .inr ⟨Ne.symm e, hj⟩
  refine ⟨h.turn' (s' := { s with objs := s.objs.modify i (fun o => { o with ws := [.num o.tag, x] }) }) c (by simp) ⟨gs, ds, ks, ?_, hgr.keep c (by omega), ?_, hk.keep c (by omega)⟩ (h.map.keep (c.block _ h.map.lt (by rw [h.rm]; omega))) (fun j o' hj => ?_) (fun k => ?_) (fun j o' hj hl k y hy => ?_), c.mono fun r hr => by unfold Mine; omega⟩
  · rw [hVo _ hspr.symm]; exact hh
  · obtain ⟨da, h1, h2⟩ := hd
    exact ⟨da, h1.keep c (by omega), h2⟩
  · rcases hget hj with ⟨rfl, rfl⟩ | ⟨hne, hj'⟩
    · have hil : j < s.objs.length := (List.getElem?_eq_some_iff.1 ho).1
      rw [c.block _ (h.lt (by rw [h.ro j hil]; omega)) (by rw [h.ro j hil]; omega), h.objs j o ho]
      simp [objCells, O.size]
      simp [O.size] at hsz
      omega
    · have hil : j < s.objs.length := (List.getElem?_eq_some_iff.1 hj').1
      rw [c.block _ (h.lt (by rw [h.ro j hil]; omega)) (by rw [h.ro j hil]; omega)]
      exact h.objs j o' hj'
  · by_cases hm : A.sp k = A.sp o.space
    · rw [hm]; exact ⟨_, hVs, by simp [hccs]⟩
    · obtain ⟨c2, g1, g2⟩ := h.sp k
      exact ⟨c2, by rw [hVo _ hm]; exact g1, g2⟩
  · rcases hget hj with ⟨rfl, rfl⟩ | ⟨hne, hj'⟩
    · simp only at hy ⊢
      cases k with
      | zero =>
        simp at hy
        subst hy
        have hw0 := h.words j o ho hod 0 (.num o.tag) (by rw [hr]; rfl)
        rw [cell_of_row _ _ _ _ _ _ hcc, cell_of_row _ _ _ _ _ _ hcc] at hw0
        rw [cell_of_row _ _ _ _ _ _ hVs, cell_of_row _ _ _ _ _ _ hVs]
        simp only [Array.set!_eq_setIfInBounds, Array.getElem?_setIfInBounds]
        rw [if_neg (by omega), if_neg (by omega), if_neg (by omega), if_neg (by omega)]
        exact hw0
      | succ k =>
        cases k with
        | zero =>
          simp at hy
          subst hy
          rw [cell_of_row _ _ _ _ _ _ hVs, cell_of_row _ _ _ _ _ _ hVs]
          have e1 : 2 * (o.place + (0 + 1)) = o.place * 2 + 2 := by omega
          rw [e1]
          simp only [Array.set!_eq_setIfInBounds, Array.getElem?_setIfInBounds, Array.size_setIfInBounds]
          rw [if_neg (by omega), if_pos trivial, if_pos (by omega), if_pos trivial, if_pos (by omega)]
          exact ⟨rfl, rfl⟩
        | succ k => simp at hy
    · have hwd := h.words j o' hj' hl k y hy
      have hkl : k < o'.size := (List.getElem?_eq_some_iff.1 hy).1
      by_cases hm : A.sp o'.space = A.sp o.space
      · have hdj := hw.disj i j o o' ho hj' (Ne.symm hne) hod hl (by
          have h' : o'.space ≤ 1 := by
            have hloc' := hw.loc j o' hj' hl
            have hcur := hw.cur
            by_cases hb : s.Black j o'
            · have := (hloc'.1 hb).1; omega
            · exact (hloc'.2 hb).1
          apply Decidable.byContradiction
          intro e
          exact h.sp_ne hroom h' e hm.symm)
        rw [hm] at hwd ⊢
        rw [cell_of_row _ _ _ _ _ _ hcc, cell_of_row _ _ _ _ _ _ hcc] at hwd
        rw [cell_of_row _ _ _ _ _ _ hVs, cell_of_row _ _ _ _ _ _ hVs]
        simp only [Array.set!_eq_setIfInBounds, Array.getElem?_setIfInBounds]
        rw [if_neg (by omega), if_neg (by omega), if_neg (by omega), if_neg (by omega)]
        exact hwd
      · exact ⟨(World.cell?_of_block (w := w) (hVo _ hm)).trans hwd.1, (World.cell?_of_block (w := w) (hVo _ hm)).trans hwd.2⟩

theorem wf_shade' {s : S} (h : WF s) (hp : s.phase ≤ 2) {i : Nat} (hi : s.Alive i) : WF (s.shade i) := by
  refine wf_shade h hi ?_
  by_cases h0 : s.phase = 0
  · right
    obtain ⟨o, ho, hd⟩ := hi
    have := (h.idle h0).1
    rw [ep_some ho]
    omega
  · left; omega

theorem wf_shadeW' {s : S} (h : WF s) (hp : s.phase ≤ 2) {x : W} (hx : ∀ j, x = .obj j → s.Alive j) : WF (s.shadeW x) := by
  cases x with
  | num n => exact h
  | obj i => exact wf_shade' h hp (hx i rfl)

theorem shadeW_some {s : S} (h : WF s) (x : W) {i : Nat} {o : O} (ho : s.objs[i]? = some o) (hd : s.done ≤ o.epoch) : ∃ o', (s.shadeW x).objs[i]? = some o' ∧ o'.tag = o.tag ∧ o'.ws = o.ws ∧ o'.space = o.space ∧ o'.place = o.place ∧ (s.shadeW x).done ≤ o'.epoch := by
  obtain ⟨o', h1, h2⟩ := alive_shadeW (x := x) (s := s) ⟨o, ho, hd⟩ h.doneLe
  cases x with
  | num n =>
    have : (s.shadeW (.num n)) = s := rfl
    rw [this] at h1 h2
    rw [ho] at h1
    obtain rfl := Option.some.inj h1
    exact ⟨o, ho, rfl, rfl, rfl, rfl, h2⟩
  | obj j =>
    obtain ⟨o2, g1, g2, g3, g4, g5, _⟩ := shade_get (i := j) h1
    rw [ho] at g1
    obtain rfl := Option.some.inj g1
    exact ⟨o', h1, g2, g3, g4, g5, h2⟩

/-- The barrier. -/
theorem barrier_rep {w : World} {ρ : Nat → Nat} {A : Ad} {s : S} (h : Rep w ρ A s) (hw : WF s) (hb : Bd s) (x : W) (hx : ∀ j, x = .obj j → s.Alive j) (y : Int) (pp : Option Addr) (hp : wptr A x = .pointer pp) :
    Calls Try.prog 77 #[.pointer (some ⟨A.hb, 0, none⟩), .agg #[.int .i64 y, .pointer pp]] w fun e w' => e = .returned (.tuple #[]) ∧ ∃ ρ', Rep w' ρ' A (s.shadeW x) ∧ Ch Mine ρ ρ' w w' := by
  refine (barrier_any (R := fun e w' => e = .returned (.tuple #[]) ∧ ∃ ρ', Rep w' ρ' A (s.shadeW x) ∧ Ch Mine ρ ρ' w w') A.hb y (.pointer pp) rfl (fun w1 hw1 => ?_))
  subst hw1
  cases x with
  | num n =>
    simp only [wptr, Value.pointer.injEq] at hp
    subst hp
    refine (shade_nil _ A.hb).mono ?_
    rintro e w3 ⟨rfl, k3, rfl⟩
    exact ⟨rfl, rfl, ρ, (h.alloc _).drewN _, ((Ch.refl h.rho).alloc _).drewN _⟩
  | obj j =>
    simp only [wptr] at hp
    rw [← hp]
    obtain ⟨o, ho, hd⟩ := hx j rfl
    refine (shade_rep (h.alloc _) ho hd (by have := grey_bound hw; have := hb.os; omega)).mono ?_
    rintro e w3 ⟨rfl, ρ3, hr3, hc3⟩
    exact ⟨rfl, rfl, ρ3, hr3, ((Ch.refl h.rho).alloc _).trans (hc3.mono fun r hr => by unfold Mine; omega)⟩

set_option maxHeartbeats 800000 in
set_option maxRecDepth 20000 in
theorem set_rep {w : World} {ρ : Nat → Nat} {A : Ad} {s : S} (h : Rep w ρ A s) (hw : WF s) (hb : Bd s) (hph : s.phase ≤ 2) (hhl : s.handles.length < 60000) {k i : Nat} (hk : s.handles[k]? = some (some i)) {o : O} (ho : s.objs[i]? = some o) (hod : s.done ≤ o.epoch) (ht : o.tag = -1)
    (r : Bool) (m : Int) (x : W) (hx : slotW s.handles r m = some x) :
    Calls Try.prog 47 #[.pointer (some ⟨A.hb, 0, none⟩), .int .i64 k, slotV r m] w fun e w' => e = .returned (.int .i64 0) ∧ ∃ ρ', Rep w' ρ' A (s.setC i x) ∧ Ch Mine ρ ρ' w w' := by
  have hkl : k < s.handles.length := (List.getElem?_eq_some_iff.1 hk).1
  have hlk : ∀ o1, (Instr.lookup 41 (.map (some A.mb)) (.int .i64 k) true).run Try.prog (w.alloc o1) = .ok (.tuple #[.pointer (some ⟨A.obj i, 0, none⟩), .bool true]) (w.alloc o1) := fun o1 => by
    have := run_lookup (h.alloc o1).map k (by omega)
    have hat : atH s.handles k = some i := by rw [atH_nat]; simp [List.getD, hk]
    rw [hat] at this
    exact this
  have c8 : w.cell? ⟨A.hb, 8, none⟩ = some (.map (some A.mb)) := by obtain ⟨gs, ds, ks, hh⟩ := h.hcell; rw [cell_of_row w _ 8 _ _ _ hh]; rfl
  have hblt : A.hb < w.heap.size := h.lt (by simp [h.rh])
  have HR := Lib.hid h
  have HW := Lib.hid hw
  have HB := Lib.hid hb
  have HL := Lib.hid hhl
  have HX := Lib.hid hx
  have HO := Lib.hid ho
  have HD := Lib.hid hod
  have HT := Lib.hid ht
  have HP := Lib.hid hph
  clear h hw hb hhl hx hk hkl ho hod ht hph
  obtain ⟨pp, hpp⟩ : ∃ pp, wptr A x = .pointer pp := by cases x <;> exact ⟨_, rfl⟩
  have HPP := Lib.hid hpp
  clear hpp
  unfold slotV
  go_enter Try.func47, Try.ntmps47
  go_wp2_with fail
  refine (word_any (HR.out.alloc (.cells #[.bool r, .int .i64 m] 32)) HL.out r m x HX.out).mono ?_
  rintro e w3 ⟨rfl, hc3⟩
  unfold wval
  rw [HPP.out]
  obtain ⟨y, hy⟩ : ∃ y, y = wnum x := ⟨_, rfl⟩
  rw [← hy]
  have HC := Lib.hid (((Ch.refl HR.out.rho).alloc _).trans hc3)
  have HY := Lib.hid hy
  have hR3 : Rep w3 ρ A s := HR.out.frame HC.out (fun _ h => h.elim)
  have ho1 := hR3.objs i o HO.out
  have o0 : w3.cell? ⟨A.obj i, 0, none⟩ = some (.int .i64 (-1)) := by rw [cell_of_row _ _ 0 _ _ _ ho1, ← HT.out]; rfl
  have hobl : A.obj i < w3.heap.size := (Array.getElem?_eq_some_iff.1 ho1).1
  have hblt3 : A.hb < w3.heap.size := hR3.lt (by simp [hR3.rh])
  have H3 := Lib.hid hR3
  clear hc3 hy hR3 ho1 hlk c8
  go_wp2_with fail
  refine wp_region_still_tail 4 (by kernel_rfl) (by kernel_rfl) ?_
  simp only [List.take_succ_cons, List.take_zero, List.drop_succ_cons, List.drop_zero, World.drew_eq]
  iterate 4 still_step
  refine wpStill_nil ?_
  go_wp2_with fail
  have hal : ∀ j, x = .obj j → s.Alive j := fun j e => by
    subst e
    obtain ⟨jj, hj⟩ := slotW_ref HX.out
    exact HW.out.hand jj j hj
  have HAL := Lib.hid hal
  clear hal
  have hr4 : Rep (w3.alloc (.cells #[.int .i64 y, .pointer pp] 85)).drew ρ A s := (H3.out.alloc _).drewN 1
  refine (barrier_rep hr4 HW.out HB.out x HAL.out y pp HPP.out).mono ?_
  rintro e w5 ⟨rfl, ρ5, hr5, hc5⟩
  have hw5 := wf_shadeW' HW.out HP.out HAL.out
  obtain ⟨o5, p1, p2, p3, p4, p5, p6⟩ := shadeW_some HW.out x HO.out HD.out
  have hz5 : o5.size = 2 := by
    obtain ⟨r, q1, q2, _⟩ := hw5.shape i o5 p1
    have := q2 (by rw [p2, HT.out])
    simp [O.size, q1, this]
  have hloc := hw5.loc i o5 p1 p6
  have hsp5 : o5.space ≤ 1 := by
    have hcur := hw5.cur
    by_cases hb : (s.shadeW x).Black i o5
    · have := (hloc.1 hb).1; omega
    · exact (hloc.2 hb).1
  have hpl5 : o5.place + 2 ≤ (s.shadeW x).room := by
    have hroomS := hw5.room
    by_cases hb : (s.shadeW x).Black i o5
    · have := (hloc.1 hb).2; omega
    · have := (hloc.2 hb).2.2; omega
  have hrm5 : (s.shadeW x).room ≤ 60000 := by rw [(shadeW_same s x).1]; exact HB.out.room
  have ho5 := hr5.objs i o5 p1
  obtain ⟨cc, hcc, hccs⟩ := hr5.sp o5.space
  have hwd := words_any (w5.drewN 1) A.hb (A.obj i) (A.sp o5.space) o5.space o5.place 2 (s.shadeW x).room hsp5 (by rw [cell_of_row (w5.drewN 1) _ 1 _ _ _ ho5, ← hz5]; rfl) (by rw [cell_of_row (w5.drewN 1) _ 2 _ _ _ ho5]; rfl) (by rw [cell_of_row (w5.drewN 1) _ 3 _ _ _ ho5]; rfl) ((hr5.drewN 1).spCell hsp5) (by omega) hpl5 (by omega)
  have hlb : w5.heap[w3.heap.size]? = some (.cells #[.int .i64 y, .pointer pp] 85 (0, 0)) := by
    have h0 : ρ w3.heap.size = 0 := H3.out.rho _ (Nat.le_refl _)
    rw [hc5.block w3.heap.size (by show w3.heap.size < (w3.alloc _).heap.size; simp) (by rw [h0]; simp [Mine])]
    exact heap_alloc_new w3 _
  have l0 : w5.cell? ⟨w3.heap.size, 0, none⟩ = some (.int .i64 y) := by rw [cell_of_row _ _ 0 _ _ _ hlb]; rfl
  have l1 : w5.cell? ⟨w3.heap.size, 1, none⟩ = some (.pointer pp) := by rw [cell_of_row _ _ 1 _ _ _ hlb]; rfl
  have ll : w3.heap.size < w5.heap.size := (Array.getElem?_eq_some_iff.1 hlb).1
  obtain ⟨x0, u0⟩ : ∃ v, w5.cell? ⟨A.sp o5.space, o5.place * 2 + 2, none⟩ = some v := by rw [cell_of_row _ _ _ _ _ _ hcc]; exact ⟨_, Array.getElem?_eq_getElem (by omega)⟩
  obtain ⟨x1, u1⟩ : ∃ v, w5.cell? ⟨A.sp o5.space, o5.place * 2 + 2 + 1, none⟩ = some v := by rw [cell_of_row _ _ _ _ _ _ hcc]; exact ⟨_, Array.getElem?_eq_getElem (by omega)⟩
  have fz : ∀ q, w5.frozen? ⟨A.sp o5.space, q, none⟩ = false := fun q => frozen_of_row _ _ q _ _ hcc
  have hspl : A.sp o5.space < w5.heap.size := (Array.getElem?_eq_some_iff.1 hcc).1
  have hbl5 : A.hb < w5.heap.size := hr5.lt (by simp [hr5.rh])
  have hfin := setC_rep (w := w5.drewN 0) hr5 hw5 p1 p6 hz5 x hsp5
  have L1 := Lib.hid hr5
  have L2 := Lib.hid hc5
  have L3 := Lib.hid hwd
  have L4 := Lib.hid hw5
  have L5 := Lib.hid p1
  have L6 := Lib.hid p6
  have L7 := Lib.hid hz5
  clear hr5 hc5 hwd hw5 p1 p2 p3 p4 p5 p6 hz5 hloc ho5 hcc hccs hlb hr4 hfin o0
  go_wp2_with fail
  go_region_with (go_at_call 59; refine (L3.out).mono ?_; rintro e w' ⟨rfl, q, rfl⟩)
  all_goals
    go_wp2_with fail
    go_ret
    obtain ⟨hR, hC⟩ := setC_rep (w := w5.drewN (1 + q)) (L1.out.drewN _) L4.out L5.out L6.out L7.out x hsp5
    rw [HPP.out, ← HY.out] at hR hC
    exact ⟨rfl, ρ5, hR, (((((HC.out.mono fun r hr => hr.elim).alloc _).drew).trans L2.out).drewN (1 + q)).trans hC⟩
end Go.Proofs.Ytfjgokbclgdfjaa
