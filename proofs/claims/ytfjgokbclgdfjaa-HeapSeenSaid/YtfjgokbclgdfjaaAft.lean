/- make, where it fits behind a Collect. -/
import Derived.Test.YtfjgokbclgdfjaaFull
set_option linter.unusedSimpArgs false
set_option linter.unusedVariables false
namespace Go.Proofs.Ytfjgokbclgdfjaa
open Go.RowKit HM

set_option maxHeartbeats 2000000 in
set_option maxRecDepth 20000 in
theorem make_after {w : World} {ρ : Nat → Nat} {A : Ad} {s : S} {ws : List W} {g off n : Nat} (h : Pre w ρ A s ws g off n) (hph : s.phase ≤ 2) (hep : s.epoch < 100000000) (tag : Int) (cap : Nat) (hfit : ¬ s.fitsB (1 + n)) {t : S} (hct : s.collect = t) (hfit2 : t.fitsB (1 + n)) :
    Calls Try.prog 49 #[.pointer (some ⟨A.hb, 0, none⟩), .int .i64 tag, .slice (some ⟨g, off, none⟩) n cap] w fun e w' => e = .returned (.tuple #[.int .i64 (slotOf t.handles), .int .i64 0]) ∧ ∃ ρ' ob, Rep w' ρ' (A.more ob) (t.made tag ws) ∧ Ch Mine ρ ρ' w w' := by
  have HH := Lib.hid h
  have HF := Lib.hid hfit
  have HF2 := Lib.hid hfit2
  have HCT := Lib.hid hct
  have HP := Lib.hid hph
  have HE := Lib.hid hep
  have hn16 := h.n16
  clear h hfit hfit2 hct hph hep
  go_enter Try.func49, Try.ntmps49
  go_wp2_with fail
  refine (full_rep HH.out.rep HH.out.hl).mono ?_
  rintro e w1 ⟨rfl, rfl⟩
  go_wp2_with fail
  obtain ⟨ob, hob⟩ : ∃ ob, ob = w.heap.size := ⟨_, rfl⟩
  obtain ⟨wr, hwr⟩ : ∃ wr, wr = w.alloc (.cells #[.int .i64 tag, .int .i64 (1 + n), .int .i64 0, .int .i64 0, .int .i64 0] 97) := ⟨_, rfl⟩
  rw [← hwr, ← hob]
  have P3 : Hid (w.heap.size ≤ ob) := Nat.le_of_eq hob.symm
  have hobh : wr.heap[ob]? = some (.cells #[.int .i64 tag, .int .i64 (1 + n), .int .i64 0, .int .i64 0, .int .i64 0] 97 (0, 0)) := by rw [hwr, hob]; exact heap_alloc_new w _
  have P0 : Hid (Pre wr ρ A s ws g off n) := by rw [hwr]; exact HH.out.box _
  have P1 : Hid (Ch Mine ρ ρ w wr) := by rw [hwr]; exact (Ch.refl HH.out.rep.rho).alloc _
  have P2 : Hid (ρ ob = 0) := by rw [hob]; exact HH.out.rep.rho _ (Nat.le_refl _)
  have o1 : wr.cell? ⟨ob, 1, none⟩ = some (.int .i64 (1 + n)) := by rw [cell_of_row wr _ 1 _ _ _ hobh]; rfl
  have hobl : ob < wr.heap.size := (Array.getElem?_eq_some_iff.1 hobh).1
  have P4 := Lib.hid hobh
  clear hob hwr hobh
  go_quiet ((go_at_call 78; exact Calls.quiet_of ((Rep.drewN' P0.out _).fits false (by simpa using HF.out))))
  go_wp2_with fail
  refine (collect_rep (P0.out.rep.drewN _) P0.out.wf P0.out.bd HE.out HP.out).mono ?_
  rintro e w2 ⟨rfl, ρ2, hr2, hc2⟩
  obtain ⟨a1, a2, a3, a4⟩ := wf_collect P0.out.wf HP.out
  have Q0 : Hid (Pre w2 ρ2 A s.collect ws g off n) := (Rep.drewN' P0.out _).keep hc2 hr2 a1 (bd_collect P0.out.bd P0.out.wf HP.out HE.out) a3.handles
  have Q1 : Hid (Ch Mine ρ ρ2 w w2) := (P1.out.drewN _).trans hc2
  have Q4 : w2.heap[ob]? = some (.cells #[.int .i64 tag, .int .i64 (1 + n), .int .i64 0, .int .i64 0, .int .i64 0] 97 (0, 0)) := hc2.keep (w := wr.drewN _) P4.out (by rw [P2.out]; simp [Mine])
  have o1' : w2.cell? ⟨ob, 1, none⟩ = some (.int .i64 (1 + n)) := by rw [cell_of_row w2 _ 1 _ _ _ Q4]; rfl
  have hobl' : ob < w2.heap.size := (Array.getElem?_eq_some_iff.1 Q4).1
  have Q5 := Lib.hid Q4
  have R2 : Hid (ρ2 ob = 0) := by show ρ2 ob = 0; rw [hc2.keepRole (w := wr.drewN _) P4.out]; exact P2.out
  rw [HCT.out] at Q0
  clear hr2 hc2 a1 a2 a3 a4 Q4 o1 hobl P0 P1 P2 P4 HF HP HE HCT
  go_wp2_with fail
  go_quiet ((go_at_call 78; exact Calls.quiet_of ((Rep.drewN' Q0.out _).fits true (by simpa using HF2.out))))
  go_wp2_with fail
  obtain ⟨wq, hwq⟩ : ∃ wq, wq = w2.drewN nq := ⟨_, rfl⟩
  rw [← hwq]
  have T0 : Hid (Pre wq ρ2 A t ws g off n) := by rw [hwq]; exact Rep.drewN' Q0.out _
  have T1 : Hid (Ch Mine ρ ρ2 w wq) := by rw [hwq]; exact Q1.out.drewN _
  have T4 : Hid (wq.heap[ob]? = some (.cells #[.int .i64 tag, .int .i64 (1 + n), .int .i64 0, .int .i64 0, .int .i64 0] 97 (0, 0))) := by rw [hwq]; exact Q5.out
  clear hwq o1' hobl' Q0 Q1 Q5
  clear w2 wr
  have hne : ob ≠ A.hb := by intro e; have h1 := R2.out; have h2 := T0.out.rep.rh; rw [← e] at h2; rw [h1] at h2; exact absurd h2 (by decide)
  obtain ⟨gs, ds, ks, hh⟩ := T0.out.rep.hcell
  have hroom := T0.out.wf.room
  have hrb := T0.out.bd.room
  have hcur := T0.out.wf.cur
  have hus := T0.out.wf.used
  have hfb := HF2.out
  unfold S.fitsB at hfb
  obtain ⟨cl0, hcl0, hcln0⟩ := T0.out.rep.sp t.cur
  have hcl : wq.heap[A.sp t.cur]? = some (.cells cl0.toList.toArray 85 (0, 0)) := by simpa using hcl0
  have hcln : cl0.toList.length = 2 * t.room := by simpa using hcln0
  refine (place_any wq A.hb ob hne (.int .i64 0) (.int .i64 0) (.int .i64 0) (1 + n) t.cur t.bump t.used t.epoch (by rw [cell_of_row _ _ 1 _ _ _ T4.out]; rfl) (by rw [cell_of_row _ _ 2 _ _ _ T4.out]; rfl) (by rw [cell_of_row _ _ 3 _ _ _ T4.out]; rfl) (by rw [cell_of_row _ _ 4 _ _ _ T4.out]; rfl)
    (fun q => frozen_of_row _ _ q _ _ T4.out) (fun q => frozen_of_row _ _ q _ _ hh) (by rw [cell_of_row _ _ 3 _ _ _ hh]; rfl) (by rw [cell_of_row _ _ 4 _ _ _ hh]; rfl) (by rw [cell_of_row _ _ 5 _ _ _ hh]; rfl) (by rw [cell_of_row _ _ 9 _ _ _ hh]; rfl)
    (by omega) (by omega) (by omega) (by omega) (by omega) (by omega)).mono ?_
  rintro e w1 ⟨rfl, rfl⟩
  obtain ⟨V1, hV1⟩ : ∃ V1, V1 = plc wq A.hb ob t n := ⟨_, rfl⟩
  have hV1' : (((((wq.setCell ⟨ob, 2, none⟩ (.int .i64 t.cur)).setCell ⟨ob, 3, none⟩ (.int .i64 t.bump)).setCell ⟨ob, 4, none⟩ (.int .i64 t.epoch)).setCell ⟨A.hb, 5, none⟩ (.int .i64 (t.bump + (1 + n)))).setCell ⟨A.hb, 4, none⟩ (.int .i64 (t.used + (1 + n)))) = V1 := by rw [hV1]; rfl
  rw [hV1']
  clear hV1'
  have hob1 : V1.heap[ob]? = some (.cells (objCells (t.newO tag ws)) 97 (0, 0)) := by rw [hV1]; exact plc_ob T0.out.wn hne T4.out
  have hhb1 : V1.heap[A.hb]? = some (.cells (hcells A (t.place (t.newO tag ws)) gs ds ks) 49 (0, 0)) := by rw [hV1]; exact plc_hb T0.out.wn hne hh
  have hos : (t.newO tag ws).size = n + 1 := by simp [S.newO, O.size, T0.out.wn]
  have hsb : A.sp t.cur ≠ A.hb := fun e => by rcases T0.out.rep.sp_role t.cur with e1 | e1 <;> rw [e, T0.out.rep.rh] at e1 <;> omega
  have hso : A.sp t.cur ≠ ob := fun e => by rcases T0.out.rep.sp_role t.cur with e1 | e1 <;> rw [e, R2.out] at e1 <;> omega
  have hsp1 : V1.heap[A.sp t.cur]? = some (.cells cl0.toList.toArray 85 (0, 0)) := by rw [hV1, plc_other hso hsb]; exact hcl
  have hgne : A.sp t.cur ≠ g := fun e => by rcases T0.out.rep.sp_role t.cur with e1 | e1 <;> rw [e, T0.out.g0] at e1 <;> omega
  have hg1 : V1.heap[g]? = wq.heap[g]? := by
    rw [hV1]
    refine plc_other ?_ ?_
    · intro e; have h1 := P3.out; have h2 := HH.out.gl; omega
    · intro e; have h1 := T0.out.g0; rw [e, T0.out.rep.rh] at h1; exact absurd h1 (by decide)
  have hc1 : V1.cell? ⟨A.hb, 1 + t.cur, none⟩ = some (.slice (some ⟨A.sp t.cur, 0, none⟩) t.room t.room) := by
    have : t.cur = 0 ∨ t.cur = 1 := by omega
    rcases this with e | e <;> rw [e]
    · rw [cell_of_row _ _ 1 _ _ _ hhb1]; rfl
    · rw [cell_of_row _ _ 2 _ _ _ hhb1]; rfl
  have u0 : ∃ x0, V1.cell? ⟨A.sp t.cur, t.bump * 2, none⟩ = some x0 := by
    rw [cell_of_row _ _ _ _ _ _ hsp1]; exact ⟨_, by rw [List.getElem?_toArray]; exact List.getElem?_eq_getElem (by omega)⟩
  have u1 : ∃ x0, V1.cell? ⟨A.sp t.cur, t.bump * 2 + 1, none⟩ = some x0 := by
    rw [cell_of_row _ _ _ _ _ _ hsp1]; exact ⟨_, by rw [List.getElem?_toArray]; exact List.getElem?_eq_getElem (by omega)⟩
  obtain ⟨x0, u0⟩ := u0
  obtain ⟨x1, u1⟩ := u1
  have fz : ∀ q, V1.frozen? ⟨A.sp t.cur, q, none⟩ = false := fun q => frozen_of_row _ _ q _ _ hsp1
  have hsbl : A.sp t.cur < V1.heap.size := (Array.getElem?_eq_some_iff.1 hsp1).1
  have hwd := words_any (V1.drewN 3) A.hb ob (A.sp t.cur) t.cur t.bump (n + 1) t.room hcur (by rw [show (V1.drewN 3).cell? ⟨ob, 1, none⟩ = V1.cell? ⟨ob, 1, none⟩ from rfl, cell_of_row _ _ 1 _ _ _ hob1]; simp [objCells, hos]) (by rw [show (V1.drewN 3).cell? ⟨ob, 2, none⟩ = V1.cell? ⟨ob, 2, none⟩ from rfl, cell_of_row _ _ 2 _ _ _ hob1]; rfl)
    (by rw [show (V1.drewN 3).cell? ⟨ob, 3, none⟩ = V1.cell? ⟨ob, 3, none⟩ from rfl, cell_of_row _ _ 3 _ _ _ hob1]; rfl) hc1 (by omega) (by omega) (by omega)
  have hbr : t.bump + (n + 1) ≤ t.room := by omega
  obtain ⟨i2, hi2, hz2, hs2, hb2⟩ := info_parts Try.info85
  obtain ⟨ta, hta, hsl⟩ := run_slice1 39 85 i2 Try.underlying39 hi2 2 hs2 ⟨A.sp t.cur, t.bump * 2, none⟩ n (t.room - t.bump) (by omega)
  have hcp : ∀ (ty : TypeId) (m : Nat), (Builtin.copy_ #[39, 39] ty #[.slice (some ta) n (t.room - t.bump - 1), .slice (some ⟨g, off, none⟩) n cap]).run Try.prog (((V1.drewN m).setCell ⟨A.sp t.cur, t.bump * 2, none⟩ (.int .i64 tag)).setCell ⟨A.sp t.cur, t.bump * 2 + 1, none⟩ (.pointer none)) =
      .ok (.int .i64 n) (wrt V1 (A.sp t.cur) t.bump m tag (laidOver ((cl0.toList.set (t.bump * 2) (.int .i64 tag)).set (t.bump * 2 + 1) (.pointer none)) (t.bump * 2 + 2) (wcells A ws))) := fun ty m => by
    have hlen : (wcells A ws).length = n * 2 := by rw [wcells_length, T0.out.wn]
    have hrow2 : (((V1.drewN m).setCell ⟨A.sp t.cur, t.bump * 2, none⟩ (.int .i64 tag)).setCell ⟨A.sp t.cur, t.bump * 2 + 1, none⟩ (.pointer none)).heap[A.sp t.cur]? = some (.cells ((cl0.toList.set (t.bump * 2) (.int .i64 tag)).set (t.bump * 2 + 1) (.pointer none)).toArray 85 (0, 0)) := by
      exact row2 (w := V1.drewN m) hsp1
    have hgg : (((V1.drewN m).setCell ⟨A.sp t.cur, t.bump * 2, none⟩ (.int .i64 tag)).setCell ⟨A.sp t.cur, t.bump * 2 + 1, none⟩ (.pointer none)).heap[g]? = wq.heap[g]? := by
      rw [Below.heap_setCell _ _ _ _ hgne.symm, Below.heap_setCell _ _ _ _ hgne.symm]; exact hg1
    exact run_copy2 ty ta ⟨g, off, none⟩ (A.sp t.cur) (t.bump * 2 + 2) n _ _ (fun h0 => by rw [hta, if_neg (by omega)]; rfl) _ hrow2 (wcells A ws) hlen
      (wcells_at (fun j x hx => ⟨(World.cell?_of_block (w := wq) hgg).trans (T0.out.cells j x hx).1, (World.cell?_of_block (w := wq) hgg).trans (T0.out.cells j x hx).2⟩)) (by simp; omega) (wcells_one A ws)
  have L0 := Lib.hid hV1
  have L1 := Lib.hid hwd
  have L2 := Lib.hid hcl
  have L3 := Lib.hid hcln
  have L4 := Lib.hid hne
  have LGG := Lib.hid hg1
  clear hV1 hwd hcl hcln hh hroom hrb hus hfb hcl0 hcln0 hob1 hhb1 hos hsp1 hg1 hta hi2 hz2 hs2 hb2 hc1
  go_wp2_with fail
  refine (L1.out).mono ?_
  rintro e w2 ⟨rfl, k2, rfl⟩
  have LG := Lib.hid hgne
  clear hgne hso hsb hne
  go_wp2_with fail
  obtain ⟨wp, hwp⟩ : ∃ wp, wp = wrt V1 (A.sp t.cur) t.bump (3 + k2) tag (laidOver ((cl0.toList.set (t.bump * 2) (.int .i64 tag)).set (t.bump * 2 + 1) (.pointer none)) (t.bump * 2 + 2) (wcells A ws)) := ⟨_, rfl⟩
  rw [← hwp]
  obtain ⟨hR, hC⟩ := T0.out.written tag T1.out R2.out P3.out T4.out HF2.out L2.out L3.out (3 + k2) 0 (V := wp) (by rw [drewN_zero, hwp, L0.out])
  have hgob : g ≠ ob := by have h1 := P3.out; have h2 := HH.out.gl; omega
  have hgp : wp.heap[g]? = wq.heap[g]? := by rw [hwp, wrt_other LG.out.symm]; exact LGG.out
  obtain ⟨ρp, hρp⟩ : ∃ ρp, ρp = roleAt ρ2 ob (8 + t.objs.length) := ⟨_, rfl⟩
  rw [← hρp] at hR hC
  have hgr : ρp g = 0 := by rw [hρp, roleAt_other _ _ _ hgob]; exact T0.out.g0
  have hcel : ∀ (j : Nat) (x : W), ws[j]? = some x → wp.cell? ⟨g, off + j * 2, none⟩ = some (.int .i64 (wnum x)) ∧ wp.cell? ⟨g, off + j * 2 + 1, none⟩ = some (wptr (A.more ob) x) := fun j x hx => by
    rw [wptr_more A ob (fun q e => by
      obtain ⟨j2, hj2⟩ := T0.out.refs q (by rw [← e]; exact List.mem_of_getElem? hx)
      rw [T0.out.rep.len]; exact Alive.lt (T0.out.wf.hand j2 q hj2))]
    exact ⟨(World.cell?_of_block (w := wq) hgp).trans (T0.out.cells j x hx).1, (World.cell?_of_block (w := wq) hgp).trans (T0.out.cells j x hx).2⟩
  have hgpl : g < wp.heap.size := Nat.lt_of_lt_of_le HH.out.gl hC.size
  have M1 := Lib.hid hR
  have M2 := Lib.hid hC
  have M3 := Lib.hid hgr
  have M4 := Lib.hid hcel
  have M5 := Lib.hid hgpl
  have M6 := Lib.hid (T0.out.wn)
  have hwal : ∀ q : Nat, W.obj q ∈ ws → (t.place (t.newO tag ws)).Alive q := fun q hq => by
    obtain ⟨j2, hj2⟩ := T0.out.refs q hq
    obtain ⟨oq, h1, h2⟩ := T0.out.wf.hand j2 q hj2
    exact ⟨oq, by simp only [S.place]; rw [List.getElem?_append_left (List.getElem?_eq_some_iff.1 h1).1]; exact h1, h2⟩
  have hnal : (t.place (t.newO tag ws)).Alive t.objs.length := ⟨t.newO tag ws, by simp [S.place], T0.out.wf.doneLe⟩
  have hdle : (t.place (t.newO tag ws)).done ≤ (t.place (t.newO tag ws)).epoch := T0.out.wf.doneLe
  have hgrl : (t.place (t.newO tag ws)).grey.length ≤ 1000000 := by have h1 := grey_bound T0.out.wf; have h2 := T0.out.bd.os; show t.grey.length ≤ _; omega
  have M7 := Lib.hid hwal
  have M8 := Lib.hid hnal
  have M9 := Lib.hid hdle
  have M10 := Lib.hid hgrl
  have M11 : Hid ((t.place (t.newO tag ws)).handles.length < 60000) := T0.out.hl
  clear hwp hR hC hgob hgp hρp hgr hcel hgpl hwal hnal hdle hgrl hcp hsl u0 u1 fz hsbl hbr LG LGG L0 L1 L2 L3 L4 T4 hcur
  have hA : (A.more ob).hb = A.hb := rfl
  have MA := Lib.hid hA
  clear hA
  go_loopg [62] n (fun gk v wl => ∃ (j : Nat) (ρ' : Nat → Nat), j ≤ n ∧ gk = n - j ∧ v = .int .i64 j ∧ Rep wl ρ' (A.more ob) ((t.place (t.newO tag ws)).shades (ws.take j)) ∧ Ch Mine ρp ρ' wp wl)
  case atStart => exact ⟨0, ρp, Nat.zero_le _, rfl, rfl, by simpa [S.shades] using M1.out, Ch.refl M1.out.rho⟩
  case round =>
    obtain ⟨j, ρ', hj, hgk, rfl, hrep, hch⟩ := hrel
    have H1 := Lib.hid hgk
    have H2 := Lib.hid hrep
    have H3 := Lib.hid hch
    clear hgk hrep hch
    by_cases hlt : j < n
    · have hx : ws[j]? = some (ws[j]'(by rw [M6.out]; exact hlt)) := List.getElem?_eq_getElem _
      generalize hxx : ws[j]'(by rw [M6.out]; exact hlt) = x at hx
      have hcells := M4.out j x hx
      have hb : wr.heap[g]? = wp.heap[g]? := H3.out.block _ M5.out (by rw [M3.out]; simp [Mine])
      have c1 : wr.cell? ⟨g, off + j * 2, none⟩ = some (.int .i64 (wnum x)) := by
        rw [World.cell?_of_block (w := wp) hb]; exact hcells.1
      have c2 : wr.cell? ⟨g, off + j * 2 + 1, none⟩ = some (wptr (A.more ob) x) := by
        rw [World.cell?_of_block (w := wp) hb]; exact hcells.2
      have hltz : (j : Int) < (n : Int) := by omega
      have hgw : g < wr.heap.size := Nat.lt_of_lt_of_le M5.out H3.out.size
      have HX := Lib.hid hx
      clear hx hxx hcells hb
      have HLT := Lib.hid hlt
      have hhbw : A.hb < wr.heap.size := by rw [← MA.out]; exact H2.out.lt (by rw [H2.out.rh]; decide)
      have hnext : Hid ((t.place (t.newO tag ws)).shades (ws.take (j + 1)) = ((t.place (t.newO tag ws)).shades (ws.take j)).shadeW x) := by
        have e : ws.take (j + 1) = ws.take j ++ [x] := by rw [List.take_add_one, HX.out]; rfl
        show _ = _
        rw [e, shades_snoc]
      cases x with
      | num m =>
        simp only [wnum, wptr] at c1 c2
        go_wp2_with fail
        refine wp_region_still_tail 5 (by kernel_rfl) (by kernel_rfl) ?_
        simp only [List.take_succ_cons, List.take_zero, List.drop_succ_cons, List.drop_zero, World.drew_eq]
        iterate 5 still_step
        refine wpStill_nil ?_
        go_wp2_with fail
        refine (shade_nil _ A.hb).mono ?_
        rintro e w3 ⟨rfl, k3, rfl⟩
        go_wp2_with fail
        go_roundg (n - (j + 1))
        case measure => have := H1.out; have := HLT.out; omega
        case rel =>
          refine ⟨j + 1, ρ', HLT.out, rfl, by go_num, ?_, ?_⟩
          · rw [hnext.out]
            exact (H2.out.alloc _).drewN _
          · exact ((H3.out).alloc _).drewN _
      | obj q =>
        simp only [wnum, wptr, Ad.ptr] at c1 c2
        have hal : S.Alive ((t.place (t.newO tag ws)).shades (ws.take j)) q := alive_shades _ (M7.out q (List.mem_of_getElem? HX.out)) M9.out
        obtain ⟨oq, hq1, hq2⟩ := hal
        have HQ1 := Lib.hid hq1
        have HQ2 := Lib.hid hq2
        have hgl : ((t.place (t.newO tag ws)).shades (ws.take j)).grey.length < 1000000000 := by
          have h1 := (shades_same (ws.take j) (t.place (t.newO tag ws))).2.2.2.2.2.2.2.2.2.2.2.2
          have h2 := M10.out
          have h3 : (ws.take j).length ≤ n := by simp; omega
          omega
        have HGL2 := Lib.hid hgl
        clear hq1 hq2 hgl
        go_wp2_with fail
        refine wp_region_still_tail 5 (by kernel_rfl) (by kernel_rfl) ?_
        simp only [List.take_succ_cons, List.take_zero, List.drop_succ_cons, List.drop_zero, World.drew_eq]
        iterate 5 still_step
        refine wpStill_nil ?_
        go_wp2_with fail
        have hfr : Rep (wr.alloc (.cells #[.int .i64 0, .pointer (some ⟨(A.more ob).obj q, 0, none⟩)] 85)).drew ρ' (A.more ob) ((t.place (t.newO tag ws)).shades (ws.take j)) := (H2.out.alloc _).drewN 1
        refine (shade_rep hfr HQ1.out HQ2.out HGL2.out).mono ?_
        rintro e w3 ⟨rfl, ρ3, hr3, hc3⟩
        have H5 := Lib.hid hr3
        have H6 := Lib.hid hc3
        clear hr3 hc3 hfr c1 c2
        go_wp2_with fail
        go_roundg (n - (j + 1))
        case measure => have := H1.out; have := HLT.out; omega
        case rel =>
          refine ⟨j + 1, ρ3, HLT.out, rfl, by go_num, ?_, ?_⟩
          · rw [hnext.out]; exact H5.out
          · exact (((H3.out).alloc _).drewN 1).trans (H6.out.mono fun r hr => by unfold Mine; omega)
    · have hge : decide ((j : Int) < (n : Int)) = false := by simp; omega
      obtain rfl : j = n := by omega
      have e : ws.take j = ws := List.take_of_length_le (by rw [M6.out]; exact Nat.le_refl _)
      have h2 := H2.out
      rw [e] at h2
      obtain ⟨on, hn1, hn2⟩ : S.Alive ((t.place (t.newO tag ws)).shades ws) t.objs.length := alive_shades _ M8.out M9.out
      have hhs : ((t.place (t.newO tag ws)).shades ws).handles = t.handles := (shades_same ws (t.place (t.newO tag ws))).2.2.2.2.2.1
      have hgl : ((t.place (t.newO tag ws)).shades ws).grey.length < 1000000000 := by
        have h1 := (shades_same ws (t.place (t.newO tag ws))).2.2.2.2.2.2.2.2.2.2.2.2
        have h2 := M10.out
        have h3 := M6.out
        omega
      have hhd := handle_rep h2 hn1 hn2 hgl (by rw [hhs]; have := T0.out.hl; omega)
      have e2 : (A.more ob).ptr t.objs.length = .pointer (some ⟨ob, 0, none⟩) := by unfold Ad.ptr; rw [← T0.out.rep.len, Ad.more_new]
      rw [e2, hhs] at hhd
      have N1 := Lib.hid hhd
      clear h2 hn1 hn2 hhs hgl hhd e2 e
      go_wp2_with fail
      refine (N1.out).mono ?_
      rintro e w3 ⟨rfl, ρ3, hr3, hc3⟩
      have N2 := Lib.hid hr3
      have N3 := Lib.hid hc3
      clear hr3 hc3
      obtain ⟨nn, hnn⟩ : ∃ nn : Nat, nn = slotOf t.handles := ⟨_, rfl⟩
      rw [← hnn]
      have N4 := Lib.hid hnn
      clear hnn
      go_wp2_with fail
      go_returns
      refine ⟨by rw [← N4.out]; rfl, ρ3, ob, N2.out, (M2.out.trans H3.out).trans N3.out⟩
end Go.Proofs.Ytfjgokbclgdfjaa
