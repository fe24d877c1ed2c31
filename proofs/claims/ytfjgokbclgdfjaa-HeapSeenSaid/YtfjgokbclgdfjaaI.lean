/- Step, whole, Collect. -/
import Derived.Test.YtfjgokbclgdfjaaG
import Derived.Test.YtfjgokbclgdfjaaInv4
import Derived.Laws.EntriesVeiled
set_option linter.unusedSimpArgs false
set_option linter.unusedVariables false
namespace Go.Proofs.Ytfjgokbclgdfjaa
open Go.RowKit HM

structure Bd (s : S) : Prop where
  room : s.room ≤ 60000
  hs : s.handles.length ≤ 1000000
  os : s.objs.length ≤ 1000000
  ep : s.epoch ≤ 100000000

theorem Same.len {s t : S} (h : Same s t) : t.objs.length = s.objs.length := by
  have := congrArg List.length h.conts
  simpa [S.conts] using this

theorem Bd.same {s t : S} (h : Bd s) (k : Same s t) (he : t.epoch ≤ 100000000) : Bd t :=
  ⟨by rw [k.room]; exact h.room, by rw [k.handles]; exact h.hs, by rw [Same.len k]; exact h.os, he⟩

theorem nodup_bound : ∀ (n : Nat) (l : List Nat), l.Nodup → (∀ i, i ∈ l → i < n) → l.length ≤ n := by
  intro n
  induction n with
  | zero =>
    intro l _ hl
    cases l with
    | nil => simp
    | cons a r => have := hl a (by simp); omega
  | succ n ih =>
    intro l hn hl
    have h1 := ih (l.erase n) (hn.erase n) (fun i hi => by
      have := hl i (List.mem_of_mem_erase hi)
      have hne : i ≠ n := by rintro rfl; exact (List.Nodup.not_mem_erase hn) hi
      omega)
    have h2 := List.length_erase (a := n) (l := l)
    split at h2 <;> omega

theorem grey_bound {s : S} (h : WF s) : s.grey.length ≤ s.objs.length :=
  nodup_bound _ _ h.greyN fun i hi => by
    obtain ⟨o, ho, _⟩ := h.greyE i hi
    exact (List.getElem?_eq_some_iff.1 ho).1

theorem trace_wf {w : World} {ρ : Nat → Nat} {A : Ad} {s : S} (h : Rep w ρ A s) (hw : WF s) (hb : Bd s) (hp : 0 < s.phase ∧ s.phase ≤ 2) :
    Calls Try.prog 52 #[.pointer (some ⟨A.hb, 0, none⟩)] w fun e w' => e = .returned (.bool s.trace.2) ∧ ∃ ρ', Rep w' ρ' A s.trace.1 ∧ Ch Mine ρ ρ' w w' := by
  cases hg : s.grey with
  | nil =>
    have e : s.trace = (s, false) := by unfold S.trace; rw [hg]
    rw [e]
    refine (trace_none h hg).mono ?_
    rintro e w' ⟨rfl, rfl⟩
    exact ⟨rfl, ρ, h, Ch.refl h.rho⟩
  | cons i rest =>
    obtain ⟨o, ho, he⟩ := hw.greyE i (by rw [hg]; simp)
    have hoa : s.done ≤ o.epoch := by have := hw.doneLe; omega
    have hnb : ¬ s.Black i o := by unfold S.Black; rw [hg]; simp
    have hl := (hw.loc i o ho hoa).2 hnb
    have hil : i < s.objs.length := (List.getElem?_eq_some_iff.1 ho).1
    have hst : o.size ≤ s.stay := by
      rw [hw.stay]
      have : s.szW i = o.size := by unfold S.szW; rw [ho]; simp only; rw [if_pos ⟨hoa, hnb⟩]
      rw [← this]; exact rsum_ge hil
    have hroom := hw.room
    have hr := hb.room
    have hgl := grey_bound hw
    have hos := hb.os
    have h17 := hw.size17 ho
    rw [trace_some_eq hg ho]
    refine trace_rep h hg ho hoa hw.doneLe hl.1 hw.cur hl.2.1 (hw.sizePos ho) hl.2.2 (by omega) hst (by omega) (by omega) (fun k o' hk hk' hne => ?_) (by omega) (fun j hj => hw.refs i o ho hoa j (List.mem_of_mem_tail hj))
    have hlk := hw.loc k o' hk hk'
    have hcur := hw.cur
    by_cases hbk : s.Black k o'
    · exact ⟨by have := (hlk.1 hbk).1; omega, fun _ => (hlk.1 hbk).2⟩
    · exact ⟨(hlk.2 hbk).1, fun e => absurd e (hlk.2 hbk).2.1⟩

theorem roots_wf {w : World} {ρ : Nat → Nat} {A : Ad} {s : S} (h : Rep w ρ A s) (hw : WF s) (hb : Bd s) :
    Calls Try.prog 51 #[.pointer (some ⟨A.hb, 0, none⟩)] w fun e w' => e = .returned (.bool s.roots.2) ∧ ∃ ρ', Rep w' ρ' A s.roots.1 ∧ Ch Mine ρ ρ' w w' := by
  refine (roots_rep h hw.cursor (by have := hb.hs; omega) (by have := grey_bound hw; have := hb.os; omega) hw.hand).mono ?_
  rintro e w' ⟨rfl, ρ', h1, h2⟩
  exact ⟨rfl, ρ', h1, h2.mono fun r hr => by unfold Mine; omega⟩

theorem finish_wf {w : World} {ρ : Nat → Nat} {A : Ad} {s : S} (h : Rep w ρ A s) (hw : WF s) (hp : s.phase = 3) :
    Calls Try.prog 53 #[.pointer (some ⟨A.hb, 0, none⟩)] w fun e w' => e = .returned (.bool true) ∧ ∃ ρ', Rep w' ρ' A s.finish ∧ Ch Mine ρ ρ' w w' := by
  refine (finish_rep h hw.cur hw.doneLe (fun i o ho he => ?_)).mono ?_
  · have hb : s.Black i o := ⟨by have := hw.epo i o ho; omega, by rw [hw.last hp]; simp⟩
    exact ((hw.loc i o ho (by have := hw.doneLe; omega)).1 hb).1
  · rintro e w' ⟨rfl, h1, h2⟩
    exact ⟨rfl, ρ, h1, h2.mono fun r hr => by unfold Mine; omega⟩

/-- The phase is set. -/
theorem Rep.setPhase {w : World} {ρ : Nat → Nat} {A : Ad} {s : S} (h : Rep w ρ A s) (n : Nat) (v : Int) (hv : v = n) : Rep (w.setCell ⟨A.hb, 11, none⟩ (.int .i64 v)) ρ A { s with phase := n } ∧ Ch Mine ρ ρ w (w.setCell ⟨A.hb, 11, none⟩ (.int .i64 v)) := by
  subst hv
  obtain ⟨gs, ds, ks, hh, hgr, ⟨da, hd, hdr⟩, hk⟩ := h.head
  have c : Ch (· = 1) ρ ρ w (w.setCell ⟨A.hb, 11, none⟩ (.int .i64 n)) := (Ch.refl h.rho).setCell _ _ fun _ => h.rh
  refine ⟨h.turn c (by decide) (by decide) rfl rfl ⟨gs, ds, ks, ?_, hgr.keep c (by decide), ⟨da, hd.keep c (by decide), hdr⟩, hk.keep c (by decide)⟩ (h.map.keep (c.block _ h.map.lt (by rw [h.rm]; decide)))
    (h.keepObjs c (fun i _ => by omega)) (fun j o hj hd => ⟨o, hj, hd, rfl, rfl, rfl⟩), c.mono fun r hr => by unfold Mine; omega⟩
  rw [heap_setCell_same w A.hb 11 _ _ _ hh]
  rfl

theorem Rep.alloc {w : World} {ρ : Nat → Nat} {A : Ad} {s : S} (h : Rep w ρ A s) (o : Obj) : Rep (w.alloc o) ρ A s :=
  h.frame (M := fun _ => False) ((Ch.refl h.rho).alloc o) (fun _ h => h.elim)

theorem Rep.phaseCell {w : World} {ρ : Nat → Nat} {A : Ad} {s : S} (h : Rep w ρ A s) {n : Nat} (hn : s.phase = n) : w.cell? ⟨A.hb, 11, none⟩ = some (.int .i64 n) ∧ w.frozen? ⟨A.hb, 11, none⟩ = false ∧ A.hb < w.heap.size := by
  obtain ⟨gs, ds, ks, hh⟩ := h.hcell
  exact ⟨by rw [cell_of_row w _ 11 _ _ _ hh, ← hn]; rfl, frozen_of_row w _ 11 _ _ hh, h.lt (by simp [h.rh])⟩

/-- A step, from whatever phase. -/
def stepP (s : S) : S × Bool := if s.phase = 3 then (s.finish, true) else s.step

theorem step_rep {w : World} {ρ : Nat → Nat} {A : Ad} {s : S} (h : Rep w ρ A s) (hw : WF s) (hb : Bd s) (hp : s.phase ≤ 2) :
    Calls Try.prog 21 #[.pointer (some ⟨A.hb, 0, none⟩)] w fun e w' => e = .returned (.bool s.step.2) ∧ ∃ ρ', Rep w' ρ' A s.step.1 ∧ Ch Mine ρ ρ' w w' := by
  have HH := Lib.hid h
  have HW := Lib.hid hw
  have HB := Lib.hid hb
  have HS : Hid (stepP s = s.step) := by
    show _ = _
    unfold stepP; rw [if_neg (by omega)]
  have HP := Lib.hid hp
  clear h hw hb hp
  go_enter Try.func21, Try.ntmps21
  go_wp2
  go_loopg [3] (4 - s.phase) (fun gk _ wr => ∃ (t : S) (ρ' : Nat → Nat), gk = 4 - t.phase ∧ Rep wr ρ' A t ∧ WF t ∧ Bd t ∧ t.phase ≤ 3 ∧ stepP t = s.step ∧ Ch Mine ρ ρ' w wr)
  case atStart => exact ⟨s, ρ, rfl, HH.out, HW.out, HB.out, by have := HP.out; omega, HS.out, Ch.refl HH.out.rho⟩
  case round =>
    obtain ⟨t, ρ', hgk, hrep, hwf, hbd, hph, hst, hch⟩ := hrel
    obtain ⟨gs, ds, ks, hh⟩ := hrep.hcell
    have h11 : wr.cell? ⟨A.hb, 11, none⟩ = some (.int .i64 t.phase) := by rw [cell_of_row wr _ 11 _ _ _ hh]; rfl
    have f11 : wr.frozen? ⟨A.hb, 11, none⟩ = false := frozen_of_row wr _ 11 _ _ hh
    have hblt : A.hb < wr.heap.size := hrep.lt (by simp [hrep.rh])
    have H1 := Lib.hid hgk
    have H2 := Lib.hid hrep
    have H3 := Lib.hid hwf
    have H4 := Lib.hid hbd
    have H5 := Lib.hid hst
    have H6 := Lib.hid hch
    have H7 := Lib.hid hph
    clear hgk hrep hwf hbd hst hch hh hph
    have hcases : t.phase = 0 ∨ t.phase = 1 ∨ t.phase = 2 ∨ t.phase = 3 := by have := H7.out; omega
    rcases hcases with hp | hp | hp | hp
    · rw [hp] at h11
      have HPP := Lib.hid hp
      clear hp
      go_wp2_with fail
      go_ret
      rw [← H5.out]
      have e : stepP t = (t, false) := by unfold stepP S.step; rw [if_neg (by have := HPP.out; omega), if_pos HPP.out]
      rw [e]
      exact ⟨rfl, ρ', H2.out, H6.out⟩
    · rw [hp] at h11
      have HPP := Lib.hid hp
      clear hp
      go_wp2_with fail
      refine (roots_wf (H2.out.alloc _) H3.out H4.out).mono ?_
      rintro e w1 ⟨rfl, ρ1, hr, hc⟩
      obtain ⟨k11, e11, l11⟩ := hr.phaseCell (n := 1) ((roots_facts t).1.trans HPP.out)
      have G1 := Lib.hid hr
      have G2 := Lib.hid hc
      have hc2 : Ch Mine ρ ρ1 w w1 := (H6.out.alloc _).trans hc
      have G3 := Lib.hid hc2
      clear hr hc hc2 h11 f11 hblt
      cases hb : t.roots.2 with
      | true =>
        have HB2 := Lib.hid hb
        clear hb
        go_wp2_with fail
        go_ret
        rw [← H5.out]
        have e : stepP t = (t.roots.1, false) := by
          unfold stepP S.step
          rw [if_neg (by have := HPP.out; omega), if_neg (by have := HPP.out; omega), if_pos HPP.out]
          have h2 := HB2.out
          cases hr : t.roots with
          | mk a b => rw [hr] at h2; simp at h2; subst h2; rfl
        rw [e]
        exact ⟨rfl, ρ1, G1.out, G3.out⟩
      | false =>
        have HB2 := Lib.hid hb
        clear hb
        go_wp2_with fail
        go_roundg (4 - 2)
        case measure => have := H1.out; have := HPP.out; omega
        case rel =>
          obtain ⟨r1, r2⟩ := G1.out.setPhase 2 2 rfl
          have hwf2 := (wf_roots H3.out HPP.out).2 HB2.out
          have hsm := same_roots t
          refine ⟨{ t.roots.1 with phase := 2 }, ρ1, rfl, r1, hwf2, H4.out.same ⟨hsm.room, hsm.handles, hsm.weak, hsm.conts⟩ (by show t.roots.1.epoch ≤ _; rw [(roots_facts t).2.1]; exact H4.out.ep), by simp, ?_, G3.out.trans r2⟩
          rw [← H5.out]
          unfold stepP S.step
          have h2 := HB2.out
          have hp1 := HPP.out
          cases hr : t.roots with
          | mk a b => rw [hr] at h2; simp at h2; subst h2; simp [hp1]
    · rw [hp] at h11
      have HPP := Lib.hid hp
      clear hp
      go_wp2_with fail
      refine (trace_wf (H2.out.alloc _) H3.out H4.out ⟨by have := HPP.out; omega, by have := HPP.out; omega⟩).mono ?_
      rintro e w1 ⟨rfl, ρ1, hr, hc⟩
      obtain ⟨k11, e11, l11⟩ := hr.phaseCell (n := 2) ((trace_facts t).1.trans HPP.out)
      have G1 := Lib.hid hr
      have hc2 : Ch Mine ρ ρ1 w w1 := (H6.out.alloc _).trans hc
      have G3 := Lib.hid hc2
      clear hr hc hc2 h11 f11 hblt
      cases hb : t.trace.2 with
      | true =>
        have HB2 := Lib.hid hb
        clear hb
        go_wp2_with fail
        go_ret
        rw [← H5.out]
        have e : stepP t = (t.trace.1, false) := by
          unfold stepP S.step S.step2
          rw [if_neg (by have := HPP.out; omega), if_neg (by have := HPP.out; omega), if_neg (by have := HPP.out; omega)]
          have h2 := HB2.out
          cases hr : t.trace with
          | mk a b => rw [hr] at h2; simp at h2; subst h2; rfl
        rw [e]
        exact ⟨rfl, ρ1, G1.out, G3.out⟩
      | false =>
        have HB2 := Lib.hid hb
        clear hb
        go_wp2_with fail
        go_roundg (4 - 3)
        case measure => have := H1.out; have := HPP.out; omega
        case rel =>
          have heq := (trace_facts t).2.2.2 HB2.out
          have g1 := G1.out
          rw [heq] at g1
          obtain ⟨r1, r2⟩ := g1.setPhase 3 3 rfl
          refine ⟨{ t with phase := 3 }, ρ1, rfl, r1, wf_phase3 H3.out HPP.out (trace_false H3.out HB2.out), H4.out.same ⟨rfl, rfl, rfl, rfl⟩ H4.out.ep, by simp, ?_, G3.out.trans r2⟩
          rw [← H5.out]
          unfold stepP S.step S.step2
          have h2 := HB2.out
          have hp1 := HPP.out
          cases hr : t.trace with
          | mk a b =>
            rw [hr] at h2 heq
            simp at h2 heq
            subst h2 heq
            simp [hp1]
    · rw [hp] at h11
      have HPP := Lib.hid hp
      clear hp
      go_wp2_with fail
      refine (finish_wf (H2.out.alloc _) H3.out HPP.out).mono ?_
      rintro e w1 ⟨rfl, ρ1, hr, hc⟩
      obtain ⟨k11, e11, l11⟩ := hr.phaseCell (n := 0) rfl
      have G1 := Lib.hid hr
      have hc2 : Ch Mine ρ ρ1 w w1 := (H6.out.alloc _).trans hc
      have G3 := Lib.hid hc2
      clear hr hc hc2 h11 f11 hblt
      go_wp2_with fail
      go_ret
      rw [← H5.out]
      have e : stepP t = (t.finish, true) := by unfold stepP; rw [if_pos HPP.out]
      rw [e]
      exact ⟨rfl, ρ1, G1.out, G3.out⟩

theorem whole_rep {w : World} {ρ : Nat → Nat} {A : Ad} {s : S} (h : Rep w ρ A s) (hw : WF s) (hb : Bd s) (hp : s.phase ≤ 2) :
    Calls Try.prog 57 #[.pointer (some ⟨A.hb, 0, none⟩)] w fun e w' => e = .returned (.tuple #[]) ∧ ∃ ρ', Rep w' ρ' A s.whole ∧ Ch Mine ρ ρ' w w' := by
  have HH := Lib.hid h
  have HW := Lib.hid hw
  have HB := Lib.hid hb
  have HP := Lib.hid hp
  clear h hw hb hp
  go_enter Try.func57, Try.ntmps57
  go_wp2
  go_loopg [3] s.mu (fun gk _ wr => ∃ (t : S) (ρ' : Nat → Nat), gk = t.mu ∧ Rep wr ρ' A t ∧ WF t ∧ Bd t ∧ t.phase ≤ 2 ∧ t.whole = s.whole ∧ Ch Mine ρ ρ' w wr)
  case atStart => exact ⟨s, ρ, rfl, HH.out, HW.out, HB.out, HP.out, rfl, Ch.refl HH.out.rho⟩
  case round =>
    obtain ⟨t, ρ', hgk, hrep, hwf, hbd, hph, hst, hch⟩ := hrel
    obtain ⟨h11, _, _⟩ := hrep.phaseCell (n := t.phase) rfl
    have H1 := Lib.hid hgk
    have H2 := Lib.hid hrep
    have H3 := Lib.hid hwf
    have H4 := Lib.hid hbd
    have H5 := Lib.hid hst
    have H6 := Lib.hid hch
    have H7 := Lib.hid hph
    clear hgk hrep hwf hbd hst hch hph
    by_cases hp : t.phase = 0
    · rw [hp] at h11
      have HPP := Lib.hid hp
      clear hp
      go_wp2_with fail
      go_end0
      have e : t.whole = t := wholeN_idle _ _ HPP.out
      rw [← H5.out, e]
      exact ⟨rfl, ρ', H2.out, H6.out⟩
    · have hgt : (0 : Int) < (t.phase : Int) := by omega
      have HPP := Lib.hid hp
      clear hp
      go_wp2_with fail
      refine (step_rep H2.out H3.out H4.out H7.out).mono ?_
      rintro e w1 ⟨rfl, ρ1, hr, hc⟩
      have G1 := Lib.hid hr
      have G3 := Lib.hid (H6.out.trans hc)
      clear hr hc h11
      go_wp2_with fail
      obtain ⟨a1, a2, a3, a4, a5, _⟩ := wf_step H3.out H7.out
      have hmu := a5 HPP.out
      go_roundg t.step.1.mu
      case measure => rw [H1.out]; exact hmu
      case rel =>
        refine ⟨t.step.1, ρ1, rfl, G1.out, a1, H4.out.same a3 (by rw [a4]; exact H4.out.ep), a2, ?_, G3.out⟩
        rw [← H5.out]
        have e1 : t.whole = S.wholeN (t.mu - 1 + 1) t := (wholeN_fuel _ H3.out H7.out (by omega)).symm
        rw [e1]
        simp only [S.wholeN, if_neg HPP.out]
        exact (wholeN_fuel _ a1 a2 (by omega)).symm

theorem collect_rep {w : World} {ρ : Nat → Nat} {A : Ad} {s : S} (h : Rep w ρ A s) (hw : WF s) (hb : Bd s) (hep : s.epoch < 100000000) (hp : s.phase ≤ 2) :
    Calls Try.prog 23 #[.pointer (some ⟨A.hb, 0, none⟩)] w fun e w' => e = .returned (.tuple #[]) ∧ ∃ ρ', Rep w' ρ' A s.collect ∧ Ch Mine ρ ρ' w w' := by
  have HH := Lib.hid h
  have HW := Lib.hid hw
  have HB := Lib.hid hb
  have HP := Lib.hid hp
  have HE := Lib.hid hep
  clear h hw hb hp hep
  go_enter Try.func23, Try.ntmps23
  go_wp2_with fail
  refine (whole_rep HH.out HW.out HB.out HP.out).mono ?_
  rintro e w1 ⟨rfl, ρ1, hr, hc⟩
  obtain ⟨a1, a2, a3, a4⟩ := wf_wholeN s.mu HW.out HP.out (Nat.le_refl _)
  have G1 := Lib.hid hr
  have G2 := Lib.hid hc
  have A1 := Lib.hid a1
  have A2 := Lib.hid a2
  have A3 := Lib.hid a3
  have A4 := Lib.hid a4
  clear hr hc a1 a2 a3 a4
  go_wp2_with fail
  refine (begin_rep G1.out A1.out.cur (by have h1 := A4.out; have h2 := HE.out; show s.whole.epoch ≤ _; have : s.whole.epoch = s.epoch := h1; omega)).mono ?_
  rintro e w2 ⟨rfl, hr, hc⟩
  have G3 := Lib.hid hr
  have G4 := Lib.hid hc
  clear hr hc
  go_wp2_with fail
  have hph : s.whole.begin.phase = 1 := by
    have : s.whole.phase = 0 := A2.out
    unfold S.begin; rw [if_neg (by omega)]
  have hepb : s.whole.begin.epoch = s.epoch + 1 := by
    have : s.whole.phase = 0 := A2.out
    have h2 : s.whole.epoch = s.epoch := A4.out
    unfold S.begin; rw [if_neg (by omega)]
    show s.whole.epoch + 1 = _
    omega
  have hsb : Same s s.whole.begin := by
    refine A3.out.trans ?_
    unfold S.begin; split
    · exact Same.refl _
    · exact ⟨rfl, rfl, rfl, rfl⟩
  refine (whole_rep G3.out (wf_begin A1.out) (HB.out.same hsb (by have := HE.out; omega)) (by omega)).mono ?_
  rintro e w3 ⟨rfl, ρ3, hr, hc⟩
  have G5 := Lib.hid hr
  have G6 := Lib.hid hc
  clear hr hc hph hepb hsb
  go_wp2_with fail
  go_end0
  exact ⟨rfl, ρ3, G5.out, (G2.out.trans (G4.out.mono fun r hr => by unfold Mine; omega)).trans G6.out⟩

end Go.Proofs.Ytfjgokbclgdfjaa
