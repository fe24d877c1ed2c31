/- make: where it does not fit. -/
import Derived.Test.YtfjgokbclgdfjaaMake
set_option linter.unusedSimpArgs false
set_option linter.unusedVariables false
namespace Go.Proofs.Ytfjgokbclgdfjaa
open Go.RowKit HM

theorem wf_collect {s : S} (h : WF s) (hp : s.phase ≤ 2) : WF s.collect ∧ s.collect.phase = 0 ∧ Same s s.collect ∧ s.collect.epoch = s.epoch + 1 := by
  obtain ⟨a1, a2, a3, a4⟩ := wf_wholeN s.mu h hp (Nat.le_refl _)
  have hp0 : s.whole.phase = 0 := a2
  have hph : s.whole.begin.phase = 1 := by unfold S.begin; rw [if_neg (by omega)]
  have hepb : s.whole.begin.epoch = s.epoch + 1 := by
    have h2 : s.whole.epoch = s.epoch := a4
    unfold S.begin; rw [if_neg (by omega)]
    show s.whole.epoch + 1 = _
    omega
  have hsb : Same s s.whole.begin := by
    refine a3.trans ?_
    unfold S.begin; split
    · exact Same.refl _
    · exact ⟨rfl, rfl, rfl, rfl⟩
  obtain ⟨b1, b2, b3, b4⟩ := wf_wholeN s.whole.begin.mu (wf_begin a1) (by show s.whole.begin.phase ≤ 2; omega) (Nat.le_refl _)
  refine ⟨b1, b2, hsb.trans b3, ?_⟩
  have : s.collect.epoch = s.whole.begin.epoch := b4
  omega

theorem bd_collect {s : S} (hb : Bd s) (h : WF s) (hp : s.phase ≤ 2) (he : s.epoch < 100000000) : Bd s.collect := by
  obtain ⟨_, _, h3, h4⟩ := wf_collect h hp
  exact hb.same h3 (by omega)

set_option maxHeartbeats 2000000 in
set_option maxRecDepth 20000 in
theorem make_full {w : World} {ρ : Nat → Nat} {A : Ad} {s : S} {ws : List W} {g off n : Nat} (h : Pre w ρ A s ws g off n) (hph : s.phase ≤ 2) (hep : s.epoch < 100000000) (tag : Int) (cap : Nat) (hfit : ¬ s.fitsB (1 + n)) (hfit2 : ¬ s.collect.fitsB (1 + n)) :
    Calls Try.prog 49 #[.pointer (some ⟨A.hb, 0, none⟩), .int .i64 tag, .slice (some ⟨g, off, none⟩) n cap] w fun e w' => e = .returned (.tuple #[.int .i64 0, .int .i64 191]) ∧ ∃ ρ', Rep w' ρ' A s.collect ∧ Ch Mine ρ ρ' w w' := by
  have HH := Lib.hid h
  have HF := Lib.hid hfit
  have HF2 := Lib.hid hfit2
  have HP := Lib.hid hph
  have HE := Lib.hid hep
  have hn16 := h.n16
  clear h hfit hfit2 hph hep
  go_enter Try.func49, Try.ntmps49
  go_wp2_with fail
  refine (full_rep HH.out.rep HH.out.hl).mono ?_
  rintro e w1 ⟨rfl, rfl⟩
  go_wp2_with fail
  obtain ⟨ob, hob⟩ : ∃ ob, ob = w.heap.size := ⟨_, rfl⟩
  obtain ⟨wr, hwr⟩ : ∃ wr, wr = w.alloc (.cells #[.int .i64 tag, .int .i64 (1 + n), .int .i64 0, .int .i64 0, .int .i64 0] 97) := ⟨_, rfl⟩
  rw [← hwr, ← hob]
  have hobh : wr.heap[ob]? = some (.cells #[.int .i64 tag, .int .i64 (1 + n), .int .i64 0, .int .i64 0, .int .i64 0] 97 (0, 0)) := by rw [hwr, hob]; exact heap_alloc_new w _
  have P0 : Hid (Pre wr ρ A s ws g off n) := by rw [hwr]; exact HH.out.box _
  have P1 : Hid (Ch Mine ρ ρ w wr) := by rw [hwr]; exact (Ch.refl HH.out.rep.rho).alloc _
  have P2 : Hid (ρ ob = 0) := by rw [hob]; exact HH.out.rep.rho _ (Nat.le_refl _)
  have o1 : wr.cell? ⟨ob, 1, none⟩ = some (.int .i64 (1 + n)) := by rw [cell_of_row wr _ 1 _ _ _ hobh]; rfl
  have hobl : ob < wr.heap.size := (Array.getElem?_eq_some_iff.1 hobh).1
  have P4 := Lib.hid hobh
  clear hob hwr hobh
  go_quiet ((go_at_call 78; exact Calls.quiet_of ((Rep.drewN' P0.out _).fits false (by simpa using HF.out))))
  go_wp2_with fail
  refine (collect_rep (P0.out.rep.drewN _) P0.out.wf P0.out.bd HE.out HP.out).mono ?_
  rintro e w2 ⟨rfl, ρ2, hr2, hc2⟩
  obtain ⟨a1, a2, a3, a4⟩ := wf_collect P0.out.wf HP.out
  have Q0 : Hid (Pre w2 ρ2 A s.collect ws g off n) := (Rep.drewN' P0.out _).keep hc2 hr2 a1 (bd_collect P0.out.bd P0.out.wf HP.out HE.out) a3.handles
  have Q1 : Hid (Ch Mine ρ ρ2 w w2) := (P1.out.drewN _).trans hc2
  have Q4 : w2.heap[ob]? = some (.cells #[.int .i64 tag, .int .i64 (1 + n), .int .i64 0, .int .i64 0, .int .i64 0] 97 (0, 0)) := hc2.keep (w := wr.drewN _) P4.out (by rw [P2.out]; simp [Mine])
  have o1' : w2.cell? ⟨ob, 1, none⟩ = some (.int .i64 (1 + n)) := by rw [cell_of_row w2 _ 1 _ _ _ Q4]; rfl
  have hobl' : ob < w2.heap.size := (Array.getElem?_eq_some_iff.1 Q4).1
  have Q5 := Lib.hid Q4
  have Q6 := Lib.hid hr2
  clear hr2 hc2 a1 a2 a3 a4 Q4 o1 hobl P0 P1 P4
  go_wp2_with fail
  go_quiet ((go_at_call 78; exact Calls.quiet_of ((Rep.drewN' Q0.out _).fits false (by simpa using HF2.out))))
  go_wp2_with fail
  go_returns
  exact ⟨rfl, ρ2, Q6.out.drewN _, Q1.out.drewN _⟩
end Go.Proofs.Ytfjgokbclgdfjaa
