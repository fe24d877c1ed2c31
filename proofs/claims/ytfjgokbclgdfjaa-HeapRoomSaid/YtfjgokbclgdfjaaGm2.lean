/- More operations, on a heap that is well. -/
import Derived.Test.YtfjgokbclgdfjaaWw
namespace Go.Proofs.Ytfjgokbclgdfjaa
open Go.RowKit HM

theorem wf_addWeak {s : S} (h : WF s) {i : Nat} (hi : i < s.objs.length) : WF (s.addWeak i) :=
  ⟨h.cur, h.ph, h.cursor, h.idle, h.busy, h.last, h.used, h.epo, h.hand, h.refs, h.shape, fun j hj => by
    rcases List.mem_append.1 hj with e | e
    · exact h.weak j e
    · simp at e; subst e; exact hi, h.greyN, h.greyE, h.loc, h.disj, h.bump, h.stay, h.room, h.tri, h.roots⟩

theorem gm_weak {w0 w : World} {ρ : Nat → Nat} {A : Ad} {s : S} (h : Gm w0 w ρ A s) {k i : Nat} (hk : s.handles[k]? = some (some i)) (hwl : s.weak.length < 60000) :
    Calls Try.prog 19 #[.pointer (some ⟨A.hb, 0, none⟩), .int .i64 k] w fun e w' => e = .returned (.tuple #[.int .i64 s.weak.length, .int .i64 0]) ∧ ∃ ρ', Gm w0 w' ρ' A (s.addWeak i) ∧ Ch Mine ρ ρ' w w' := by
  refine (weak_rep h.rep hk (by have := h.bd.hs; omega) hwl).mono ?_
  rintro e w' ⟨rfl, ρ', hr, hc⟩
  exact ⟨rfl, ρ', ⟨hr, wf_addWeak h.wf (Alive.lt (h.wf.hand k i hk)), ⟨h.bd.room, h.bd.hs, h.bd.os, h.bd.ep⟩, h.ph, h.ch.trans hc⟩, hc⟩

theorem gm_strong_freed {w0 w : World} {ρ : Nat → Nat} {A : Ad} {s : S} (h : Gm w0 w ρ A s) {k i : Nat} (hk : s.weak[k]? = some i) (hkl : s.weak.length ≤ 60000) {o : O} (ho : s.objs[i]? = some o) (hd : ¬ s.done ≤ o.epoch) :
    Calls Try.prog 22 #[.pointer (some ⟨A.hb, 0, none⟩), .int .i64 k] w fun e w' => e = .returned (.tuple #[.int .i64 0, .bool false, .int .i64 0]) ∧ Gm w0 w' ρ A s := by
  refine (strong_freed h.rep hk hkl ho hd).mono ?_
  rintro e w' ⟨rfl, n, rfl⟩
  exact ⟨rfl, h.drewN n⟩

theorem gm_strong_alive {w0 w : World} {ρ : Nat → Nat} {A : Ad} {s : S} (h : Gm w0 w ρ A s) (hhl : s.handles.length < 60000) {k i : Nat} (hk : s.weak[k]? = some i) (hkl : s.weak.length ≤ 60000) {o : O} (ho : s.objs[i]? = some o) (hd : s.done ≤ o.epoch) :
    Calls Try.prog 22 #[.pointer (some ⟨A.hb, 0, none⟩), .int .i64 k] w fun e w' => e = .returned (.tuple #[.int .i64 (slotOf s.handles), .bool true, .int .i64 0]) ∧ ∃ ρ', Gm w0 w' ρ' A (s.give i) ∧ Ch Mine ρ ρ' w w' := by
  refine (strong_alive h.rep hk hkl ho hd (by have := grey_bound h.wf; have := h.bd.os; omega) hhl).mono ?_
  rintro e w' ⟨rfl, ρ', hr, hc⟩
  exact ⟨rfl, ρ', h.given hhl ⟨o, ho, hd⟩ hr hc, hc⟩

theorem gm_step {w0 w : World} {ρ : Nat → Nat} {A : Ad} {s : S} (h : Gm w0 w ρ A s) :
    Calls Try.prog 21 #[.pointer (some ⟨A.hb, 0, none⟩)] w fun e w' => e = .returned (.bool s.step.2) ∧ ∃ ρ', Gm w0 w' ρ' A s.step.1 ∧ Ch Mine ρ ρ' w w' := by
  refine (step_rep h.rep h.wf h.bd h.ph).mono ?_
  rintro e w' ⟨rfl, ρ', hr, hc⟩
  obtain ⟨a1, a2, a3, a4, _⟩ := wf_step h.wf h.ph
  exact ⟨rfl, ρ', ⟨hr, a1, h.bd.same a3 (by rw [a4]; exact h.bd.ep), a2, h.ch.trans hc⟩, hc⟩

theorem gm_begin {w0 w : World} {ρ : Nat → Nat} {A : Ad} {s : S} (h : Gm w0 w ρ A s) (hp : s.phase = 0) (hep : s.epoch < 100000000) :
    Calls Try.prog 20 #[.pointer (some ⟨A.hb, 0, none⟩)] w fun e w' => e = .returned (.bool true) ∧ Gm w0 w' ρ A s.begin ∧ Ch Mine ρ ρ w w' := by
  refine (begin_rep h.rep h.wf.cur (by omega)).mono ?_
  rintro e w' ⟨rfl, hr, hc⟩
  have hcm : Ch Mine ρ ρ w w' := hc.mono fun r hr => by unfold Mine; omega
  have e1 : s.begin = { s with phase := 1, cursor := 0, epoch := s.epoch + 1, cur := 1 - s.cur, stay := s.bump, bump := 0 } := by unfold S.begin; rw [if_neg (by omega)]
  refine ⟨?_, ⟨hr, wf_begin h.wf, ?_, ?_, h.ch.trans hcm⟩, hcm⟩
  · first
      | rfl
      | (refine ret_bool ?_; simp [hp])
  · rw [e1]; exact ⟨h.bd.room, h.bd.hs, h.bd.os, by show s.epoch + 1 ≤ _; omega⟩
  · rw [e1]; show 1 ≤ 2; omega
end Go.Proofs.Ytfjgokbclgdfjaa
