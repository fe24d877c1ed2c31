/- Weak references. Weak. More operations, on a heap that is well. -/
import Derived.Test.YtfjgokbclgdfjaaGm
set_option linter.unusedSimpArgs false
set_option linter.unusedVariables false
namespace Go.Proofs.Ytfjgokbclgdfjaa
open Go.RowKit HM

theorem Rep.weakAt {w : World} {ρ : Nat → Nat} {A : Ad} {s : S} (h : Rep w ρ A s) : ∃ a c, w.cell? ⟨A.hb, 15, none⟩ = some (.slice a s.weak.length c) ∧ RowAt w ρ 7 83 (.slice a s.weak.length c) (s.weak.map A.ptr) := by
  obtain ⟨gs, ds, ks, hh, hgr, hd, hk⟩ := h.head
  have hc : w.cell? ⟨A.hb, 15, none⟩ = some ks := by rw [cell_of_row w _ 15 _ _ _ hh]; rfl
  have h0 := hk
  rcases hk with ⟨rfl, hn⟩ | ⟨g, off, cap, cur, rfl, _⟩
  · have : s.weak = [] := by simpa using hn
    rw [this] at h0 ⊢
    exact ⟨none, 0, hc, h0⟩
  · exact ⟨_, cap, by simpa using hc, by simpa using h0⟩

set_option maxHeartbeats 800000 in
set_option maxRecDepth 20000 in
theorem strong_freed {w : World} {ρ : Nat → Nat} {A : Ad} {s : S} (h : Rep w ρ A s) {k i : Nat} (hk : s.weak[k]? = some i) (hkl : s.weak.length ≤ 60000) {o : O} (ho : s.objs[i]? = some o) (hd : ¬ s.done ≤ o.epoch) :
    Calls Try.prog 22 #[.pointer (some ⟨A.hb, 0, none⟩), .int .i64 k] w fun e w' => e = .returned (.tuple #[.int .i64 0, .bool false, .int .i64 0]) ∧ ∃ n, w' = w.drewN n := by
  obtain ⟨a, c, c15, hrow⟩ := h.weakAt
  have hlt : k < s.weak.length := (List.getElem?_eq_some_iff.1 hk).1
  obtain ⟨g, off, cap, hv, hr, hcap, hm, hc⟩ := hrow.cell (i := k) (x := A.ptr i) (by rw [List.getElem?_map, hk]; rfl)
  simp only [List.length_map, Value.slice.injEq] at hv
  obtain ⟨rfl, _, rfl⟩ := hv
  have ho1 := h.objs i o ho
  have o4 : w.cell? ⟨A.obj i, 4, none⟩ = some (.int .i64 o.epoch) := by rw [cell_of_row w _ 4 _ _ _ ho1]; rfl
  have c10 : w.cell? ⟨A.hb, 10, none⟩ = some (.int .i64 s.done) := by obtain ⟨gs, ds, ks, hh⟩ := h.hcell; rw [cell_of_row w _ 10 _ _ _ hh]; rfl
  have hfr := freed_any w A.hb (A.obj i) o.epoch s.done o4 c10
  have hfr' : ∀ n, Calls Try.prog 54 #[.pointer (some ⟨A.hb, 0, none⟩), .pointer (some ⟨A.obj i, 0, none⟩)] (w.drewN n) fun e w' => e = .returned (.bool true) ∧ ∃ k, w' = (w.drewN n).drewN k := fun n => by
    refine (freed_any (w.drewN n) A.hb (A.obj i) o.epoch s.done o4 c10).mono ?_
    rintro e w' ⟨rfl, k, rfl⟩
    exact ⟨ret_bool (by simp; omega), k, rfl⟩
  have hblt : A.hb < w.heap.size := h.lt (by simp [h.rh])
  obtain ⟨n, hn⟩ : ∃ n, n = s.weak.length := ⟨_, rfl⟩
  rw [← hn] at c15 hlt hkl
  have hltz : (k : Int) < (n : Int) := by omega
  unfold Ad.ptr at hc
  have HF := Lib.hid hfr'
  clear hfr hfr' h hrow hk ho hd ho1 hn
  go_enter Try.func22, Try.ntmps22
  go_wp2_with fail
  go_quiet ((go_at_call 54; exact Calls.quiet_of (HF.out _)))
  go_wp2_with fail
  go_returns
  exact ⟨rfl, _, rfl⟩

set_option maxHeartbeats 800000 in
set_option maxRecDepth 20000 in
theorem strong_alive {w : World} {ρ : Nat → Nat} {A : Ad} {s : S} (h : Rep w ρ A s) {k i : Nat} (hk : s.weak[k]? = some i) (hkl : s.weak.length ≤ 60000) {o : O} (ho : s.objs[i]? = some o) (hd : s.done ≤ o.epoch) (hg : s.grey.length < 1000000000) (hhl : s.handles.length < 60000) :
    Calls Try.prog 22 #[.pointer (some ⟨A.hb, 0, none⟩), .int .i64 k] w fun e w' => e = .returned (.tuple #[.int .i64 (slotOf s.handles), .bool true, .int .i64 0]) ∧ ∃ ρ', Rep w' ρ' A (s.give i) ∧ Ch Mine ρ ρ' w w' := by
  obtain ⟨a, c, c15, hrow⟩ := h.weakAt
  have hlt : k < s.weak.length := (List.getElem?_eq_some_iff.1 hk).1
  obtain ⟨g, off, cap, hv, hr, hcap, hm, hc⟩ := hrow.cell (i := k) (x := A.ptr i) (by rw [List.getElem?_map, hk]; rfl)
  simp only [List.length_map, Value.slice.injEq] at hv
  obtain ⟨rfl, _, rfl⟩ := hv
  have ho1 := h.objs i o ho
  have o4 : w.cell? ⟨A.obj i, 4, none⟩ = some (.int .i64 o.epoch) := by rw [cell_of_row w _ 4 _ _ _ ho1]; rfl
  have c10 : w.cell? ⟨A.hb, 10, none⟩ = some (.int .i64 s.done) := by obtain ⟨gs, ds, ks, hh⟩ := h.hcell; rw [cell_of_row w _ 10 _ _ _ hh]; rfl
  have hfr' : ∀ n, Calls Try.prog 54 #[.pointer (some ⟨A.hb, 0, none⟩), .pointer (some ⟨A.obj i, 0, none⟩)] (w.drewN n) fun e w' => e = .returned (.bool false) ∧ ∃ k, w' = (w.drewN n).drewN k := fun n => by
    refine (freed_any (w.drewN n) A.hb (A.obj i) o.epoch s.done o4 c10).mono ?_
    rintro e w' ⟨rfl, k, rfl⟩
    exact ⟨ret_bool (by simp; omega), k, rfl⟩
  have hblt : A.hb < w.heap.size := h.lt (by simp [h.rh])
  obtain ⟨n, hn⟩ : ∃ n, n = s.weak.length := ⟨_, rfl⟩
  rw [← hn] at c15 hlt hkl
  have hltz : (k : Int) < (n : Int) := by omega
  unfold Ad.ptr at hc
  have HF := Lib.hid hfr'
  have HR := Lib.hid h
  have HO := Lib.hid ho
  have HD := Lib.hid hd
  have HG := Lib.hid hg
  have HL := Lib.hid hhl
  clear hfr' h hrow hk ho hd ho1 hn hg hhl
  go_enter Try.func22, Try.ntmps22
  go_wp2_with fail
  go_quiet ((go_at_call 54; exact Calls.quiet_of (HF.out _)))
  go_wp2_with fail
  refine (full_rep (HR.out.drewN _) HL.out).mono ?_
  rintro e w2 ⟨rfl, rfl⟩
  go_wp2_with fail
  refine (handle_rep (HR.out.drewN _) HO.out HD.out HG.out (by have := HL.out; omega)).mono ?_
  rintro e w3 ⟨rfl, ρ3, hr3, hc3⟩
  have G1 := Lib.hid hr3
  have G2 := Lib.hid hc3
  obtain ⟨nn, hnn⟩ : ∃ nn : Nat, nn = slotOf s.handles := ⟨_, rfl⟩
  rw [← hnn]
  have G3 := Lib.hid hnn
  clear hr3 hc3 hnn
  go_wp2_with fail
  go_returns
  exact ⟨by rw [← G3.out]; rfl, ρ3, G1.out, ((Ch.refl HR.out.rho).drewN _).trans G2.out⟩
end Go.Proofs.Ytfjgokbclgdfjaa

namespace Go.Proofs.Ytfjgokbclgdfjaa
open Go.RowKit HM

namespace HM
def S.addWeak (s : S) (i : Nat) : S := { s with weak := s.weak ++ [i] }
end HM

set_option maxHeartbeats 800000 in
set_option maxRecDepth 20000 in
theorem weak_rep {w : World} {ρ : Nat → Nat} {A : Ad} {s : S} (h : Rep w ρ A s) {k i : Nat} (hk : s.handles[k]? = some (some i)) (hlen : s.handles.length < 100000000) (hwl : s.weak.length < 60000) :
    Calls Try.prog 19 #[.pointer (some ⟨A.hb, 0, none⟩), .int .i64 k] w fun e w' => e = .returned (.tuple #[.int .i64 s.weak.length, .int .i64 0]) ∧ ∃ ρ', Rep w' ρ' A (s.addWeak i) ∧ Ch Mine ρ ρ' w w' := by
  have hkl : k < s.handles.length := (List.getElem?_eq_some_iff.1 hk).1
  have hlk := run_lookup h.map k (by omega)
  have hat : atH s.handles k = some i := by rw [atH_nat]; simp [List.getD, hk]
  rw [hat] at hlk
  simp only [found, Ad.ptr] at hlk
  obtain ⟨gs, ds, ks, hh, hgr, hd, hkr⟩ := h.head
  have c8 : w.cell? ⟨A.hb, 8, none⟩ = some (.map (some A.mb)) := by rw [cell_of_row w _ 8 _ _ _ hh]; rfl
  have hblt : A.hb < w.heap.size := h.lt (by simp [h.rh])
  have f15 : w.frozen? ⟨A.hb, 15, none⟩ = false := frozen_of_row w _ 15 _ _ hh
  obtain ⟨a, c, c15, hrow⟩ := h.weakAt
  obtain ⟨n, hn⟩ : ∃ n, n = s.weak.length := ⟨_, rfl⟩
  rw [← hn] at c15 hrow hwl ⊢
  obtain ⟨i0, hi, hz0, hz1, hz2⟩ := info_parts Try.info83
  have HR' : Hid (RowAt (w.alloc (.cells #[.pointer (some ⟨A.obj i, 0, none⟩)] 83)) ρ 7 83 (.slice a n c) (s.weak.map A.ptr)) := hrow.keep ((Ch.refl (M := fun _ => False) h.rho).alloc _) (by simp)
  have HP' : Hid (∀ k, (w.alloc (.cells #[.pointer (some ⟨A.obj i, 0, none⟩)] 83)).heap.size ≤ k → ρ k = 0) := fun k hk => h.rho k (by simp at hk; omega)
  have hlx : (s.weak.map A.ptr).length < 1000000000 := by rw [List.length_map]; omega
  have H1 := Lib.hid h
  have H2 := Lib.hid hh
  have H3 := Lib.hid hn
  have HI := Lib.hid hi
  have HZ0 := Lib.hid hz0
  have HZ1 := Lib.hid hz1
  have HZ2 := Lib.hid hz2
  have HLX := Lib.hid hlx
  have hwz : decide ((60000 : Int) ≤ (n : Int)) = false := by simp; omega
  have HWL := Lib.hid hwl
  have HGR := Lib.hid hgr
  have HDD := Lib.hid hd
  clear hwl
  clear h hk hlen hh hgr hd hkr hrow hn hi hz0 hz1 hz2 hat hkl hlx
  go_enter Try.func19, Try.ntmps19
  go_wp2_with (at_builtin; refine wpList_append_row rfl _ _ 42 rfl 83 i0 (.pointer none) Try.underlying42 HI.out HZ0.out HZ1.out HZ2.out rfl ρ 7 (.slice a n c) (s.weak.map A.ptr) rfl HR'.out HP'.out ⟨w.heap.size, 0, none⟩ 1 (.pointer (some ⟨A.obj i, 0, none⟩)) rfl ?_ rfl HLX.out ?_)
  · simp
  · intro v' w2 ρ' hr2 hc2 hx2
    obtain ⟨a', n', c', hv'⟩ := hr2.shape
    have hn' : n' = n + 1 := by
      rcases hr2 with ⟨_, e2⟩ | ⟨_, _, _, _, e2, _⟩
      · simp at e2
      · rw [hv'] at e2
        simp only [Value.slice.injEq, List.length_append, List.length_map, List.length_cons, List.length_nil] at e2
        rw [e2.2.1, ← H3.out]
    subst hv' hn'
    have k0 : w2.heap[A.hb]? = w.heap[A.hb]? := by rw [hc2.block A.hb (by simp; omega) (by rw [H1.out.rh]; decide)]; exact Below.heap_alloc _ _ _ hblt
    have k1 : w2.cell? ⟨A.hb, 15, none⟩ = some (.slice a n c) := by rw [World.cell?_of_block (w := w) k0]; exact c15
    have k2 : w2.frozen? ⟨A.hb, 15, none⟩ = false := by rw [World.frozen?_of_block (w := w) k0]; exact f15
    have k3 : A.hb < w2.heap.size := Nat.lt_of_lt_of_le hblt (Nat.le_trans (by simp) hc2.size)
    have hb1 : ρ' A.hb = 1 := (hc2.role A.hb (by simp; omega)).trans H1.out.rh
    have K0 := Lib.hid k0
    have K1 := Lib.hid hr2
    have K2 := Lib.hid hc2
    have K3 := Lib.hid hb1
    have hnb : n ≤ 1000000 := by have := HWL.out; omega
    clear k0 hr2 hc2 hx2 hb1 hlk c8 c15 f15
    go_wp2_with fail
    go_returns
    have c1 : Ch (fun r => r = 1 ∨ r = 7) ρ ρ' w w2 := ((Ch.refl H1.out.rho).alloc _).trans (K2.out.mono fun r hr => .inr hr)
    have c2 : Ch (fun r => r = 1) ρ' ρ' w2 (w2.setCell ⟨A.hb, 15, none⟩ (.slice a' (n + 1) c')) := (Ch.refl K2.out.fresh).setCell _ _ fun _ => K3.out
    have cc := c1.trans (c2.mono fun r hr => .inl hr)
    refine ⟨rfl, ρ', H1.out.turn (s' := s.addWeak i) cc (by decide) (by decide) rfl rfl ⟨gs, ds, .slice a' (n + 1) c', ?_, HGR.out.keep cc (by decide), ?_, ?_⟩ (H1.out.map.keep (cc.block _ H1.out.map.lt (by rw [H1.out.rm]; decide)))
      (H1.out.keepObjs cc (fun j _ => by omega)) (fun j o hj hd => ⟨o, hj, hd, rfl, rfl, rfl⟩), cc.mono fun r hr => by unfold Mine; omega⟩
    · rw [heap_setCell_same w2 A.hb 15 _ _ _ (K0.out.trans H2.out)]
      rfl
    · obtain ⟨da, h1, h2⟩ := HDD.out
      exact ⟨da, h1.keep cc (by decide), h2⟩
    · have := K1.out.keep c2 (by decide)
      simpa [S.addWeak, Ad.ptr] using this
end Go.Proofs.Ytfjgokbclgdfjaa

namespace Go.Proofs.Ytfjgokbclgdfjaa
open Go.RowKit HM

theorem wf_addWeak {s : S} (h : WF s) {i : Nat} (hi : i < s.objs.length) : WF (s.addWeak i) :=
  ⟨h.cur, h.ph, h.cursor, h.idle, h.busy, h.last, h.used, h.epo, h.hand, h.refs, h.shape, fun j hj => by
    rcases List.mem_append.1 hj with e | e
    · exact h.weak j e
    · simp at e; subst e; exact hi, h.greyN, h.greyE, h.loc, h.disj, h.bump, h.stay, h.room, h.tri, h.roots⟩

theorem gm_weak {w0 w : World} {ρ : Nat → Nat} {A : Ad} {s : S} (h : Gm w0 w ρ A s) {k i : Nat} (hk : s.handles[k]? = some (some i)) (hwl : s.weak.length < 60000) :
    Calls Try.prog 19 #[.pointer (some ⟨A.hb, 0, none⟩), .int .i64 k] w fun e w' => e = .returned (.tuple #[.int .i64 s.weak.length, .int .i64 0]) ∧ ∃ ρ', Gm w0 w' ρ' A (s.addWeak i) ∧ Ch Mine ρ ρ' w w' := by
  refine (weak_rep h.rep hk (by have := h.bd.hs; omega) hwl).mono ?_
  rintro e w' ⟨rfl, ρ', hr, hc⟩
  exact ⟨rfl, ρ', ⟨hr, wf_addWeak h.wf (Alive.lt (h.wf.hand k i hk)), ⟨h.bd.room, h.bd.hs, h.bd.os, h.bd.ep⟩, h.ph, h.ch.trans hc⟩, hc⟩

theorem gm_strong_freed {w0 w : World} {ρ : Nat → Nat} {A : Ad} {s : S} (h : Gm w0 w ρ A s) {k i : Nat} (hk : s.weak[k]? = some i) (hkl : s.weak.length ≤ 60000) {o : O} (ho : s.objs[i]? = some o) (hd : ¬ s.done ≤ o.epoch) :
    Calls Try.prog 22 #[.pointer (some ⟨A.hb, 0, none⟩), .int .i64 k] w fun e w' => e = .returned (.tuple #[.int .i64 0, .bool false, .int .i64 0]) ∧ Gm w0 w' ρ A s := by
  refine (strong_freed h.rep hk hkl ho hd).mono ?_
  rintro e w' ⟨rfl, n, rfl⟩
  exact ⟨rfl, h.drewN n⟩

theorem gm_strong_alive {w0 w : World} {ρ : Nat → Nat} {A : Ad} {s : S} (h : Gm w0 w ρ A s) (hhl : s.handles.length < 60000) {k i : Nat} (hk : s.weak[k]? = some i) (hkl : s.weak.length ≤ 60000) {o : O} (ho : s.objs[i]? = some o) (hd : s.done ≤ o.epoch) :
    Calls Try.prog 22 #[.pointer (some ⟨A.hb, 0, none⟩), .int .i64 k] w fun e w' => e = .returned (.tuple #[.int .i64 (slotOf s.handles), .bool true, .int .i64 0]) ∧ ∃ ρ', Gm w0 w' ρ' A (s.give i) ∧ Ch Mine ρ ρ' w w' := by
  refine (strong_alive h.rep hk hkl ho hd (by have := grey_bound h.wf; have := h.bd.os; omega) hhl).mono ?_
  rintro e w' ⟨rfl, ρ', hr, hc⟩
  exact ⟨rfl, ρ', h.given hhl ⟨o, ho, hd⟩ hr hc, hc⟩

theorem gm_step {w0 w : World} {ρ : Nat → Nat} {A : Ad} {s : S} (h : Gm w0 w ρ A s) :
    Calls Try.prog 21 #[.pointer (some ⟨A.hb, 0, none⟩)] w fun e w' => e = .returned (.bool s.step.2) ∧ ∃ ρ', Gm w0 w' ρ' A s.step.1 ∧ Ch Mine ρ ρ' w w' := by
  refine (step_rep h.rep h.wf h.bd h.ph).mono ?_
  rintro e w' ⟨rfl, ρ', hr, hc⟩
  obtain ⟨a1, a2, a3, a4, _⟩ := wf_step h.wf h.ph
  exact ⟨rfl, ρ', ⟨hr, a1, h.bd.same a3 (by rw [a4]; exact h.bd.ep), a2, h.ch.trans hc⟩, hc⟩

theorem gm_begin {w0 w : World} {ρ : Nat → Nat} {A : Ad} {s : S} (h : Gm w0 w ρ A s) (hp : s.phase = 0) (hep : s.epoch < 100000000) :
    Calls Try.prog 20 #[.pointer (some ⟨A.hb, 0, none⟩)] w fun e w' => e = .returned (.bool true) ∧ Gm w0 w' ρ A s.begin ∧ Ch Mine ρ ρ w w' := by
  refine (begin_rep h.rep h.wf.cur (by omega)).mono ?_
  rintro e w' ⟨rfl, hr, hc⟩
  have hcm : Ch Mine ρ ρ w w' := hc.mono fun r hr => by unfold Mine; omega
  have e1 : s.begin = { s with phase := 1, cursor := 0, epoch := s.epoch + 1, cur := 1 - s.cur, stay := s.bump, bump := 0 } := by unfold S.begin; rw [if_neg (by omega)]
  refine ⟨?_, ⟨hr, wf_begin h.wf, ?_, ?_, h.ch.trans hcm⟩, hcm⟩
  · first
      | rfl
      | (refine ret_bool ?_; simp [hp])
  · rw [e1]; exact ⟨h.bd.room, h.bd.hs, h.bd.os, by show s.epoch + 1 ≤ _; omega⟩
  · rw [e1]; show 1 ≤ 2; omega
end Go.Proofs.Ytfjgokbclgdfjaa

