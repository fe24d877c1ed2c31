/- Weak references. -/
import Derived.Test.YtfjgokbclgdfjaaGm
namespace Go.Proofs.Ytfjgokbclgdfjaa
open Go.RowKit HM

theorem Rep.weakAt {w : World} {ρ : Nat → Nat} {A : Ad} {s : S} (h : Rep w ρ A s) : ∃ a c, w.cell? ⟨A.hb, 15, none⟩ = some (.slice a s.weak.length c) ∧ RowAt w ρ 7 83 (.slice a s.weak.length c) (s.weak.map A.ptr) := by
  obtain ⟨gs, ds, ks, hh, hgr, hd, hk⟩ := h.head
  have hc : w.cell? ⟨A.hb, 15, none⟩ = some ks := by rw [cell_of_row w _ 15 _ _ _ hh]; rfl
  have h0 := hk
  rcases hk with ⟨rfl, hn⟩ | ⟨g, off, cap, cur, rfl, _⟩
  · have : s.weak = [] := by simpa using hn
    rw [this] at h0 ⊢
    exact ⟨none, 0, hc, h0⟩
  · exact ⟨_, cap, by simpa using hc, by simpa using h0⟩

set_option maxHeartbeats 800000 in
set_option maxRecDepth 20000 in
theorem strong_freed {w : World} {ρ : Nat → Nat} {A : Ad} {s : S} (h : Rep w ρ A s) {k i : Nat} (hk : s.weak[k]? = some i) (hkl : s.weak.length ≤ 60000) {o : O} (ho : s.objs[i]? = some o) (hd : ¬ s.done ≤ o.epoch) :
    Calls Try.prog 22 #[.pointer (some ⟨A.hb, 0, none⟩), .int .i64 k] w fun e w' => e = .returned (.tuple #[.int .i64 0, .bool false, .int .i64 0]) ∧ ∃ n, w' = w.drewN n := by
  obtain ⟨a, c, c15, hrow⟩ := h.weakAt
  have hlt : k < s.weak.length := (List.getElem?_eq_some_iff.1 hk).1
  obtain ⟨g, off, cap, hv, hr, hcap, hm, hc⟩ := hrow.cell (i := k) (x := A.ptr i) (by rw [List.getElem?_map, hk]; rfl)
  simp only [List.length_map, Value.slice.injEq] at hv
  obtain ⟨rfl, _, rfl⟩ := hv
  have ho1 := h.objs i o ho
  have o4 : w.cell? ⟨A.obj i, 4, none⟩ = some (.int .i64 o.epoch) := by rw [cell_of_row w _ 4 _ _ _ ho1]; rfl
  have c10 : w.cell? ⟨A.hb, 10, none⟩ = some (.int .i64 s.done) := by obtain ⟨gs, ds, ks, hh⟩ := h.hcell; rw [cell_of_row w _ 10 _ _ _ hh]; rfl
  have hfr := freed_any w A.hb (A.obj i) o.epoch s.done o4 c10
  have hfr' : ∀ n, Calls Try.prog 54 #[.pointer (some ⟨A.hb, 0, none⟩), .pointer (some ⟨A.obj i, 0, none⟩)] (w.drewN n) fun e w' => e = .returned (.bool true) ∧ ∃ k, w' = (w.drewN n).drewN k := fun n => by
    refine (freed_any (w.drewN n) A.hb (A.obj i) o.epoch s.done o4 c10).mono ?_
    rintro e w' ⟨rfl, k, rfl⟩
    exact ⟨ret_bool (by simp; omega), k, rfl⟩
  have hblt : A.hb < w.heap.size := h.lt (by simp [h.rh])
  obtain ⟨n, hn⟩ : ∃ n, n = s.weak.length := ⟨_, rfl⟩
  rw [← hn] at c15 hlt hkl
  have hltz : (k : Int) < (n : Int) := by omega
  unfold Ad.ptr at hc
  have HF := Lib.hid hfr'
  clear hfr hfr' h hrow hk ho hd ho1 hn
  go_enter Try.func22, Try.ntmps22
  go_wp2_with fail
  go_quiet ((go_at_call 54; exact Calls.quiet_of (HF.out _)))
  go_wp2_with fail
  go_returns
  exact ⟨rfl, _, rfl⟩

set_option maxHeartbeats 800000 in
set_option maxRecDepth 20000 in
theorem strong_alive {w : World} {ρ : Nat → Nat} {A : Ad} {s : S} (h : Rep w ρ A s) {k i : Nat} (hk : s.weak[k]? = some i) (hkl : s.weak.length ≤ 60000) {o : O} (ho : s.objs[i]? = some o) (hd : s.done ≤ o.epoch) (hg : s.grey.length < 1000000000) (hhl : s.handles.length < 60000) :
    Calls Try.prog 22 #[.pointer (some ⟨A.hb, 0, none⟩), .int .i64 k] w fun e w' => e = .returned (.tuple #[.int .i64 (slotOf s.handles), .bool true, .int .i64 0]) ∧ ∃ ρ', Rep w' ρ' A (s.give i) ∧ Ch Mine ρ ρ' w w' := by
  obtain ⟨a, c, c15, hrow⟩ := h.weakAt
  have hlt : k < s.weak.length := (List.getElem?_eq_some_iff.1 hk).1
  obtain ⟨g, off, cap, hv, hr, hcap, hm, hc⟩ := hrow.cell (i := k) (x := A.ptr i) (by rw [List.getElem?_map, hk]; rfl)
  simp only [List.length_map, Value.slice.injEq] at hv
  obtain ⟨rfl, _, rfl⟩ := hv
  have ho1 := h.objs i o ho
  have o4 : w.cell? ⟨A.obj i, 4, none⟩ = some (.int .i64 o.epoch) := by rw [cell_of_row w _ 4 _ _ _ ho1]; rfl
  have c10 : w.cell? ⟨A.hb, 10, none⟩ = some (.int .i64 s.done) := by obtain ⟨gs, ds, ks, hh⟩ := h.hcell; rw [cell_of_row w _ 10 _ _ _ hh]; rfl
  have hfr' : ∀ n, Calls Try.prog 54 #[.pointer (some ⟨A.hb, 0, none⟩), .pointer (some ⟨A.obj i, 0, none⟩)] (w.drewN n) fun e w' => e = .returned (.bool false) ∧ ∃ k, w' = (w.drewN n).drewN k := fun n => by
    refine (freed_any (w.drewN n) A.hb (A.obj i) o.epoch s.done o4 c10).mono ?_
    rintro e w' ⟨rfl, k, rfl⟩
    exact ⟨ret_bool (by simp; omega), k, rfl⟩
  have hblt : A.hb < w.heap.size := h.lt (by simp [h.rh])
  obtain ⟨n, hn⟩ : ∃ n, n = s.weak.length := ⟨_, rfl⟩
  rw [← hn] at c15 hlt hkl
  have hltz : (k : Int) < (n : Int) := by omega
  unfold Ad.ptr at hc
  have HF := Lib.hid hfr'
  have HR := Lib.hid h
  have HO := Lib.hid ho
  have HD := Lib.hid hd
  have HG := Lib.hid hg
  have HL := Lib.hid hhl
  clear hfr' h hrow hk ho hd ho1 hn hg hhl
  go_enter Try.func22, Try.ntmps22
  go_wp2_with fail
  go_quiet ((go_at_call 54; exact Calls.quiet_of (HF.out _)))
  go_wp2_with fail
  refine (full_rep (HR.out.drewN _) HL.out).mono ?_
  rintro e w2 ⟨rfl, rfl⟩
  go_wp2_with fail
  refine (handle_rep (HR.out.drewN _) HO.out HD.out HG.out (by have := HL.out; omega)).mono ?_
  rintro e w3 ⟨rfl, ρ3, hr3, hc3⟩
  have G1 := Lib.hid hr3
  have G2 := Lib.hid hc3
  obtain ⟨nn, hnn⟩ : ∃ nn : Nat, nn = slotOf s.handles := ⟨_, rfl⟩
  rw [← hnn]
  have G3 := Lib.hid hnn
  clear hr3 hc3 hnn
  go_wp2_with fail
  go_returns
  exact ⟨by rw [← G3.out]; rfl, ρ3, G1.out, ((Ch.refl HR.out.rho).drewN _).trans G2.out⟩
end Go.Proofs.Ytfjgokbclgdfjaa
