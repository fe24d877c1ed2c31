/- Weak. -/
import Derived.Test.YtfjgokbclgdfjaaWk
namespace Go.Proofs.Ytfjgokbclgdfjaa
open Go.RowKit HM

namespace HM
def S.addWeak (s : S) (i : Nat) : S := { s with weak := s.weak ++ [i] }
end HM

set_option maxHeartbeats 800000 in
set_option maxRecDepth 20000 in
theorem weak_rep {w : World} {ρ : Nat → Nat} {A : Ad} {s : S} (h : Rep w ρ A s) {k i : Nat} (hk : s.handles[k]? = some (some i)) (hlen : s.handles.length < 100000000) (hwl : s.weak.length < 60000) :
    Calls Try.prog 19 #[.pointer (some ⟨A.hb, 0, none⟩), .int .i64 k] w fun e w' => e = .returned (.tuple #[.int .i64 s.weak.length, .int .i64 0]) ∧ ∃ ρ', Rep w' ρ' A (s.addWeak i) ∧ Ch Mine ρ ρ' w w' := by
  have hkl : k < s.handles.length := (List.getElem?_eq_some_iff.1 hk).1
  have hlk := run_lookup h.map k (by omega)
  have hat : atH s.handles k = some i := by rw [atH_nat]; simp [List.getD, hk]
  rw [hat] at hlk
  simp only [found, Ad.ptr] at hlk
  obtain ⟨gs, ds, ks, hh, hgr, hd, hkr⟩ := h.head
  have c8 : w.cell? ⟨A.hb, 8, none⟩ = some (.map (some A.mb)) := by rw [cell_of_row w _ 8 _ _ _ hh]; rfl
  have hblt : A.hb < w.heap.size := h.lt (by simp [h.rh])
  have f15 : w.frozen? ⟨A.hb, 15, none⟩ = false := frozen_of_row w _ 15 _ _ hh
  obtain ⟨a, c, c15, hrow⟩ := h.weakAt
  obtain ⟨n, hn⟩ : ∃ n, n = s.weak.length := ⟨_, rfl⟩
  rw [← hn] at c15 hrow hwl ⊢
  obtain ⟨i0, hi, hz0, hz1, hz2⟩ := info_parts Try.info83
  have HR' : Hid (RowAt (w.alloc (.cells #[.pointer (some ⟨A.obj i, 0, none⟩)] 83)) ρ 7 83 (.slice a n c) (s.weak.map A.ptr)) := hrow.keep ((Ch.refl (M := fun _ => False) h.rho).alloc _) (by simp)
  have HP' : Hid (∀ k, (w.alloc (.cells #[.pointer (some ⟨A.obj i, 0, none⟩)] 83)).heap.size ≤ k → ρ k = 0) := fun k hk => h.rho k (by simp at hk; omega)
  have hlx : (s.weak.map A.ptr).length < 1000000000 := by rw [List.length_map]; omega
  have H1 := Lib.hid h
  have H2 := Lib.hid hh
  have H3 := Lib.hid hn
  have HI := Lib.hid hi
  have HZ0 := Lib.hid hz0
  have HZ1 := Lib.hid hz1
  have HZ2 := Lib.hid hz2
  have HLX := Lib.hid hlx
  have hwz : decide ((60000 : Int) ≤ (n : Int)) = false := by simp; omega
  have HWL := Lib.hid hwl
  have HGR := Lib.hid hgr
  have HDD := Lib.hid hd
  clear hwl
  clear h hk hlen hh hgr hd hkr hrow hn hi hz0 hz1 hz2 hat hkl hlx
  go_enter Try.func19, Try.ntmps19
  go_wp2_with (at_builtin; refine wpList_append_row rfl _ _ 42 rfl 83 i0 (.pointer none) Try.underlying42 HI.out HZ0.out HZ1.out HZ2.out rfl ρ 7 (.slice a n c) (s.weak.map A.ptr) rfl HR'.out HP'.out ⟨w.heap.size, 0, none⟩ 1 (.pointer (some ⟨A.obj i, 0, none⟩)) rfl ?_ rfl HLX.out ?_)
  · simp
  · intro v' w2 ρ' hr2 hc2 hx2
    obtain ⟨a', n', c', hv'⟩ := hr2.shape
    have hn' : n' = n + 1 := by
      rcases hr2 with ⟨_, e2⟩ | ⟨_, _, _, _, e2, _⟩
      · simp at e2
      · rw [hv'] at e2
        simp only [Value.slice.injEq, List.length_append, List.length_map, List.length_cons, List.length_nil] at e2
        rw [e2.2.1, ← H3.out]
    subst hv' hn'
    have k0 : w2.heap[A.hb]? = w.heap[A.hb]? := by rw [hc2.block A.hb (by simp; omega) (by rw [H1.out.rh]; decide)]; exact Below.heap_alloc _ _ _ hblt
    have k1 : w2.cell? ⟨A.hb, 15, none⟩ = some (.slice a n c) := by rw [World.cell?_of_block (w := w) k0]; exact c15
    have k2 : w2.frozen? ⟨A.hb, 15, none⟩ = false := by rw [World.frozen?_of_block (w := w) k0]; exact f15
    have k3 : A.hb < w2.heap.size := Nat.lt_of_lt_of_le hblt (Nat.le_trans (by simp) hc2.size)
    have hb1 : ρ' A.hb = 1 := (hc2.role A.hb (by simp; omega)).trans H1.out.rh
    have K0 := Lib.hid k0
    have K1 := Lib.hid hr2
    have K2 := Lib.hid hc2
    have K3 := Lib.hid hb1
    have hnb : n ≤ 1000000 := by have := HWL.out; omega
    clear k0 hr2 hc2 hx2 hb1 hlk c8 c15 f15
    go_wp2_with fail
    go_returns
    have c1 : Ch (fun r => r = 1 ∨ r = 7) ρ ρ' w w2 := ((Ch.refl H1.out.rho).alloc _).trans (K2.out.mono fun r hr => .inr hr)
    have c2 : Ch (fun r => r = 1) ρ' ρ' w2 (w2.setCell ⟨A.hb, 15, none⟩ (.slice a' (n + 1) c')) := (Ch.refl K2.out.fresh).setCell _ _ fun _ => K3.out
    have cc := c1.trans (c2.mono fun r hr => .inl hr)
    refine ⟨rfl, ρ', H1.out.turn (s' := s.addWeak i) cc (by decide) (by decide) rfl rfl ⟨gs, ds, .slice a' (n + 1) c', ?_, HGR.out.keep cc (by decide), ?_, ?_⟩ (H1.out.map.keep (cc.block _ H1.out.map.lt (by rw [H1.out.rm]; decide)))
      (H1.out.keepObjs cc (fun j _ => by omega)) (fun j o hj hd => ⟨o, hj, hd, rfl, rfl, rfl⟩), cc.mono fun r hr => by unfold Mine; omega⟩
    · rw [heap_setCell_same w2 A.hb 15 _ _ _ (K0.out.trans H2.out)]
      rfl
    · obtain ⟨da, h1, h2⟩ := HDD.out
      exact ⟨da, h1.keep cc (by decide), h2⟩
    · have := K1.out.keep c2 (by decide)
      simpa [S.addWeak, Ad.ptr] using this
end Go.Proofs.Ytfjgokbclgdfjaa
