/- Begin, Used, Cycles, full, barrier. -/
import Derived.Test.YtfjgokbclgdfjaaB
set_option linter.unusedSimpArgs false
set_option linter.unusedVariables false
namespace Go.Proofs.Ytfjgokbclgdfjaa
open Go.RowKit HM

theorem ret_bool {a b : Bool} (h : a = b) : Ending.returned (.bool a) = Ending.returned (.bool b) := by rw [h]
theorem ret_int {k : IntKind} {a b : Int} (h : a = b) : Ending.returned (.int k a) = Ending.returned (.int k b) := by rw [h]

theorem used_rep {w : World} {ρ : Nat → Nat} {A : Ad} {s : S} (h : Rep w ρ A s) :
    Calls Try.prog 24 #[.pointer (some ⟨A.hb, 0, none⟩)] w fun e w' => e = .returned (.int .i64 s.used) ∧ w = w' := by
  obtain ⟨gs, ds, ks, hh⟩ := h.hcell
  have h1 : w.cell? ⟨A.hb, 4, none⟩ = some (.int .i64 s.used) := by rw [cell_of_row w _ 4 _ _ _ hh]; rfl
  clear hh h
  go_enter Try.func24, Try.ntmps24
  go_wp2
  go_ret
  exact ⟨rfl, rfl⟩

theorem cycles_rep {w : World} {ρ : Nat → Nat} {A : Ad} {s : S} (h : Rep w ρ A s) :
    Calls Try.prog 40 #[.pointer (some ⟨A.hb, 0, none⟩)] w fun e w' => e = .returned (.int .i64 s.done) ∧ w = w' := by
  obtain ⟨gs, ds, ks, hh⟩ := h.hcell
  have h1 : w.cell? ⟨A.hb, 10, none⟩ = some (.int .i64 s.done) := by rw [cell_of_row w _ 10 _ _ _ hh]; rfl
  clear hh h
  go_enter Try.func40, Try.ntmps40
  go_wp2
  go_ret
  exact ⟨rfl, rfl⟩

theorem begin_busy {w : World} (b : Nat) (p : Int) (h1 : w.cell? ⟨b, 11, none⟩ = some (.int .i64 p)) (hp : 0 < p) :
    Calls Try.prog 20 #[.pointer (some ⟨b, 0, none⟩)] w fun e w' => e = .returned (.bool false) ∧ w = w' := by
  go_enter Try.func20, Try.ntmps20
  go_wp2
  go_ret
  exact ⟨rfl, rfl⟩

theorem begin_idle {w : World} (b : Nat) (c11 c12 c6 : Value) (ep cur bump : Int) (h11 : w.cell? ⟨b, 11, none⟩ = some (.int .i64 0)) (h12 : w.cell? ⟨b, 12, none⟩ = some c12) (h9 : w.cell? ⟨b, 9, none⟩ = some (.int .i64 ep))
    (h3 : w.cell? ⟨b, 3, none⟩ = some (.int .i64 cur)) (h5 : w.cell? ⟨b, 5, none⟩ = some (.int .i64 bump)) (h6 : w.cell? ⟨b, 6, none⟩ = some c6) (f : ∀ o, w.frozen? ⟨b, o, none⟩ = false)
    (b1 : 0 ≤ ep) (b2 : ep ≤ 1000000000) (b3 : 0 ≤ cur) (b4 : cur ≤ 1) :
    Calls Try.prog 20 #[.pointer (some ⟨b, 0, none⟩)] w fun e w' => e = .returned (.bool true) ∧
      w' = (((((w.setCell ⟨b, 11, none⟩ (.int .i64 1)).setCell ⟨b, 12, none⟩ (.int .i64 0)).setCell ⟨b, 9, none⟩ (.int .i64 (ep + 1))).setCell ⟨b, 3, none⟩ (.int .i64 (1 - cur))).setCell ⟨b, 6, none⟩ (.int .i64 bump)).setCell ⟨b, 5, none⟩ (.int .i64 0) := by
  go_enter Try.func20, Try.ntmps20
  go_wp2
  go_ret
  exact ⟨rfl, rfl⟩

theorem begin_rep {w : World} {ρ : Nat → Nat} {A : Ad} {s : S} (h : Rep w ρ A s) (hcur : s.cur ≤ 1) (hep : s.epoch ≤ 1000000000) :
    Calls Try.prog 20 #[.pointer (some ⟨A.hb, 0, none⟩)] w fun e w' => e = .returned (.bool (decide (s.phase = 0))) ∧ Rep w' ρ A s.begin ∧ Ch (· = 1) ρ ρ w w' := by
  obtain ⟨gs, ds, ks, hh, hgr, hdr, hk⟩ := h.head
  unfold S.begin
  by_cases hp : s.phase = 0
  · rw [if_neg (by omega)]
    refine (begin_idle A.hb (.int .i64 0) (.int .i64 s.cursor) (.int .i64 s.stay) s.epoch s.cur s.bump ?_ ?_ ?_ ?_ ?_ ?_ (fun j => frozen_of_row w _ j _ _ hh) (by omega) (by omega) (by omega) (by omega)).mono ?_
    · rw [cell_of_row w _ 11 _ _ _ hh]; simp [hcells, hp]
    · rw [cell_of_row w _ 12 _ _ _ hh]; rfl
    · rw [cell_of_row w _ 9 _ _ _ hh]; rfl
    · rw [cell_of_row w _ 3 _ _ _ hh]; rfl
    · rw [cell_of_row w _ 5 _ _ _ hh]; rfl
    · rw [cell_of_row w _ 6 _ _ _ hh]; rfl
    rintro e w' ⟨rfl, rfl⟩
    have c : Ch (· = 1) ρ ρ w ((((((w.setCell ⟨A.hb, 11, none⟩ (.int .i64 1)).setCell ⟨A.hb, 12, none⟩ (.int .i64 0)).setCell ⟨A.hb, 9, none⟩ (.int .i64 (s.epoch + 1))).setCell ⟨A.hb, 3, none⟩ (.int .i64 (1 - s.cur))).setCell ⟨A.hb, 6, none⟩ (.int .i64 s.bump)).setCell ⟨A.hb, 5, none⟩ (.int .i64 0)) :=
      ((((((Ch.refl h.rho).setCell _ _ fun _ => h.rh).setCell _ _ fun _ => h.rh).setCell _ _ fun _ => h.rh).setCell _ _ fun _ => h.rh).setCell _ _ fun _ => h.rh).setCell _ _ fun _ => h.rh
    obtain ⟨da, hd, hdrops⟩ := hdr
    refine ⟨by simp [hp], h.turn c (by decide) (by decide) rfl rfl ⟨gs, ds, ks, ?_, hgr.keep c (by decide), ⟨da, hd.keep c (by decide), hdrops⟩, hk.keep c (by decide)⟩
      (h.map.keep (c.block _ h.map.lt (by rw [h.rm]; decide))) (fun j o hj => ?_) (fun j o hj hd => ⟨o, hj, hd, rfl, rfl, rfl⟩), c⟩
    · have := heap_setCell_same _ A.hb 5 _ _ (.int .i64 0) (heap_setCell_same _ A.hb 6 _ _ (.int .i64 s.bump) (heap_setCell_same _ A.hb 3 _ _ (.int .i64 (1 - s.cur)) (heap_setCell_same _ A.hb 9 _ _ (.int .i64 (s.epoch + 1)) (heap_setCell_same _ A.hb 12 _ _ (.int .i64 0) (heap_setCell_same w A.hb 11 _ _ (.int .i64 1) hh)))))
      rw [this]
      simp [hcells]
      omega
    · have hjl : j < s.objs.length := (List.getElem?_eq_some_iff.1 hj).1
      rw [c.block _ (h.lt (by rw [h.ro j hjl]; omega)) (by rw [h.ro j hjl]; omega)]
      exact h.objs j o hj
  · rw [if_pos (by omega)]
    refine (begin_busy A.hb s.phase ?_ (by omega)).mono ?_
    · rw [cell_of_row w _ 11 _ _ _ hh]; rfl
    rintro e w' ⟨rfl, rfl⟩
    exact ⟨by simp [hp], h, Ch.refl h.rho⟩

/-- 'full' where there are few handles. -/
theorem full_rep {w : World} {ρ : Nat → Nat} {A : Ad} {s : S} (h : Rep w ρ A s) (hf : s.handles.length < 60000) :
    Calls Try.prog 55 #[.pointer (some ⟨A.hb, 0, none⟩)] w fun e w' => e = .returned (.bool false) ∧ w = w' := by
  obtain ⟨gs, ds, ks, hh⟩ := h.hcell
  have h1 : w.cell? ⟨A.hb, 8, none⟩ = some (.map (some A.mb)) := by rw [cell_of_row w _ 8 _ _ _ hh]; rfl
  obtain ⟨D, hD, hsz, _⟩ := h.map
  have hlen := hD.len Try.underlying41 3
  have hle : ((s.handles.filter Option.isSome).length : Int) < 60000 := by have := List.length_filter_le Option.isSome s.handles; omega
  rw [hsz] at hlen
  generalize hn : ((s.handles.filter Option.isSome).length) = n at *
  clear hh h hD hsz hn
  go_enter Try.func55, Try.ntmps55
  go_wp2
  go_ret
  exact ⟨ret_bool (by simp; omega), rfl⟩

theorem barrier_any {w : World} {R : Ending → World → Prop} (b : Nat) (n : Int) (p : Value) (hp : p.oneCell' = true)
    (hc : ∀ w1, w1 = w.alloc (.cells #[.int .i64 n, p] 85) → Calls Try.prog 80 #[.pointer (some ⟨b, 0, none⟩), p] w1 fun e w' => e = .returned (.tuple #[]) ∧ R (.returned (.tuple #[])) w') :
    Calls Try.prog 77 #[.pointer (some ⟨b, 0, none⟩), .agg #[.int .i64 n, p]] w R := by
  have HC := Lib.hid hc
  clear hc
  go_enter Try.func77, Try.ntmps77
  go_wp2_with (go_at_call 80; refine (HC.out _ rfl).mono ?_; rintro e w' ⟨rfl, hr⟩)
  go_end0
  exact hr

end Go.Proofs.Ytfjgokbclgdfjaa
