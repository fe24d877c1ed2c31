/- Get. -/
import Derived.Test.YtfjgokbclgdfjaaU
set_option linter.unusedSimpArgs false
set_option linter.unusedVariables false
namespace Go.Proofs.Ytfjgokbclgdfjaa
open Go.RowKit HM

set_option maxRecDepth 20000 in
set_option maxHeartbeats 2000000 in
theorem get_gen {w : World} {ρ : Nat → Nat} {A : Ad} {s s' : S} (h : Rep w ρ A s) {k i : Nat} (hk : s.handles[k]? = some (some i)) (hlen : s.handles.length < 100000000) {o : O} (ho : s.objs[i]? = some o) (hod : s.done ≤ o.epoch) (ht : o.tag = -1) (hb : o.size ≤ 17)
    (hsp : o.space ≤ 1) (hfit : o.place + o.size ≤ s.room) (hroom : s.room ≤ 60000) {x : W} (hx : o.ws[1]? = some x) (y : Int) (p : Option Addr) (hy : y = wnum x) (hp : Value.pointer p = wptr A x) (r : Bool) (n : Int)
    (hcall : ∀ w1, Ch (fun _ => False) ρ ρ w w1 → Calls Try.prog 58 #[.pointer (some ⟨A.hb, 0, none⟩), .agg #[.int .i64 y, .pointer p]] w1 fun e w' => e = .returned (.tuple #[slotV r n, .int .i64 0]) ∧ ∃ ρ', Rep w' ρ' A s' ∧ Ch Mine ρ ρ' w1 w') :
    Calls Try.prog 45 #[.pointer (some ⟨A.hb, 0, none⟩), .int .i64 k] w fun e w' => e = .returned (.tuple #[slotV r n, .int .i64 0]) ∧ ∃ ρ', Rep w' ρ' A s' ∧ Ch Mine ρ ρ' w w' := by
  have hkl : k < s.handles.length := (List.getElem?_eq_some_iff.1 hk).1
  have hlk : ∀ o1, (Instr.lookup 41 (.map (some A.mb)) (.int .i64 k) true).run Try.prog (w.alloc o1) = .ok (.tuple #[.pointer (some ⟨A.obj i, 0, none⟩), .bool true]) (w.alloc o1) := fun o1 => by
    have := run_lookup (h.alloc o1).map k (by omega)
    have hat : atH s.handles k = some i := by rw [atH_nat]; simp [List.getD, hk]
    rw [hat] at this
    exact this
  have c8 : w.cell? ⟨A.hb, 8, none⟩ = some (.map (some A.mb)) := by obtain ⟨gs, ds, ks, hh⟩ := h.hcell; rw [cell_of_row w _ 8 _ _ _ hh]; rfl
  have hblt : A.hb < w.heap.size := h.lt (by simp [h.rh])
  have ho1 := h.objs i o ho
  have o0 : w.cell? ⟨A.obj i, 0, none⟩ = some (.int .i64 o.tag) := by rw [cell_of_row w _ 0 _ _ _ ho1]; rfl
  have o1 : w.cell? ⟨A.obj i, 1, none⟩ = some (.int .i64 o.size) := by rw [cell_of_row w _ 1 _ _ _ ho1]; rfl
  have o2 : w.cell? ⟨A.obj i, 2, none⟩ = some (.int .i64 o.space) := by rw [cell_of_row w _ 2 _ _ _ ho1]; rfl
  have o3 : w.cell? ⟨A.obj i, 3, none⟩ = some (.int .i64 o.place) := by rw [cell_of_row w _ 3 _ _ _ ho1]; rfl
  have hoblt : A.obj i < w.heap.size := (Array.getElem?_eq_some_iff.1 ho1).1
  have hjs : 1 < o.size := (List.getElem?_eq_some_iff.1 hx).1
  have h0 := h.alloc (.cells #[.bool false, .int .i64 0] 32)
  have hob0 := h0.objs i o ho
  have hwd := words_any (w.alloc (.cells #[.bool false, .int .i64 0] 32)) A.hb (A.obj i) (A.sp o.space) o.space o.place o.size s.room hsp
    (by rw [cell_of_row _ _ 1 _ _ _ hob0]; rfl) (by rw [cell_of_row _ _ 2 _ _ _ hob0]; rfl) (by rw [cell_of_row _ _ 3 _ _ _ hob0]; rfl) (h0.spCell hsp) (by omega) hfit (by omega)
  obtain ⟨x0, x1⟩ := h.words i o ho hod 1 x hx
  rw [← hy] at x0
  rw [← hp] at x1
  have y0 : w.cell? ⟨A.sp o.space, o.place * 2 + 2, none⟩ = some (.int .i64 y) := by rw [← x0]; congr 2; omega
  have y1 : w.cell? ⟨A.sp o.space, o.place * 2 + 2 + 1, none⟩ = some (.pointer p) := by rw [← x1]; congr 2; omega
  have hspb : A.sp o.space < w.heap.size := World.block_lt_of_cell? w _ y0
  have G1 := Lib.hid h
  have G2 := Lib.hid hcall
  have G3 := Lib.hid hwd
  clear h hk hlen ho hod hcall hwd x0 x1 hx hy hp h0 hob0 ho1 o2 o3 hkl hfit hroom
  obtain ⟨z, hz⟩ : ∃ z : Nat, z = o.size := ⟨_, rfl⟩
  rw [← hz] at o1 hb hjs G3
  obtain ⟨tg, htg⟩ : ∃ t : Int, t = o.tag := ⟨_, rfl⟩
  rw [← htg] at o0 ht
  subst ht
  generalize A.obj i = ob at *
  generalize A.sp o.space = sb at *
  generalize o.place = pl at *
  generalize s.room - pl = rr at *
  clear hz
  go_enter Try.func45, Try.ntmps45
  go_wp2_with fail
  refine (G3.out).mono ?_
  rintro e w1 ⟨rfl, q, rfl⟩
  go_wp2_with fail
  have hcw : Ch (fun _ => False) ρ ρ w ((w.alloc (.cells #[.bool false, .int .i64 0] 32)).drewN q) := ((Ch.refl G1.out.rho).alloc _).drewN q
  refine (G2.out _ hcw).mono ?_
  rintro e w2 ⟨rfl, ρ2, hr2, hc2⟩
  have hro : ρ w.heap.size = 0 := G1.out.rho _ (Nat.le_refl _)
  have hb2 : w2.heap[w.heap.size]? = some (.cells #[.bool false, .int .i64 0] 32 (0, 0)) := by
    rw [hc2.block w.heap.size (by show w.heap.size < (w.alloc _).heap.size; simp) (by rw [hro]; simp [Mine])]
    exact heap_alloc_new w _
  have k0 : w2.cell? ⟨w.heap.size, 0, none⟩ = some (.bool false) := by rw [cell_of_row w2 _ 0 _ _ _ hb2]; rfl
  have k1 : w2.cell? ⟨w.heap.size, 1, none⟩ = some (.int .i64 0) := by rw [cell_of_row w2 _ 1 _ _ _ hb2]; rfl
  have k2 : w2.frozen? ⟨w.heap.size, 0, none⟩ = false := frozen_of_row w2 _ 0 _ _ hb2
  have k3 : w2.frozen? ⟨w.heap.size, 1, none⟩ = false := frozen_of_row w2 _ 1 _ _ hb2
  have k4 : w.heap.size < w2.heap.size := (Array.getElem?_eq_some_iff.1 hb2).1
  have hro2 : ρ2 w.heap.size = 0 := (hc2.role _ (by show w.heap.size < (w.alloc _).heap.size; simp)).trans hro
  obtain ⟨p1, p2, p3, p4⟩ := pair_set hb2 (.bool r) (.int .i64 n)
  have L1 := Lib.hid hr2
  have L2 := Lib.hid hc2
  have L3 := Lib.hid hro2
  have L4 := Lib.hid hcw
  clear hr2 hc2 hro hro2 hb2 hcw y0 y1 o0 o1 c8 hlk
  unfold slotV
  go_wp2_with fail
  refine bodyPost_ret (v := .tuple #[slotV r n, .int .i64 0]) (by rw [results_cell_tmp rfl]; simp [asAddr, load32 p3 p4]) rfl ?_
  refine ⟨rfl, ρ2, (L1.out.local _ L3.out).local _ L3.out, ?_⟩
  exact ((((L4.out.mono fun r hr => hr.elim).trans L2.out).setCell _ _ fun hb => absurd hb (by simp)).setCell _ _ fun hb => absurd hb (by simp))
end Go.Proofs.Ytfjgokbclgdfjaa
