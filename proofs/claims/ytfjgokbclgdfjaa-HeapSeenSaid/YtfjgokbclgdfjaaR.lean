/- word, slot, num, ref. -/
import Derived.Test.YtfjgokbclgdfjaaQ
import Derived.Test.YtfjgokbclgdfjaaC
import Derived.Handy
import Derived.Laws.ResultCell
set_option linter.unusedSimpArgs false
set_option linter.unusedVariables false
namespace Go.Proofs.Ytfjgokbclgdfjaa
open Go.RowKit HM

def slotV (r : Bool) (n : Int) : Value := .agg #[.bool r, .int .i64 n]

theorem num_any {w : World} {ρ : Nat → Nat} (hρ : ∀ k, w.heap.size ≤ k → ρ k = 0) (n : Int) :
    Calls Try.prog 15 #[.int .i64 n] w fun e w' => e = .returned (slotV false n) ∧ Ch (fun _ => False) ρ ρ w w' := by
  have HR := Lib.hid hρ
  clear hρ
  go_enter Try.func15, Try.ntmps15
  go_wp2_with fail
  go_returns
  exact ⟨rfl, (Ch.refl HR.out).alloc _⟩

theorem ref_any {w : World} {ρ : Nat → Nat} (hρ : ∀ k, w.heap.size ≤ k → ρ k = 0) (n : Int) :
    Calls Try.prog 16 #[.int .i64 n] w fun e w' => e = .returned (slotV true n) ∧ Ch (fun _ => False) ρ ρ w w' := by
  have HR := Lib.hid hρ
  clear hρ
  go_enter Try.func16, Try.ntmps16
  go_wp2_with fail
  go_returns
  exact ⟨rfl, (Ch.refl HR.out).alloc _⟩

theorem word_num {w : World} {ρ : Nat → Nat} (hρ : ∀ k, w.heap.size ≤ k → ρ k = 0) (p : Value) (n : Int) :
    Calls Try.prog 48 #[p, slotV false n] w fun e w' => e = .returned (.tuple #[.agg #[.int .i64 n, .pointer none], .bool true]) ∧ Ch (fun _ => False) ρ ρ w w' := by
  have HR := Lib.hid hρ
  clear hρ
  unfold slotV
  go_enter Try.func48, Try.ntmps48
  go_wp2_with fail
  go_returns
  exact ⟨rfl, ((Ch.refl HR.out).alloc _).alloc _⟩

theorem word_ref {w : World} {ρ : Nat → Nat} {A : Ad} {s : S} (h : Rep w ρ A s) (n : Int) (hn : -9223372036854775808 ≤ n ∧ n ≤ 9223372036854775807) :
    Calls Try.prog 48 #[.pointer (some ⟨A.hb, 0, none⟩), slotV true n] w fun e w' =>
      e = .returned (match atH s.handles n with | some i => .tuple #[.agg #[.int .i64 0, A.ptr i], .bool true] | none => .tuple #[.agg #[.int .i64 0, .pointer none], .bool false]) ∧ Ch (fun _ => False) ρ ρ w w' := by
  obtain ⟨gs, ds, ks, hh⟩ := h.hcell
  have c8 : w.cell? ⟨A.hb, 8, none⟩ = some (.map (some A.mb)) := by rw [cell_of_row w _ 8 _ _ _ hh]; rfl
  have hblt : A.hb < w.heap.size := h.lt (by simp [h.rh])
  have HR := Lib.hid h
  unfold slotV
  cases hx : atH s.handles n with
  | none =>
    have hlk : ∀ (o1 o2 : Obj) (k : Nat), (Instr.lookup 41 (.map (some A.mb)) (.int .i64 n) true).run Try.prog ((((w.alloc o1).alloc o2)).drewN k) = .ok (.tuple #[.pointer none, .bool false]) ((((w.alloc o1).alloc o2)).drewN k) := fun o1 o2 k => by
      have := run_lookup (((h.alloc o1).alloc o2).drewN k).map n hn
      rw [hx] at this
      exact this
    clear h hh hx
    go_enter Try.func48, Try.ntmps48
    go_wp2
    go_quiet (fail)
    go_wp2
    go_returns
    exact ⟨rfl, (((((Ch.refl HR.out.rho).alloc _).alloc _).drewN _).setCell _ _ fun hb => absurd hb (by simp)).setCell _ _ fun hb => absurd hb (by simp)⟩
  | some i =>
    have hlk : ∀ (o1 o2 : Obj) (k : Nat), (Instr.lookup 41 (.map (some A.mb)) (.int .i64 n) true).run Try.prog ((((w.alloc o1).alloc o2)).drewN k) = .ok (.tuple #[.pointer (some ⟨A.obj i, 0, none⟩), .bool true]) ((((w.alloc o1).alloc o2)).drewN k) := fun o1 o2 k => by
      have := run_lookup (((h.alloc o1).alloc o2).drewN k).map n hn
      rw [hx] at this
      exact this
    unfold Ad.ptr
    clear h hh hx
    go_enter Try.func48, Try.ntmps48
    go_wp2
    go_quiet (fail)
    go_wp2
    go_returns
    exact ⟨rfl, (((((Ch.refl HR.out.rho).alloc _).alloc _).drewN _).setCell _ _ fun hb => absurd hb (by simp)).setCell _ _ fun hb => absurd hb (by simp)⟩

/-- A block that is none of ours is written. -/
theorem Rep.local {w : World} {ρ : Nat → Nat} {A : Ad} {s : S} (h : Rep w ρ A s) {b off : Nat} (v : Value) (hb : ρ b = 0) : Rep (w.setCell ⟨b, off, none⟩ v) ρ A s :=
  h.frame ((Ch.refl (M := (· = 0)) h.rho).setCell _ _ fun _ => hb) (fun _ h => h)

theorem load32 {w : World} {b : Nat} {r : Bool} {n : Int} (h0 : w.cell? ⟨b, 0, none⟩ = some (.bool r)) (h1 : w.cell? ⟨b, 1, none⟩ = some (.int .i64 n)) : (loadVar 32 ⟨b, 0, none⟩).run Try.prog w = .ok (slotV r n) w := by
  simp [loadVar, go_sem, h0, h1, slotV]

/-- A block of two cells is written. -/
theorem pair_set {w : World} {b : Nat} {x y : Value} {T : TypeId} (h : w.heap[b]? = some (.cells #[x, y] T (0, 0))) (u v : Value) :
    (w.setCell ⟨b, 0, none⟩ u).cell? ⟨b, 0, none⟩ = some u ∧ (w.setCell ⟨b, 0, none⟩ u).cell? ⟨b, 1, none⟩ = some y ∧ ((w.setCell ⟨b, 0, none⟩ u).setCell ⟨b, 1, none⟩ v).cell? ⟨b, 0, none⟩ = some u ∧
      ((w.setCell ⟨b, 0, none⟩ u).setCell ⟨b, 1, none⟩ v).cell? ⟨b, 1, none⟩ = some v := by
  have h1 := heap_setCell_same w b 0 _ _ u h
  have h2 := heap_setCell_same (w.setCell ⟨b, 0, none⟩ u) b 1 _ _ v h1
  exact ⟨by rw [cell_of_row _ _ 0 _ _ _ h1]; rfl, by rw [cell_of_row _ _ 1 _ _ _ h1]; rfl, by rw [cell_of_row _ _ 0 _ _ _ h2]; rfl, by rw [cell_of_row _ _ 1 _ _ _ h2]; rfl⟩

/-- What a slot answers: an integer. -/
theorem slot_num {w : World} {ρ : Nat → Nat} (hρ : ∀ k, w.heap.size ≤ k → ρ k = 0) (p : Value) (n : Int) :
    Calls Try.prog 58 #[p, .agg #[.int .i64 n, .pointer none]] w fun e w' => e = .returned (.tuple #[slotV false n, .int .i64 0]) ∧ Ch (fun _ => False) ρ ρ w w' := by
  have HR := Lib.hid hρ
  clear hρ
  unfold slotV
  go_enter Try.func58, Try.ntmps58
  go_wp2_with fail
  go_returns
  exact ⟨rfl, (((Ch.refl HR.out).alloc _).alloc _)⟩

theorem slot_obj {w : World} {ρ : Nat → Nat} {A : Ad} {s : S} (h : Rep w ρ A s) {i : Nat} {o : O} (hi : s.objs[i]? = some o) (hl : s.done ≤ o.epoch) (hg : s.grey.length < 1000000000) (hlen : s.handles.length < 60000) (m : Int) :
    Calls Try.prog 58 #[.pointer (some ⟨A.hb, 0, none⟩), .agg #[.int .i64 m, .pointer (some ⟨A.obj i, 0, none⟩)]] w fun e w' => e = .returned (.tuple #[slotV true (slotOf s.handles), .int .i64 0]) ∧ ∃ ρ', Rep w' ρ' A (s.give i) ∧ Ch Mine ρ ρ' w w' := by
  have HR := Lib.hid h
  have HI := Lib.hid hi
  have HL := Lib.hid hl
  have HG := Lib.hid hg
  have HN := Lib.hid hlen
  clear h hi hl hg hlen
  unfold slotV
  go_enter Try.func58, Try.ntmps58
  go_wp2_with fail
  refine (full_rep ((HR.out.alloc _).alloc _) (by have := HN.out; omega)).mono ?_
  rintro e w1 ⟨rfl, rfl⟩
  go_wp2_with fail
  refine (handle_rep ((HR.out.alloc _).alloc _) HI.out HL.out HG.out (by have := HN.out; omega)).mono ?_
  rintro e w2 ⟨rfl, ρ2, hr2, hc2⟩
  have hro : ρ (w.heap.size + 1) = 0 := HR.out.rho _ (by omega)
  have hb2 : w2.heap[w.heap.size + 1]? = some (.cells #[.bool false, .int .i64 0] 32 (0, 0)) := by
    rw [hc2.block (w.heap.size + 1) (by simp) (by rw [hro]; simp [Mine])]
    simpa using heap_alloc_new (w.alloc (Obj.cells #[Value.int IntKind.i64 m, Value.pointer (some { block := A.obj i, off := 0 })] 85)) (Obj.cells #[Value.bool false, Value.int IntKind.i64 0] 32)
  have k0 : w2.cell? ⟨w.heap.size + 1, 0, none⟩ = some (.bool false) := by rw [cell_of_row w2 _ 0 _ _ _ hb2]; rfl
  have k1 : w2.cell? ⟨w.heap.size + 1, 1, none⟩ = some (.int .i64 0) := by rw [cell_of_row w2 _ 1 _ _ _ hb2]; rfl
  have k2 : w2.frozen? ⟨w.heap.size + 1, 0, none⟩ = false := frozen_of_row w2 _ 0 _ _ hb2
  have k3 : w2.frozen? ⟨w.heap.size + 1, 1, none⟩ = false := frozen_of_row w2 _ 1 _ _ hb2
  have k4 : w.heap.size + 1 < w2.heap.size := (Array.getElem?_eq_some_iff.1 hb2).1
  have hro2 : ρ2 (w.heap.size + 1) = 0 := (hc2.role _ (by simp)).trans hro
  have G1 := Lib.hid hr2
  have G2 := Lib.hid hc2
  have G3 := Lib.hid hro2
  obtain ⟨nn, hnn⟩ : ∃ nn : Nat, nn = slotOf s.handles := ⟨_, rfl⟩
  rw [← hnn]
  obtain ⟨p1, p2, p3, p4⟩ := pair_set hb2 (.bool true) (.int .i64 nn)
  have G4 := Lib.hid hnn
  clear hr2 hc2 hro hro2 hb2 hnn
  go_wp2_with fail
  refine bodyPost_ret (v := .tuple #[slotV true nn, .int .i64 0]) (by rw [results_cell_tmp rfl]; simp [asAddr, load32 p3 p4]) rfl ?_
  refine ⟨by rw [← G4.out]; rfl, ρ2, (G1.out.local _ G3.out).local _ G3.out, ?_⟩
  exact (((((Ch.refl HR.out.rho).alloc _).alloc _).trans G2.out).setCell _ _ fun hb => absurd hb (by simp)).setCell _ _ fun hb => absurd hb (by simp)
end Go.Proofs.Ytfjgokbclgdfjaa
