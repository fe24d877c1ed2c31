/- Walks of the small functions of the collector. -/
import Derived.Test.YtfjgokbclgdfjaaRep
import Derived.BigQuiet
import Derived.RegionTactic
import Derived.BigRegion
import Derived.WalkSpells
import Derived.WalkLawsBesides
import Derived.Outline
import Derived.LaidEqlPtr
set_option linter.unusedSimpArgs false
set_option linter.unusedVariables false
namespace Go.Proofs.Ytfjgokbclgdfjaa
open Go.RowKit HM

theorem freed_any (w : World) (b ob : Nat) (ep done : Int) (h1 : w.cell? ⟨ob, 4, none⟩ = some (.int .i64 ep)) (h2 : w.cell? ⟨b, 10, none⟩ = some (.int .i64 done)) :
    Calls Try.prog 54 #[.pointer (some ⟨b, 0, none⟩), .pointer (some ⟨ob, 0, none⟩)] w fun e w' => e = .returned (.bool (decide (ep < done))) ∧ ∃ k, w' = w.drewN k := by
  go_enter Try.func54, Try.ntmps54
  go_wp2
  go_quiet (fail)
  go_wp2
  go_ret
  exact ⟨rfl, _, rfl⟩

theorem fits_any (w : World) (b : Nat) (n bump stay room : Int)
    (h4 : w.cell? ⟨b, 5, none⟩ = some (.int .i64 bump)) (h5 : w.cell? ⟨b, 6, none⟩ = some (.int .i64 stay)) (h0 : w.cell? ⟨b, 0, none⟩ = some (.int .i64 room))
    (b1 : 0 ≤ bump) (b2 : bump ≤ 1000000000) (b3 : 0 ≤ stay) (b4 : stay ≤ 1000000000) (b5 : 0 ≤ n) (b6 : n ≤ 1000000000) :
    Calls Try.prog 78 #[.pointer (some ⟨b, 0, none⟩), .int .i64 n] w fun e w' => e = .returned (.bool (decide (bump + stay + n ≤ room))) ∧ ∃ k, w' = w.drewN k := by
  go_enter Try.func78, Try.ntmps78
  go_wp2
  go_quiet (fail)
  go_wp2
  go_ret
  exact ⟨rfl, _, rfl⟩

/-- 'words' at a space. -/
theorem words_any (w : World) (b ob sb : Nat) (sp : Nat) (place size room : Nat) (hsp : sp ≤ 1)
    (h1 : w.cell? ⟨ob, 1, none⟩ = some (.int .i64 size)) (h2 : w.cell? ⟨ob, 2, none⟩ = some (.int .i64 sp)) (h3 : w.cell? ⟨ob, 3, none⟩ = some (.int .i64 place))
    (hs : w.cell? ⟨b, 1 + sp, none⟩ = some (.slice (some ⟨sb, 0, none⟩) room room)) (hpos : 0 < size) (hfit : place + size ≤ room) (hroom : room ≤ 1000000000) :
    Calls Try.prog 59 #[.pointer (some ⟨b, 0, none⟩), .pointer (some ⟨ob, 0, none⟩)] w fun e w' => e = .returned (.slice (some ⟨sb, place * 2, none⟩) size (room - place)) ∧ ∃ k, w' = w.drewN k := by
  go_enter Try.func59, Try.ntmps59
  go_wp2
  go_quiet (fail)
  go_wp2
  go_ret
  refine ⟨congrArg Ending.returned ?_, _, rfl⟩
  show Value.slice (some ⟨sb, place * 2, none⟩) (place + size - place) (room - place) = _
  rw [Nat.add_sub_cancel_left]

theorem Try.info83 : (Try.prog.info? 83).map (fun i => (i.zero, i.size, i.bytes)) = some (some (.pointer none), 1, 8) := by kernel_rfl
theorem Try.info3 : (Try.prog.info? 3).map (fun i => (i.zero, i.size, i.bytes)) = some (some (.int .i64 0), 1, 8) := by kernel_rfl

theorem Rep.hcell {w : World} {ρ : Nat → Nat} {A : Ad} {s : S} (h : Rep w ρ A s) : ∃ gs ds ks, w.heap[A.hb]? = some (.cells (hcells A s gs ds ks) 49 (0, 0)) := by
  obtain ⟨gs, ds, ks, hh, _⟩ := h.head
  exact ⟨gs, ds, ks, hh⟩

theorem shade_nil (w : World) (b : Nat) :
    Calls Try.prog 80 #[.pointer (some ⟨b, 0, none⟩), .pointer none] w fun e w' => e = .returned (.tuple #[]) ∧ ∃ k, w' = w.drewN k := by
  go_enter Try.func80, Try.ntmps80
  go_wp2
  go_quiet (fail)
  go_wp2
  go_end0
  exact ⟨rfl, _, rfl⟩

theorem shade_old (w : World) (b ob : Nat) (ep epoch : Int) (h1 : w.cell? ⟨ob, 4, none⟩ = some (.int .i64 ep)) (h2 : w.cell? ⟨b, 9, none⟩ = some (.int .i64 epoch)) (hge : decide (ep < epoch) = false) :
    Calls Try.prog 80 #[.pointer (some ⟨b, 0, none⟩), .pointer (some ⟨ob, 0, none⟩)] w fun e w' => e = .returned (.tuple #[]) ∧ ∃ k, w' = w.drewN k := by
  go_enter Try.func80, Try.ntmps80
  go_wp2
  go_quiet (fail)
  go_wp2
  go_end0
  exact ⟨rfl, _, rfl⟩

theorem shade_new (w : World) (ρ : Nat → Nat) (b ob : Nat) (ep epoch : Int) (gs : Value) (xs : List Value) (h1 : w.cell? ⟨ob, 4, none⟩ = some (.int .i64 ep)) (h2 : w.cell? ⟨b, 9, none⟩ = some (.int .i64 epoch)) (hlt : ep < epoch)
    (h3 : w.cell? ⟨b, 13, none⟩ = some gs) (hrow : RowAt w ρ 5 83 gs xs) (hlen : xs.length < 1000000000) (hρ : ∀ k, w.heap.size ≤ k → ρ k = 0) (hb : ρ b = 1) (hob : 8 ≤ ρ ob)
    (f1 : ∀ o, w.frozen? ⟨ob, o, none⟩ = false) (f2 : ∀ o, w.frozen? ⟨b, o, none⟩ = false) :
    Calls Try.prog 80 #[.pointer (some ⟨b, 0, none⟩), .pointer (some ⟨ob, 0, none⟩)] w fun e w' => e = .returned (.tuple #[]) ∧ 
      ∃ k w1 w2 ρ' gs', w1 = (((w.drewN k).setCell ⟨ob, 4, none⟩ (.int .i64 epoch)).alloc (.cells #[.pointer (some ⟨ob, 0, none⟩)] 83)) ∧ RowAt w2 ρ' 5 83 gs' (xs ++ [.pointer (some ⟨ob, 0, none⟩)]) ∧ Ch (· = 5) ρ ρ' w1 w2 ∧ w' = w2.setCell ⟨b, 13, none⟩ gs' := by
  have hne : ob ≠ b := by rintro rfl; omega
  have hne' : b ≠ ob := fun e => hne e.symm
  have hobl : ob < w.heap.size := World.block_lt_of_cell? w ⟨ob, 4, none⟩ h1
  have hbl : b < w.heap.size := World.block_lt_of_cell? w ⟨b, 9, none⟩ h2
  obtain ⟨i0, hi, hz0, hz1, hz2⟩ := info_parts Try.info83
  have HR := Lib.hid hrow
  have HP := Lib.hid hρ
  have HB := Lib.hid hb
  have HO := Lib.hid hob
  have HI := Lib.hid hi
  have HZ0 := Lib.hid hz0
  have HZ1 := Lib.hid hz1
  have HZ2 := Lib.hid hz2
  clear hrow hρ hb hob hi hz0 hz1 hz2
  go_enter Try.func80, Try.ntmps80
  go_wp2
  go_quiet (fail)
  obtain ⟨W, hW⟩ : ∃ W, W = w.drewN nq := ⟨_, rfl⟩
  rw [← hW]
  have g1 : W.cell? ⟨ob, 4, none⟩ = some (.int .i64 ep) := by rw [hW]; exact h1
  have g2 : W.cell? ⟨b, 9, none⟩ = some (.int .i64 epoch) := by rw [hW]; exact h2
  have g3 : W.cell? ⟨b, 13, none⟩ = some gs := by rw [hW]; exact h3
  have e1 : ∀ o, W.frozen? ⟨ob, o, none⟩ = false := fun o => by rw [hW]; exact f1 o
  have e2 : ∀ o, W.frozen? ⟨b, o, none⟩ = false := fun o => by rw [hW]; exact f2 o
  have l1 : ob < W.heap.size := by rw [hW]; exact hobl
  have l2 : b < W.heap.size := by rw [hW]; exact hbl
  have HR' : Hid (RowAt ((W.setCell ⟨ob, 4, none⟩ (.int .i64 epoch)).alloc (.cells #[.pointer (some ⟨ob, 0, none⟩)] 83)) ρ 5 83 gs xs) := by
    have c : Ch (8 ≤ ·) ρ ρ w ((W.setCell ⟨ob, 4, none⟩ (.int .i64 epoch)).alloc (.cells #[.pointer (some ⟨ob, 0, none⟩)] 83)) := by
      rw [hW]; exact ((((Ch.refl HP.out).drewN nq).setCell _ _ (fun _ => HO.out)).alloc _)
    exact (HR.out).keep c (by decide)
  have HP' : Hid (∀ k, ((W.setCell ⟨ob, 4, none⟩ (.int .i64 epoch)).alloc (.cells #[.pointer (some ⟨ob, 0, none⟩)] 83)).heap.size ≤ k → ρ k = 0) := fun k hk => HP.out k (by rw [hW] at hk; simp at hk; have : (w.drewN nq).heap.size = w.heap.size := rfl; omega)
  have HW := Lib.hid hW
  clear hW h1 h2 h3 f1 f2 hobl hbl HR HP
  go_wp2_with (at_builtin; refine wpList_append_row rfl _ _ 42 rfl 83 i0 (.pointer none) Try.underlying42 HI.out HZ0.out HZ1.out HZ2.out rfl ρ 5 gs xs rfl HR'.out HP'.out ⟨W.heap.size, 0, none⟩ 1 (.pointer (some ⟨ob, 0, none⟩)) rfl ?_ rfl hlen ?_)
  · have := World.cell?_alloc_new (W.setCell ⟨ob, 4, none⟩ (.int .i64 epoch)) #[.pointer (some ⟨ob, 0, none⟩)] 83 0
    simpa using this
  · intro v' w2 ρ' hr2 hc2 _
    obtain ⟨a', n', c', rfl⟩ := hr2.shape
    have hbb : ¬ ρ b = 5 := by rw [HB.out]; decide
    have k0 : w2.heap[b]? = W.heap[b]? := by
      rw [hc2.block b (by simp; omega) hbb, Below.heap_alloc _ _ _ (by simp; omega), Below.heap_setCell _ _ _ _ hne']
    have k1 : w2.cell? ⟨b, 13, none⟩ = some gs := by rw [World.cell?_of_block (w := W) k0]; exact g3
    have k2 : w2.frozen? ⟨b, 13, none⟩ = false := by rw [World.frozen?_of_block (w := W) k0]; exact e2 13
    clear hbb k0
    have H2 := Lib.hid hr2
    have H3 := Lib.hid hc2
    clear hr2 hc2
    go_wp2
    go_end0
    exact ⟨rfl, nq, _, w2, ρ', _, rfl, H2.out, by rw [← HW.out]; exact H3.out, rfl⟩

end Go.Proofs.Ytfjgokbclgdfjaa
