/- The chapter's examples. -/
import Derived.Test.YtfjgokbclgdfjaaZs
import Derived.Deep.QuietTactic
import Derived.Deep.Cut
set_option linter.unusedSimpArgs false
set_option linter.unusedVariables false
namespace Go.Proofs.Ytfjgokbclgdfjaa
open Go.RowKit HM

theorem fields_nil (w : World) (s : S) (g off : Nat) : Fields w s [] [] g off 0 :=
  ⟨rfl, rfl, fun h => absurd h (by decide), fun j r m h => by simp at h, fun j r m h => by simp at h⟩

theorem fields_two (w : World) {s : S} (h : s.handles[1]? = some (some 1)) : Fields (w.alloc (.cells #[.bool false, .int .i64 7, .bool true, .int .i64 1] 32)) s [(false, 7), (true, 1)] [.num 7, .obj 1] w.heap.size 0 2 := by
  have hh := heap_alloc_new w (.cells #[.bool false, .int .i64 7, .bool true, .int .i64 1] 32)
  refine ⟨rfl, rfl, fun _ => (Array.getElem?_eq_some_iff.1 hh).1, fun j r m hj => ?_, fun j r m hj => ?_⟩
  · rw [cell_of_row _ _ _ _ _ _ hh, cell_of_row _ _ _ _ _ _ hh]
    match j, hj with
    | 0, hj => simp at hj; obtain ⟨rfl, rfl⟩ := hj; exact ⟨rfl, rfl⟩
    | 1, hj => simp at hj; obtain ⟨rfl, rfl⟩ := hj; exact ⟨rfl, rfl⟩
    | j + 2, hj => simp at hj
  · match j, hj with
    | 0, hj => simp at hj; obtain ⟨rfl, rfl⟩ := hj; exact .inl ⟨rfl, rfl⟩
    | 1, hj =>
      simp at hj; obtain ⟨rfl, rfl⟩ := hj
      refine .inr ⟨rfl, 1, ?_, rfl⟩
      have : atH s.handles ((1 : Nat) : Int) = some 1 := by rw [atH_nat]; simp [List.getD, h]
      exact this
    | j + 2, hj => simp at hj

theorem fields_five {w : World} {ρ : Nat → Nat} {b : Nat} (h : Loc w ρ b (.cells #[.bool false, .int .i64 1, .bool false, .int .i64 2, .bool false, .int .i64 3, .bool false, .int .i64 4, .bool false, .int .i64 5] 32)) (s : S) :
    Fields w s [(false, 1), (false, 2), (false, 3), (false, 4), (false, 5)] five b 0 5 := by
  have hh := h.at'
  refine ⟨rfl, rfl, fun _ => (Array.getElem?_eq_some_iff.1 hh).1, fun j r m hj => ?_, fun j r m hj => ?_⟩
  · rw [cell_of_row _ _ _ _ _ _ hh, cell_of_row _ _ _ _ _ _ hh]
    match j, hj with
    | 0, hj => simp at hj; obtain ⟨rfl, rfl⟩ := hj; exact ⟨rfl, rfl⟩
    | 1, hj => simp at hj; obtain ⟨rfl, rfl⟩ := hj; exact ⟨rfl, rfl⟩
    | 2, hj => simp at hj; obtain ⟨rfl, rfl⟩ := hj; exact ⟨rfl, rfl⟩
    | 3, hj => simp at hj; obtain ⟨rfl, rfl⟩ := hj; exact ⟨rfl, rfl⟩
    | 4, hj => simp at hj; obtain ⟨rfl, rfl⟩ := hj; exact ⟨rfl, rfl⟩
    | j + 5, hj => simp at hj
  · match j, hj with
    | 0, hj => simp at hj; obtain ⟨rfl, rfl⟩ := hj; exact .inl ⟨rfl, rfl⟩
    | 1, hj => simp at hj; obtain ⟨rfl, rfl⟩ := hj; exact .inl ⟨rfl, rfl⟩
    | 2, hj => simp at hj; obtain ⟨rfl, rfl⟩ := hj; exact .inl ⟨rfl, rfl⟩
    | 3, hj => simp at hj; obtain ⟨rfl, rfl⟩ := hj; exact .inl ⟨rfl, rfl⟩
    | 4, hj => simp at hj; obtain ⟨rfl, rfl⟩ := hj; exact .inl ⟨rfl, rfl⟩
    | j + 5, hj => simp at hj

theorem eq32a (m : World) : (Op.equal 32 (.agg #[.bool true, .int .i64 0]) (.agg #[.bool true, .int .i64 0])).run Try.prog m = .ok true m := by kernel_rfl
theorem eq32b (m : World) : (Op.equal 32 (.agg #[.bool true, .int .i64 1]) (.agg #[.bool true, .int .i64 1])).run Try.prog m = .ok true m := by kernel_rfl
theorem eq32c (m : World) : (Op.equalIn Op.maxDepth 32 (.agg #[.bool true, .int .i64 0]) (.agg #[.bool true, .int .i64 0])).run Try.prog m = .ok true m := by kernel_rfl
theorem eq32d (m : World) : (Op.equalIn Op.maxDepth 32 (.agg #[.bool true, .int .i64 1]) (.agg #[.bool true, .int .i64 1])).run Try.prog m = .ok true m := by kernel_rfl

/-- The worlds that a region which only allocates may be in. -/
structure Wc (ρ : Nat → Nat) (w : World) where
  v : World
  ch : Ch (fun _ => False) ρ ρ w v

theorem wp_region_class {P : Program} {id : Nat} {Q : Exit → Act → World → Prop} {a : Act} {w w0 : World} {ρ : Nat → Nat} {l : List Oper} (hm : P.follows .mixedOrders = true) (hB : Region.lexB .any l.toArray = true)
    (hC : Ch (fun _ => False) ρ ρ w0 w.drew)
    (h : wpQuiet P l.toArray (fun w' => ∃ x : Wc ρ w0, w' = x.v) (fun a' => ∀ x : Wc ρ w0, Q .normal a' x.v) l a) : (Code.region id l.toArray true).wp P Q a w := by
  refine wp_region_quiet (C := fun w' => ∃ x : Wc ρ w0, w' = x.v) hm hB ⟨⟨w.drew, hC⟩, rfl⟩ ?_
  simp only [List.toList_toArray]
  have e : (fun a' => ∀ x : Wc ρ w0, Q .normal a' x.v) = fun a' => ∀ w', (∃ x : Wc ρ w0, w' = x.v) → Q .normal a' w' := by
    funext a'
    exact propext ⟨fun h w' ⟨x, e⟩ => e ▸ h x, fun h x => h _ ⟨x, rfl⟩⟩
  rw [← e]
  exact h

set_option maxHeartbeats 4000000 in
set_option maxRecDepth 20000 in
theorem sane_any (w : World) : Calls Try.prog 11 #[] w fun e w' => e = .returned (.bool true) ∧ ∃ ρ', Ch Mine (fun _ => 0) ρ' w w' := by
  go_enter Try.func11, Try.ntmps11
  go_wp2_with fail
  refine (new_rep (w := w) (ρ := fun _ => 0) (fun _ _ => rfl) 10 (by decide) (by decide)).mono ?_
  rintro e w1 ⟨A, ρ1, rfl, hr, hc⟩
  have G1 : Hid (Gm w w1 ρ1 A (S.new 10)) := ⟨hr, wf_new 10, ⟨by decide, by decide, by decide, by decide⟩, by decide, hc.mono fun _ h => h.elim⟩
  clear hr hc
  go_wp2_with fail
  refine (gm_cell G1.out (by decide) (by decide) (fields_nil w1 _ 0 0) (by decide) none 0 (fun h => absurd h (by decide)) 0 (by decide) (by decide)).mono ?_
  rintro e w2 ⟨rfl, ρ2, b0, hg, -⟩
  rw [show ((slotOf (S.new 10).handles : Nat) : Int) = 0 from by decide]
  have G2 : Hid (Gm w w2 ρ2 (A.more b0) z1) := hg
  clear hg G1
  go_wp2_with fail
  refine (ref_any G2.out.rep.rho 0).mono ?_
  rintro e w3 ⟨rfl, hc⟩
  have G3 := Lib.hid (G2.out.frame hc)
  unfold slotV
  clear hc G2
  go_wp2_with fail
  refine (gm_mod G3.out (by decide) (by decide) true 0 (.obj 0) rfl (by decide)).mono ?_
  rintro e w4 ⟨rfl, ρ4, b1, hg, -⟩
  rw [show ((slotOf z1.handles : Nat) : Int) = 1 from by decide]
  have G4 : Hid (Gm w w4 ρ4 ((A.more b0).more b1) z2) := hg
  clear hg G3
  go_wp2_with fail
  refine (num_any G4.out.rep.rho 7).mono ?_
  rintro e w5 ⟨rfl, hc⟩
  have G5 := Lib.hid (G4.out.frame hc)
  unfold slotV
  clear hc G4
  go_wp2_with fail
  refine (ref_any G5.out.rep.rho 1).mono ?_
  rintro e w6 ⟨rfl, hc⟩
  have G6 := Lib.hid (G5.out.frame hc)
  unfold slotV
  clear hc G5
  go_wp2_with fail
  refine (gm_cell (G6.out.alloc _) (by decide) (by decide) (fields_two w6 (by decide)) (by decide) (some ⟨w6.heap.size, 0, none⟩) 2 (fun _ => rfl) 1 (by decide) (by decide)).mono ?_
  rintro e w7 ⟨rfl, ρ7, b2, hg, -⟩
  rw [show ((slotOf z2.handles : Nat) : Int) = 2 from by decide]
  have G7 : Hid (Gm w w7 ρ7 (((A.more b0).more b1).more b2) z3) := hg
  clear hg G6
  obtain ⟨B, hB, hBb⟩ : ∃ B : Ad, ((A.more b0).more b1).more b2 = B ∧ A.hb = B.hb := ⟨_, rfl, rfl⟩
  rw [hB] at G7
  rw [hBb]
  clear hB hBb
  go_wp2_with fail
  refine (used_rep G7.out.rep).mono ?_
  rintro e w8 ⟨rfl, rfl⟩
  rw [show ((z3.used : Nat) : Int) = 6 from by decide]
  go_wp2_with fail
  refine (gm_drop G7.out (k := 0) (i := 0) (by decide)).mono ?_
  rintro e w8 ⟨rfl, ρ8, hg, -⟩
  have G8 : Hid (Gm w w8 ρ8 B z4) := hg
  clear hg G7
  go_wp2_with fail
  refine (gm_drop G8.out (k := 1) (i := 1) (by decide)).mono ?_
  rintro e w9 ⟨rfl, ρ9, hg, -⟩
  have G9 : Hid (Gm w w9 ρ9 B z5) := hg
  clear hg G8
  go_wp2_with fail
  refine (gm_field_obj G9.out (by decide) (k := 2) (i := 2) (by decide) (o := ⟨1, [.num 1, .num 7, .obj 1], 0, 3, 0⟩) rfl (by decide) (j := 1) (q := 1) rfl).mono ?_
  rintro e w10 ⟨rfl, ρ10, hg, -⟩
  rw [show ((slotOf z5.handles : Nat) : Int) = 0 from by decide]
  have G10 : Hid (Gm w w10 ρ10 B z6) := hg
  unfold slotV
  clear hg G9
  go_wp2_with fail
  have hlo : Loc (w10.alloc (.cells #[.bool true, .int .i64 0] 32)) ρ10 w10.heap.size (.cells #[.bool true, .int .i64 0] 32) := G10.out.loc _
  obtain ⟨n10, hn10⟩ : ∃ n, n = w10.heap.size := ⟨_, rfl⟩
  rw [← hn10] at hlo ⊢
  have L10 := Lib.hid hlo
  have G11 := Lib.hid (G10.out.alloc (.cells #[.bool true, .int .i64 0] 32))
  clear hlo hn10 G10
  refine (gm_get_obj G11.out (by decide) (k := 0) (i := 1) (by decide) (o := ⟨-1, [.num (-1), .obj 0], 0, 1, 0⟩) rfl rfl (q := 0) rfl).mono ?_
  rintro e w12 ⟨rfl, ρ12, hg, hc⟩
  rw [show ((slotOf z6.handles : Nat) : Int) = 1 from by decide]
  have G12 : Hid (Gm w w12 ρ12 B z7) := hg
  have L12 := Lib.hid (L10.out.keep hc)
  unfold slotV
  clear hg hc L10 G11
  go_wp2_with fail
  have hlo : Loc (w12.alloc (.cells #[.bool true, .int .i64 1] 32)) ρ12 w12.heap.size (.cells #[.bool true, .int .i64 1] 32) := G12.out.loc _
  obtain ⟨n12, hn12⟩ : ∃ n, n = w12.heap.size := ⟨_, rfl⟩
  rw [← hn12] at hlo ⊢
  have L13 := Lib.hid hlo
  have L14 := Lib.hid (L12.out.keep (((Ch.refl G12.out.rep.rho).alloc (.cells #[.bool true, .int .i64 1] 32)) : Ch Mine ρ12 ρ12 w12 _))
  have G13 := Lib.hid (G12.out.alloc (.cells #[.bool true, .int .i64 1] 32))
  clear hlo hn12 G12 L12
  refine (tag_rep G13.out.rep (k := 1) (i := 0) (by decide) (by decide) (o := ⟨0, [.num 0], 0, 0, 0⟩) rfl (by decide) (by decide)).mono ?_
  rintro e w14 ⟨rfl, q, hq⟩
  have G14 : Hid (Gm w w14 ρ12 B z7) := by rw [hq]; exact G13.out.drewN q
  have L15 : Hid (Loc w14 ρ12 n10 (.cells #[.bool true, .int .i64 0] 32)) := by rw [hq]; exact ⟨L14.out.at', L14.out.r0⟩
  have L16 : Hid (Loc w14 ρ12 n12 (.cells #[.bool true, .int .i64 1] 32)) := by rw [hq]; exact ⟨L13.out.at', L13.out.r0⟩
  rw [show (O.size ⟨0, [.num 0], 0, 0, 0⟩ : Int) - 1 = 0 from by decide]
  clear hq L13 L14 G13
  simp only []
  go_wp2_with fail
  have c0 : w14.cell? ⟨n10, 0, none⟩ = some (.bool true) := by rw [cell_of_row _ _ 0 _ _ _ L15.out.at']; rfl
  have c1 : w14.cell? ⟨n10, 1, none⟩ = some (.int .i64 0) := by rw [cell_of_row _ _ 1 _ _ _ L15.out.at']; rfl
  have c2 : w14.cell? ⟨n12, 0, none⟩ = some (.bool true) := by rw [cell_of_row _ _ 0 _ _ _ L16.out.at']; rfl
  have c3 : w14.cell? ⟨n12, 1, none⟩ = some (.int .i64 1) := by rw [cell_of_row _ _ 1 _ _ _ L16.out.at']; rfl
  have d1 : n10 < w14.heap.size := (Array.getElem?_eq_some_iff.1 L15.out.at').1
  have d2 : n12 < w14.heap.size := (Array.getElem?_eq_some_iff.1 L16.out.at').1
  have REF : Hid (∀ (n : Int) (x : Wc ρ12 w14), Calls Try.prog 16 #[.int .i64 n] x.v fun e w' => e = .returned (.agg #[.bool true, .int .i64 n]) ∧ ∃ y : Wc ρ12 w14, w' = y.v) := by
    intro n x
    refine (ref_any x.ch.fresh n).mono ?_
    rintro e w' ⟨rfl, hc⟩
    exact ⟨rfl, ⟨w', x.ch.trans hc⟩, rfl⟩
  have k0 : ∀ x : Wc ρ12 w14, x.v.cell? ⟨n10, 0, none⟩ = some (.bool true) := fun x => (World.cell?_of_block (w := w14) (x.ch.block _ d1 (by simp))).trans c0
  have k1 : ∀ x : Wc ρ12 w14, x.v.cell? ⟨n10, 1, none⟩ = some (.int .i64 0) := fun x => (World.cell?_of_block (w := w14) (x.ch.block _ d1 (by simp))).trans c1
  have k2 : ∀ x : Wc ρ12 w14, x.v.cell? ⟨n12, 0, none⟩ = some (.bool true) := fun x => (World.cell?_of_block (w := w14) (x.ch.block _ d2 (by simp))).trans c2
  have k3 : ∀ x : Wc ρ12 w14, x.v.cell? ⟨n12, 1, none⟩ = some (.int .i64 1) := fun x => (World.cell?_of_block (w := w14) (x.ch.block _ d2 (by simp))).trans c3
  have CH0 : Hid (Ch (fun _ => False) ρ12 ρ12 w14 w14.drew) := (Ch.refl G14.out.rep.rho).drew
  have q1 := eq32a
  have q2 := eq32b
  have q3 := eq32c
  have q4 := eq32d
  clear L15 L16 c0 c1 c2 c3 d1 d2
  go_cut [130] from 103 (fun bv wc => bv = .bool false ∧ Ch (fun _ => False) ρ12 ρ12 w14 wc)
  case first =>
    refine wp_region_class (w0 := w14) (ρ := ρ12) (by kernel_rfl) (by kernel_rfl) CH0.out ?_
    clear CH0 G14
    repeat
      (refine wpQuiet_step (fun K hK => ?_)
       go_simp
       first
         | (refine hK _ ?_; clear hK K)
         | (refine ⟨_, fun _ => rfl, hK _ ?_⟩; clear hK K)
         | (apply Exists.intro; refine ⟨fun x => ?_, hK _ ?_⟩; (go_at_call 16; exact REF.out _ _); clear hK K))
    refine wpQuiet_nil ?_
    intro x
    first
      | (go_meet; exact ⟨rfl, x.ch⟩)
      | (go_wp2_with fail; go_meet; exact ⟨rfl, x.ch⟩)
  case rest =>
    obtain ⟨rfl, hch⟩ := hcut
    have G15 := Lib.hid (G14.out.frame hch)
    clear hch k0 k1 k2 k3 q1 q2 q3 q4 REF CH0 G14
    go_wp2_with fail
    refine (num_any G15.out.rep.rho 5).mono ?_
    rintro e w16 ⟨rfl, hc⟩
    have G16 := Lib.hid (G15.out.frame hc)
    unfold slotV
    clear hc G15
    go_wp2_with fail
    refine (gm_set G16.out (by decide) (k := 0) (i := 1) (by decide) (o := ⟨-1, [.num (-1), .obj 0], 0, 1, 0⟩) rfl rfl false 5 (.num 5) rfl).mono ?_
    rintro e w17 ⟨rfl, ρ17, hg, -⟩
    have G17 : Hid (Gm w w17 ρ17 B z8) := hg
    clear hg G16
    go_wp2_with fail
    refine (gm_drop G17.out (k := 1) (i := 0) (by decide)).mono ?_
    rintro e w18 ⟨rfl, ρ18, hg, -⟩
    have G18 : Hid (Gm w w18 ρ18 B z9) := hg
    clear hg G17
    go_wp2_with fail
    refine (gm_collect G18.out (by decide)).mono ?_
    rintro e w19 ⟨rfl, ρ19, hg, -⟩
    have G19 : Hid (Gm w w19 ρ19 B z10) := hg
    clear hg G18
    go_wp2_with fail
    refine (num_any G19.out.rep.rho 1).mono ?_
    rintro e w20 ⟨rfl, hc⟩
    have G20 := Lib.hid (G19.out.frame hc)
    unfold slotV
    clear hc G19
    go_wp2_with fail
    refine (num_any G20.out.rep.rho 2).mono ?_
    rintro e w21 ⟨rfl, hc⟩
    have G21 := Lib.hid (G20.out.frame hc)
    unfold slotV
    clear hc G20
    go_wp2_with fail
    refine (num_any G21.out.rep.rho 3).mono ?_
    rintro e w22 ⟨rfl, hc⟩
    have G22 := Lib.hid (G21.out.frame hc)
    unfold slotV
    clear hc G21
    go_wp2_with fail
    refine (num_any G22.out.rep.rho 4).mono ?_
    rintro e w23 ⟨rfl, hc⟩
    have G23 := Lib.hid (G22.out.frame hc)
    unfold slotV
    clear hc G22
    go_wp2_with fail
    refine (num_any G23.out.rep.rho 5).mono ?_
    rintro e w24 ⟨rfl, hc⟩
    have G24 := Lib.hid (G23.out.frame hc)
    unfold slotV
    clear hc G23
    go_wp2_with fail
    have hlo := G24.out.loc (.cells #[.bool false, .int .i64 1, .bool false, .int .i64 2, .bool false, .int .i64 3, .bool false, .int .i64 4, .bool false, .int .i64 5] 32)
    have G30 := Lib.hid (G24.out.alloc (.cells #[.bool false, .int .i64 1, .bool false, .int .i64 2, .bool false, .int .i64 3, .bool false, .int .i64 4, .bool false, .int .i64 5] 32))
    obtain ⟨nb, hnb⟩ : ∃ n, n = w24.heap.size := ⟨_, rfl⟩
    rw [← hnb] at hlo ⊢
    have L30 := Lib.hid hlo
    clear hlo hnb G24
    refine (gm_cell_full G30.out (by decide) (by decide) (fields_five L30.out _) (by decide) (some ⟨nb, 0, none⟩) 5 (fun _ => rfl) 2 (by decide) (by decide) (by decide)).mono ?_
    rintro e w31 ⟨rfl, ρ31, hg, hc⟩
    have G31 : Hid (Gm w w31 ρ31 B z11) := hg
    have L31 := Lib.hid (L30.out.keep hc)
    clear hg hc G30 L30
    go_wp2_with fail
    refine (used_rep G31.out.rep).mono ?_
    rintro e w32 ⟨rfl, rfl⟩
    rw [show ((z11.used : Nat) : Int) = 5 from by decide]
    go_wp2_with fail
    refine (gm_drop G31.out (k := 2) (i := 2) (by decide)).mono ?_
    rintro e w32 ⟨rfl, ρ32, hg, hc⟩
    have G32 : Hid (Gm w w32 ρ32 B z12) := hg
    have L32 := Lib.hid (L31.out.keep hc)
    clear hg hc G31 L31
    go_wp2_with fail
    refine (gm_collect G32.out (by decide)).mono ?_
    rintro e w33 ⟨rfl, ρ33, hg, hc⟩
    have G33 : Hid (Gm w w33 ρ33 B z13) := hg
    have L33 := Lib.hid (L32.out.keep hc)
    clear hg hc G32 L32
    go_wp2_with fail
    refine (gm_cell G33.out (by decide) (by decide) (fields_five L33.out _) (by decide) (some ⟨nb, 0, none⟩) 5 (fun _ => rfl) 2 (by decide) (by decide)).mono ?_
    rintro e w34 ⟨rfl, ρ34, b4, hg, -⟩
    rw [show ((slotOf z13.handles : Nat) : Int) = 1 from by decide]
    have G34 : Hid (Gm w w34 ρ34 (B.more b4) z14) := hg
    clear hg G33 L33
    go_wp2_with fail
    refine (used_rep G34.out.rep).mono ?_
    rintro e w35 ⟨rfl, rfl⟩
    rw [show ((z14.used : Nat) : Int) = 8 from by decide]
    go_wp2_with fail
    go_ret
    exact ⟨rfl, ρ34, G34.out.ch⟩
end Go.Proofs.Ytfjgokbclgdfjaa
