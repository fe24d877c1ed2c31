/- The walk of the statement on weak references. -/
import Derived.Test.YtfjgokbclgdfjaaSane
import Derived.Test.YtfjgokbclgdfjaaYs
import Derived.Test.YtfjgokbclgdfjaaHm
namespace Go.Proofs.Ytfjgokbclgdfjaa
open Go.RowKit HM

theorem fields_one {w : World} {s : S} {ρ : Nat → Nat} {g : Nat} {r : Bool} {m : Int} {x : W} (h : Loc w ρ g (.cells #[.bool r, .int .i64 m] 32)) (hx : (r = false ∧ x = .num m) ∨ (r = true ∧ ∃ i, atH s.handles m = some i ∧ x = .obj i)) :
    Fields w s [(r, m)] [x] g 0 1 := by
  have hh := h.at'
  refine ⟨rfl, rfl, fun _ => (Array.getElem?_eq_some_iff.1 hh).1, fun j r' m' hj => ?_, fun j r' m' hj => ?_⟩
  · rw [cell_of_row _ _ _ _ _ _ hh, cell_of_row _ _ _ _ _ _ hh]
    match j, hj with
    | 0, hj => simp at hj; obtain ⟨rfl, rfl⟩ := hj; exact ⟨rfl, rfl⟩
    | j + 1, hj => simp at hj
  · match j, hj with
    | 0, hj =>
      simp at hj; obtain ⟨rfl, rfl⟩ := hj
      rcases hx with ⟨h1, h2⟩ | ⟨h1, i, h2, h3⟩
      · exact .inl ⟨h1, by rw [h2]; rfl⟩
      · exact .inr ⟨h1, i, h2, by rw [h3]; rfl⟩
    | j + 1, hj => simp at hj

theorem fits64 {n : Int} (h : (Lit.int .i64 n).wf = true) : -9223372036854775808 ≤ n ∧ n ≤ 9223372036854775807 := by
  simpa [Lit.wf, IntKind.min, IntKind.max, IntKind.signed, IntKind.bits] using h

theorem atH_at {hs : List (Option Nat)} {k i : Nat} (h : hs[k]? = some (some i)) : atH hs (k : Int) = some i := by
  rw [atH_nat]; simp [List.getD, h]

theorem eq32e (m : World) : (Op.equal 32 (.agg #[.bool false, .int .i64 8]) (.agg #[.bool false, .int .i64 8])).run Try.prog m = .ok true m := by kernel_rfl
theorem eq32f (m : World) : (Op.equalIn Op.maxDepth 32 (.agg #[.bool false, .int .i64 8]) (.agg #[.bool false, .int .i64 8])).run Try.prog m = .ok true m := by kernel_rfl

set_option maxHeartbeats 4000000 in
set_option maxRecDepth 20000 in
theorem weak_walk (a0 a1 : Int) (w0 : (Lit.int .i64 a0).wf = true) (w1 : (Lit.int .i64 a1).wf = true) (w : World) :
    Calls Try.prog 4 #[.int .i64 a0, .int .i64 a1] w fun e w' => e = .returned (.bool true) ∧ ∃ ρ', Ch Mine (fun _ => 0) ρ' w w' := by
  have b0 : -9223372036854775808 ≤ a0 ∧ a0 ≤ 9223372036854775807 := fits64 w0
  have b1' : -9223372036854775808 ≤ a1 ∧ a1 ≤ 9223372036854775807 := fits64 w1
  go_enter Try.func4, Try.ntmps4
  go_wp2_with fail
  refine (sane_any w).mono ?_
  rintro e v1 ⟨rfl, ρ1, hc⟩
  have H1 := Lib.hid hc
  clear hc
  go_wp2_with fail
  refine (mod_any v1 a0 181 b0 (by decide) (by decide)).mono ?_
  rintro e v1 ⟨rfl, rfl⟩
  obtain ⟨R, hR⟩ : ∃ R : Nat, ((R : Int) = 20 + a0 % 181) := ⟨(20 + a0 % 181).toNat, by omega⟩
  have hR1 : 20 ≤ R ∧ R ≤ 200 := by omega
  go_wp2_with fail
  rw [← hR]
  refine (new_rep (w := v1) (ρ := ρ1) H1.out.fresh R (by omega) (by omega)).mono ?_
  rintro e v2 ⟨A, ρ2, rfl, hr, hc⟩
  have G2 : Hid (Gm w v2 ρ2 A (S.new R)) := ⟨hr, wf_new R, ⟨by show R ≤ _; omega, by show (0 : Nat) ≤ _; decide, by show (0 : Nat) ≤ _; decide, by show (0 : Nat) ≤ _; decide⟩, by show (0 : Nat) ≤ 2; decide, H1.out.trans (hc.mono fun _ h => h.elim)⟩
  have F := Lib.hid hR1
  clear hr hc H1 hR hR1
  go_wp2_with fail
  refine (num_any G2.out.rep.rho 8).mono ?_
  rintro e v3 ⟨rfl, hc⟩
  have G3 := Lib.hid (G2.out.frame hc)
  unfold slotV
  clear hc G2
  go_wp2_with fail
  have hl := G3.out.loc (.cells #[.bool false, .int .i64 8] 32)
  have hg := G3.out.alloc (.cells #[.bool false, .int .i64 8] 32)
  refine (gm_cell hg (by rw [(y_new R F.out.1).2.1]; decide) (by rw [(y_new R F.out.1).2.2]; decide) (fields_one hl (.inl ⟨rfl, rfl⟩)) (by decide) (some ⟨v3.heap.size, 0, none⟩) 1 (fun _ => rfl) 3 (by decide) (y_new R F.out.1).1).mono ?_
  rintro e v4 ⟨rfl, ρ4, b0, hg, -⟩
  rw [show ((slotOf (S.new R).handles : Nat) : Int) = 0 from by rw [(y_new R F.out.1).2.1]; decide]
  have G4 : Hid (Gm w v4 ρ4 (A.more b0) (y1 R)) := hg
  clear hg hl G3
  go_wp2_with fail
  refine (ref_any G4.out.rep.rho 0).mono ?_
  rintro e v5 ⟨rfl, hc⟩
  have G5 := Lib.hid (G4.out.frame hc)
  unfold slotV
  clear hc G4
  go_wp2_with fail
  have hl := G5.out.loc (.cells #[.bool true, .int .i64 0] 32)
  have hg := G5.out.alloc (.cells #[.bool true, .int .i64 0] 32)
  refine (gm_cell hg (by rw [(y1_f R F.out.1).2.1]; decide) (by rw [(y1_f R F.out.1).2.2]; decide) (fields_one hl (.inr ⟨rfl, 0, atH_at (k := 0) (by rw [(y1_f R F.out.1).2.1]; rfl), rfl⟩)) (by decide) (some ⟨v5.heap.size, 0, none⟩) 1 (fun _ => rfl) 4 (by decide) (y1_f R F.out.1).1).mono ?_
  rintro e v6 ⟨rfl, ρ6, b1, hg, -⟩
  rw [show ((slotOf (y1 R).handles : Nat) : Int) = 1 from by rw [(y1_f R F.out.1).2.1]; decide]
  have G6 : Hid (Gm w v6 ρ6 ((A.more b0).more b1) (y2 R)) := hg
  clear hg hl G5
  obtain ⟨B, hB, hBb⟩ : ∃ B : Ad, (A.more b0).more b1 = B ∧ A.hb = B.hb := ⟨_, rfl, rfl⟩
  rw [hB] at G6
  rw [hBb]
  clear hB hBb
  go_wp2_with fail
  refine (gm_weak G6.out (k := 1) (i := 1) (by rw [(y2_f R).1]; rfl) (by rw [(y2_f R).2.1]; decide)).mono ?_
  rintro e v7 ⟨rfl, ρ7, hg, -⟩
  rw [show (((y2 R).weak.length : Nat) : Int) = 0 from by rw [(y2_f R).2.1]; decide]
  have G7 : Hid (Gm w v7 ρ7 B (y3 R)) := hg
  clear hg G6
  go_wp2_with fail
  refine (gm_drop G7.out (k := 0) (i := 0) (by rw [(y2_f R).2.2.1]; rfl)).mono ?_
  rintro e v8 ⟨rfl, ρ8, hg, -⟩
  have G8 : Hid (Gm w v8 ρ8 B (y4 R)) := hg
  clear hg G7
  go_wp2_with fail
  refine (gm_drop G8.out (k := 1) (i := 1) (by rw [(y2_f R).2.2.2]; rfl)).mono ?_
  rintro e v9 ⟨rfl, ρ9, hg, -⟩
  have G9 : Hid (Gm w v9 ρ9 B (y5 R)) := hg
  clear hg G8
  go_wp2_with fail
  refine (gm_begin G9.out (y5_f R).1 (by rw [(y5_f R).2]; decide)).mono ?_
  rintro e v10 ⟨rfl, hg, -⟩
  have G10 : Hid (Gm w v10 ρ9 B (y6 R)) := hg
  clear hg G9
  go_wp2_with fail
  refine (mod_any v10 a1 12 b1' (by decide) (by decide)).mono ?_
  rintro e v10 ⟨rfl, rfl⟩
  obtain ⟨N, hN⟩ : ∃ N : Nat, ((N : Int) = a1 % 12) := ⟨(a1 % 12).toNat, by omega⟩
  rw [← hN]
  have F1 : Hid (N < 12) := by show N < 12; omega
  clear hN b1'
  go_wp2_with fail
  go_loopg [15] N (fun gk v wr => ∃ (j : Nat) (ρ' : Nat → Nat), j ≤ N ∧ gk = N - j ∧ v = .int .i64 j ∧ Gm w wr ρ' B (yk R j))
  case atStart => exact ⟨0, ρ9, Nat.zero_le _, rfl, rfl, G10.out⟩
  case round =>
    obtain ⟨j, ρ', hj, hgk, rfl, hg⟩ := hrel
    have H1 := Lib.hid hgk
    have G11 := Lib.hid hg
    clear hgk hg G10
    by_cases hlt : j < N
    · have hltz : (j : Int) < (N : Int) := by omega
      have hj' : (j : Int) < 12 := by have := F1.out; omega
      have HJ := Lib.hid hlt
      clear hlt hj
      go_wp2_with fail
      refine (gm_step G11.out).mono ?_
      rintro e v11 ⟨rfl, ρ11, hg, -⟩
      rw [yk_step] at hg
      have G12 := Lib.hid hg
      clear hg G11
      go_wp2_with fail
      go_roundg (N - (j + 1))
      case measure => have := H1.out; have := HJ.out; omega
      case rel => exact ⟨j + 1, ρ11, HJ.out, rfl, by go_num, G12.out⟩
    · have hjn : j = N := by omega
      subst hjn
      clear hlt hj H1
      go_wp2_with fail
      by_cases hz : j = 0
      · have hg := G11.out
        rw [show yk R j = y6 R from by unfold yk; rw [if_pos hz]] at hg
        have G12 := Lib.hid hg
        clear hg G11 hz F1
        obtain ⟨f1, f2, f3, f4⟩ := y6_f R
        refine (gm_strong_alive G12.out (by rw [f1]; decide) (k := 0) (i := 1) (by rw [f2]; rfl) (by rw [f2]; decide) f3 (by rw [f4]; decide)).mono ?_
        rintro e v12 ⟨rfl, ρ12, hg, -⟩
        rw [show ((slotOf (y6 R).handles : Nat) : Int) = 0 from by rw [f1]; decide]
        have G13 : Hid (Gm w v12 ρ12 B (p6 R)) := hg
        clear hg G12 f1 f2 f3 f4
        go_wp2_with fail
        refine (gm_collect G13.out (by rw [p6_f]; decide)).mono ?_
        rintro e v13 ⟨rfl, ρ13, hg, -⟩
        have G14 : Hid (Gm w v13 ρ13 B (p7 R)) := hg
        clear hg G13
        go_wp2_with fail
        obtain ⟨f1, f2, f3⟩ := p7_f R
        refine (gm_field_obj G14.out (by rw [f2]; decide) (k := 0) (i := 1) (by rw [f2]; rfl) f3 (by decide) (j := 0) (q := 0) rfl).mono ?_
        rintro e v14 ⟨rfl, ρ14, hg, -⟩
        rw [show ((slotOf (p7 R).handles : Nat) : Int) = 1 from by rw [f2]; decide]
        have G15 : Hid (Gm w v14 ρ14 B (p8 R)) := hg
        unfold slotV
        clear hg G14 f2 f3
        go_wp2_with fail
        have hlo := G15.out.loc (.cells #[.bool true, .int .i64 1] 32)
        have hg := G15.out.alloc (.cells #[.bool true, .int .i64 1] 32)
        obtain ⟨n14, hn14⟩ : ∃ n, n = v14.heap.size := ⟨_, rfl⟩
        rw [← hn14] at hlo ⊢
        obtain ⟨v15, hv15⟩ : ∃ v, v = v14.alloc (.cells #[.bool true, .int .i64 1] 32) := ⟨_, rfl⟩
        rw [← hv15] at hlo hg ⊢
        have G16 := Lib.hid hg
        have L16 := Lib.hid hlo
        clear hg hlo hn14 hv15 G15
        refine (used_rep G16.out.rep).mono ?_
        rintro e v16 ⟨rfl, rfl⟩
        rw [show (((p8 R).used : Nat) : Int) = 4 from by rw [show (p8 R).used = (p7 R).used from by kernel_rfl, f1]; rfl]
        have l0 : v15.cell? ⟨n14, 0, none⟩ = some (.bool true) := by rw [cell_of_row _ _ 0 _ _ _ L16.out.at']; rfl
        have l1 : v15.cell? ⟨n14, 1, none⟩ = some (.int .i64 1) := by rw [cell_of_row _ _ 1 _ _ _ L16.out.at']; rfl
        clear f1
        go_wp2_with fail
        obtain ⟨f1, f2⟩ := p8_f R
        refine (gm_field_num G16.out (by rw [f1]; decide) (k := 1) (i := 0) (by rw [f1]; rfl) f2 (by decide) (j := 0) (m := 8) rfl).mono ?_
        rintro e v17 ⟨rfl, ρ17, hg, -⟩
        have G17 := Lib.hid hg
        unfold slotV
        clear hg G16 f1 f2 l0 l1 L16
        go_wp2_with fail
        have hlo := G17.out.loc (.cells #[.bool false, .int .i64 8] 32)
        have hg := G17.out.alloc (.cells #[.bool false, .int .i64 8] 32)
        obtain ⟨n17, hn17⟩ : ∃ n, n = v17.heap.size := ⟨_, rfl⟩
        rw [← hn17] at hlo ⊢
        obtain ⟨v18, hv18⟩ : ∃ v, v = v17.alloc (.cells #[.bool false, .int .i64 8] 32) := ⟨_, rfl⟩
        rw [← hv18] at hlo hg ⊢
        have G18 := Lib.hid hg
        clear hn17 hv18 hg G17
        have c0 : v18.cell? ⟨n17, 0, none⟩ = some (.bool false) := by rw [cell_of_row _ _ 0 _ _ _ hlo.at']; rfl
        have c1 : v18.cell? ⟨n17, 1, none⟩ = some (.int .i64 8) := by rw [cell_of_row _ _ 1 _ _ _ hlo.at']; rfl
        have d1 : n17 < v18.heap.size := (Array.getElem?_eq_some_iff.1 hlo.at').1
        have REF : Hid (∀ (n : Int) (x : Wc ρ17 v18), Calls Try.prog 15 #[.int .i64 n] x.v fun e w' => e = .returned (.agg #[.bool false, .int .i64 n]) ∧ ∃ y : Wc ρ17 v18, w' = y.v) := by
          intro n x
          refine (num_any x.ch.fresh n).mono ?_
          rintro e w' ⟨rfl, hc⟩
          exact ⟨rfl, ⟨w', x.ch.trans hc⟩, rfl⟩
        have k0 : ∀ x : Wc ρ17 v18, x.v.cell? ⟨n17, 0, none⟩ = some (.bool false) := fun x => (World.cell?_of_block (w := v18) (x.ch.block _ d1 (by simp))).trans c0
        have k1 : ∀ x : Wc ρ17 v18, x.v.cell? ⟨n17, 1, none⟩ = some (.int .i64 8) := fun x => (World.cell?_of_block (w := v18) (x.ch.block _ d1 (by simp))).trans c1
        have CH0 : Hid (Ch (fun _ => False) ρ17 ρ17 v18 v18.drew) := (Ch.refl G18.out.rep.rho).drew
        have q1 := eq32e
        have q2 := eq32f
        clear c0 c1 d1 hlo
        refine wp_region_class (w0 := v18) (ρ := ρ17) (by kernel_rfl) (by kernel_rfl) CH0.out ?_
        clear CH0
        repeat
          (refine wpQuiet_step (fun K hK => ?_)
           go_simp
           first
             | (refine hK _ ?_; clear hK K)
             | (refine ⟨_, fun _ => rfl, hK _ ?_⟩; clear hK K)
             | (apply Exists.intro; refine ⟨fun x => ?_, hK _ ?_⟩; (go_at_call 15; exact REF.out _ _); clear hK K))
        refine wpQuiet_nil ?_
        intro x
        clear q1 q2 k0 k1 REF
        go_wp2_with fail
        go_ret
        exact ⟨rfl, ρ17, (G18.out.frame x.ch).ch⟩
      · have hg := G11.out
        rw [show yk R j = y7 R from by unfold yk; rw [if_neg hz]] at hg
        have G12 := Lib.hid hg
        clear hg G11 hz F1
        obtain ⟨f0, f1, f2, f3, f4⟩ := y7_f R
        refine (gm_strong_freed G12.out (k := 0) (i := 1) (by rw [f1]; rfl) (by rw [f1]; decide) f2 (by rw [f3]; decide)).mono ?_
        rintro e v12 ⟨rfl, hg⟩
        have G13 := Lib.hid hg
        clear hg G12
        go_wp2_with fail
        refine (gm_collect G13.out (by rw [f4]; decide)).mono ?_
        rintro e v13 ⟨rfl, ρ13, hg, -⟩
        have G14 : Hid (Gm w v13 ρ13 B (y8 R)) := hg
        clear hg G13 f0 f1 f2 f3 f4
        go_wp2_with fail
        obtain ⟨f1, f2, f3, f4⟩ := y8_f R
        refine (gm_strong_freed G14.out (k := 0) (i := 1) (by rw [f1]; rfl) (by rw [f1]; decide) f2 (by rw [f3]; decide)).mono ?_
        rintro e v14 ⟨rfl, hg⟩
        have G15 := Lib.hid hg
        clear hg G14
        go_wp2_with fail
        refine (used_rep G15.out.rep).mono ?_
        rintro e v15 ⟨rfl, rfl⟩
        rw [show (((y8 R).used : Nat) : Int) = 0 from by rw [f4]; rfl]
        go_wp2_with fail
        go_ret
        exact ⟨rfl, ρ13, G15.out.ch⟩
end Go.Proofs.Ytfjgokbclgdfjaa
