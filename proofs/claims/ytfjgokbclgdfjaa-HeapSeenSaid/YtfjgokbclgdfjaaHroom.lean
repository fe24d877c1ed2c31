/- The walk of the statement on room. -/
import Derived.Test.YtfjgokbclgdfjaaRw
set_option linter.unusedSimpArgs false
set_option linter.unusedVariables false
namespace Go.Proofs.Ytfjgokbclgdfjaa
open Go.RowKit HM

theorem Try.info32 : (Try.prog.info? 32).map (fun i => (i.zero, i.size, i.bytes)) = some (some (.agg #[.bool false, .int .i64 0]), 2, 16) := by kernel_rfl

theorem room_any (w : World) (n : Int) (hn : -9223372036854775808 ≤ n ∧ n ≤ 9223372036854775807) :
    Calls Try.prog 12 #[.int .i64 n] w fun e w' => e = .returned (.int .i64 (4 + n % 197)) ∧ w' = w := by
  have h1 : 0 ≤ n % 197 ∧ n % 197 < 197 := by omega
  go_enter Try.func12, Try.ntmps12
  go_wp2_with (go_at_call 13; refine (mod_any w n 197 hn (by decide) (by decide)).mono ?_; rintro e w' ⟨rfl, rfl⟩)
  go_ret
  exact ⟨rfl, rfl⟩

set_option maxHeartbeats 4000000 in
set_option maxRecDepth 20000 in
theorem room_walk (a0 a1 a2 : Int) (w0 : (Lit.int .i64 a0).wf = true) (w1 : (Lit.int .i64 a1).wf = true) (w2 : (Lit.int .i64 a2).wf = true) (w : World) :
    Calls Try.prog 3 #[.int .i64 a0, .int .i64 a1, .int .i64 a2] w fun e w' => e = .returned (.bool true) ∧ ∃ ρ', Ch Mine (fun _ => 0) ρ' w w' := by
  have b0 := Lib.hid (fits64 w0)
  have b1 := Lib.hid (fits64 w1)
  have b2 := Lib.hid (fits64 w2)
  clear w0 w1 w2
  go_enter Try.func3, Try.ntmps3
  go_wp2_with fail
  refine (sane_any w).mono ?_
  rintro e v1 ⟨rfl, ρ1, hc⟩
  have H1 := Lib.hid hc
  clear hc
  go_wp2_with fail
  refine (room_any v1 a0 b0.out).mono ?_
  rintro e v1 ⟨rfl, rfl⟩
  obtain ⟨R, hR⟩ : ∃ R : Nat, ((R : Int) = 4 + a0 % 197) := ⟨(4 + a0 % 197).toNat, by omega⟩
  rw [← hR]
  have F := Lib.hid (show 4 ≤ R ∧ R ≤ 200 by omega)
  clear hR b0
  go_wp2_with fail
  refine (mod_any v1 a1 6 b1.out (by decide) (by decide)).mono ?_
  rintro e v1 ⟨rfl, rfl⟩
  obtain ⟨z, hz⟩ : ∃ z : Nat, ((z : Int) = a1 % 6) := ⟨(a1 % 6).toNat, by omega⟩
  rw [← hz]
  have FZ := Lib.hid (show z ≤ 5 by omega)
  clear hz b1
  go_wp2_with fail
  refine (new_rep (w := v1) (ρ := ρ1) H1.out.fresh R F.out.1 (by have := F.out.2; omega)).mono ?_
  rintro e v2 ⟨A, ρ2, rfl, hr, hc⟩
  have G2 : Hid (Gm w v2 ρ2 A (S.new R)) := ⟨hr, wf_new R, ⟨by have := F.out.2; show R ≤ _; omega, by show (0 : Nat) ≤ _; decide, by show (0 : Nat) ≤ _; decide, by show (0 : Nat) ≤ _; decide⟩, by show (0 : Nat) ≤ 2; decide, H1.out.trans (hc.mono fun _ h => h.elim)⟩
  clear hr hc H1
  go_wp2_with fail
  go_loopg [12, 13, 14, 15, 16, 17, 18] 300 (fun gk v12 v13 v14 v15 v16 v17 v18 wr => ∃ (i j : Nat) (ρ' : Nat → Nat) (A' : Ad) (s : S) (ks : List Nat), i ≤ 300 ∧ gk = 300 - i ∧ v13 = .int .i64 i ∧ A'.hb = A.hb ∧ Gm w wr ρ' A' s ∧ RoomI s R (1 + z) ks ∧ ks.length = j ∧ j ≤ 3 ∧ s.objs.length ≤ i ∧ s.epoch ≤ i ∧
    KRow wr ρ' w.heap.size v12 ((List.range j).map fun q : Nat => Value.int .i64 (q : Int)))
  case atStart => exact ⟨0, 0, ρ2, A, S.new R, [], by decide, rfl, rfl, rfl, G2.out, ⟨rfl, rfl, by simp, .inl rfl, fun k hk => by simp at hk⟩, rfl, by simp, by simp [S.new], by simp [S.new], KRow.nil _ _ _⟩
  case round =>
    obtain ⟨i, j, ρ', A', s, ks, hi, hgk, rfl, hA, hg, hri, hkl, hks, hol, hep, hkr⟩ := hrel
    obtain ⟨wo, hwo⟩ : ∃ v, v = wr := ⟨_, rfl⟩
    subst hwo
    have G3 := Lib.hid hg
    have R3 := Lib.hid hri
    have K3 := Lib.hid hkr
    have E1 := Lib.hid hgk
    have E2 := Lib.hid (And.intro hkl (And.intro hks (And.intro hol hep)))
    have HA := Lib.hid hA
    obtain ⟨ka, kn, kc, hkv⟩ := hkr.row.shape
    obtain rfl : j = kn := by
      rcases hkr.row with ⟨e, h0⟩ | ⟨g, off, cap, cur, e, _⟩
      · rw [hkv] at e; simp at e h0; omega
      · rw [hkv] at e; simp at e; omega
    subst hkv
    clear hgk hg hri hkr hkl hks hol hep hA G2
    by_cases hlt : i < 300
    · have hltz : (i : Int) < 300 := by omega
      have HLT := Lib.hid hlt
      clear hlt hi
      go_wp2_with fail
      go_loopg [14, 15] z (fun gk2 v14 v15 wl => ∃ k : Nat, k ≤ z ∧ gk2 = z - k ∧ v15 = .int .i64 k ∧ wl.ownsRow wo.heap.size 32 2 v14 k (flat (List.replicate k (false, (i : Int)))) ∧ wo.grownBy wl none)
      case atStart => exact ⟨0, Nat.zero_le _, rfl, rfl, World.ownsRow_nil _ _ _ _, ⟨rfl, rfl, rfl, Nat.le_refl _, fun _ _ _ => rfl⟩⟩
      case round =>
        obtain ⟨k, hk, hgk2, rfl, hown, hgr⟩ := hrel
        obtain ⟨wl, hwl⟩ : ∃ v, v = wr := ⟨_, rfl⟩
        subst hwl
        have I1 := Lib.hid hgk2
        have I2 := Lib.hid hown
        have I3 := Lib.hid hgr
        obtain ⟨la, lc, rfl⟩ := own_shape hown
        clear hgk2 hown hgr
        by_cases hkz : k < z
        · have hkzz : (k : Int) < (z : Int) := by omega
          have HKZ := Lib.hid hkz
          clear hkz hk
          go_wp2_with fail
          refine (num_any (w := wl) (ρ := ρ') (fun q hq => G3.out.rep.rho q (Nat.le_trans I3.out.size hq)) i).mono ?_
          rintro e w3 ⟨rfl, hc⟩
          unfold slotV
          obtain ⟨i0, hi0, hz0, hz1, hz2⟩ := info_parts Try.info32
          have hx : (w3.alloc (.cells #[.bool false, .int .i64 i] 32)).heap[w3.heap.size]? = some (.cells #[.bool false, .int .i64 i] 32 (0, 0)) := heap_alloc_new w3 _
          have O3 : Hid ((w3.alloc (.cells #[.bool false, .int .i64 i] 32)).ownsRow wo.heap.size 32 2 (.slice la k lc) k (flat (List.replicate k (false, (i : Int))))) :=
            own_keep (own_keep I2.out (fun q hq => hc.block q hq (by simp))) (fun q hq => Below.heap_alloc _ _ _ hq)
          have O4 : Hid (wo.grownBy (w3.alloc (.cells #[.bool false, .int .i64 i] 32)) none) :=
            ⟨hc.os.trans I3.out.os, hc.tape.trans I3.out.tape, hc.output.trans I3.out.output, Nat.le_trans I3.out.size (Nat.le_trans hc.size (by simp)), fun q hq hn =>
              ((Below.heap_alloc _ _ _ (Nat.lt_of_lt_of_le hq (Nat.le_trans I3.out.size hc.size))).trans (hc.block q (Nat.lt_of_lt_of_le hq I3.out.size) (by simp))).trans (I3.out.block q hq hn)⟩
          have O5 := Lib.hid hx
          have O6 := Lib.hid (And.intro hi0 (And.intro hz0 (And.intro hz1 hz2)))
          have O7 : Hid (k ≤ 5) := by have := HKZ.out; have := FZ.out; show k ≤ 5; omega
          clear hc hx hi0 hz0 hz1 hz2 I2 I3
          go_wp2_with (at_builtin; refine wpList_append_own_wide _ rfl _ _ 30 rfl wo.heap.size 32 i0 (.agg #[.bool false, .int .i64 0]) 2 16 Try.underlying30 O6.out.1 O6.out.2.1 O6.out.2.2.1 O6.out.2.2.2 rfl (by decide) (.slice la k lc) k (flat (List.replicate k (false, (i : Int)))) rfl O3.out ⟨w3.heap.size, 0, none⟩ 1 1 [.bool false, .int .i64 i] rfl rfl ?_ ?_ ?_ ?_ O4.out.size ?_)
          · intro q u hu
            rw [Addr.add_lit, cell_of_row _ _ _ _ _ _ O5.out]
            match q, hu with
            | 0, hu => simpa using hu
            | 1, hu => simpa using hu
            | q + 2, hu => simp at hu
          · intro u hu; simp at hu; rcases hu with rfl | rfl <;> rfl
          · have := O7.out; simp only [maxLen]; omega
          · have := O7.out; omega
          · intro v' w4 h1 h2 _
            obtain ⟨la2, lc2, rfl⟩ := own_shape h1
            have O8 := Lib.hid h1
            have O9 : Hid (wo.grownBy w4 none) := ⟨h2.os.trans O4.out.os, h2.tape.trans O4.out.tape, h2.output.trans O4.out.output, Nat.le_trans O4.out.size h2.size, fun q hq hn =>
              (h2.block q (Nat.lt_of_lt_of_le hq O4.out.size) (fun e => by
                have := (O3.out.lt q e.symm).1
                omega)).trans (O4.out.block q hq hn)⟩
            clear h1 h2
            go_wp2_with fail
            go_roundg (z - (k + 1))
            case measure => have := I1.out; have := HKZ.out; omega
            case rel =>
              refine ⟨k + 1, HKZ.out, rfl, by have h5 : k ≤ 5 := O7.out; refine congrArg _ ?_; unfold wrap64; omega, ?_, O9.out⟩
              have e : flat (List.replicate (k + 1) (false, (i : Int))) = flat (List.replicate k (false, (i : Int))) ++ [.bool false, .int .i64 i] := by
                rw [List.replicate_succ', flat_append]; rfl
              rw [e]
              exact O8.out
        · obtain rfl : k = z := by omega
          clear hkz hk I1
          have G4 : Hid (Gm w wl ρ' A' s) := G3.out.grown I3.out (fun r hr => by simp at hr)
          have K4 : Hid (KRow wl ρ' w.heap.size (.slice ka j kc) ((List.range j).map fun q : Nat => Value.int .i64 (q : Int))) := K3.out.keep I3.out.size fun q hq h0 _ => ⟨I3.out.block q hq (by simp), h0⟩
          have B4 : Hid (w.heap.size ≤ wo.heap.size) := G3.out.ch.size
          have HJ : Hid (j ≤ 3) := E2.out.2.1
          have hj3 : j ≤ 3 := HJ.out
          by_cases hc : 0 < k ∧ 0 < j
          case' pos =>
            obtain ⟨hc1, hc2⟩ := hc
            obtain ⟨g, cap, cur, hgv, hgb, hgh, hgc, hgs, hgx⟩ := own_cells I2.out hc1
            simp only [Value.slice.injEq] at hgv
            obtain ⟨rfl, -, rfl⟩ := hgv
            obtain ⟨p, rfl⟩ : ∃ p, j = p + 1 := ⟨j - 1, by omega⟩
            obtain ⟨kg, koff, kcap, hkv, -, hkl, -, hkx⟩ := K4.out.row.cell (i := p) (x := .int .i64 p) (by simp)
            simp only [Value.slice.injEq] at hkv
            obtain ⟨rfl, -, rfl⟩ := hkv
            have hk1 : (0 : Int) < (k : Int) := by omega
            have hp1 : p ≤ 2 := by omega
            have L1 := Lib.hid hgh
            have L2 := Lib.hid hgx
            have L3 := Lib.hid hgb
            have L4 := Lib.hid (And.intro hgc hgs)
            clear hgh hgx hgb hgs hgc
            go_wp2_with fail
            refine (ref_any G4.out.rep.rho p).mono ?_
            rintro e w5 ⟨rfl, hc5⟩
            unfold slotV
            have G5 := Lib.hid (G4.out.frame hc5)
            have K5 := Lib.hid (K4.out.ch (hc5.mono fun _ h => h.elim))
            have hg5 : w5.heap[g]? = some (.cells cur 32 (0, 0)) := (hc5.block g (Array.getElem?_eq_some_iff.1 L1.out).1 (by simp)).trans L1.out
            obtain ⟨y0, y1, m0, m1⟩ : ∃ y0 y1, cur[0]? = some y0 ∧ cur[1]? = some y1 := by
              have := L2.out 0 (by omega); have h1 := L2.out 1 (by omega)
              have e : ∃ q, k = q + 1 := ⟨k - 1, by omega⟩
              obtain ⟨q, rfl⟩ := e
              exact ⟨_, _, this, h1⟩
            have n0 : w5.cell? ⟨g, 0, none⟩ = some y0 := by rw [cell_of_row _ _ 0 _ _ _ hg5]; exact m0
            have n1 : w5.cell? ⟨g, 1, none⟩ = some y1 := by rw [cell_of_row _ _ 1 _ _ _ hg5]; exact m1
            have nf : ∀ q, w5.frozen? ⟨g, q, none⟩ = false := fun q => frozen_of_row _ _ q _ _ hg5
            have nl : g < w5.heap.size := (Array.getElem?_eq_some_iff.1 hg5).1
            have L5 := Lib.hid hg5
            clear hg5 hc5 m0 m1 G4 K4 hkx
            go_wp2_with fail
            obtain ⟨wc, hwc⟩ : ∃ v, v = (w5.setCell ⟨g, 0, none⟩ (.bool true)).setCell ⟨g, 1, none⟩ (.int .i64 p) := ⟨_, rfl⟩
            rw [← hwc]
            have hgc : wc.heap[g]? = some (.cells ((cur.set! 0 (.bool true)).set! 1 (.int .i64 p)) 32 (0, 0)) := by
              rw [hwc]; exact heap_setCell_same _ g 1 _ _ _ (heap_setCell_same w5 g 0 _ _ _ L5.out)
            have hgo : ∀ q, q ≠ g → wc.heap[q]? = w5.heap[q]? := fun q hq => by rw [hwc, Below.heap_setCell _ _ _ _ hq, Below.heap_setCell _ _ _ _ hq]
            have hsz : wc.heap.size = w5.heap.size := by rw [hwc]; simp
            have hgrw : w5.grownBy wc (some g) := by
              refine ⟨by rw [hwc]; rfl, by rw [hwc]; rfl, by rw [hwc]; rfl, by omega, fun q hq hn => hgo q fun e => hn (by rw [e])⟩
            have GG : Hid (Gm w wc ρ' A' s) := G5.out.grown hgrw fun r hr => by
              simp at hr; subst hr
              exact ⟨G3.out.rep.rho g L3.out, Nat.le_trans B4.out L3.out⟩
            have KK : Hid (KRow wc ρ' w.heap.size (.slice (some ⟨kg, koff, none⟩) (p + 1) kc) ((List.range (p + 1)).map fun q : Nat => Value.int .i64 (q : Int))) := K5.out.keep (by omega) fun q hq h0 hb => ⟨hgo q fun e => by
              simp [Value.ownBlock] at hb
              have h1 := (K3.out.own kg rfl).2.1
              have h2 := L3.out
              omega, h0⟩
            obtain ⟨kp, hkp⟩ : ∃ kp, ks[p]? = some kp := ⟨_, List.getElem?_eq_getElem (by rw [E2.out.1]; omega)⟩
            have TL : Hid (∃ fs ws g' off, Fields wc s fs ws g' off k ∧ (0 < k → (some ⟨g, 0, none⟩ : Option Addr) = some ⟨g', off, none⟩) ∧ ws.length = k ∧ ∀ q, W.obj q ∈ ws → q ∈ ks) := by
              refine ⟨(true, (p : Int)) :: List.replicate (k - 1) (false, (i : Int)), .obj kp :: List.replicate (k - 1) (.num i), g, 0, ⟨by simp; omega, by simp; omega, fun _ => (Array.getElem?_eq_some_iff.1 hgc).1, fun q r m hq => ?_, fun q r m hq => ?_⟩, fun _ => rfl, by simp; omega, fun q hq => ?_⟩
              · rw [cell_of_row _ _ _ _ _ _ hgc, cell_of_row _ _ _ _ _ _ hgc]
                have hcs := L4.out
                cases q with
                | zero =>
                  simp at hq
                  obtain ⟨rfl, rfl⟩ := hq
                  have hs2 : 1 < cur.size := by obtain ⟨h1, h2⟩ := hcs; omega
                  have hs1 : 0 < cur.size := by omega
                  simp only [Array.set!_eq_setIfInBounds, Array.getElem?_setIfInBounds, Array.size_setIfInBounds]
                  constructor
                  · simp [hs1]
                  · simp [hs2]
                | succ q =>
                  simp only [List.getElem?_cons_succ] at hq
                  have hqk : q < k - 1 := by have := (List.getElem?_eq_some_iff.1 hq).1; simpa using this
                  rw [List.getElem?_replicate, if_pos hqk] at hq
                  simp only [Option.some.injEq, Prod.mk.injEq] at hq
                  obtain ⟨rfl, rfl⟩ := hq
                  have hf := flat_get (fs := List.replicate k (false, (i : Int))) (j := q + 1) (by rw [List.getElem?_replicate, if_pos (by omega)])
                  simp only [Array.set!_eq_setIfInBounds, Array.getElem?_setIfInBounds, Array.size_setIfInBounds]
                  rw [if_neg (by omega), if_neg (by omega), if_neg (by omega), if_neg (by omega), Nat.zero_add, L2.out _ (by omega), L2.out _ (by omega)]
                  exact hf
              · cases q with
                | zero =>
                  simp at hq
                  obtain ⟨rfl, rfl⟩ := hq
                  exact .inr ⟨rfl, kp, atH_at (R3.out.handle hkp), rfl⟩
                | succ q =>
                  simp only [List.getElem?_cons_succ] at hq
                  have hqk : q < k - 1 := by have := (List.getElem?_eq_some_iff.1 hq).1; simpa using this
                  rw [List.getElem?_replicate, if_pos hqk] at hq
                  simp only [Option.some.injEq, Prod.mk.injEq] at hq
                  obtain ⟨rfl, rfl⟩ := hq
                  exact .inl ⟨rfl, by rw [List.getElem?_cons_succ, List.getElem?_replicate, if_pos hqk]⟩
              · simp at hq
                subst hq
                exact List.mem_of_getElem? hkp
            have NJ : Hid (ks.length = p + 1) := E2.out.1
            clear hwc hgc hgo hsz hgrw hkp n0 n1 nf nl L1 L2 L4 L5 G5 K5 hk1
            obtain ⟨fs, ws, g', off, hf, had, hwl, hwq⟩ := TL.out
            have hsl := R3.out.slot
            have hwf := GG.out.wf
            have hlen1 : s.handles.length < 60000 := by have := R3.out.handsLen; have := NJ.out; have := HJ.out; omega
            have hol : s.objs.length < 1000000 := by have := E2.out.2.2.1; have := HLT.out; omega
            have hep : s.epoch < 100000000 := by have := E2.out.2.2.2; have := HLT.out; omega
            have htag : 0 ≤ (i : Int) ∧ (i : Int) ≤ 9223372036854775807 := by omega
            have hk16 : k ≤ 16 := by have := FZ.out; omega
            by_cases hfit : s.fitsB (1 + k)
            · have cl := gm_cell GG.out hlen1 hol hf hk16 _ lc had i htag hfit
              rw [HA.out] at cl
              refine cl.mono ?_
              clear cl
              rintro e w6 ⟨rfl, ρ6, ob, hg, hc6⟩
              rw [hsl, NJ.out]
              obtain ⟨RT, WT, TO, TE⟩ := R3.out.next (t := s) hwf (.inl rfl)
              have hM := RT.fits WT (hfit)
              rw [NJ.out] at hM
              have RM := RT.made (tag := (i : Int)) WT (by omega) hwq
              have RG := RT.gone (tag := (i : Int)) WT (by omega) hwq
              obtain ⟨mf1, mf2, mf3, mf4⟩ := made_facts (s) (i : Int) ws
              have G6 := Lib.hid hg
              have K6 := Lib.hid (KK.out.ch hc6)
              have M1 := Lib.hid RM
              have M2 := Lib.hid RG
              have M3 : Hid (((s).made (i : Int) ws).objs.length ≤ i + 1 ∧ ((s).made (i : Int) ws).epoch ≤ i + 1) := by
                have h1 := E2.out.2.2.1
                have h2 := E2.out.2.2.2
                show _ ∧ _
                constructor <;> omega
              obtain ⟨M, hMN⟩ : ∃ M : Nat, M = ((p + 1) + 1) * (1 + k) := ⟨_, rfl⟩
              have hMM : (M : Int) = (((p : Int) + 1) + 1) * ((k : Int) + 1) := by rw [hMN, Nat.add_comm 1 k]; push_cast; rfl
              have hMR : M ≤ R := by rw [hMN]; exact hM
              have hMR2 : decide ((R : Int) < (M : Int)) = false := by simp; omega
              have hR200 : M ≤ 200 := by have := F.out.2; omega
              have hw : decide ((R : Int) < wrap64 ((((p : Int) + 1) + 1) * ((k : Int) + 1))) = false := by rw [← hMM, show wrap64 (M : Int) = M from by unfold wrap64; omega]; exact hMR2
              clear hMR2 hR200 hMM hMN RT WT TO TE hM RM RG mf1 mf2 mf3 mf4 hg hc6 GG KK TL hf had hwl hwq hsl hwf hlen1 hol hep htag hMR hfit
              have hJ3 : ((p : Int) + 1) ≤ 3 := by have := HJ.out; omega
              go_wp2_with fail
              refine (mod_any w6 a2 4 b2.out (by decide) (by decide)).mono ?_
              rintro e w6 ⟨rfl, rfl⟩
              obtain ⟨m, hm⟩ : ∃ m : Nat, (m : Int) = a2 % 4 := ⟨(a2 % 4).toNat, by omega⟩
              rw [← hm]
              have hm3 : (m : Int) ≤ 3 := by omega
              clear hm
              by_cases hkeep : ((p : Int) + 1) < (m : Int)
              · have hkeep3 : ((p : Int) + 1) + 1 ≤ 3 := by omega
                have K7 : KRow (w6.alloc (.cells #[.int .i64 ((p : Int) + 1)] 3)) ρ6 w.heap.size (.slice (some ⟨kg, koff, none⟩) (p + 1) kc) ((List.range (p + 1)).map fun q : Nat => Value.int .i64 (q : Int)) := K6.out.ch ((Ch.refl G6.out.rep.rho).alloc _)
                have G7 := G6.out.alloc (.cells #[.int .i64 ((p : Int) + 1)] 3)
                have hcl : (w6.alloc (.cells #[.int .i64 ((p : Int) + 1)] 3)).cell? ⟨w6.heap.size, 0, none⟩ = some (.int .i64 ((p : Int) + 1)) := by rw [cell_of_row _ _ 0 _ _ _ (heap_alloc_new w6 _)]; rfl
                obtain ⟨v', w7, hrun, hk7, hgr⟩ := K7.append G7.rep.rho G7.ch.size ⟨w6.heap.size, 0, none⟩ 1 (.int .i64 ((p : Int) + 1)) hcl rfl (by simp; omega) 29
                have G8 := Lib.hid (G7.grown hgr fun r hr => ⟨(K7.own r hr).2.2, (K7.own r hr).1⟩)
                have K8 := Lib.hid hk7
                obtain ⟨xa, xn, xc, rfl⟩ := hk7.row.shape
                have RUN := Lib.hid hrun
                clear K7 G7 hcl hk7 hgr hw hrun
                go_wp2_with (at_builtin; refine wpList_append_run rfl _ _ 29 rfl rfl rfl RUN.out ?_)
                go_roundg (300 - (i + 1))
                case measure => have := E1.out; have := HLT.out; omega
                case rel =>
                  refine ⟨i + 1, (p + 1) + 1, ρ6, A'.more ob, (s).made (i : Int) ws, ks ++ [(s).objs.length], HLT.out, rfl, by go_num, HA.out, G8.out, M1.out, by simp [NJ.out], by omega, M3.out.1, M3.out.2, ?_⟩
                  have e : (List.range ((p + 1) + 1)).map (fun q : Nat => Value.int .i64 (q : Int)) = (List.range (p + 1)).map (fun q : Nat => Value.int .i64 (q : Int)) ++ [.int .i64 ((p : Int) + 1)] := by rw [List.range_succ, List.map_append]; rfl
                  rw [e]
                  exact K8.out
              · have hnd := M2.out.2
                rw [NJ.out] at hnd
                have hdr := gm_drop G6.out hnd
                rw [show (A'.more ob).hb = A.hb from HA.out] at hdr
                rw [show (((p + 1 : Nat) : Int)) = (p : Int) + 1 from by push_cast; rfl] at hdr
                have HDR := Lib.hid hdr
                clear hdr hnd hw
                go_wp2_with fail
                refine HDR.out.mono ?_
                rintro e w7 ⟨rfl, ρ7, hg7, hc7⟩
                have G8 := Lib.hid hg7
                have K8 := Lib.hid (K6.out.ch hc7)
                clear hg7 hc7
                go_wp2_with fail
                go_roundg (300 - (i + 1))
                case measure => have := E1.out; have := HLT.out; omega
                case rel =>
                  exact ⟨i + 1, (p + 1), ρ7, A'.more ob, ((s).made (i : Int) ws).drop (p + 1), ks, HLT.out, rfl, by go_num, HA.out, G8.out, by have := M2.out.1; rw [NJ.out] at this; exact this, NJ.out, HJ.out, M3.out.1, M3.out.2, K8.out⟩
            · by_cases hfit2 : s.collect.fitsB (1 + k)
              · have cl := gm_cell_after GG.out hlen1 hol hep hf hk16 _ lc had i htag hfit hfit2
                rw [HA.out] at cl
                refine cl.mono ?_
                clear cl
                rintro e w6 ⟨rfl, ρ6, ob, hg, hc6⟩
                rw [hsl, NJ.out]
                clear hfit
                have hfit := hfit2
                clear hfit2
                obtain ⟨RT, WT, TO, TE⟩ := R3.out.next (t := s.collect) hwf (.inr rfl)
                have hM := RT.fits WT (hfit)
                rw [NJ.out] at hM
                have RM := RT.made (tag := (i : Int)) WT (by omega) hwq
                have RG := RT.gone (tag := (i : Int)) WT (by omega) hwq
                obtain ⟨mf1, mf2, mf3, mf4⟩ := made_facts (s.collect) (i : Int) ws
                have G6 := Lib.hid hg
                have K6 := Lib.hid (KK.out.ch hc6)
                have M1 := Lib.hid RM
                have M2 := Lib.hid RG
                have M3 : Hid (((s.collect).made (i : Int) ws).objs.length ≤ i + 1 ∧ ((s.collect).made (i : Int) ws).epoch ≤ i + 1) := by
                  have h1 := E2.out.2.2.1
                  have h2 := E2.out.2.2.2
                  show _ ∧ _
                  constructor <;> omega
                obtain ⟨M, hMN⟩ : ∃ M : Nat, M = ((p + 1) + 1) * (1 + k) := ⟨_, rfl⟩
                have hMM : (M : Int) = (((p : Int) + 1) + 1) * ((k : Int) + 1) := by rw [hMN, Nat.add_comm 1 k]; push_cast; rfl
                have hMR : M ≤ R := by rw [hMN]; exact hM
                have hMR2 : decide ((R : Int) < (M : Int)) = false := by simp; omega
                have hR200 : M ≤ 200 := by have := F.out.2; omega
                have hw : decide ((R : Int) < wrap64 ((((p : Int) + 1) + 1) * ((k : Int) + 1))) = false := by rw [← hMM, show wrap64 (M : Int) = M from by unfold wrap64; omega]; exact hMR2
                clear hMR2 hR200 hMM hMN RT WT TO TE hM RM RG mf1 mf2 mf3 mf4 hg hc6 GG KK TL hf had hwl hwq hsl hwf hlen1 hol hep htag hMR hfit
                have hJ3 : ((p : Int) + 1) ≤ 3 := by have := HJ.out; omega
                go_wp2_with fail
                refine (mod_any w6 a2 4 b2.out (by decide) (by decide)).mono ?_
                rintro e w6 ⟨rfl, rfl⟩
                obtain ⟨m, hm⟩ : ∃ m : Nat, (m : Int) = a2 % 4 := ⟨(a2 % 4).toNat, by omega⟩
                rw [← hm]
                have hm3 : (m : Int) ≤ 3 := by omega
                clear hm
                by_cases hkeep : ((p : Int) + 1) < (m : Int)
                · have hkeep3 : ((p : Int) + 1) + 1 ≤ 3 := by omega
                  have K7 : KRow (w6.alloc (.cells #[.int .i64 ((p : Int) + 1)] 3)) ρ6 w.heap.size (.slice (some ⟨kg, koff, none⟩) (p + 1) kc) ((List.range (p + 1)).map fun q : Nat => Value.int .i64 (q : Int)) := K6.out.ch ((Ch.refl G6.out.rep.rho).alloc _)
                  have G7 := G6.out.alloc (.cells #[.int .i64 ((p : Int) + 1)] 3)
                  have hcl : (w6.alloc (.cells #[.int .i64 ((p : Int) + 1)] 3)).cell? ⟨w6.heap.size, 0, none⟩ = some (.int .i64 ((p : Int) + 1)) := by rw [cell_of_row _ _ 0 _ _ _ (heap_alloc_new w6 _)]; rfl
                  obtain ⟨v', w7, hrun, hk7, hgr⟩ := K7.append G7.rep.rho G7.ch.size ⟨w6.heap.size, 0, none⟩ 1 (.int .i64 ((p : Int) + 1)) hcl rfl (by simp; omega) 29
                  have G8 := Lib.hid (G7.grown hgr fun r hr => ⟨(K7.own r hr).2.2, (K7.own r hr).1⟩)
                  have K8 := Lib.hid hk7
                  obtain ⟨xa, xn, xc, rfl⟩ := hk7.row.shape
                  have RUN := Lib.hid hrun
                  clear K7 G7 hcl hk7 hgr hw hrun
                  go_wp2_with (at_builtin; refine wpList_append_run rfl _ _ 29 rfl rfl rfl RUN.out ?_)
                  go_roundg (300 - (i + 1))
                  case measure => have := E1.out; have := HLT.out; omega
                  case rel =>
                    refine ⟨i + 1, (p + 1) + 1, ρ6, A'.more ob, (s.collect).made (i : Int) ws, ks ++ [(s.collect).objs.length], HLT.out, rfl, by go_num, HA.out, G8.out, M1.out, by simp [NJ.out], by omega, M3.out.1, M3.out.2, ?_⟩
                    have e : (List.range ((p + 1) + 1)).map (fun q : Nat => Value.int .i64 (q : Int)) = (List.range (p + 1)).map (fun q : Nat => Value.int .i64 (q : Int)) ++ [.int .i64 ((p : Int) + 1)] := by rw [List.range_succ, List.map_append]; rfl
                    rw [e]
                    exact K8.out
                · have hnd := M2.out.2
                  rw [NJ.out] at hnd
                  have hdr := gm_drop G6.out hnd
                  rw [show (A'.more ob).hb = A.hb from HA.out] at hdr
                  rw [show (((p + 1 : Nat) : Int)) = (p : Int) + 1 from by push_cast; rfl] at hdr
                  have HDR := Lib.hid hdr
                  clear hdr hnd hw
                  go_wp2_with fail
                  refine HDR.out.mono ?_
                  rintro e w7 ⟨rfl, ρ7, hg7, hc7⟩
                  have G8 := Lib.hid hg7
                  have K8 := Lib.hid (K6.out.ch hc7)
                  clear hg7 hc7
                  go_wp2_with fail
                  go_roundg (300 - (i + 1))
                  case measure => have := E1.out; have := HLT.out; omega
                  case rel =>
                    exact ⟨i + 1, (p + 1), ρ7, A'.more ob, ((s.collect).made (i : Int) ws).drop (p + 1), ks, HLT.out, rfl, by go_num, HA.out, G8.out, by have := M2.out.1; rw [NJ.out] at this; exact this, NJ.out, HJ.out, M3.out.1, M3.out.2, K8.out⟩
              · have cl := gm_cell_full GG.out hlen1 hep hf hk16 _ lc had i htag.1 hfit hfit2
                rw [HA.out] at cl
                refine cl.mono ?_
                clear cl
                rintro e w6 ⟨rfl, ρ6, hg, hc6⟩
                have hM := R3.out.full hwf hfit2
                rw [NJ.out] at hM
                obtain ⟨M, hMN⟩ : ∃ M : Nat, M = ((p + 1) + 1) * (1 + k) := ⟨_, rfl⟩
                have hMM : (M : Int) = (((p : Int) + 1) + 1) * ((k : Int) + 1) := by rw [hMN, Nat.add_comm 1 k]; push_cast; rfl
                have hMR : (R : Int) < (M : Int) := by rw [← hMN] at hM; omega
                have hM24 : M ≤ 24 := by
                  have h1 : (p + 1) + 1 ≤ 4 := by have := HJ.out; omega
                  have h2 : 1 + k ≤ 6 := by have := FZ.out; omega
                  have := Nat.mul_le_mul h1 h2
                  omega
                have hw : (R : Int) < wrap64 ((((p : Int) + 1) + 1) * ((k : Int) + 1)) := by rw [← hMM, show wrap64 (M : Int) = M from by unfold wrap64; omega]; exact hMR
                have G6 := Lib.hid hg
                clear hMM hMN hM hg hc6 GG KK TL hf had hwl hwq hsl hwf hlen1 hol hep htag hfit hfit2
                have hJ3 : ((p : Int) + 1) ≤ 3 := by have := HJ.out; omega
                go_wp2_with fail
                go_ret
                exact ⟨rfl, ρ6, G6.out.ch⟩
          case' neg =>
            have GG := G4
            have KK := K4
            have TL : Hid (∃ fs ws g' off, Fields wl s fs ws g' off k ∧ (0 < k → la = some ⟨g', off, none⟩) ∧ ws.length = k ∧ ∀ q, W.obj q ∈ ws → q ∈ ks) := by
              rcases Nat.eq_zero_or_pos k with h0 | h0
              · subst h0
                exact ⟨[], [], 0, 0, fields_nil wl s 0 0, fun h => absurd h (by decide), rfl, fun q hq => by simp at hq⟩
              · obtain ⟨g, cap, cur, hgv, hgb, hgh, hgc, hgs, hgx⟩ := own_cells I2.out h0
                simp only [Value.slice.injEq] at hgv
                refine ⟨List.replicate k (false, (i : Int)), List.replicate k (.num i), g, 0, ⟨by simp, by simp, fun _ => (Array.getElem?_eq_some_iff.1 hgh).1, fun q r m hq => ?_, fun q r m hq => ?_⟩, fun _ => hgv.1, by simp, fun q hq => by simp at hq⟩
                · have hqk : q < k := by have := (List.getElem?_eq_some_iff.1 hq).1; simpa using this
                  rw [cell_of_row _ _ _ _ _ _ hgh, cell_of_row _ _ _ _ _ _ hgh, Nat.zero_add, hgx _ (by omega), hgx _ (by omega)]
                  exact flat_get hq
                · have hqk : q < k := by have := (List.getElem?_eq_some_iff.1 hq).1; simpa using this
                  rw [List.getElem?_replicate, if_pos hqk] at hq
                  simp only [Option.some.injEq, Prod.mk.injEq] at hq
                  obtain ⟨rfl, rfl⟩ := hq
                  exact .inl ⟨rfl, by rw [List.getElem?_replicate, if_pos hqk]⟩
            have NJ : Hid (ks.length = j) := E2.out.1
            clear G4 K4
            rcases Nat.eq_zero_or_pos k with hk0 | hk0
            case' inl =>
              have hk00 : decide ((0 : Int) < (k : Int)) = false := by simp; omega
              have hk02 : ¬ (0 < k) := by omega
              clear hk0 hc
            case' inr =>
              have hj0 : j = 0 := by
                rcases Nat.eq_zero_or_pos j with h2 | h2
                · exact h2
                · exact absurd ⟨hk0, h2⟩ hc
              have hk00 : decide ((0 : Int) < (j : Int)) = false := by simp; omega
              have hk01 : (0 : Int) < (k : Int) := by omega
              have hk02 : ¬ (0 < j) := by omega
              have hk03 : 0 < k := hk0
              clear hj0 hk0 hc
            all_goals go_wp2_with fail
            all_goals
              obtain ⟨fs, ws, g', off, hf, had, hwl, hwq⟩ := TL.out
              have hsl := R3.out.slot
              have hwf := GG.out.wf
              have hlen1 : s.handles.length < 60000 := by have := R3.out.handsLen; have := NJ.out; have := HJ.out; omega
              have hol : s.objs.length < 1000000 := by have := E2.out.2.2.1; have := HLT.out; omega
              have hep : s.epoch < 100000000 := by have := E2.out.2.2.2; have := HLT.out; omega
              have htag : 0 ≤ (i : Int) ∧ (i : Int) ≤ 9223372036854775807 := by omega
              have hk16 : k ≤ 16 := by have := FZ.out; omega
              by_cases hfit : s.fitsB (1 + k)
              · have cl := gm_cell GG.out hlen1 hol hf hk16 _ lc had i htag hfit
                rw [HA.out] at cl
                refine cl.mono ?_
                clear cl
                rintro e w6 ⟨rfl, ρ6, ob, hg, hc6⟩
                rw [hsl, NJ.out]
                obtain ⟨RT, WT, TO, TE⟩ := R3.out.next (t := s) hwf (.inl rfl)
                have hM := RT.fits WT (hfit)
                rw [NJ.out] at hM
                have RM := RT.made (tag := (i : Int)) WT (by omega) hwq
                have RG := RT.gone (tag := (i : Int)) WT (by omega) hwq
                obtain ⟨mf1, mf2, mf3, mf4⟩ := made_facts (s) (i : Int) ws
                have G6 := Lib.hid hg
                have K6 := Lib.hid (KK.out.ch hc6)
                have M1 := Lib.hid RM
                have M2 := Lib.hid RG
                have M3 : Hid (((s).made (i : Int) ws).objs.length ≤ i + 1 ∧ ((s).made (i : Int) ws).epoch ≤ i + 1) := by
                  have h1 := E2.out.2.2.1
                  have h2 := E2.out.2.2.2
                  show _ ∧ _
                  constructor <;> omega
                obtain ⟨M, hMN⟩ : ∃ M : Nat, M = (j + 1) * (1 + k) := ⟨_, rfl⟩
                have hMM : (M : Int) = ((j : Int) + 1) * ((k : Int) + 1) := by rw [hMN, Nat.add_comm 1 k]; push_cast; rfl
                have hMR : M ≤ R := by rw [hMN]; exact hM
                have hMR2 : decide ((R : Int) < (M : Int)) = false := by simp; omega
                have hR200 : M ≤ 200 := by have := F.out.2; omega
                have hw : decide ((R : Int) < wrap64 (((j : Int) + 1) * ((k : Int) + 1))) = false := by rw [← hMM, show wrap64 (M : Int) = M from by unfold wrap64; omega]; exact hMR2
                clear hMR2 hR200 hMM hMN RT WT TO TE hM RM RG mf1 mf2 mf3 mf4 hg hc6 GG KK TL hf had hwl hwq hsl hwf hlen1 hol hep htag hMR hfit
                have hJ3 : (j : Int) ≤ 3 := by have := HJ.out; omega
                go_wp2_with fail
                refine (mod_any w6 a2 4 b2.out (by decide) (by decide)).mono ?_
                rintro e w6 ⟨rfl, rfl⟩
                obtain ⟨m, hm⟩ : ∃ m : Nat, (m : Int) = a2 % 4 := ⟨(a2 % 4).toNat, by omega⟩
                rw [← hm]
                have hm3 : (m : Int) ≤ 3 := by omega
                clear hm
                by_cases hkeep : (j : Int) < (m : Int)
                · have hkeep3 : (j : Int) + 1 ≤ 3 := by omega
                  have K7 : KRow (w6.alloc (.cells #[.int .i64 (j : Int)] 3)) ρ6 w.heap.size (.slice ka j kc) ((List.range j).map fun q : Nat => Value.int .i64 (q : Int)) := K6.out.ch ((Ch.refl G6.out.rep.rho).alloc _)
                  have G7 := G6.out.alloc (.cells #[.int .i64 (j : Int)] 3)
                  have hcl : (w6.alloc (.cells #[.int .i64 (j : Int)] 3)).cell? ⟨w6.heap.size, 0, none⟩ = some (.int .i64 (j : Int)) := by rw [cell_of_row _ _ 0 _ _ _ (heap_alloc_new w6 _)]; rfl
                  obtain ⟨v', w7, hrun, hk7, hgr⟩ := K7.append G7.rep.rho G7.ch.size ⟨w6.heap.size, 0, none⟩ 1 (.int .i64 (j : Int)) hcl rfl (by simp; omega) 29
                  have G8 := Lib.hid (G7.grown hgr fun r hr => ⟨(K7.own r hr).2.2, (K7.own r hr).1⟩)
                  have K8 := Lib.hid hk7
                  obtain ⟨xa, xn, xc, rfl⟩ := hk7.row.shape
                  have RUN := Lib.hid hrun
                  clear K7 G7 hcl hk7 hgr hw hrun
                  go_wp2_with (at_builtin; refine wpList_append_run rfl _ _ 29 rfl rfl rfl RUN.out ?_)
                  go_roundg (300 - (i + 1))
                  case measure => have := E1.out; have := HLT.out; omega
                  case rel =>
                    refine ⟨i + 1, j + 1, ρ6, A'.more ob, (s).made (i : Int) ws, ks ++ [(s).objs.length], HLT.out, rfl, by go_num, HA.out, G8.out, M1.out, by simp [NJ.out], by omega, M3.out.1, M3.out.2, ?_⟩
                    have e : (List.range (j + 1)).map (fun q : Nat => Value.int .i64 (q : Int)) = (List.range j).map (fun q : Nat => Value.int .i64 (q : Int)) ++ [.int .i64 (j : Int)] := by rw [List.range_succ, List.map_append]; rfl
                    rw [e]
                    exact K8.out
                · have hnd := M2.out.2
                  rw [NJ.out] at hnd
                  have hdr := gm_drop G6.out hnd
                  rw [show (A'.more ob).hb = A.hb from HA.out] at hdr
                  skip
                  have HDR := Lib.hid hdr
                  clear hdr hnd hw
                  go_wp2_with fail
                  refine HDR.out.mono ?_
                  rintro e w7 ⟨rfl, ρ7, hg7, hc7⟩
                  have G8 := Lib.hid hg7
                  have K8 := Lib.hid (K6.out.ch hc7)
                  clear hg7 hc7
                  go_wp2_with fail
                  go_roundg (300 - (i + 1))
                  case measure => have := E1.out; have := HLT.out; omega
                  case rel =>
                    exact ⟨i + 1, j, ρ7, A'.more ob, ((s).made (i : Int) ws).drop j, ks, HLT.out, rfl, by go_num, HA.out, G8.out, by have := M2.out.1; rw [NJ.out] at this; exact this, NJ.out, HJ.out, M3.out.1, M3.out.2, K8.out⟩
              · by_cases hfit2 : s.collect.fitsB (1 + k)
                · have cl := gm_cell_after GG.out hlen1 hol hep hf hk16 _ lc had i htag hfit hfit2
                  rw [HA.out] at cl
                  refine cl.mono ?_
                  clear cl
                  rintro e w6 ⟨rfl, ρ6, ob, hg, hc6⟩
                  rw [hsl, NJ.out]
                  clear hfit
                  have hfit := hfit2
                  clear hfit2
                  obtain ⟨RT, WT, TO, TE⟩ := R3.out.next (t := s.collect) hwf (.inr rfl)
                  have hM := RT.fits WT (hfit)
                  rw [NJ.out] at hM
                  have RM := RT.made (tag := (i : Int)) WT (by omega) hwq
                  have RG := RT.gone (tag := (i : Int)) WT (by omega) hwq
                  obtain ⟨mf1, mf2, mf3, mf4⟩ := made_facts (s.collect) (i : Int) ws
                  have G6 := Lib.hid hg
                  have K6 := Lib.hid (KK.out.ch hc6)
                  have M1 := Lib.hid RM
                  have M2 := Lib.hid RG
                  have M3 : Hid (((s.collect).made (i : Int) ws).objs.length ≤ i + 1 ∧ ((s.collect).made (i : Int) ws).epoch ≤ i + 1) := by
                    have h1 := E2.out.2.2.1
                    have h2 := E2.out.2.2.2
                    show _ ∧ _
                    constructor <;> omega
                  obtain ⟨M, hMN⟩ : ∃ M : Nat, M = (j + 1) * (1 + k) := ⟨_, rfl⟩
                  have hMM : (M : Int) = ((j : Int) + 1) * ((k : Int) + 1) := by rw [hMN, Nat.add_comm 1 k]; push_cast; rfl
                  have hMR : M ≤ R := by rw [hMN]; exact hM
                  have hMR2 : decide ((R : Int) < (M : Int)) = false := by simp; omega
                  have hR200 : M ≤ 200 := by have := F.out.2; omega
                  have hw : decide ((R : Int) < wrap64 (((j : Int) + 1) * ((k : Int) + 1))) = false := by rw [← hMM, show wrap64 (M : Int) = M from by unfold wrap64; omega]; exact hMR2
                  clear hMR2 hR200 hMM hMN RT WT TO TE hM RM RG mf1 mf2 mf3 mf4 hg hc6 GG KK TL hf had hwl hwq hsl hwf hlen1 hol hep htag hMR hfit
                  have hJ3 : (j : Int) ≤ 3 := by have := HJ.out; omega
                  go_wp2_with fail
                  refine (mod_any w6 a2 4 b2.out (by decide) (by decide)).mono ?_
                  rintro e w6 ⟨rfl, rfl⟩
                  obtain ⟨m, hm⟩ : ∃ m : Nat, (m : Int) = a2 % 4 := ⟨(a2 % 4).toNat, by omega⟩
                  rw [← hm]
                  have hm3 : (m : Int) ≤ 3 := by omega
                  clear hm
                  by_cases hkeep : (j : Int) < (m : Int)
                  · have hkeep3 : (j : Int) + 1 ≤ 3 := by omega
                    have K7 : KRow (w6.alloc (.cells #[.int .i64 (j : Int)] 3)) ρ6 w.heap.size (.slice ka j kc) ((List.range j).map fun q : Nat => Value.int .i64 (q : Int)) := K6.out.ch ((Ch.refl G6.out.rep.rho).alloc _)
                    have G7 := G6.out.alloc (.cells #[.int .i64 (j : Int)] 3)
                    have hcl : (w6.alloc (.cells #[.int .i64 (j : Int)] 3)).cell? ⟨w6.heap.size, 0, none⟩ = some (.int .i64 (j : Int)) := by rw [cell_of_row _ _ 0 _ _ _ (heap_alloc_new w6 _)]; rfl
                    obtain ⟨v', w7, hrun, hk7, hgr⟩ := K7.append G7.rep.rho G7.ch.size ⟨w6.heap.size, 0, none⟩ 1 (.int .i64 (j : Int)) hcl rfl (by simp; omega) 29
                    have G8 := Lib.hid (G7.grown hgr fun r hr => ⟨(K7.own r hr).2.2, (K7.own r hr).1⟩)
                    have K8 := Lib.hid hk7
                    obtain ⟨xa, xn, xc, rfl⟩ := hk7.row.shape
                    have RUN := Lib.hid hrun
                    clear K7 G7 hcl hk7 hgr hw hrun
                    go_wp2_with (at_builtin; refine wpList_append_run rfl _ _ 29 rfl rfl rfl RUN.out ?_)
                    go_roundg (300 - (i + 1))
                    case measure => have := E1.out; have := HLT.out; omega
                    case rel =>
                      refine ⟨i + 1, j + 1, ρ6, A'.more ob, (s.collect).made (i : Int) ws, ks ++ [(s.collect).objs.length], HLT.out, rfl, by go_num, HA.out, G8.out, M1.out, by simp [NJ.out], by omega, M3.out.1, M3.out.2, ?_⟩
                      have e : (List.range (j + 1)).map (fun q : Nat => Value.int .i64 (q : Int)) = (List.range j).map (fun q : Nat => Value.int .i64 (q : Int)) ++ [.int .i64 (j : Int)] := by rw [List.range_succ, List.map_append]; rfl
                      rw [e]
                      exact K8.out
                  · have hnd := M2.out.2
                    rw [NJ.out] at hnd
                    have hdr := gm_drop G6.out hnd
                    rw [show (A'.more ob).hb = A.hb from HA.out] at hdr
                    skip
                    have HDR := Lib.hid hdr
                    clear hdr hnd hw
                    go_wp2_with fail
                    refine HDR.out.mono ?_
                    rintro e w7 ⟨rfl, ρ7, hg7, hc7⟩
                    have G8 := Lib.hid hg7
                    have K8 := Lib.hid (K6.out.ch hc7)
                    clear hg7 hc7
                    go_wp2_with fail
                    go_roundg (300 - (i + 1))
                    case measure => have := E1.out; have := HLT.out; omega
                    case rel =>
                      exact ⟨i + 1, j, ρ7, A'.more ob, ((s.collect).made (i : Int) ws).drop j, ks, HLT.out, rfl, by go_num, HA.out, G8.out, by have := M2.out.1; rw [NJ.out] at this; exact this, NJ.out, HJ.out, M3.out.1, M3.out.2, K8.out⟩
                · have cl := gm_cell_full GG.out hlen1 hep hf hk16 _ lc had i htag.1 hfit hfit2
                  rw [HA.out] at cl
                  refine cl.mono ?_
                  clear cl
                  rintro e w6 ⟨rfl, ρ6, hg, hc6⟩
                  have hM := R3.out.full hwf hfit2
                  rw [NJ.out] at hM
                  obtain ⟨M, hMN⟩ : ∃ M : Nat, M = (j + 1) * (1 + k) := ⟨_, rfl⟩
                  have hMM : (M : Int) = ((j : Int) + 1) * ((k : Int) + 1) := by rw [hMN, Nat.add_comm 1 k]; push_cast; rfl
                  have hMR : (R : Int) < (M : Int) := by rw [← hMN] at hM; omega
                  have hM24 : M ≤ 24 := by
                    have h1 : j + 1 ≤ 4 := by have := HJ.out; omega
                    have h2 : 1 + k ≤ 6 := by have := FZ.out; omega
                    have := Nat.mul_le_mul h1 h2
                    omega
                  have hw : (R : Int) < wrap64 (((j : Int) + 1) * ((k : Int) + 1)) := by rw [← hMM, show wrap64 (M : Int) = M from by unfold wrap64; omega]; exact hMR
                  have G6 := Lib.hid hg
                  clear hMM hMN hM hg hc6 GG KK TL hf had hwl hwq hsl hwf hlen1 hol hep htag hfit hfit2
                  have hJ3 : (j : Int) ≤ 3 := by have := HJ.out; omega
                  go_wp2_with fail
                  go_ret
                  exact ⟨rfl, ρ6, G6.out.ch⟩

    · obtain rfl : i = 300 := by omega
      clear hlt hi
      go_wp2_with fail
      go_ret
      exact ⟨rfl, ρ', G3.out.ch⟩
end Go.Proofs.Ytfjgokbclgdfjaa
