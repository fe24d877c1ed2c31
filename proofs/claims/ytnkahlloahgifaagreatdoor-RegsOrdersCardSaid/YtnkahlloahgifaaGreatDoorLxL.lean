/- The iterator of the tokens: walked. -/
import Derived.Test.YtnkahlloahgifaaGreatDoorLxH
import Derived.Test.YtnkahlloahgifaaGreatDoorLxL0
import Derived.Test.YtnkahlloahgifaaGreatDoorLxI
import Derived.RangeFuncSeq
import Derived.OwnWalkIn
import Derived.TacticsInMore
import Derived.LoopNIn
import Derived.LoopIn
import Derived.BigFrameIn
import Derived.Outline
set_option linter.unusedSimpArgs false
set_option linter.unusedVariables false
namespace Go.Proofs.YtnkahlloahgifaaGreatDoor.Lx
open Go.RowKit

/-- Behind a pass. -/
def APost (n0 : Nat) (w : World) (b mb ib : Nat) (s : ByteArray) (j : Nat) (cs : List (Nat × Nat)) (e : Ending) (w' : World) : Prop :=
  (∃ p er : Nat, e = thrown p er ∧ LX.sc (bts s) j = .bad p er ∧ Kt n0 w w') ∨
  (∃ n cv' cs', e = .returned (.tuple #[]) ∧ It n0 w' b mb ib s n cv' (cs ++ cs') ∧ Kt n0 w w' ∧ LX.sc (bts s) j = (LX.sc (bts s) n).app [] cs' ∧ j ≤ n ∧ n ≤ s.size ∧ (cs ++ cs').length ≤ n ∧
    (n < s.size → LX.space ((bts s).getD n 0) = false ∧ LX.opens ((bts s).drop n) = false))

theorem pass_it {n0 : Nat} {w : World} {b mb ib j : Nat} {s : ByteArray} {cv : Value} {cs : List (Nat × Nat)} (h : It n0 w b mb ib s j cv cs) (hl : cs.length ≤ j) :
    Calls Tryz.prog 142 #[.pointer (some ⟨b, 0, none⟩)] w (APost n0 w b mb ib s j cs) := by
  refine (pass_any h.sc h.cm hl).mono ?_
  have hj : j ≤ (bts s).length := by rw [bts_length]; exact h.sc.2.1
  have hp := LX.sc_pass (bts s) (s.size + 1) j hj (by rw [bts_length]; omega)
  intro e w' hq
  rcases hr : LX.passN (s.size + 1) ((bts s).drop j) j with ⟨n, cs'⟩ | ⟨p, er⟩
  case bad =>
    rw [hr] at hp hq
    obtain ⟨rfl, cv', hf⟩ := hq
    exact .inl ⟨p, er, rfl, hp, hf.kt h.sc h.cm h.hb h.hcv⟩
  case «to» =>
    rw [hr] at hp hq
    obtain ⟨rfl, cv', hs, hc, hf⟩ := hq
    obtain ⟨h1, h2, h3, h4, h5⟩ := hp
    rw [bts_length] at h3 h5
    exact .inr ⟨n, cv', cs', rfl, h.fr hf hs hc, hf.kt h.sc h.cm h.hb h.hcv, h1, h2, h3, by rw [List.length_append]; omega, h5⟩

/-- What the iterator does with the tokens of a text: it hands them out. -/
def IPost (n0 : Nat) (J : List LX.Tok → World → Prop) (b mb ib : Nat) (s : ByteArray) (e : Ending) (w' : World) : Prop :=
  match LX.scan (bts s) with
  | .ok ts cs => e = .returned (.tuple #[]) ∧ J ts w' ∧ ∃ i cv, It n0 w' b mb ib s i cv cs
  | .bad p er => e = thrown p er ∧ ∃ ts, J ts w'

set_option maxHeartbeats 1000000 in
set_option maxRecDepth 20000 in
theorem toks_in {n0 : Nat} {w : World} {b mb ib : Nat} {s : ByteArray} {cv : Value} (n l : Nat) (J : List LX.Tok → World → Prop)
    (hJ : ∀ ts W W', J ts W → Kt n0 W W' → J ts W')
    (hY : ∀ (ts : List LX.Tok) (k : Nat) (v : Int) (p : Nat) (tx : ByteArray) (W : World), J ts W → ts.length < s.size → YieldAt Fence.wide n Tryz.prog l #[tokV k v tx p] W fun e W' => e = .returned (.bool true) ∧ J (ts ++ [⟨k, v, bts tx, p⟩]) W' ∧ Kb n0 W W')
    (h : It n0 w b mb ib s 0 cv []) (h0 : J [] w) :
    Calls Tryz.prog 141 #[.func (.yield l) #[] #[], .pointer (some ⟨ib, 0, none⟩)] w (IPost n0 J b mb ib s) := by
  have c0 : w.cell? ⟨ib, 0, none⟩ = some (.pointer (some ⟨b, 0, none⟩)) := by rw [cell_of_row _ _ 0 _ _ _ h.box]; rfl
  have PA := Lib.hid (pass_it h (Nat.le_refl _))
  have HJ := Lib.hid hJ
  have HY := Lib.hid hY
  have H0 := Lib.hid h0
  have HI := Lib.hid h
  have HZ := Lib.hid h.sc.2.2
  clear hJ hY h0 h
  go_enter Tryz.func141, Tryz.ntmps141
  go_wp2_with fail
  refine PA.out.mono ?_
  clear PA c0
  rintro e w1 (⟨p, er, rfl, hb, hk⟩ | ⟨n1, cv1, cs1, rfl, hi1, hk1, hs1, hj1, hn1, hc1, hp1⟩)
  · unfold thrown
    have HB := Lib.hid hb
    have HK := Lib.hid hk
    clear hb hk
    go_wp2_with fail
    refine ⟨rfl, ?_⟩
    unfold IPost
    rw [LX.scan_sc, HB.out]
    exact ⟨rfl, [], HJ.out _ _ _ H0.out HK.out⟩
  · have K1 := Lib.hid hi1
    have K2 := Lib.hid hk1
    have K3 := Lib.hid hs1
    have K4 := Lib.hid (And.intro hn1 hc1)
    have K5 := Lib.hid hp1
    clear hi1 hk1 hs1 hj1 hn1 hc1 hp1
    go_wp2_with fail
    go_loopg [3] (s.size - n1) (fun gk v wr => ∃ (j : Nat) (ts : List LX.Tok) (cs : List (Nat × Nat)) (cv' : Value), j ≤ s.size ∧ gk = s.size - j ∧ It n0 wr b mb ib s j cv' cs ∧ J ts wr ∧ ts.length ≤ j ∧ cs.length ≤ j ∧
      (j < s.size → LX.space ((bts s).getD j 0) = false ∧ LX.opens ((bts s).drop j) = false) ∧ LX.sc (bts s) 0 = (LX.sc (bts s) j).app ts cs)
    case atStart => exact ⟨n1, [], cs1, cv1, K4.out.1, rfl, K1.out, HJ.out _ _ _ H0.out K2.out, Nat.zero_le _, K4.out.2, K5.out, K3.out⟩
    case round =>
      obtain ⟨j, ts, cs, cv', hjs, hgk, hit, hJt, htl, hcl, hsp, hsc⟩ := hrel
      obtain ⟨e0, e1, elt, ele, esz⟩ := hit.sc.at'
      have ef : ∀ q, wr.frozen? ⟨b, q, none⟩ = false := fun q => frozen_of_row wr b q _ _ hit.sc.1
      have eb : wr.cell? ⟨ib, 0, none⟩ = some (.pointer (some ⟨b, 0, none⟩)) := by rw [cell_of_row _ _ 0 _ _ _ hit.box]; rfl
      have H1 := Lib.hid hit
      have H2 := Lib.hid hJt
      have H3 := Lib.hid (And.intro htl hcl)
      have H4 := Lib.hid hsp
      have H5 := Lib.hid hsc
      have H6 := Lib.hid hgk
      have hjz : (j : Int) ≤ 400000 := by omega
      clear hit hJt htl hcl hsp hsc hgk ele esz
      by_cases hlt : j < s.size
      · have hlz : (j : Int) < (s.size : Int) := by omega
        have HLT := Lib.hid hlt
        clear hlt hjs
        go_wp2_with fail
        go_quiet (fail)
        go_wp2_with fail
        refine (token_any number_law (H1.out.drewN nq).sc (H1.out.drewN nq).env (H1.out.drewN nq).wd (H1.out.drewN nq).hmb HLT.out).mono ?_
        intro e w2 hq
        have hstep := LX.sc_step (T := bts s) (j := j) (by rw [bts_length]; exact HLT.out)
        rw [(H4.out HLT.out).1, if_neg (by decide), (H4.out HLT.out).2, if_neg (by decide)] at hstep
        rcases ht : LX.token ((bts s).drop j) with ⟨k, v, m⟩ | ⟨er⟩
        case bad =>
          rw [ht] at hq hstep
          obtain ⟨rfl, hb⟩ := hq
          have G1 := Lib.hid hb
          have G2 := Lib.hid hstep
          clear hb hstep ht
          unfold thrown
          go_wp2_with fail
          refine ⟨rfl, ?_⟩
          unfold IPost
          rw [LX.scan_sc, H5.out, G2.out]
          exact ⟨rfl, ts, HJ.out _ _ _ H2.out (Kt.of_below (below_of_drew G1.out))⟩
        case tok =>
          rw [ht] at hq hstep
          obtain ⟨rfl, hb⟩ := hq
          have hm := LX.token_len ht
          rw [List.length_drop, bts_length] at hm
          have G1 := Lib.hid hb
          have G2 := Lib.hid hstep
          have G3 := Lib.hid hm
          have hmz : (j : Int) + (m : Int) ≤ 400000 := by have := HZ.out; omega
          obtain ⟨tx, htx⟩ : ∃ t, t = s.extract j (j + m) := ⟨_, rfl⟩
          rw [← htx]
          have htl : tx.size = m := by rw [htx, ByteArray.size_extract]; omega
          have G4 := Lib.hid htx
          have G5 := Lib.hid htl
          clear hb hstep ht hm htx htl e0 e1 elt ef eb
          unfold tokV
          go_wp2_with fail
          obtain ⟨z, hz⟩ : ∃ z, z = w2.heap.size := ⟨_, rfl⟩
          obtain ⟨V, hV⟩ : ∃ V, V = w2.alloc (.cells #[.int .i64 k, .int .i64 v, .string tx, .int .i64 j] 154) := ⟨_, rfl⟩
          rw [← hV, ← hz]
          have I2 := (H1.out.drewN nq).below G1.out
          have BV : Below w2.heap.size w2 V := by rw [hV]; exact (Below.refl _ _).alloc (Nat.le_refl _) _
          have I3 := I2.below BV
          have KV : Hid (Kt n0 wr V) := (Kt.of_below (below_of_drew G1.out)).trans (Kt.of_below BV)
          have hVz : V.heap[z]? = some (.cells #[.int .i64 k, .int .i64 v, .string tx, .int .i64 j] 154 (0, 0)) := by rw [hV, hz]; exact heap_alloc_new w2 _
          have hne : z ≠ b := by have := (Array.getElem?_eq_some_iff.1 I2.sc.1).1; omega
          have v0 : V.cell? ⟨b, 0, none⟩ = some (.string s) := I3.sc.at'.c0
          have v1 : V.cell? ⟨b, 1, none⟩ = some (.int .i64 j) := I3.sc.at'.c1
          have vf : V.frozen? ⟨b, 1, none⟩ = false := frozen_of_row V b 1 _ _ I3.sc.1
          have vb : V.cell? ⟨ib, 0, none⟩ = some (.pointer (some ⟨b, 0, none⟩)) := by rw [cell_of_row _ _ 0 _ _ _ I3.box]; rfl
          have z2 : V.cell? ⟨z, 2, none⟩ = some (.string tx) := by rw [cell_of_row _ _ 2 _ _ _ hVz]; rfl
          have hwr : IntKind.i64.wrap ((j : Int) + (tx.size : Int)) = (j : Int) + (tx.size : Int) := wrap_in _ (by rw [G5.out]; omega)
          have J1 := Lib.hid I3
          have J2 := Lib.hid hVz
          have J3 := Lib.hid hne
          clear hz hV I2 BV I3 hVz hne
          refine wp_region_still_tail 12 (by kernel_rfl) (by kernel_rfl) ?_
          simp only [List.take_succ_cons, List.take_zero, List.drop_succ_cons, List.drop_zero, World.drew_eq]
          iterate 12 still_step
          refine wpStill_nil ?_
          go_upto_region 5 with (fail)
          clear v0 v1 vf vb z2 hwr
          obtain ⟨U, hU⟩ : ∃ U, U = (V.setCell ⟨b, 1, none⟩ (.int .i64 ((j : Int) + (tx.size : Int)))).drew := ⟨_, rfl⟩
          rw [← hU]
          have MU : Mv V U b ((j + m : Nat) : Int) := by
            have e : ((j + m : Nat) : Int) = (j : Int) + (tx.size : Int) := by rw [G5.out]; push_cast; rfl
            rw [hU, e]
            have M0 := Mv.of_set V b ((j : Int) + (tx.size : Int))
            exact ⟨M0.os, M0.tape, M0.output, M0.size, M0.block, M0.cell⟩
          have A1 := J1.out.adv MU (by have := G3.out; have := HLT.out; omega)
          have hJU : J ts U := HJ.out _ _ _ H2.out (KV.out.trans A1.2)
          have z2 : U.heap[z]? = some (.cells #[.int .i64 k, .int .i64 v, .string tx, .int .i64 j] 154 (0, 0)) := (MU.block z J3.out).trans J2.out
          have z0 : U.cell? ⟨z, 0, none⟩ = some (.int .i64 k) := by rw [cell_of_row _ _ 0 _ _ _ z2]; rfl
          have z1 : U.cell? ⟨z, 1, none⟩ = some (.int .i64 v) := by rw [cell_of_row _ _ 1 _ _ _ z2]; rfl
          have z2' : U.cell? ⟨z, 2, none⟩ = some (.string tx) := by rw [cell_of_row _ _ 2 _ _ _ z2]; rfl
          have z3 : U.cell? ⟨z, 3, none⟩ = some (.int .i64 j) := by rw [cell_of_row _ _ 3 _ _ _ z2]; rfl
          obtain ⟨fn, tmps, assign, body, hy, hR⟩ := HY.out ts k v j tx U hJU (by have := H3.out.1; have := HLT.out; omega)
          unfold tokV at hy
          have A2 := Lib.hid A1.1
          have A3 := Lib.hid hR
          clear A1 hJU z2 hU MU hR
          refine (wpIn_wide (n := n + 1)).1 ?_
          gi_wp2
          refine A3.out.mono ?_
          rintro e U' ⟨rfl, hJ', hk'⟩
          have B1 := A2.out.kb hk'
          have B2 := Lib.hid hJ'
          have B3 := pass_it B1 (Nat.le_trans H3.out.2 (Nat.le_add_right _ _))
          have vb : U'.cell? ⟨ib, 0, none⟩ = some (.pointer (some ⟨b, 0, none⟩)) := by rw [cell_of_row _ _ 0 _ _ _ B1.box]; rfl
          have B4 := Lib.hid B3
          clear B1 hJ' B3 hk' z0 z1 z2' z3 hy
          gi_wp2
          go_wp2_with fail
          have hjm : j + m ≤ s.size := by have := G3.out; have := HLT.out; omega
          have hbt : bts tx = ((bts s).drop j).take m := by rw [G4.out, bts_extract, Nat.add_sub_cancel_left]
          have C1 : Hid (LX.sc (bts s) 0 = (LX.sc (bts s) (j + m)).app (ts ++ [⟨k, v, bts tx, j⟩]) cs) := by
            show _ = _
            rw [H5.out, G2.out, LX.Res.app_app, hbt, List.append_nil]
          have C2 := Lib.hid hjm
          clear hjm hbt
          refine B4.out.mono ?_
          clear B4 vb
          rintro e w3 (⟨p, er, rfl, hb, hk⟩ | ⟨n2, cv2, cs2, rfl, hi2, hk2, hs2, hj2, hn2, hc2, hp2⟩)
          · unfold thrown
            have HB := Lib.hid hb
            have HK := Lib.hid hk
            clear hb hk
            go_wp2_with fail
            refine ⟨rfl, ?_⟩
            unfold IPost
            rw [LX.scan_sc, C1.out, HB.out]
            exact ⟨rfl, _, HJ.out _ _ _ B2.out HK.out⟩
          · have K1' := Lib.hid hi2
            have K2' := Lib.hid hk2
            have K3' : Hid (LX.sc (bts s) 0 = (LX.sc (bts s) n2).app (ts ++ [⟨k, v, bts tx, j⟩]) (cs ++ cs2)) := by
              show _ = _
              rw [C1.out, hs2, LX.Res.app_app, List.append_nil]
            have K4' := Lib.hid (And.intro hn2 hc2)
            have K5' := Lib.hid hp2
            have K6' := Lib.hid hj2
            clear hi2 hk2 hs2 hj2 hn2 hc2 hp2
            go_wp2_with fail
            go_roundg (s.size - n2)
            case measure => have := H6.out; have := HLT.out; have := G3.out; have := K6'.out; have := K4'.out; omega
            case rel =>
              exact ⟨n2, _, _, cv2, K4'.out.1, rfl, K1'.out, HJ.out _ _ _ B2.out K2'.out, by have := H3.out; have := G3.out; have := K6'.out; simp only [List.length_append, List.length_cons, List.length_nil]; omega, K4'.out.2, K5'.out, K3'.out⟩
      · have hlz : (s.size : Int) ≤ (j : Int) := by omega
        have HE : Hid (j = s.size) := by show _ = _; omega
        clear hlt hjs
        go_wp2_with fail
        go_quiet (fail)
        go_wp2_with fail
        (try simp only [Exit.inBlock, Exit.then])
        refine bodyPost_end (results_none rfl _ _ _) rfl ?_
        unfold IPost
        rw [LX.scan_sc, H5.out, LX.sc_end (by rw [bts_length, HE.out]; exact Nat.le_refl _)]
        simp only [LX.Res.app, List.append_nil]
        exact ⟨trivial, HJ.out _ _ _ H2.out ((Kt.refl _ _).drewN _), j, cv', H1.out.drewN _⟩
end Go.Proofs.YtnkahlloahgifaaGreatDoor.Lx
