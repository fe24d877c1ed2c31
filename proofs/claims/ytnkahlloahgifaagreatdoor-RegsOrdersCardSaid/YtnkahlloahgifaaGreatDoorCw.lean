/- RegsMoves: walked. -/
import Derived.Test.YtnkahlloahgifaaGreatDoorCu
import Derived.Test.YtnkahlloahgifaaGreatDoorCq
set_option linter.unusedSimpArgs false
set_option linter.unusedVariables false
namespace RM

theorem isOf_reg {l : List Mv} {spare r : Int} (h : areMoves l spare = true) (hr : isOf l spare r = true) : isReg r = true := by
  rcases isOf_cases.1 hr with e | ⟨m, hm, e | e⟩
  · rw [e]; exact (areMoves_iff.1 h).2.1
  · rw [← e]; exact ((areMoves_iff.1 h).2.2.1 m hm).1
  · rw [← e]; exact ((areMoves_iff.1 h).2.2.1 m hm).2.1
theorem order_of {l : List Mv} {spare : Int} (h : areMoves l spare = true) : ∀ m ∈ order l spare, isReg m.1 = true ∧ isReg m.2 = true := fun m hm => by
  have hs : (rest0 l).Sublist l := List.filter_sublist
  have := ordN_of (l := l) (spare := spare) _ _ _ (fun m hm => isOf_mem (hs.subset hm)) (fun m hm => absurd hm (by simp)) m hm
  exact ⟨isOf_reg h this.1, isOf_reg h this.2⟩
theorem rest0_take {l : List Mv} {i : Nat} {m : Mv} (h : l[i]? = some m) : rest0 (l.take (i + 1)) = if m.1 = m.2 then rest0 (l.take i) else rest0 (l.take i) ++ [m] := by
  unfold rest0
  rw [List.take_add_one, h, List.filter_append]
  by_cases e : m.1 = m.2 <;> simp [e]
end RM
namespace Go.Proofs.YtnkahlloahgifaaGreatDoor
open Go.RowKit RG Go.Maps

theorem mvwf_of {l : List RM.Mv} (h : ∀ m ∈ l, RM.isReg m.1 = true ∧ RM.isReg m.2 = true) : MvWf l := fun m hm => ⟨isReg_wf (h m hm).1, isReg_wf (h m hm).2⟩

set_option maxHeartbeats 4000000 in
set_option maxRecDepth 20000 in
theorem moves_walk {w : World} (hE : Lx.Env w) {v : Value} {l : List RM.Mv} {spare : Int} (h : MvsAt w v l) : Calls Tryz.prog 9 #[v, .int .i64 spare] w (SnP w) := by
  have SN := Lib.hid (sane_any hE)
  have HV := Lib.hid h
  obtain ⟨ad, c, rfl, -⟩ := id h
  obtain ⟨n, hn⟩ : ∃ n, n = l.length := ⟨_, rfl⟩
  rw [← hn] at HV ⊢
  have HN := Lib.hid hn
  clear h hn hE
  go_enter Tryz.func9, Tryz.ntmps9
  go_wp2_with fail
  refine SN.out.mono ?_
  rintro en w1 ⟨rfl, hb1⟩
  have B1 := Lib.hid hb1
  have OR := Lib.hid (order_any (spare := spare) (HV.out.kept (kept_below hb1)))
  clear hb1
  go_wp2_with fail
  refine OR.out.mono ?_
  rintro en w2 ⟨hb2, ⟨ham, o, ho, rfl⟩ | ⟨ham, rfl⟩⟩
  · have AM := Lib.hid ham
    have B2 : Hid (Below w.heap.size w w2) := B1.out.trans (hb2.mono B1.out.size)
    have HO := Lib.hid ho
    have HL : Hid (n ≤ 16) := by show _ ≤ _; rw [HN.out]; exact (RM.areMoves_iff.1 ham).1
    have hnz : (n : Int) ≤ 16 := by have := HL.out; omega
    have WFL : Hid (MvWf l) := mvwf_of fun m hm => ⟨((RM.areMoves_iff.1 ham).2.2.1 m hm).1, ((RM.areMoves_iff.1 ham).2.2.1 m hm).2.1⟩
    have CO := Lib.hid (checkOrder_any (spare := spare) (HV.out.kept (kept_below B2.out)) ho (mvwf_of (RM.order_of ham)) (by have h1 := (RM.order_good ham).2; have h2 := (RM.areMoves_iff.1 ham).1; simp only [maxLen]; omega))
    have E0 : coCode l (RM.order l spare) spare = 0 := by unfold coCode; rw [if_pos ham, if_pos (RM.order_good ham).1]
    rw [E0] at CO
    obtain ⟨oa, oc, hoa, -⟩ := id ho
    obtain ⟨no, hno⟩ : ∃ n, n = (RM.order l spare).length := ⟨_, rfl⟩
    rw [← hno] at hoa
    subst hoa
    clear hb2 ham ho E0 hno
    go_wp2_with fail
    refine CO.out.mono ?_
    rintro en w3 ⟨rfl, hb3⟩
    have B3 : Hid (Below w.heap.size w w3) := B2.out.trans (hb3.mono B2.out.size)
    clear hb3
    go_wp2_with fail
    go_loopw [8, 9] (fun vo iv wr => ∃ i : Nat, i ≤ n ∧ iv = .int .i64 i ∧ MvOwn wr w3.heap.size vo (RM.rest0 (l.take i)) ∧ Below w3.heap.size w3 wr ∧ ∀ (i' k : Nat) (a b : RM.Mv), i' < i → i' ≠ k → l[i']? = some a → l[k]? = some b → a.1 ≠ b.2) (fun _ iv _ => n - (intOf iv).toNat)
    case atStart => exact ⟨0, Nat.zero_le _, rfl, World.ownsRow_nil _ _ _ _, Below.refl _ _, fun i' k a b h => absurd h (Nat.not_lt_zero _)⟩
    case round =>
      rename World => wo
      obtain ⟨i, hi, rfl, hown, hbw, hno⟩ := hrel
      have KI := Lib.hid hi
      have KO := Lib.hid hown
      have KB := Lib.hid hbw
      have NO := Lib.hid hno
      obtain ⟨ra, rc, hvo⟩ := hown.shape
      obtain ⟨nr, hnr⟩ : ∃ q, q = (RM.rest0 (l.take i)).length := ⟨_, rfl⟩
      rw [← hnr] at hvo
      have HNR := Lib.hid hnr
      subst hvo
      have hnrz : nr ≤ 16 := by
        have h1 : (RM.rest0 (l.take i)).length ≤ (l.take i).length := List.length_filter_le _ _
        have := List.length_take_le i l
        have := HL.out
        omega
      clear hi hown hbw hno hnr
      by_cases hlt : i < n
      · have hlz : (i : Int) < n := by omega
        have hi0 : (0 : Int) ≤ i := by omega
        have HLT := Lib.hid hlt
        have BW : Hid (Below w.heap.size w wo) := B3.out.trans (KB.out.mono B3.out.size)
        obtain ⟨g, o, a, b, rfl, hx, y0, y1⟩ := (HV.out.kept (kept_below BW.out)).read HN.out hlt
        have HX := Lib.hid hx
        clear hlt hx
        go_wp2_with fail
        go_loopw [10] (fun kv wr => ∃ k : Nat, k ≤ n ∧ kv = .int .i64 k ∧ MvOwn wr w3.heap.size (.slice ra nr rc) (RM.rest0 (l.take i)) ∧ Below w3.heap.size w3 wr ∧ ∀ (k' : Nat) (b' : RM.Mv), k' < k → i ≠ k' → l[k']? = some b' → a ≠ b'.2) (fun kv _ => n - (intOf kv).toNat)
        case atStart => exact ⟨0, Nat.zero_le _, rfl, KO.out, KB.out, fun k' b' h => absurd h (Nat.not_lt_zero _)⟩
        case round =>
          obtain ⟨k, hk, rfl, hown, hbw, hno⟩ := hrel
          have KK := Lib.hid hk
          have KO2 := Lib.hid hown
          have KB2 := Lib.hid hbw
          have NK := Lib.hid hno
          have BW2 : Hid (Below w.heap.size w wr) := B3.out.trans (hbw.mono B3.out.size)
          clear hk hown hbw hno y0 y1
          obtain ⟨g1, o1, a1, b1, hg1, hx1, y0, y1⟩ := (HV.out.kept (kept_below BW2.out)).read HN.out HLT.out
          rw [HX.out] at hx1
          simp only [Option.some.injEq, Prod.mk.injEq] at hx1 hg1
          obtain ⟨rfl, rfl⟩ := hx1
          rw [Addr.mk.injEq] at hg1
          obtain ⟨rfl, rfl, -⟩ := hg1
          by_cases hkn : k < n
          · have hkz : (k : Int) < n := by omega
            have hk0 : (0 : Int) ≤ k := by omega
            obtain ⟨g2, o2, a2, b2, hg2, hx2, z0, z1⟩ := (HV.out.kept (kept_below BW2.out)).read HN.out hkn
            simp only [Option.some.injEq] at hg2
            rw [Addr.mk.injEq] at hg2
            obtain ⟨rfl, rfl, -⟩ := hg2
            have HX2 := Lib.hid hx2
            have HKN := Lib.hid hkn
            clear hkn hx2
            by_cases hik : i = k
            · have d1 : ((i : Int) != k) = false := by simp [hik]
              have NX : Hid (∀ (k' : Nat) (b' : RM.Mv), k' < k + 1 → i ≠ k' → l[k']? = some b' → a ≠ b'.2) := fun k' b' h1 h2 h3 => by
                by_cases e : k' = k
                · exact absurd (hik.trans e.symm) h2
                · exact NK.out k' b' (by omega) h2 h3
              clear hik
              go_wp2_with fail
              go_quiet (fail)
              go_wp2_with fail
              go_roundw
              case rel => exact ⟨k + 1, HKN.out, by go_num, KO2.out.keep fun q _ _ => rfl, KB2.out.trans (below_drewN _ _ _), NX.out⟩
              case measure => have := HKN.out; simp [intOf]; omega
            · have d1 : ((i : Int) != k) = true := by simp; omega
              by_cases hab : a = b2
              · have d2 : (a == b2) = true := by simp [hab]
                clear hik hab
                go_wp2_with fail
                go_quiet (fail)
                go_wp2_with fail
                go_ret
                exact ⟨rfl, BW2.out.trans (below_drewN _ _ _)⟩
              · have d2 : (a == b2) = false := by simp [hab]
                have NX : Hid (∀ (k' : Nat) (b' : RM.Mv), k' < k + 1 → i ≠ k' → l[k']? = some b' → a ≠ b'.2) := fun k' b' h1 h2 h3 => by
                  by_cases e : k' = k
                  · subst e
                    rw [HX2.out, Option.some.injEq] at h3
                    rw [← h3]; exact hab
                  · exact NK.out k' b' (by omega) h2 h3
                clear hik hab
                go_wp2_with fail
                go_quiet (fail)
                go_wp2_with fail
                go_roundw
                case rel => exact ⟨k + 1, HKN.out, by go_num, KO2.out.keep fun q _ _ => rfl, KB2.out.trans (below_drewN _ _ _), NX.out⟩
                case measure => have := HKN.out; simp [intOf]; omega
          · have hkz : (n : Int) ≤ k := by omega
            have hdk : decide (k < n) = false := by simp; omega
            have NI : Hid (∀ (i' k : Nat) (a b : RM.Mv), i' < i + 1 → i' ≠ k → l[i']? = some a → l[k]? = some b → a.1 ≠ b.2) := fun i' k' a' b' h1 h2 h3 h4 => by
              by_cases e : i' = i
              · subst e
                rw [HX.out, Option.some.injEq] at h3
                subst h3
                exact NK.out k' b' (by have := (List.getElem?_eq_some_iff.1 h4).1; have := HN.out; omega) h2 h4
              · exact NO.out i' k' a' b' (by omega) h2 h3 h4
            clear hkn
            by_cases hab : a = b
            · have d2 : (a != b) = false := by simp [hab]
              have RT : Hid (RM.rest0 (l.take (i + 1)) = RM.rest0 (l.take i)) := by show _ = _; rw [RM.rest0_take HX.out]; exact if_pos hab
              clear hab
              go_wp2_with fail
              go_quiet (fail)
              go_wp2_with fail
              go_roundw
              case rel => exact ⟨i + 1, HLT.out, by go_num, by rw [RT.out]; exact KO2.out.keep fun q _ _ => rfl, KB2.out.trans (below_drewN _ _ _), NI.out⟩
              case measure => have := HLT.out; simp [intOf]; omega
            · have d2 : (a != b) = true := by simp [hab]
              have RT : Hid (RM.rest0 (l.take (i + 1)) = RM.rest0 (l.take i) ++ [(a, b)]) := by show _ = _; rw [RM.rest0_take HX.out]; exact if_neg hab
              clear hab
              obtain ⟨i0, hi1, hz0, hz1, hz2⟩ := info_parts Tryz.info81
              have HI := Lib.hid (And.intro hi1 (And.intro hz0 (And.intro hz1 hz2)))
              clear hi1 hz0 hz1 hz2
              have hno2 : nr + 1 ≤ maxLen ∧ (nr + 1) * 16 ≤ 140737488355328 := by simp only [maxLen]; omega
              have HNB := Lib.hid hno2
              clear hno2
              go_upto_region 16 with fail
              go_quiet (fail)
              obtain ⟨WQ, hWQ⟩ : ∃ W, W = wr.drewN nq := ⟨_, rfl⟩
              rw [← hWQ]
              have K5 : Hid (MvOwn WQ w3.heap.size (.slice ra nr rc) (RM.rest0 (l.take i))) := by rw [hWQ]; exact KO2.out.keep fun q _ _ => rfl
              have B5 : Hid (Below w3.heap.size w3 WQ) := by rw [hWQ]; exact KB2.out.trans (below_drewN _ _ _)
              have x0 : WQ.cell? ⟨g, o + i * 2, none⟩ = some (.int .i64 a) := by rw [hWQ]; exact y0
              have x1 : WQ.cell? ⟨g, o + i * 2 + 1, none⟩ = some (.int .i64 b) := by rw [hWQ]; exact y1
              clear hWQ y0 y1
              have O5 : Hid (World.ownsRow (WQ.alloc (.cells #[.int .i64 a, .int .i64 b] 81)) w3.heap.size 81 2 (.slice ra nr rc) nr (mvCells (RM.rest0 (l.take i)))) := by
                have : MvOwn (WQ.alloc (.cells #[.int .i64 a, .int .i64 b] 81)) w3.heap.size (.slice ra nr rc) (RM.rest0 (l.take i)) := K5.out.keep fun q _ hq => Below.heap_alloc _ _ _ hq
                unfold MvOwn at this; rw [← HNR.out] at this; exact this
              have N5 : Hid (∀ (j : Nat) (u : Value), [Value.int .i64 a, Value.int .i64 b][j]? = some u → (WQ.alloc (.cells #[.int .i64 a, .int .i64 b] 81)).cell? ((⟨WQ.heap.size, 0, none⟩ : Addr).add j) = some u) := fun j u hu => by
                rw [Addr.add_lit, cell_of_row _ _ _ _ _ _ (heap_alloc_new WQ _), Nat.zero_add]
                match j, hu with
                | 0, hu => exact hu
                | 1, hu => exact hu
                | j + 2, hu => simp at hu
              have BA : Hid (Below w3.heap.size w3 (WQ.alloc (.cells #[.int .i64 a, .int .i64 b] 81))) := B5.out.alloc B5.out.size _
              go_wp2_with (at_builtin; refine wpList_append_own _ rfl _ _ 74 rfl w3.heap.size 81 i0 (.agg #[.int .i64 0, .int .i64 0]) 2 16 Tryz.underlying74 HI.out.1 HI.out.2.1 HI.out.2.2.1 HI.out.2.2.2 rfl (by decide) (.slice ra nr rc) nr (mvCells (RM.rest0 (l.take i))) rfl O5.out ⟨WQ.heap.size, 0, none⟩ 1 1 [.int .i64 a, .int .i64 b] rfl rfl N5.out (fun u hu => by simp at hu; rcases hu with rfl | rfl <;> rfl) HNB.out.1 HNB.out.2 BA.out.size ?_)
              intro vo' w6 hown hg6 _
              have B6 : Hid (Below w3.heap.size w3 w6) := BA.out.grown hg6 BA.out.size (fun q e => (O5.out.lt q e).1)
              have O6 : Hid (MvOwn w6 w3.heap.size vo' (RM.rest0 (l.take (i + 1)))) := by
                show World.ownsRow _ _ _ _ _ _ _
                rw [RT.out, List.length_append, List.length_singleton, ← HNR.out, mvCells_append]; exact hown
              clear hown hg6 x0 x1
              go_wp2_with fail
              go_roundw
              case rel => exact ⟨i + 1, HLT.out, by go_num, O6.out, B6.out, NI.out⟩
              case measure => have := HLT.out; simp [intOf]; omega
      · have hin : i = n := by have := KI.out; omega
        have hlz : (n : Int) ≤ i := by omega
        have etk : l.take i = l := List.take_of_length_le (by have := HN.out; omega)
        have BW : Hid (Below w.heap.size w wo) := B3.out.trans (KB.out.mono B3.out.size)
        have PG := RM.plain_good AM.out (fun i' j a b hij h1 h2 => NO.out i' j a b (by have := (List.getElem?_eq_some_iff.1 h1).1; have := HN.out; omega) hij h1 h2)
        have MO : Hid (MvsAt wo (.slice ra nr rc) (RM.rest0 l)) := by have := KO.out.at'; rw [etk] at this; exact this
        have E1 : coCode l l spare = 0 := by unfold coCode; rw [if_pos AM.out, if_pos PG.1]
        have E2 : coCode l (RM.rest0 l) spare = 0 := by unfold coCode; rw [if_pos AM.out, if_pos PG.2]
        have h16 := (RM.areMoves_iff.1 AM.out).1
        have hs : (RM.rest0 l).Sublist l := List.filter_sublist
        have CA := Lib.hid (checkOrder_any (spare := spare) (HV.out.kept (kept_below BW.out)) (HV.out.kept (kept_below BW.out)) WFL.out (by simp only [maxLen]; omega))
        rw [E1] at CA
        have WFR : Hid (MvWf (RM.rest0 l)) := fun m hm => WFL.out m (hs.subset hm)
        have HR16 : Hid ((RM.rest0 l).length ≤ maxLen) := by have := hs.length_le; show _ ≤ _; simp only [maxLen]; omega
        clear hin hlt etk PG E1 h16 hs
        go_wp2_with fail
        refine CA.out.mono ?_
        rintro en w7 ⟨rfl, hb7⟩
        have B7 : Hid (Below w.heap.size w w7) := BW.out.trans (hb7.mono BW.out.size)
        have CB := Lib.hid (checkOrder_any (spare := spare) (HV.out.kept (kept_below B7.out)) (MO.out.kept (kept_below hb7)) WFR.out HR16.out)
        rw [E2] at CB
        clear hb7 E2
        go_wp2_with fail
        refine CB.out.mono ?_
        rintro en w8 ⟨rfl, hb8⟩
        have B8 : Hid (Below w.heap.size w w8) := B7.out.trans (hb8.mono B7.out.size)
        clear hb8
        go_wp2_with fail
        go_ret
        exact ⟨rfl, B8.out⟩
  · have E := Lib.hid ham
    have B2 : Hid (Below w.heap.size w w2) := B1.out.trans (hb2.mono B1.out.size)
    clear hb2 ham
    go_wp2_with fail
    go_ret
    exact ⟨rfl, B2.out⟩
end Go.Proofs.YtnkahlloahgifaaGreatDoor
