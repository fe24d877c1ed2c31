/- Order: walked. -/
import Derived.Test.YtnkahlloahgifaaGreatDoorCo
import Derived.Deep.LoopGhost
set_option linter.unusedSimpArgs false
set_option linter.unusedVariables false
namespace Go.Proofs.YtnkahlloahgifaaGreatDoor
open Go.RowKit RG Go.Maps

/-- What Order leaves. -/
def OrP (w : World) (l : List RM.Mv) (spare : Int) (e : Ending) (w' : World) : Prop :=
  Below w.heap.size w w' ∧ ((RM.areMoves l spare = true ∧ ∃ v, MvsAt w' v (RM.order l spare) ∧ e = .returned (.tuple #[v, .int .i64 0])) ∨ (RM.areMoves l spare = false ∧ e = .returned (.tuple #[.slice none 0 0, .int .i64 1])))

/-- The loop's relation: memory. -/
structure OrM (w : World) (B rc g : Nat) (rest out : List RM.Mv) (v vo : Value) (wr : World) : Prop where
  cell : wr.cell? ⟨rc, 0, none⟩ = some v
  froz : wr.frozen? ⟨rc, 0, none⟩ = false
  rst : RestAt wr g v rest
  ot : MvOwn wr B vo out
  below : Below w.heap.size w wr
  size : B ≤ wr.heap.size
/-- Its blocks. -/
structure OrC (w : World) (B rc g : Nat) : Prop where
  gB : g < B
  rcB : rc < B
  ne : g ≠ rc
  wg : w.heap.size ≤ g
  wrc : w.heap.size ≤ rc
/-- The moves. -/
structure OrL (l : List RM.Mv) (spare : Int) (rest out : List RM.Mv) : Prop where
  fit : RM.Fit spare rest
  ord : RM.ordN spare (RM.mu rest + 1) rest out = RM.order l spare
  few : rest.length ≤ 16
  outs : out.length + RM.mu rest ≤ 40

section
variable {w wr W : World} {B rc g : Nat} {l rest out rest' out' : List RM.Mv} {spare : Int} {v vo v' vo' : Value}
theorem OrL.start (h : RM.areMoves l spare = true) : OrL l spare (RM.rest0 l) [] := by
  have hl : (RM.rest0 l).length ≤ 16 := Nat.le_trans (List.length_filter_le _ _) (RM.areMoves_iff.1 h).1
  refine ⟨RM.rest0_fit h, rfl, hl, ?_⟩
  unfold RM.mu
  split <;> simp <;> omega
theorem OrL.free {i : Nat} {m : RM.Mv} (h : OrL l spare rest out) (hi : rest.findIdx (RM.free rest) = i) (hm : rest[i]? = some m) : OrL l spare (rest.eraseIdx i) (out ++ [m]) ∧ RM.mu (rest.eraseIdx i) < RM.mu rest := by
  obtain ⟨h1, h2, h3⟩ := RM.ord_free (out := out) h.fit hi hm
  refine ⟨⟨h3, h1.symm.trans h.ord, Nat.le_trans (List.length_eraseIdx_le _ _) h.few, ?_⟩, h2⟩
  have := h.outs
  rw [List.length_append, List.length_singleton]; omega
theorem OrL.turn {m : RM.Mv} {r : List RM.Mv} (h : OrL l spare (m :: r) out) (hi : ¬ (m :: r).findIdx (RM.free (m :: r)) < (m :: r).length) : OrL l spare (RM.turn spare m.1 (m :: r)) (out ++ [(spare, m.1)]) ∧ RM.mu (RM.turn spare m.1 (m :: r)) < RM.mu (m :: r) := by
  obtain ⟨h1, h2, h3⟩ := RM.ord_turn (out := out) h.fit hi
  refine ⟨⟨h3, h1.symm.trans h.ord, by rw [RM.turn_length]; exact h.few, ?_⟩, h2⟩
  have := h.outs
  rw [List.length_append, List.length_singleton]; omega

theorem own_ge (h : MvOwn wr B vo out) {k : Nat} (hk : vo.ownBlock = some k) : B ≤ k ∧ k < wr.heap.size := World.ownsRow.lt h k hk

theorem OrM.keep (h : OrM w B rc g rest out v vo wr) (hC : OrC w B rc g) (hb : Below wr.heap.size wr W) : OrM w B rc g rest out v vo W :=
  ⟨kept_below hb _ _ h.cell, (World.frozen?_of_block (a := ⟨rc, 0, none⟩) (hb.block rc (World.block_lt_of_cell? _ _ h.cell))).trans h.froz, by
    rcases h.rst with e | ⟨cp, f, e, h1, h2, h3, h4⟩
    · exact .inl e
    · exact .inr ⟨cp, f, e, h1, h2, h3.of_block (hb.block _ h3.lt), h4⟩, h.ot.keep fun k _ hk => hb.block k hk, h.below.trans (hb.mono h.below.size), Nat.le_trans h.size hb.size⟩

theorem OrM.push (h : OrM w B rc g rest out v vo wr) (hC : OrC w B rc g) (hg : wr.grownBy W vo.ownBlock) (ho : MvOwn W B vo' out') : OrM w B rc g rest out' v vo' W := by
  have hrc : rc < wr.heap.size := World.block_lt_of_cell? _ _ h.cell
  have brc := hg.block rc hrc (fun e => by have := (own_ge h.ot e.symm).1; have := hC.rcB; omega)
  refine ⟨(World.cell?_of_block (a := ⟨rc, 0, none⟩) brc).trans h.cell, (World.frozen?_of_block (a := ⟨rc, 0, none⟩) brc).trans h.froz, ?_, ho, h.below.grown hg h.below.size (fun r e => ?_), Nat.le_trans h.size hg.size⟩
  · rcases h.rst with e | ⟨cp, f, e, h1, h2, h3, h4⟩
    · exact .inl e
    · exact .inr ⟨cp, f, e, h1, h2, h3.of_block (hg.block _ h3.lt (fun e => by have := (own_ge h.ot e.symm).1; have := hC.gB; omega)), h4⟩
  · have := (own_ge h.ot e).1; have := hC.gB; have := hC.wg; omega

theorem OrM.put (h : OrM w B rc g rest out v vo wr) (hC : OrC w B rc g) (hg : wr.grownBy W (some g)) (hr : RestAt W g v' rest') : OrM w B rc g rest' out v' vo (W.setCell ⟨rc, 0, none⟩ v') := by
  have hrc : rc < wr.heap.size := World.block_lt_of_cell? _ _ h.cell
  have brc := hg.block rc hrc (fun e => hC.ne (by simpa using e.symm))
  have c1 := (World.cell?_of_block (a := ⟨rc, 0, none⟩) brc).trans h.cell
  refine ⟨World.cell?_setCell_same _ _ _ c1, ?_, hr.keep (Below.heap_setCell _ _ _ _ hC.ne), h.ot.keep fun k hk hk2 => ?_, ?_, ?_⟩
  · rw [World.frozen?_setCell]; exact (World.frozen?_of_block (a := ⟨rc, 0, none⟩) brc).trans h.froz
  · rw [Below.heap_setCell _ _ _ _ (by have := hC.rcB; show k ≠ rc; omega)]
    exact hg.block k hk2 (fun e => by have := hC.gB; simp at e; omega)
  · exact (h.below.grown hg h.below.size (fun r e => by have := hC.wg; simp at e; omega)).setCell (by exact hC.wrc) _
  · have h1 := h.size; have h2 := hg.size; simp; omega

theorem OrM.change (h : OrM w B rc g rest out v vo wr) (hC : OrC w B rc g) (hg : wr.grownBy W (some g)) (hr : RestAt W g v rest') : OrM w B rc g rest' out v vo W := by
  have hrc : rc < wr.heap.size := World.block_lt_of_cell? _ _ h.cell
  have brc := hg.block rc hrc (fun e => hC.ne (by simpa using e.symm))
  refine ⟨(World.cell?_of_block (a := ⟨rc, 0, none⟩) brc).trans h.cell, (World.frozen?_of_block (a := ⟨rc, 0, none⟩) brc).trans h.froz, hr, h.ot.keep fun k hk hk2 => hg.block k hk2 (fun e => by have := hC.gB; simp at e; omega), ?_, Nat.le_trans h.size hg.size⟩
  exact h.below.grown hg h.below.size (fun r e => by have := hC.wg; simp at e; omega)
end

theorem MvOwn.rest' {w : World} {base : Nat} {v : Value} {l : List RM.Mv} (h : MvOwn w base v l) : ∃ g, base ≤ g ∧ RestAt w g v l ∧ (0 < l.length → g < w.heap.size) := by
  obtain ⟨h1, h2⟩ := id h
  rcases h2 with ⟨rfl, h0⟩ | ⟨g, cap, cur, rfl, hb, hg, k1, k2, k3, k4⟩
  · exact ⟨base, Nat.le_refl _, .inl ⟨List.eq_nil_of_length_eq_zero h0, rfl⟩, fun h => by omega⟩
  · refine ⟨g, hb, .inr ⟨cap, fun i => cur[i]?.getD default, rfl, k1, k2, ⟨cur, hg, k3, fun i hi => ?_⟩, fun j u hu => ?_⟩, fun _ => (Array.getElem?_eq_some_iff.1 hg).1⟩
    · show cur[i]? = some (cur[i]?.getD default); rw [Array.getElem?_eq_getElem (by omega)]; rfl
    · have hj := (List.getElem?_eq_some_iff.1 hu).1
      rw [mvCells_length] at hj
      rw [← k4, List.getElem?_take_of_lt hj, Array.getElem?_toList] at hu
      show cur[j]?.getD default = u
      rw [hu]; rfl

set_option maxHeartbeats 4000000 in
set_option maxRecDepth 20000 in
theorem order_any {w : World} {v : Value} {l : List RM.Mv} {spare : Int} (h : MvsAt w v l) : Calls Tryz.prog 40 #[v, .int .i64 spare] w (OrP w l spare) := by
  have AM := Lib.hid (areMoves_any (spare := spare) h)
  have HV := Lib.hid h
  obtain ⟨ad, c, rfl, -⟩ := id h
  obtain ⟨n, hn⟩ : ∃ n, n = l.length := ⟨_, rfl⟩
  rw [← hn] at AM HV ⊢
  have HN := Lib.hid hn
  clear h hn
  cases ham : RM.areMoves l spare with
  | false =>
    rw [ham] at AM
    have E := Lib.hid ham
    clear ham
    go_enter Tryz.func40, Tryz.ntmps40
    go_wp2_with (go_at_call 68; refine (AM.out).mono ?_; rintro e w1 ⟨rfl, hb⟩)
    go_ret2
    exact ⟨hb, .inr ⟨E.out, rfl⟩⟩
  | true =>
    rw [ham] at AM
    have E := Lib.hid ham
    have HL : Hid (l.length ≤ 16) := (RM.areMoves_iff.1 ham).1
    clear ham
    go_enter Tryz.func40, Tryz.ntmps40
    go_wp2_with (go_at_call 68; refine (AM.out).mono ?_; rintro e w1 ⟨rfl, hb⟩)
    have HB1 := Lib.hid hb
    clear hb
    have eg := same_fun.enter
    refine (clone_any (HV.out.kept (kept_below HB1.out)) (by have := HL.out; omega)).mono ?_
    rintro e w2 ⟨v2, rfl, ho2, hb2⟩
    have HO2 := Lib.hid ho2
    have HB2 := Lib.hid (HB1.out.trans (hb2.mono HB1.out.size))
    clear ho2 hb2
    obtain ⟨g, hgb, hrs, hgl⟩ := HO2.out.rest'
    have HGB := Lib.hid hgb
    have HGL := Lib.hid hgl
    have DF := Lib.hid (deleteFunc_any same_fun hrs (by have := HL.out; omega))
    obtain ⟨va, vc, rfl⟩ := hrs.shape
    clear hgb hgl hrs
    obtain ⟨n2, hn2⟩ : ∃ n, n = l.length := ⟨_, rfl⟩
    rw [← hn2] at DF HO2 ⊢
    have HN2 := Lib.hid hn2
    clear hn2
    go_wp2_with fail
    refine DF.out.mono ?_
    rintro e w3 ⟨v3, rfl, hr3, hg3⟩
    have HR3 : Hid (RestAt w3 g v3 (RM.rest0 l)) := hr3
    have HG3 := Lib.hid hg3
    have HB3 : Hid (Below w.heap.size w w3) := HB2.out.grown hg3 HB2.out.size (fun r e => by simp at e; have := HGB.out; have := HB1.out.size; omega)
    obtain ⟨va3, vc3, hv3⟩ := hr3.shape
    obtain ⟨n3, hn3⟩ : ∃ n, n = (RM.rest0 l).length := ⟨_, rfl⟩
    rw [show (l.filter fun m => !decide (m.1 = m.2)) = RM.rest0 l from rfl, ← hn3] at hv3
    subst hv3
    have HN3 := Lib.hid hn3
    clear hr3 hg3 hn3
    by_cases h0 : 0 < n3
    · have HC : Hid (OrC w (w3.heap.size + 1) w3.heap.size g) := by
        show OrC _ _ _ _
        have hlt : g < w3.heap.size := HR3.out.lt (by rw [← HN3.out]; exact h0)
        have h1 := HGB.out; have h2 := HB1.out.size; have h3 := HB3.out.size
        exact ⟨by omega, by omega, by omega, by omega, by omega⟩
      have HM0 : Hid (OrM w (w3.heap.size + 1) w3.heap.size g (RM.rest0 l) [] (.slice va3 n3 vc3) (.slice none 0 0) (w3.alloc (.cells #[.slice va3 n3 vc3] 74))) :=
        ⟨by rw [cell_of_row _ _ 0 _ _ _ (heap_alloc_new w3 _)]; rfl, frozen_of_row _ _ _ _ _ (heap_alloc_new w3 _), HR3.out.keep (Below.heap_alloc _ _ _ (HR3.out.lt (by rw [← HN3.out]; exact h0))), World.ownsRow_nil _ _ _ _, HB3.out.alloc HB3.out.size _, by simp⟩
      have HL0 := Lib.hid (OrL.start E.out)
      clear h0
      go_wp2_with fail
      go_loopg [6] (RM.mu (RM.rest0 l)) (fun gk vo wr => ∃ rest out v, gk = RM.mu rest ∧ OrM w (w3.heap.size + 1) w3.heap.size g rest out v vo wr ∧ OrL l spare rest out)
      case atStart => exact ⟨_, _, _, rfl, HM0.out, HL0.out⟩
      case round =>
        obtain ⟨rest, out, v, hgk, hm, hl⟩ := hrel
        have KM := Lib.hid hm
        have KL := Lib.hid hl
        have KG := Lib.hid hgk
        obtain ⟨nr, hnr⟩ : ∃ n, n = rest.length := ⟨_, rfl⟩
        have HNR := Lib.hid hnr
        have hnz : (nr : Int) ≤ 16 := by have := hl.few; omega
        obtain ⟨oa, oc, hvo⟩ := hm.ot.shape
        obtain ⟨no, hno⟩ : ∃ n, n = out.length := ⟨_, rfl⟩
        rw [← hno] at hvo
        have HNO := Lib.hid hno
        have hnoz : (no : Int) ≤ 40 := by have := hl.outs; omega
        by_cases hr0 : 0 < nr
        · obtain ⟨cp, hv, hat, hfr⟩ := hm.rst.full (by omega)
          rw [← hnr] at hv
          subst hv
          have hr0z : (0 : Int) < nr := by omega
          have IX := Lib.hid (indexFunc_any (free_fun w3.heap.size rest (by have := hl.few; omega)) hm.rst.mvs (by have := hl.few; omega) ⟨_, hm.cell, hm.rst.mvs⟩)
          have eg73 := (free_fun w3.heap.size rest (by have := hl.few; omega)).enter
          have c0 := hm.cell
          subst hvo
          by_cases hx : rest.findIdx (RM.free rest) < rest.length
          · obtain ⟨i, hi⟩ : ∃ i, rest.findIdx (RM.free rest) = i := ⟨_, rfl⟩
            rw [hi] at hx
            obtain ⟨⟨a, b⟩, hmv⟩ : ∃ m, rest[i]? = some m := ⟨_, List.getElem?_eq_getElem hx⟩
            have IX2 : Hid (Calls Tryz.prog 72 #[.slice (some ⟨g, 0, none⟩) nr cp, .func (.func 73) #[] #[.pointer (some ⟨w3.heap.size, 0, none⟩)]] wr fun e w' => Below wr.heap.size wr w' ∧ e = .returned (.int .i64 (i : Int))) := by
              refine IX.out.mono ?_
              rintro e w' ⟨hb, he⟩
              rw [hi, if_pos hx] at he
              exact ⟨hb, he⟩
            have HIX := Lib.hid hi
            have HMV := Lib.hid hmv
            have HXL := Lib.hid hx
            have hiz : (i : Int) < nr := by omega
            have hi0 : (0 : Int) ≤ i := by omega
            clear hm hl hgk hnr hno IX hat hfr hi hmv hx
            go_wp2_with fail
            refine IX2.out.mono ?_
            rintro e w4 ⟨hb4, rfl⟩
            have M4 := Lib.hid (KM.out.keep HC.out hb4)
            clear hb4 c0
            have c0 := M4.out.cell
            obtain ⟨cp', hv, hat, hfr⟩ := M4.out.rst.full (by have := HNR.out; omega)
            rw [← HNR.out] at hv
            simp only [Value.slice.injEq, true_and] at hv
            subst hv
            obtain ⟨y0, y1⟩ := hat i _ HMV.out
            clear hat hfr
            obtain ⟨i0, hi1, hz0, hz1, hz2⟩ := info_parts Tryz.info81
            have HI := Lib.hid (And.intro hi1 (And.intro hz0 (And.intro hz1 hz2)))
            have M5 := Lib.hid (M4.out.keep HC.out ((Below.refl _ w4).alloc (Nat.le_refl _) (.cells #[.int .i64 a, .int .i64 b] 81)))
            have O5 : Hid (World.ownsRow (w4.alloc (.cells #[.int .i64 a, .int .i64 b] 81)) (w3.heap.size + 1) 81 2 (.slice oa no oc) no (mvCells out)) := by have := M5.out.ot; unfold MvOwn at this; rw [← HNO.out] at this; exact this
            have N5 : Hid (∀ (j : Nat) (u : Value), [Value.int .i64 a, Value.int .i64 b][j]? = some u → (w4.alloc (.cells #[.int .i64 a, .int .i64 b] 81)).cell? ((⟨w4.heap.size, 0, none⟩ : Addr).add j) = some u) := fun j u hu => by
              rw [Addr.add_lit, cell_of_row _ _ _ _ _ _ (heap_alloc_new w4 _), Nat.zero_add]
              match j, hu with
              | 0, hu => exact hu
              | 1, hu => exact hu
              | j + 2, hu => simp at hu
            have hno2 : no + 1 ≤ maxLen ∧ (no + 1) * 16 ≤ 140737488355328 := by simp only [maxLen]; omega
            have HNB := Lib.hid hno2
            clear hi1 hz0 hz1 hz2 hno2
            go_wp2_with (at_builtin; refine wpList_append_own _ rfl _ _ 74 rfl (w3.heap.size + 1) 81 i0 (.agg #[.int .i64 0, .int .i64 0]) 2 16 Tryz.underlying74 HI.out.1 HI.out.2.1 HI.out.2.2.1 HI.out.2.2.2 rfl (by decide) (.slice oa no oc) no (mvCells out) rfl O5.out ⟨w4.heap.size, 0, none⟩ 1 1 [.int .i64 a, .int .i64 b] rfl rfl N5.out (fun u hu => by simp at hu; rcases hu with rfl | rfl <;> rfl) HNB.out.1 HNB.out.2 M5.out.size ?_)
            intro vo' w6 hown hg6 _
            have M6 : Hid (OrM w (w3.heap.size + 1) w3.heap.size g rest (out ++ [(a, b)]) (.slice (some ⟨g, 0, none⟩) nr cp) vo' w6) := M5.out.push HC.out hg6 (by
              show World.ownsRow _ _ _ _ _ _ _
              rw [List.length_append, List.length_singleton, ← HNO.out, mvCells_append]; exact hown)
            clear hown hg6 y0 y1 c0
            have c0 := M6.out.cell
            have DL := Lib.hid (delete_any (j := i + 1) rfl M6.out.rst HXL.out (by have := KL.out.few; omega))
            rw [show (((i + 1 : Nat)) : Int) = (i : Int) + 1 from by push_cast; rfl] at DL
            go_wp2_with fail
            refine DL.out.mono ?_
            rintro e w7 ⟨v7, rfl, hr7, hg7⟩
            have M7 := Lib.hid (M6.out.put HC.out hg7 hr7)
            have LF := Lib.hid (KL.out.free HIX.out HMV.out)
            have brc := hg7.block w3.heap.size (World.block_lt_of_cell? _ _ c0) (fun e => HC.out.ne (by simpa using e.symm))
            have c7 := (World.cell?_of_block (a := ⟨w3.heap.size, 0, none⟩) brc).trans c0
            have f7 := (World.frozen?_of_block (a := ⟨w3.heap.size, 0, none⟩) brc).trans M6.out.froz
            obtain ⟨va7, vc7, hv7⟩ := hr7.shape
            obtain ⟨n7, hn7⟩ : ∃ n, n = (rest.eraseIdx i).length := ⟨_, rfl⟩
            rw [← hn7] at hv7
            subst hv7
            clear hr7 hg7 brc c0 hn7
            go_wp2_with fail
            go_roundg (RM.mu (rest.eraseIdx i))
            case measure => rw [KG.out]; exact LF.out.2
            case rel => exact ⟨_, _, _, rfl, M7.out, LF.out.1⟩
          · obtain ⟨m, r, hmr⟩ : ∃ m r, rest = m :: r := by
              cases rest with
              | nil => have := HNR.out; simp at this; omega
              | cons m r => exact ⟨m, r, rfl⟩
            subst hmr
            have IX2 : Hid (Calls Tryz.prog 72 #[.slice (some ⟨g, 0, none⟩) nr cp, .func (.func 73) #[] #[.pointer (some ⟨w3.heap.size, 0, none⟩)]] wr fun e w' => Below wr.heap.size wr w' ∧ e = .returned (.int .i64 (-1))) := by
              refine IX.out.mono ?_
              rintro e w' ⟨hb, he⟩
              rw [if_neg hx] at he
              exact ⟨hb, he⟩
            have LF := Lib.hid (KL.out.turn hx)
            clear hm hl hgk hnr hno IX hat hfr hx
            go_wp2_with fail
            refine IX2.out.mono ?_
            rintro e w4 ⟨hb4, rfl⟩
            have M4 := Lib.hid (KM.out.keep HC.out hb4)
            clear hb4 c0
            have c0 := M4.out.cell
            obtain ⟨cp', hv, hat, hfr⟩ := M4.out.rst.full (by have := HNR.out; omega)
            rw [← HNR.out] at hv
            simp only [Value.slice.injEq, true_and] at hv
            subst hv
            obtain ⟨y0, y1⟩ := hat 0 m rfl
            clear hat hfr
            obtain ⟨i0, hi1, hz0, hz1, hz2⟩ := info_parts Tryz.info81
            have HI := Lib.hid (And.intro hi1 (And.intro hz0 (And.intro hz1 hz2)))
            have M5 := Lib.hid (M4.out.keep HC.out ((Below.refl _ w4).alloc (Nat.le_refl _) (.cells #[.int .i64 spare, .int .i64 m.1] 81)))
            have O5 : Hid (World.ownsRow (w4.alloc (.cells #[.int .i64 spare, .int .i64 m.1] 81)) (w3.heap.size + 1) 81 2 (.slice oa no oc) no (mvCells out)) := by have := M5.out.ot; unfold MvOwn at this; rw [← HNO.out] at this; exact this
            have N5 : Hid (∀ (j : Nat) (u : Value), [Value.int .i64 spare, Value.int .i64 m.1][j]? = some u → (w4.alloc (.cells #[.int .i64 spare, .int .i64 m.1] 81)).cell? ((⟨w4.heap.size, 0, none⟩ : Addr).add j) = some u) := fun j u hu => by
              rw [Addr.add_lit, cell_of_row _ _ _ _ _ _ (heap_alloc_new w4 _), Nat.zero_add]
              match j, hu with
              | 0, hu => exact hu
              | 1, hu => exact hu
              | j + 2, hu => simp at hu
            have hno2 : no + 1 ≤ maxLen ∧ (no + 1) * 16 ≤ 140737488355328 := by simp only [maxLen]; omega
            have HNB := Lib.hid hno2
            clear hi1 hz0 hz1 hz2 hno2
            go_wp2_with (at_builtin; refine wpList_append_own _ rfl _ _ 74 rfl (w3.heap.size + 1) 81 i0 (.agg #[.int .i64 0, .int .i64 0]) 2 16 Tryz.underlying74 HI.out.1 HI.out.2.1 HI.out.2.2.1 HI.out.2.2.2 rfl (by decide) (.slice oa no oc) no (mvCells out) rfl O5.out ⟨w4.heap.size, 0, none⟩ 1 1 [.int .i64 spare, .int .i64 m.1] rfl rfl N5.out (fun u hu => by simp at hu; rcases hu with rfl | rfl <;> rfl) HNB.out.1 HNB.out.2 M5.out.size ?_)
            intro vo' w6 hown hg6 _
            have M6 : Hid (OrM w (w3.heap.size + 1) w3.heap.size g (m :: r) (out ++ [(spare, m.1)]) (.slice (some ⟨g, 0, none⟩) nr cp) vo' w6) := M5.out.push HC.out hg6 (by
              show World.ownsRow _ _ _ _ _ _ _
              rw [List.length_append, List.length_singleton, ← HNO.out, mvCells_append]; exact hown)
            clear hown hg6 y0 y1 c0
            have c0 := M6.out.cell
            go_wp2_with fail
            go_loopw [50] (fun iv wl => ∃ k : Nat, k ≤ nr ∧ iv = .int .i64 k ∧ OrM w (w3.heap.size + 1) w3.heap.size g (RM.part spare m.1 k (m :: r)) (out ++ [(spare, m.1)]) (.slice (some ⟨g, 0, none⟩) nr cp) vo' wl) (fun iv _ => nr - (intOf iv).toNat)
            case atStart => exact ⟨0, Nat.zero_le _, rfl, M6.out⟩
            case round =>
              obtain ⟨k, hk, rfl, hml⟩ := hrel
              have KK := Lib.hid hk
              have ML := Lib.hid hml
              have cl := hml.cell
              clear hk hml c0
              by_cases hlt : k < nr
              · have hlz : (k : Int) < nr := by omega
                have hk0 : (0 : Int) ≤ k := by omega
                obtain ⟨⟨a, b⟩, hmv⟩ : ∃ x, (m :: r)[k]? = some x := ⟨_, List.getElem?_eq_getElem (by have := HNR.out; omega)⟩
                have hpl := RM.part_length spare m.1 k (m :: r)
                obtain ⟨cp', hv, hat, hfr⟩ := ML.out.rst.full (by have := HNR.out; omega)
                rw [hpl, ← HNR.out] at hv
                simp only [Value.slice.injEq, true_and] at hv
                subst hv
                have HPA := RM.part_at (spare := spare) (kept := m.1) hmv
                obtain ⟨y0, y1⟩ := hat k _ HPA
                have f1 := hfr (k * 2 + 1)
                have PS := RM.part_succ (spare := spare) (kept := m.1) hmv
                have HLT := Lib.hid hlt
                have HP := Lib.hid HPA
                simp only [] at y0 y1
                clear hat hfr hpl HPA hmv hlt
                by_cases hbk : b = m.1
                · have PS2 : Hid (RM.part spare m.1 (k + 1) (m :: r) = (RM.part spare m.1 k (m :: r)).set k (a, spare)) := by show _ = _; rw [PS]; exact if_pos hbk
                  have db : (b == m.1) = true := by simp [hbk]
                  clear PS hbk
                  go_wp2_with fail
                  go_roundw
                  case rel =>
                    refine ⟨k + 1, HLT.out, by go_num, ?_⟩
                    rw [PS2.out]
                    exact ML.out.change HC.out (grown_setCell wr ⟨g, k * 2 + 1, none⟩ _) (ML.out.rst.setFrom HP.out)
                  case measure => have := HLT.out; simp [intOf]; omega
                · have PS2 : Hid (RM.part spare m.1 (k + 1) (m :: r) = RM.part spare m.1 k (m :: r)) := by show _ = _; rw [PS]; exact if_neg hbk
                  have db : (b == m.1) = false := by simp [hbk]
                  clear PS hbk
                  go_wp2_with fail
                  go_roundw
                  case rel =>
                    refine ⟨k + 1, HLT.out, by go_num, ?_⟩
                    rw [PS2.out]
                    exact ML.out
                  case measure => have := HLT.out; simp [intOf]; omega
              · have hkn : k = (m :: r).length := by have := KK.out; have := HNR.out; omega
                have hlz : (nr : Int) ≤ k := by omega
                have MT : Hid (OrM w (w3.heap.size + 1) w3.heap.size g (RM.turn spare m.1 (m :: r)) (out ++ [(spare, m.1)]) (.slice (some ⟨g, 0, none⟩) nr cp) vo' wr) := by
                  have := ML.out
                  rw [hkn, RM.part_all] at this
                  exact this
                clear hkn hlt
                go_wp2_with fail
                go_roundg (RM.mu (RM.turn spare m.1 (m :: r)))
                case measure => rw [KG.out]; exact LF.out.2
                case rel => exact ⟨_, _, _, rfl, MT.out, LF.out.1⟩
        · have hr1 : rest = [] := List.eq_nil_of_length_eq_zero (by omega)
          obtain ⟨va, vc, hv⟩ := hm.rst.shape
          have hn0 : nr = 0 := by omega
          rw [← hnr, hn0] at hv
          subst hv
          have c0 := hm.cell
          have EO : Hid (out = RM.order l spare) := by have := hl.ord; rw [hr1] at this; exact this
          have OM := Lib.hid hm.ot.at'
          subst hvo
          clear hm hl hgk hr0
          go_wp2_with fail
          go_ret2
          refine ⟨KM.out.below, .inl ⟨E.out, _, ?_, rfl⟩⟩
          rw [← EO.out]; exact OM.out
    · have e3 : n3 = 0 := by omega
      subst e3
      clear h0
      go_wp2_with fail
      go_loopw [6] (fun vo wr => vo = .slice none 0 0 ∧ wr = w3.alloc (.cells #[.slice va3 0 vc3] 74)) (fun _ _ => 0)
      case atStart => exact ⟨rfl, rfl⟩
      case round =>
        obtain ⟨rfl, rfl⟩ := hrel
        go_wp2_with fail
        go_ret2
        refine ⟨HB3.out.alloc HB3.out.size _, .inl ⟨E.out, _, ?_, rfl⟩⟩
        have e0 : RM.rest0 l = [] := List.eq_nil_of_length_eq_zero HN3.out.symm
        have : RM.order l spare = [] := by unfold RM.order; rw [e0]; rfl
        rw [this]
        exact ⟨none, 0, rfl, fun h => absurd h (by simp)⟩
end Go.Proofs.YtnkahlloahgifaaGreatDoor
