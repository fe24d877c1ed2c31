/- An integer is read: walked, over a contract of Number. -/
import Derived.Test.YtnkahlloahgifaaGreatDoorLxF
set_option linter.unusedSimpArgs false
set_option linter.unusedVariables false
namespace Go.Proofs.YtnkahlloahgifaaGreatDoor.Lx
open Go.RowKit

/-- What the library's variables hold. -/
structure Env (w : World) : Prop where
  tab : Lib.TabIs Tryz.prog w "internal/strconv.uint64pow10" .u64 Lib.pow10Tab
  max : ∃ m, w.cell? ⟨0, 0, none⟩ = some (.int .i64 m)
  syn : ∃ t p, w.cell? ⟨1, 0, none⟩ = some (.iface t p)
  rng : ∃ t p, w.cell? ⟨2, 0, none⟩ = some (.iface t p)
  size : 10 ≤ w.heap.size

theorem Env.keep {w w' : World} {B : Nat} (h : Env w) (hb : Below B w w') (hB : 10 ≤ B) : Env w' := by
  obtain ⟨g, hg, hg30⟩ : ∃ g, Tryz.prog.globalNamed "internal/strconv.uint64pow10" = some g ∧ g < 10 := by
    have hk : ((Tryz.prog.globalNamed "internal/strconv.uint64pow10").map fun g => decide (g < 10)) = some true := by kernel_rfl
    obtain ⟨g, hg, hd⟩ := Option.map_eq_some_iff.1 hk
    exact ⟨g, hg, of_decide_eq_true hd⟩
  exact ⟨var?_below hb hg (by omega) h.tab, by rw [hb.cell (by show 0 < B; omega)]; exact h.max, by rw [hb.cell (by show 1 < B; omega)]; exact h.syn, by rw [hb.cell (by show 2 < B; omega)]; exact h.rng, Nat.le_trans h.size hb.size⟩

def NumPost (w : World) (t : ByteArray) (e : Ending) (w' : World) : Prop :=
  e = .returned (.tuple #[.int .i64 ((LX.num (bts t)).getD 0), .int .i64 (if (LX.num (bts t)).isSome then 0 else 13)]) ∧ Below w.heap.size w w'

/-- The contract of Number. -/
def NumLaw : Prop := ∀ (w : World) (t : ByteArray), Env w → t.size ≤ 400000 → Calls Tryz.prog 158 #[.string t] w (NumPost w t)

theorem number_eq (s : ByteArray) (i n d : Nat) (hd : d = n + LX.run LX.digit ((bts s).drop (i + n))) :
    LX.number ((bts s).drop i) n = match LX.num (((bts s).drop i).take d) with
      | none => .bad 13
      | some v => if LX.part ((bts s).getD (i + d) 0) || (bts s).getD (i + d) 0 == 39 then .bad 13 else .tok 1 v d := by
  unfold LX.number
  simp only [List.drop_drop]
  rw [← hd]
  cases LX.num (((bts s).drop i).take d) with
  | none => rfl
  | some v =>
    simp only []
    cases h : (bts s).drop (i + d) with
    | nil =>
      have hl : (bts s).length ≤ i + d := List.drop_eq_nil_iff.1 h
      have e : (bts s).getD (i + d) 0 = 0 := by rw [List.getD_eq_getElem?_getD, List.getElem?_eq_none hl]; rfl
      rw [e]
      rfl
    | cons c t =>
      have hl : i + d < (bts s).length := by
        rcases Nat.lt_or_ge (i + d) (bts s).length with h2 | h2
        · exact h2
        · rw [List.drop_of_length_le h2] at h; cases h
      rw [List.drop_eq_getElem_cons hl] at h
      simp only [List.cons.injEq] at h
      have e : (bts s).getD (i + d) 0 = c := by rw [List.getD_eq_getElem?_getD, List.getElem?_eq_getElem hl, ← h.1]; rfl
      rw [e]

set_option maxHeartbeats 800000 in
set_option maxRecDepth 20000 in
theorem number_any (NL : NumLaw) {w : World} {b : Nat} {s : ByteArray} {i mb : Nat} {cv : Value} (h : Sc w b s i mb cv) (henv : Env w) (hi : i < s.size) :
    Calls Tryz.prog 150 #[.pointer (some ⟨b, 0, none⟩)] w (TPost w s i (LX.number ((bts s).drop i) (if (bts s).getD i 0 = 126 then 1 else 0))) := by
  obtain ⟨c0, c1, lt, le, sz⟩ := h.at'
  obtain ⟨c, hc⟩ : ∃ c, c = (bts s).getD i 0 := ⟨_, rfl⟩
  rw [← hc]
  obtain ⟨n, hn⟩ : ∃ n : Nat, n = if c = 126 then 1 else 0 := ⟨_, rfl⟩
  rw [← hn]
  obtain ⟨r, hr⟩ : ∃ r, r = LX.number ((bts s).drop i) n := ⟨_, rfl⟩
  rw [← hr]
  obtain ⟨d1, hd1⟩ : ∃ d1, d1 = LX.run LX.digit ((bts s).drop (i + n)) := ⟨_, rfl⟩
  obtain ⟨x, hx⟩ : ∃ x, x = (bts s).getD (i + (n + d1)) 0 := ⟨_, rfl⟩
  have hne := number_eq s i n (n + d1) (by rw [hd1])
  rw [← hx] at hne
  have hn1 : n ≤ 1 := by rw [hn]; split <;> omega
  have hds : i + n + d1 ≤ s.size := by
    have := run_le LX.digit ((bts s).drop (i + n))
    rw [List.length_drop, bts_length, ← hd1] at this
    omega
  have ATW : Hid (∀ W : World, W.heap[b]? = w.heap[b]? → At W b s i) := fun W e => ⟨by rw [World.cell?_of_block (w := w) e]; exact c0, by rw [World.cell?_of_block (w := w) e]; exact c1, by
    rw [h.1] at e; exact (Array.getElem?_eq_some_iff.1 e).1, le, sz⟩
  have HC := Lib.hid hc
  have HN := Lib.hid hn
  have HR := Lib.hid (hr.trans hne)
  have HD := Lib.hid hd1
  have HX := Lib.hid hx
  have HE := Lib.hid henv
  have HDS := Lib.hid hds
  have H1 := Lib.hid hn1
  have HL := Lib.hid NL
  have hiz : (i : Int) + (n : Int) + (d1 : Int) ≤ 400000 := by omega
  have hnd0 : (n : Int) + (d1 : Int) ≤ 400000 := by omega
  have hsz : (i : Int) + (n : Int) + (d1 : Int) ≤ (s.size : Int) := by omega
  have hnz1 : (n : Int) ≤ 1 := by omega
  have hsl : ∀ m : World, (Instr.slice 9 (.string s) (some (.int .i64 i)) (some (.int .i64 ((i : Int) + (n : Int) + (d1 : Int)))) none).run Tryz.prog m = .ok (.string (s.extract i (i + (n + d1)))) m := fun m => by
    have := run_slice_string (P := Tryz.prog) m 9 s .i64 .i64 i ((i : Int) + (n : Int) + (d1 : Int)) Tryz.underlying9 (by omega) (by omega) (by omega)
    rw [this]
    have e : ((i : Int) + (n : Int) + (d1 : Int)).toNat = i + (n + d1) := by omega
    rw [e]
    simp
  have hw1 : IntKind.i64.wrap ((i : Int) + (n : Int)) = (i : Int) + (n : Int) := wrap_in _ (by omega)
  have hw2 : IntKind.i64.wrap ((i : Int) + (n : Int) + (d1 : Int)) = (i : Int) + (n : Int) + (d1 : Int) := wrap_in _ (by omega)
  have HSL := Lib.hid hsl
  clear hc hr hd1 hx hne hds henv NL hn1 le h hsl c0 c1 hn
  go_enter Tryz.func150, Tryz.ntmps150
  go_wp2_with fail
  obtain ⟨z, hz⟩ : ∃ z, z = w.heap.size := ⟨_, rfl⟩
  obtain ⟨W0, hW0⟩ : ∃ W, W = w.alloc (.cells #[.int .i64 0, .int .i64 0, .string ⟨#[]⟩, .int .i64 0] 154) := ⟨_, rfl⟩
  rw [← hW0, ← hz]
  have B0 : Hid (W0.heap[b]? = w.heap[b]?) := by rw [hW0]; exact Below.heap_alloc _ _ _ lt
  have B1 : Hid (W0.heap[z]? = some (.cells #[.int .i64 0, .int .i64 0, .string ⟨#[]⟩, .int .i64 0] 154 (0, 0))) := by rw [hW0, hz]; exact heap_alloc_new w _
  have B2 : Hid (Below w.heap.size w W0) := by rw [hW0]; exact (Below.refl _ _).alloc (Nat.le_refl _) _
  have B3 : Hid (z < W0.heap.size) := (Array.getElem?_eq_some_iff.1 B1.out).1
  have B4 := Lib.hid hz
  clear hz hW0
  refine (peek_any (ATW.out W0 B0.out) 0 (by decide)).mono ?_
  rintro e w1 ⟨rfl, q1, rfl⟩
  rw [Nat.add_zero, ← HC.out]
  by_cases hc126 : c = 126
  case' pos =>
    have hcz : ((c : Int) == 126) = true := by simp; omega
    have hcz2 : (c : Int) = 126 := by omega
    have HN1 : Hid (n = 1) := by show n = 1; rw [HN.out, if_pos hc126]
    clear hc126
    go_wp2_with fail
    rw [show (1 : Int) = (n : Int) from by rw [HN1.out]; rfl]
  case' neg =>
    have hcz2 : ¬ (c : Int) = 126 := by omega
    have HN1 : Hid (n = 0) := by show n = 0; rw [HN.out, if_neg hc126]
    clear hc126
    go_wp2_with fail
    rw [show (0 : Int) = (n : Int) from by rw [HN1.out]; rfl]
  all_goals
    refine (run_digit (ATW.out (W0.drewN q1) B0.out) n (by have := H1.out; omega)).mono ?_
    rintro e w2 ⟨rfl, q2, rfl⟩
    rw [← HD.out]
    go_wp2_with fail
    have PK := peek_any (ATW.out (W0.drewN (q1 + q2)) B0.out) (n + d1) (by have := H1.out; have := HDS.out; omega)
    rw [← HX.out, show ((n + d1 : Nat) : Int) = (n : Int) + (d1 : Int) from by push_cast; rfl] at PK
    refine PK.mono ?_
    clear PK
    rintro e w3 ⟨rfl, q3, rfl⟩
    have hsl := HSL.out
    obtain ⟨e0, e1, elt, -, -⟩ := ATW.out W0 B0.out
    go_wp2_with fail
    go_quiet (fail)
    clear hsl e0 e1 elt hw1 hw2
    go_wp2_with fail
    have NB := HL.out (W0.drewN (q1 + q2 + q3 + nq)) (s.extract i (i + (n + d1))) (HE.out.keep (below_drawn B2.out _) HE.out.size) (by rw [ByteArray.size_extract]; have := HDS.out; omega)
    refine NB.mono ?_
    clear NB
    rintro e w4 ⟨rfl, hb4⟩
    obtain ⟨tx, htx⟩ : ∃ t, t = s.extract i (i + (n + d1)) := ⟨_, rfl⟩
    rw [← htx]
    have HTX := Lib.hid htx
    have hb2 : Below W0.heap.size W0 w4 := below_of_drew hb4
    have b1 : w4.heap[z]? = some (.cells #[.int .i64 0, .int .i64 0, .string ⟨#[]⟩, .int .i64 0] 154 (0, 0)) := (hb2.block z B3.out).trans B1.out
    have b2 : w4.heap[b]? = w.heap[b]? := (hb2.block b (Nat.lt_of_lt_of_le lt B2.out.size)).trans B0.out
    obtain ⟨e0, e1, elt, -, -⟩ := ATW.out w4 b2
    have X1 : Hid (Below w.heap.size w w4) := B2.out.trans (hb2.mono B2.out.size)
    have X2 := Lib.hid b1
    have HWT : Hid (bts tx = ((bts s).drop i).take (n + d1)) := by show _ = _; rw [htx, bts_extract, Nat.add_sub_cancel_left]
    have yl : z < w4.heap.size := (Array.getElem?_eq_some_iff.1 b1).1
    have Y : Hid (∀ q, w4.frozen? ⟨z, q, none⟩ = false) := fun q => frozen_of_row w4 z q _ _ b1
    have HRN : Hid (LX.num (((bts s).drop i).take (n + d1)) = none → r = .bad 13) := fun h => by rw [HR.out, h]
    have HRS : Hid (∀ v, LX.num (((bts s).drop i).take (n + d1)) = some v → r = if LX.part x || x == 39 then .bad 13 else .tok 1 v (n + d1)) := fun v h => by rw [HR.out, h]
    clear htx hb4 hb2 b1 b2 HR
    cases hv : LX.num (bts tx) with
    | none =>
      have HV := Lib.hid hv
      clear hv
      go_wp2_with fail
      refine ⟨rfl, ?_⟩
      rw [HRN.out (by rw [← HWT.out]; exact HV.out)]
      exact ⟨rfl, X1.out⟩
    | some v =>
      have HV := Lib.hid hv
      clear hv
      go_wp2_with fail
      refine (part_any w4 x).mono ?_
      rintro e w5 ⟨rfl, rfl⟩
      cases hp : LX.part x with
      | true =>
        have HP := Lib.hid hp
        clear hp
        go_wp2_with fail
        refine ⟨rfl, ?_⟩
        rw [HRS.out v (by rw [← HWT.out]; exact HV.out), HP.out]
        exact ⟨rfl, X1.out⟩
      | false =>
        have HP := Lib.hid hp
        clear hp
        by_cases hx39 : x = 39
        · have hxz : (x : Int) = 39 := by omega
          have HX3 := Lib.hid hx39
          clear hx39
          go_wp2_with fail
          refine ⟨rfl, ?_⟩
          rw [HRS.out v (by rw [← HWT.out]; exact HV.out), HP.out, HX3.out]
          exact ⟨rfl, X1.out⟩
        · have hxz : ¬ (x : Int) = 39 := by omega
          have HX3 := Lib.hid hx39
          clear hx39
          have yf : ∀ q, w5.frozen? ⟨z, q, none⟩ = false := Y.out
          have y0 : w5.cell? ⟨z, 0, none⟩ = some (.int .i64 0) := by rw [cell_of_row w5 z 0 _ _ _ X2.out]; rfl
          have y1 : w5.cell? ⟨z, 1, none⟩ = some (.int .i64 0) := by rw [cell_of_row w5 z 1 _ _ _ X2.out]; rfl
          have y2 : w5.cell? ⟨z, 2, none⟩ = some (.string ⟨#[]⟩) := by rw [cell_of_row w5 z 2 _ _ _ X2.out]; rfl
          have y3 : w5.cell? ⟨z, 3, none⟩ = some (.int .i64 0) := by rw [cell_of_row w5 z 3 _ _ _ X2.out]; rfl
          go_wp2_with fail
          have hf := four_set X2.out (.int .i64 1) (.int .i64 v) (.string tx) (.int .i64 i)
          have hzb : w.heap.size ≤ z := Nat.le_of_eq B4.out.symm
          refine bodyPost_ret (v := tokV 1 v tx i) (by rw [results_one_cell rfl]; simp [asAddr, load39 hf]) rfl ?_
          have hfin := (((X1.out.setCell (p := ⟨z, 0, none⟩) hzb (.int .i64 1)).setCell (p := ⟨z, 1, none⟩) hzb (.int .i64 v)).setCell (p := ⟨z, 2, none⟩) hzb (.string tx)).setCell (p := ⟨z, 3, none⟩) hzb (.int .i64 i)
          rw [HRS.out v (by rw [← HWT.out]; exact HV.out), HP.out, if_neg (by simpa using HX3.out)]
          exact ⟨by rw [HTX.out]; try rfl, hfin⟩
end Go.Proofs.YtnkahlloahgifaaGreatDoor.Lx
