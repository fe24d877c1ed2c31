/- A token is made: walked. -/
import Derived.Test.YtnkahlloahgifaaGreatDoorLxE
import Derived.StillTailTactics
set_option linter.unusedSimpArgs false
set_option linter.unusedVariables false
namespace Go.Proofs.YtnkahlloahgifaaGreatDoor.Lx
open Go.RowKit

/-- A token as a value. -/
def tokV (k v : Int) (t : ByteArray) (p : Int) : Value := .agg #[.int .i64 k, .int .i64 v, .string t, .int .i64 p]

def MPost (w : World) (s : ByteArray) (i : Nat) (k : Int) (n : Nat) (e : Ending) (w' : World) : Prop :=
  if 24 < n then e = thrown i 2 ∧ Below w.heap.size w w' else e = .returned (tokV k 0 (s.extract i (i + n)) i) ∧ Below w.heap.size w w'

set_option maxHeartbeats 1000000 in
set_option maxRecDepth 20000 in
theorem made_any {w : World} {b : Nat} {s : ByteArray} {i mb : Nat} {cv : Value} (h : Sc w b s i mb cv) (k : Int) (n : Nat) (hn : i + n ≤ s.size) :
    Calls Tryz.prog 154 #[.pointer (some ⟨b, 0, none⟩), .int .i64 k, .int .i64 n] w (MPost w s i k n) := by
  obtain ⟨c0, c1, lt, le, sz⟩ := h.at'
  have hnz : (i : Int) + (n : Int) ≤ (s.size : Int) := by omega
  have hsz : (s.size : Int) ≤ 400000 := by omega
  by_cases h24 : 24 < n
  · have h24z : (24 : Int) < (n : Int) := by omega
    have HN := Lib.hid h24
    clear h24 h
    go_enter Tryz.func154, Tryz.ntmps154
    go_wp2_with fail
    refine ⟨rfl, ?_⟩
    unfold MPost
    rw [if_pos HN.out]
    exact ⟨rfl, (Below.refl _ _).alloc (Nat.le_refl _) _⟩
  · have h24z : (n : Int) ≤ 24 := by omega
    have HN := Lib.hid h24
    have hsl : ∀ m : World, (Instr.slice 9 (.string s) (some (.int .i64 i)) (some (.int .i64 ((i : Int) + (n : Int)))) none).run Tryz.prog m = .ok (.string (s.extract i (i + n))) m := fun m => by
      have := run_slice_string (P := Tryz.prog) m 9 s .i64 .i64 i ((i : Int) + (n : Int)) Tryz.underlying9 (by omega) (by omega) (by omega)
      rw [this]
      have e : ((i : Int) + (n : Int)).toNat = i + n := by omega
      rw [e]
      simp
    have hwr : IntKind.i64.wrap ((i : Int) + (n : Int)) = (i : Int) + (n : Int) := wrap_in _ (by omega)
    clear h24 h
    go_enter Tryz.func154, Tryz.ntmps154
    go_wp2_with fail
    refine wp_region_still_tail 25 (by kernel_rfl) (by kernel_rfl) ?_
    simp only [List.take_succ_cons, List.take_zero, List.drop_succ_cons, List.drop_zero, World.drew_eq]
    iterate 25 still_step
    refine wpStill_nil ?_
    go_wp2_with fail
    go_returns
    unfold MPost
    rw [if_neg HN.out]
    exact ⟨rfl, ((Below.refl _ _).alloc (Nat.le_refl _) _).drew⟩

/-- The map of the words. -/
def Wd (w : World) (mb : Nat) : Prop := ∃ es clock, w.heap[mb]? = some (.map es clock) ∧ ∀ (W : World) (t : ByteArray), W.heap[mb]? = some (.map es clock) →
  (Instr.lookup 116 (.map (some mb)) (.string t) true).run Tryz.prog W = .ok (.tuple #[.int .i64 (if LX.words.contains (bts t) then 5 else 0), .bool (LX.words.contains (bts t))]) W

def TPost (w : World) (s : ByteArray) (i : Nat) : LX.TR → Ending → World → Prop
  | .tok k v n, e, w' => e = .returned (tokV k v (s.extract i (i + n)) i) ∧ Below w.heap.size w w'
  | .bad er, e, w' => e = thrown i er ∧ Below w.heap.size w w'

theorem nameLen_eq (s : ByteArray) (i n : Nat) (hn : n = LX.run LX.part ((bts s).drop i)) :
    LX.nameLen ((bts s).drop i) = if (bts s).getD (i + n) 0 = 39 ∧ 0 < LX.run LX.digit ((bts s).drop (i + (n + 1))) then n + 1 + LX.run LX.digit ((bts s).drop (i + (n + 1))) else n := by
  unfold LX.nameLen
  rw [← hn]
  simp only [List.drop_drop]
  cases h : (bts s).drop (i + n) with
  | nil =>
    have hl : (bts s).length ≤ i + n := List.drop_eq_nil_iff.1 h
    have e : (bts s).getD (i + n) 0 = 0 := by rw [List.getD_eq_getElem?_getD, List.getElem?_eq_none hl]; rfl
    rw [if_neg (by rw [e]; simp)]
  | cons c t =>
    have hl : i + n < (bts s).length := by
      rcases Nat.lt_or_ge (i + n) (bts s).length with h2 | h2
      · exact h2
      · rw [List.drop_of_length_le h2] at h; cases h
    rw [List.drop_eq_getElem_cons hl] at h
    simp only [List.cons.injEq] at h
    obtain ⟨h1, h2⟩ := h
    have e : (bts s).getD (i + n) 0 = c := by rw [List.getD_eq_getElem?_getD, List.getElem?_eq_getElem hl, ← h1]; rfl
    rw [e, show i + (n + 1) = i + n + 1 from by omega, h2]

theorem results_one_cell {fn : Func} {p : Tmp} {ty : TypeId} (h : fn.results = #[.cell p ty]) (tmps : Array Value) (P : Program) (w : World) :
    (results fn tmps).run P w = ((asAddr (tmps.getD p undef)).run P w).andThen fun a w₁ => (loadVar ty a).run P w₁ := by
  simp only [results, h]
  simp [Sem.run_bind, Result.andThen]

theorem load39 {w : World} {b : Nat} {k v : Int} {t : ByteArray} {p : Int} (h : w.heap[b]? = some (.cells #[.int .i64 k, .int .i64 v, .string t, .int .i64 p] 154 (0, 0))) : (loadVar 154 ⟨b, 0, none⟩).run Tryz.prog w = .ok (tokV k v t p) w := by
  have h0 : w.cell? ⟨b, 0, none⟩ = some (.int .i64 k) := by rw [cell_of_row _ _ 0 _ _ _ h]; rfl
  have h1 : w.cell? ⟨b, 1, none⟩ = some (.int .i64 v) := by rw [cell_of_row _ _ 1 _ _ _ h]; rfl
  have h2 : w.cell? ⟨b, 2, none⟩ = some (.string t) := by rw [cell_of_row _ _ 2 _ _ _ h]; rfl
  have h3 : w.cell? ⟨b, 3, none⟩ = some (.int .i64 p) := by rw [cell_of_row _ _ 3 _ _ _ h]; rfl
  simp [loadVar, go_sem, h0, h1, h2, h3, tokV]

/-- A block of four cells is written. -/
theorem four_set {w : World} {b : Nat} {x0 x1 x2 x3 : Value} {T : TypeId} (h : w.heap[b]? = some (.cells #[x0, x1, x2, x3] T (0, 0))) (u0 u1 u2 u3 : Value) :
    ((((w.setCell ⟨b, 0, none⟩ u0).setCell ⟨b, 1, none⟩ u1).setCell ⟨b, 2, none⟩ u2).setCell ⟨b, 3, none⟩ u3).heap[b]? = some (.cells #[u0, u1, u2, u3] T (0, 0)) := by
  have h1 := heap_setCell_same w b 0 _ _ u0 h
  have h2 := heap_setCell_same _ b 1 _ _ u1 h1
  have h3 := heap_setCell_same _ b 2 _ _ u2 h2
  have h4 := heap_setCell_same _ b 3 _ _ u3 h3
  exact h4

theorem below_drawn {B : Nat} {w w' : World} (h : Below B w w') (m : Nat) : Below B w (w'.drewN m) := ⟨h.os, h.tape, h.output, h.size, h.block⟩

theorem below_of_drew {B m : Nat} {w w' : World} (h : Below B (w.drewN m) w') : Below B w w' := ⟨h.os, h.tape, h.output, h.size, h.block⟩

set_option maxHeartbeats 2000000 in
set_option maxRecDepth 20000 in
theorem name_any {w : World} {b : Nat} {s : ByteArray} {i mb : Nat} {cv : Value} (h : Sc w b s i mb cv) (hw : Wd w mb) (hmb : mb ≠ b) (k : Nat) (hk : k ≤ 5) (hi : i < s.size) :
    Calls Tryz.prog 152 #[.pointer (some ⟨b, 0, none⟩), .int .i64 k] w (TPost w s i (LX.named k ((bts s).drop i))) := by
  obtain ⟨c0, c1, lt, le, sz⟩ := h.at'
  obtain ⟨r, hr⟩ : ∃ r, r = LX.named k ((bts s).drop i) := ⟨_, rfl⟩
  rw [← hr]
  obtain ⟨n, hn⟩ : ∃ n, n = LX.run LX.part ((bts s).drop i) := ⟨_, rfl⟩
  obtain ⟨c, hc⟩ : ∃ c, c = (bts s).getD (i + n) 0 := ⟨_, rfl⟩
  obtain ⟨d, hd⟩ : ∃ d, d = LX.run LX.digit ((bts s).drop (i + (n + 1))) := ⟨_, rfl⟩
  have hnl := nameLen_eq s i n hn
  rw [← hc, ← hd] at hnl
  have hns : i + n ≤ s.size := by
    have := run_le LX.part ((bts s).drop i)
    rw [List.length_drop, bts_length] at this
    omega
  have hds : 0 < d → i + (n + 1) + d ≤ s.size := fun h0 => by
    have := run_le LX.digit ((bts s).drop (i + (n + 1)))
    rw [List.length_drop, bts_length, ← hd] at this
    omega
  have ATW : Hid (∀ W : World, W.heap[b]? = w.heap[b]? → At W b s i) := fun W e => ⟨by rw [World.cell?_of_block (w := w) e]; exact c0, by rw [World.cell?_of_block (w := w) e]; exact c1, by
    rw [h.1] at e; exact (Array.getElem?_eq_some_iff.1 e).1, le, sz⟩
  have SCW : Hid (∀ W : World, W.heap[b]? = w.heap[b]? → Sc W b s i mb cv) := fun W e => ⟨e.trans h.1, h.2⟩
  have HW := Lib.hid hw
  have HN := Lib.hid hn
  have HC := Lib.hid hc
  have HD := Lib.hid hd
  have HNL := Lib.hid hnl
  have HR := Lib.hid hr
  have HNS := Lib.hid hns
  have HDS := Lib.hid hds
  have hnz : (i : Int) + (n : Int) ≤ 400000 := by omega
  have hn0 : (n : Int) ≤ 400000 := by omega
  clear hw hn hc hd hnl hr hns hds c0 c1 le h
  go_enter Tryz.func152, Tryz.ntmps152
  go_wp2_with fail
  obtain ⟨z, hz⟩ : ∃ z, z = w.heap.size := ⟨_, rfl⟩
  obtain ⟨W0, hW0⟩ : ∃ W, W = w.alloc (.cells #[.int .i64 0, .int .i64 0, .string ⟨#[]⟩, .int .i64 0] 154) := ⟨_, rfl⟩
  rw [← hW0, ← hz]
  have B0 : Hid (W0.heap[b]? = w.heap[b]?) := by rw [hW0]; exact Below.heap_alloc _ _ _ lt
  have B1 : Hid (W0.heap[z]? = some (.cells #[.int .i64 0, .int .i64 0, .string ⟨#[]⟩, .int .i64 0] 154 (0, 0))) := by rw [hW0, hz]; exact heap_alloc_new w _
  have B2 : Hid (Below w.heap.size w W0) := by rw [hW0]; exact (Below.refl _ _).alloc (Nat.le_refl _) _
  have B3 : Hid (z < W0.heap.size) := (Array.getElem?_eq_some_iff.1 B1.out).1
  have B4 := Lib.hid hz
  clear hz hW0
  refine (run_part (ATW.out W0 B0.out) 0 (by decide)).mono ?_
  rintro e w1 ⟨rfl, q1, rfl⟩
  rw [Nat.add_zero, ← HN.out]
  go_wp2_with fail
  refine (peek_any (ATW.out (W0.drewN q1) B0.out) n (by have := HNS.out; omega)).mono ?_
  rintro e w2 ⟨rfl, q2, rfl⟩
  rw [← HC.out]
  by_cases hc39 : c = 39
  · have hcz : (c : Int) = 39 := by omega
    have hcb : ((c : Int) == 39) = true := by simp [hcz]
    have HC3 := Lib.hid hc39
    clear hc39 hcz
    go_wp2_with fail
    have RD := run_digit (ATW.out (W0.drewN (q1 + q2)) B0.out) (n + 1) (by have := HNS.out; omega)
    rw [← HD.out, show ((n + 1 : Nat) : Int) = (n : Int) + 1 from by push_cast; rfl] at RD
    refine RD.mono ?_
    clear RD
    rintro e w3 ⟨rfl, q3, rfl⟩
    by_cases hd0 : 0 < d
    · have NL : Hid (LX.nameLen ((bts s).drop i) = n + 1 + d) := by show _ = _; rw [HNL.out, if_pos ⟨HC3.out, hd0⟩]
      have NS : Hid (i + (n + 1 + d) ≤ s.size) := by have := HDS.out hd0; show _ ≤ _; omega
      have hdz : (0 : Int) < (d : Int) := by omega
      have hdm : (n : Int) + (d : Int) ≤ 400000 := by have := NS.out; omega
      clear hd0
      go_wp2_with fail
      have MD := made_any (SCW.out (W0.drewN (q1 + q2 + q3)) B0.out) k (n + 1 + d) NS.out
      rw [show ((n + 1 + d : Nat) : Int) = (n : Int) + (1 + (d : Int)) from by push_cast; omega] at MD
      refine MD.mono ?_
      clear MD
      intro e w' hm
      unfold MPost at hm
      by_cases h24 : 24 < n + 1 + d
      · rw [if_pos h24] at hm
        obtain ⟨rfl, hb⟩ := hm
        unfold thrown
        go_wp2_with fail
        refine ⟨rfl, ?_⟩
        have er : r = .bad 2 := by rw [HR.out]; unfold LX.named; rw [NL.out]; unfold LX.made; rw [if_pos h24]
        rw [er]
        exact ⟨rfl, B2.out.trans ((below_of_drew hb).mono B2.out.size)⟩
      · rw [if_neg h24] at hm
        obtain ⟨rfl, hb⟩ := hm
        unfold tokV
        have hb2 : Below W0.heap.size W0 w' := below_of_drew hb
        have b1 : w'.heap[z]? = some (.cells #[.int .i64 0, .int .i64 0, .string ⟨#[]⟩, .int .i64 0] 154 (0, 0)) := (hb2.block z B3.out).trans B1.out
        have b2 : w'.heap[b]? = w.heap[b]? := (hb2.block b (Nat.lt_of_lt_of_le lt B2.out.size)).trans B0.out
        have M2 : w'.cell? ⟨b, 2, none⟩ = some (.map (some mb)) := by rw [cell_of_row w' b 2 _ _ _ (b2.trans (SCW.out w rfl).1)]; rfl
        have y0 : w'.cell? ⟨z, 0, none⟩ = some (.int .i64 0) := by rw [cell_of_row w' z 0 _ _ _ b1]; rfl
        have y1 : w'.cell? ⟨z, 1, none⟩ = some (.int .i64 0) := by rw [cell_of_row w' z 1 _ _ _ b1]; rfl
        have y2 : w'.cell? ⟨z, 2, none⟩ = some (.string ⟨#[]⟩) := by rw [cell_of_row w' z 2 _ _ _ b1]; rfl
        have y3 : w'.cell? ⟨z, 3, none⟩ = some (.int .i64 0) := by rw [cell_of_row w' z 3 _ _ _ b1]; rfl
        have yf : ∀ q, w'.frozen? ⟨z, q, none⟩ = false := fun q => frozen_of_row w' z q _ _ b1
        have yl : z < w'.heap.size := (Array.getElem?_eq_some_iff.1 b1).1
        have bl : b < w'.heap.size := Nat.lt_of_lt_of_le lt (Nat.le_trans B2.out.size hb2.size)
        obtain ⟨es, clock, hm1, hm2⟩ := HW.out
        have hml : mb < w.heap.size := (Array.getElem?_eq_some_iff.1 hm1).1
        have hlk : ∀ m, (Instr.lookup 116 (.map (some mb)) (.string (s.extract i (i + (n + 1 + d)))) true).run Tryz.prog ((w'.alloc (.cells #[.int .i64 k, .int .i64 0, .string (s.extract i (i + (n + 1 + d))), .int .i64 i] 154)).drewN m) =
            .ok (.tuple #[.int .i64 (if LX.words.contains (bts (s.extract i (i + (n + 1 + d)))) then 5 else 0), .bool (LX.words.contains (bts (s.extract i (i + (n + 1 + d)))))]) ((w'.alloc (.cells #[.int .i64 k, .int .i64 0, .string (s.extract i (i + (n + 1 + d))), .int .i64 i] 154)).drewN m) := fun m =>
          hm2 _ _ ((Below.heap_alloc w' _ mb (Nat.lt_of_lt_of_le hml (Nat.le_trans B2.out.size hb2.size))).trans ((hb2.block mb (Nat.lt_of_lt_of_le hml B2.out.size)).trans ((B2.out.block mb hml).trans hm1)))
        obtain ⟨tx, htx⟩ : ∃ t, t = s.extract i (i + (n + 1 + d)) := ⟨_, rfl⟩
        rw [← htx] at hlk ⊢
        have X1 := Lib.hid hb2
        have X2 := Lib.hid b1
        have X3 := Lib.hid htx
        have X4 := Lib.hid h24
        clear hb2 b1 b2 hb hm1 hm2 hml htx h24
        cases hcw : LX.words.contains (bts tx) with
        | true =>
          rw [hcw] at hlk
          simp only [if_true] at hlk
          have X5 := Lib.hid hcw
          clear hcw
          go_wp2_with fail
          go_quiet (fail)
          go_wp2_with fail
          have wt : LX.words.contains (((bts s).drop i).take (n + 1 + d)) = true := by
            have e : bts tx = ((bts s).drop i).take (n + 1 + d) := by rw [X3.out, bts_extract, Nat.add_sub_cancel_left]
            rw [← e]; exact X5.out
          have er : r = .tok 5 0 (n + 1 + d) := by
            rw [HR.out]; unfold LX.named; rw [NL.out]; unfold LX.made; rw [if_neg X4.out]
            simp only [wt]
            rfl
          have zl : z < w'.heap.size := yl
          have hv : (((w'.alloc (.cells #[.int .i64 k, .int .i64 0, .string tx, .int .i64 i] 154)).drewN nq).setCell ⟨w'.heap.size, 0, none⟩ (.int .i64 5)).heap[z]? = some (.cells #[.int .i64 0, .int .i64 0, .string ⟨#[]⟩, .int .i64 0] 154 (0, 0)) := by
            rw [Below.heap_setCell _ _ _ _ (by show z ≠ w'.heap.size; omega)]; exact (Below.heap_alloc w' _ z zl).trans X2.out
          have hf := four_set hv (.int .i64 5) (.int .i64 0) (.string tx) (.int .i64 i)
          have hbel : Below w.heap.size w (((w'.alloc (.cells #[.int .i64 k, .int .i64 0, .string tx, .int .i64 i] 154)).drewN nq).setCell ⟨w'.heap.size, 0, none⟩ (.int .i64 5)) := by
            have h1 := below_drawn ((B2.out.trans (X1.out.mono B2.out.size)).alloc (Nat.le_trans B2.out.size X1.out.size) (.cells #[.int .i64 k, .int .i64 0, .string tx, .int .i64 i] 154)) nq
            exact h1.setCell (p := ⟨w'.heap.size, 0, none⟩) (Nat.le_trans B2.out.size X1.out.size) _
          have hzb : w.heap.size ≤ z := Nat.le_of_eq B4.out.symm
          refine bodyPost_ret (v := tokV 5 0 tx i) (by rw [results_one_cell rfl]; simp [asAddr, load39 hf]) rfl ?_
          have hfin := (((hbel.setCell (p := ⟨z, 0, none⟩) hzb (.int .i64 5)).setCell (p := ⟨z, 1, none⟩) hzb (.int .i64 0)).setCell (p := ⟨z, 2, none⟩) hzb (.string tx)).setCell (p := ⟨z, 3, none⟩) hzb (.int .i64 i)
          rw [er]
          exact ⟨by rw [X3.out]; try rfl, hfin⟩
        | false =>
          rw [hcw] at hlk
          simp only [Bool.false_eq_true, if_false] at hlk
          have X5 := Lib.hid hcw
          clear hcw
          go_wp2_with fail
          go_quiet (fail)
          go_wp2_with fail
          have wt : LX.words.contains (((bts s).drop i).take (n + 1 + d)) = false := by
            have e : bts tx = ((bts s).drop i).take (n + 1 + d) := by rw [X3.out, bts_extract, Nat.add_sub_cancel_left]
            rw [← e]; exact X5.out
          have er : r = .tok k 0 (n + 1 + d) := by
            rw [HR.out]; unfold LX.named; rw [NL.out]; unfold LX.made; rw [if_neg X4.out]
            simp only [wt]
            rfl
          have zl : z < w'.heap.size := yl
          have hv : ((w'.alloc (.cells #[.int .i64 k, .int .i64 0, .string tx, .int .i64 i] 154)).drewN nq).heap[z]? = some (.cells #[.int .i64 0, .int .i64 0, .string ⟨#[]⟩, .int .i64 0] 154 (0, 0)) := by
            exact (Below.heap_alloc w' _ z zl).trans X2.out
          have hf := four_set hv (.int .i64 k) (.int .i64 0) (.string tx) (.int .i64 i)
          have hbel : Below w.heap.size w ((w'.alloc (.cells #[.int .i64 k, .int .i64 0, .string tx, .int .i64 i] 154)).drewN nq) := by
            have h1 := below_drawn ((B2.out.trans (X1.out.mono B2.out.size)).alloc (Nat.le_trans B2.out.size X1.out.size) (.cells #[.int .i64 k, .int .i64 0, .string tx, .int .i64 i] 154)) nq
            exact h1
          have hzb : w.heap.size ≤ z := Nat.le_of_eq B4.out.symm
          refine bodyPost_ret (v := tokV k 0 tx i) (by rw [results_one_cell rfl]; simp [asAddr, load39 hf]) rfl ?_
          have hfin := (((hbel.setCell (p := ⟨z, 0, none⟩) hzb (.int .i64 k)).setCell (p := ⟨z, 1, none⟩) hzb (.int .i64 0)).setCell (p := ⟨z, 2, none⟩) hzb (.string tx)).setCell (p := ⟨z, 3, none⟩) hzb (.int .i64 i)
          rw [er]
          exact ⟨by rw [X3.out]; try rfl, hfin⟩
    · have NL : Hid (LX.nameLen ((bts s).drop i) = n) := by show _ = _; rw [HNL.out, if_neg fun h => hd0 h.2]
      have NS := HNS
      have hdz : ¬ (0 : Int) < (d : Int) := by omega
      have hdz2 : (d : Int) = 0 := by omega
      clear hd0
      go_wp2_with fail
      have MD := made_any (SCW.out (W0.drewN (q1 + q2 + q3)) B0.out) k (n) NS.out
      refine MD.mono ?_
      clear MD
      intro e w' hm
      unfold MPost at hm
      by_cases h24 : 24 < n
      · rw [if_pos h24] at hm
        obtain ⟨rfl, hb⟩ := hm
        unfold thrown
        go_wp2_with fail
        refine ⟨rfl, ?_⟩
        have er : r = .bad 2 := by rw [HR.out]; unfold LX.named; rw [NL.out]; unfold LX.made; rw [if_pos h24]
        rw [er]
        exact ⟨rfl, B2.out.trans ((below_of_drew hb).mono B2.out.size)⟩
      · rw [if_neg h24] at hm
        obtain ⟨rfl, hb⟩ := hm
        unfold tokV
        have hb2 : Below W0.heap.size W0 w' := below_of_drew hb
        have b1 : w'.heap[z]? = some (.cells #[.int .i64 0, .int .i64 0, .string ⟨#[]⟩, .int .i64 0] 154 (0, 0)) := (hb2.block z B3.out).trans B1.out
        have b2 : w'.heap[b]? = w.heap[b]? := (hb2.block b (Nat.lt_of_lt_of_le lt B2.out.size)).trans B0.out
        have M2 : w'.cell? ⟨b, 2, none⟩ = some (.map (some mb)) := by rw [cell_of_row w' b 2 _ _ _ (b2.trans (SCW.out w rfl).1)]; rfl
        have y0 : w'.cell? ⟨z, 0, none⟩ = some (.int .i64 0) := by rw [cell_of_row w' z 0 _ _ _ b1]; rfl
        have y1 : w'.cell? ⟨z, 1, none⟩ = some (.int .i64 0) := by rw [cell_of_row w' z 1 _ _ _ b1]; rfl
        have y2 : w'.cell? ⟨z, 2, none⟩ = some (.string ⟨#[]⟩) := by rw [cell_of_row w' z 2 _ _ _ b1]; rfl
        have y3 : w'.cell? ⟨z, 3, none⟩ = some (.int .i64 0) := by rw [cell_of_row w' z 3 _ _ _ b1]; rfl
        have yf : ∀ q, w'.frozen? ⟨z, q, none⟩ = false := fun q => frozen_of_row w' z q _ _ b1
        have yl : z < w'.heap.size := (Array.getElem?_eq_some_iff.1 b1).1
        have bl : b < w'.heap.size := Nat.lt_of_lt_of_le lt (Nat.le_trans B2.out.size hb2.size)
        obtain ⟨es, clock, hm1, hm2⟩ := HW.out
        have hml : mb < w.heap.size := (Array.getElem?_eq_some_iff.1 hm1).1
        have hlk : ∀ m, (Instr.lookup 116 (.map (some mb)) (.string (s.extract i (i + (n)))) true).run Tryz.prog ((w'.alloc (.cells #[.int .i64 k, .int .i64 0, .string (s.extract i (i + (n))), .int .i64 i] 154)).drewN m) =
            .ok (.tuple #[.int .i64 (if LX.words.contains (bts (s.extract i (i + (n)))) then 5 else 0), .bool (LX.words.contains (bts (s.extract i (i + (n)))))]) ((w'.alloc (.cells #[.int .i64 k, .int .i64 0, .string (s.extract i (i + (n))), .int .i64 i] 154)).drewN m) := fun m =>
          hm2 _ _ ((Below.heap_alloc w' _ mb (Nat.lt_of_lt_of_le hml (Nat.le_trans B2.out.size hb2.size))).trans ((hb2.block mb (Nat.lt_of_lt_of_le hml B2.out.size)).trans ((B2.out.block mb hml).trans hm1)))
        obtain ⟨tx, htx⟩ : ∃ t, t = s.extract i (i + (n)) := ⟨_, rfl⟩
        rw [← htx] at hlk ⊢
        have X1 := Lib.hid hb2
        have X2 := Lib.hid b1
        have X3 := Lib.hid htx
        have X4 := Lib.hid h24
        clear hb2 b1 b2 hb hm1 hm2 hml htx h24
        cases hcw : LX.words.contains (bts tx) with
        | true =>
          rw [hcw] at hlk
          simp only [if_true] at hlk
          have X5 := Lib.hid hcw
          clear hcw
          go_wp2_with fail
          go_quiet (fail)
          go_wp2_with fail
          have wt : LX.words.contains (((bts s).drop i).take (n)) = true := by
            have e : bts tx = ((bts s).drop i).take (n) := by rw [X3.out, bts_extract, Nat.add_sub_cancel_left]
            rw [← e]; exact X5.out
          have er : r = .tok 5 0 (n) := by
            rw [HR.out]; unfold LX.named; rw [NL.out]; unfold LX.made; rw [if_neg X4.out]
            simp only [wt]
            rfl
          have zl : z < w'.heap.size := yl
          have hv : (((w'.alloc (.cells #[.int .i64 k, .int .i64 0, .string tx, .int .i64 i] 154)).drewN nq).setCell ⟨w'.heap.size, 0, none⟩ (.int .i64 5)).heap[z]? = some (.cells #[.int .i64 0, .int .i64 0, .string ⟨#[]⟩, .int .i64 0] 154 (0, 0)) := by
            rw [Below.heap_setCell _ _ _ _ (by show z ≠ w'.heap.size; omega)]; exact (Below.heap_alloc w' _ z zl).trans X2.out
          have hf := four_set hv (.int .i64 5) (.int .i64 0) (.string tx) (.int .i64 i)
          have hbel : Below w.heap.size w (((w'.alloc (.cells #[.int .i64 k, .int .i64 0, .string tx, .int .i64 i] 154)).drewN nq).setCell ⟨w'.heap.size, 0, none⟩ (.int .i64 5)) := by
            have h1 := below_drawn ((B2.out.trans (X1.out.mono B2.out.size)).alloc (Nat.le_trans B2.out.size X1.out.size) (.cells #[.int .i64 k, .int .i64 0, .string tx, .int .i64 i] 154)) nq
            exact h1.setCell (p := ⟨w'.heap.size, 0, none⟩) (Nat.le_trans B2.out.size X1.out.size) _
          have hzb : w.heap.size ≤ z := Nat.le_of_eq B4.out.symm
          refine bodyPost_ret (v := tokV 5 0 tx i) (by rw [results_one_cell rfl]; simp [asAddr, load39 hf]) rfl ?_
          have hfin := (((hbel.setCell (p := ⟨z, 0, none⟩) hzb (.int .i64 5)).setCell (p := ⟨z, 1, none⟩) hzb (.int .i64 0)).setCell (p := ⟨z, 2, none⟩) hzb (.string tx)).setCell (p := ⟨z, 3, none⟩) hzb (.int .i64 i)
          rw [er]
          exact ⟨by rw [X3.out]; try rfl, hfin⟩
        | false =>
          rw [hcw] at hlk
          simp only [Bool.false_eq_true, if_false] at hlk
          have X5 := Lib.hid hcw
          clear hcw
          go_wp2_with fail
          go_quiet (fail)
          go_wp2_with fail
          have wt : LX.words.contains (((bts s).drop i).take (n)) = false := by
            have e : bts tx = ((bts s).drop i).take (n) := by rw [X3.out, bts_extract, Nat.add_sub_cancel_left]
            rw [← e]; exact X5.out
          have er : r = .tok k 0 (n) := by
            rw [HR.out]; unfold LX.named; rw [NL.out]; unfold LX.made; rw [if_neg X4.out]
            simp only [wt]
            rfl
          have zl : z < w'.heap.size := yl
          have hv : ((w'.alloc (.cells #[.int .i64 k, .int .i64 0, .string tx, .int .i64 i] 154)).drewN nq).heap[z]? = some (.cells #[.int .i64 0, .int .i64 0, .string ⟨#[]⟩, .int .i64 0] 154 (0, 0)) := by
            exact (Below.heap_alloc w' _ z zl).trans X2.out
          have hf := four_set hv (.int .i64 k) (.int .i64 0) (.string tx) (.int .i64 i)
          have hbel : Below w.heap.size w ((w'.alloc (.cells #[.int .i64 k, .int .i64 0, .string tx, .int .i64 i] 154)).drewN nq) := by
            have h1 := below_drawn ((B2.out.trans (X1.out.mono B2.out.size)).alloc (Nat.le_trans B2.out.size X1.out.size) (.cells #[.int .i64 k, .int .i64 0, .string tx, .int .i64 i] 154)) nq
            exact h1
          have hzb : w.heap.size ≤ z := Nat.le_of_eq B4.out.symm
          refine bodyPost_ret (v := tokV k 0 tx i) (by rw [results_one_cell rfl]; simp [asAddr, load39 hf]) rfl ?_
          have hfin := (((hbel.setCell (p := ⟨z, 0, none⟩) hzb (.int .i64 k)).setCell (p := ⟨z, 1, none⟩) hzb (.int .i64 0)).setCell (p := ⟨z, 2, none⟩) hzb (.string tx)).setCell (p := ⟨z, 3, none⟩) hzb (.int .i64 i)
          rw [er]
          exact ⟨by rw [X3.out]; try rfl, hfin⟩
  · have hcb : ¬ (c : Int) = 39 := by omega
    have NL : Hid (LX.nameLen ((bts s).drop i) = n) := by show _ = _; rw [HNL.out, if_neg fun h => hc39 h.1]
    have NS := HNS
    clear hc39
    go_wp2_with fail
    have MD := made_any (SCW.out (W0.drewN (q1 + q2)) B0.out) k (n) NS.out
    refine MD.mono ?_
    clear MD
    intro e w' hm
    unfold MPost at hm
    by_cases h24 : 24 < n
    · rw [if_pos h24] at hm
      obtain ⟨rfl, hb⟩ := hm
      unfold thrown
      go_wp2_with fail
      refine ⟨rfl, ?_⟩
      have er : r = .bad 2 := by rw [HR.out]; unfold LX.named; rw [NL.out]; unfold LX.made; rw [if_pos h24]
      rw [er]
      exact ⟨rfl, B2.out.trans ((below_of_drew hb).mono B2.out.size)⟩
    · rw [if_neg h24] at hm
      obtain ⟨rfl, hb⟩ := hm
      unfold tokV
      have hb2 : Below W0.heap.size W0 w' := below_of_drew hb
      have b1 : w'.heap[z]? = some (.cells #[.int .i64 0, .int .i64 0, .string ⟨#[]⟩, .int .i64 0] 154 (0, 0)) := (hb2.block z B3.out).trans B1.out
      have b2 : w'.heap[b]? = w.heap[b]? := (hb2.block b (Nat.lt_of_lt_of_le lt B2.out.size)).trans B0.out
      have M2 : w'.cell? ⟨b, 2, none⟩ = some (.map (some mb)) := by rw [cell_of_row w' b 2 _ _ _ (b2.trans (SCW.out w rfl).1)]; rfl
      have y0 : w'.cell? ⟨z, 0, none⟩ = some (.int .i64 0) := by rw [cell_of_row w' z 0 _ _ _ b1]; rfl
      have y1 : w'.cell? ⟨z, 1, none⟩ = some (.int .i64 0) := by rw [cell_of_row w' z 1 _ _ _ b1]; rfl
      have y2 : w'.cell? ⟨z, 2, none⟩ = some (.string ⟨#[]⟩) := by rw [cell_of_row w' z 2 _ _ _ b1]; rfl
      have y3 : w'.cell? ⟨z, 3, none⟩ = some (.int .i64 0) := by rw [cell_of_row w' z 3 _ _ _ b1]; rfl
      have yf : ∀ q, w'.frozen? ⟨z, q, none⟩ = false := fun q => frozen_of_row w' z q _ _ b1
      have yl : z < w'.heap.size := (Array.getElem?_eq_some_iff.1 b1).1
      have bl : b < w'.heap.size := Nat.lt_of_lt_of_le lt (Nat.le_trans B2.out.size hb2.size)
      obtain ⟨es, clock, hm1, hm2⟩ := HW.out
      have hml : mb < w.heap.size := (Array.getElem?_eq_some_iff.1 hm1).1
      have hlk : ∀ m, (Instr.lookup 116 (.map (some mb)) (.string (s.extract i (i + (n)))) true).run Tryz.prog ((w'.alloc (.cells #[.int .i64 k, .int .i64 0, .string (s.extract i (i + (n))), .int .i64 i] 154)).drewN m) =
          .ok (.tuple #[.int .i64 (if LX.words.contains (bts (s.extract i (i + (n)))) then 5 else 0), .bool (LX.words.contains (bts (s.extract i (i + (n)))))]) ((w'.alloc (.cells #[.int .i64 k, .int .i64 0, .string (s.extract i (i + (n))), .int .i64 i] 154)).drewN m) := fun m =>
        hm2 _ _ ((Below.heap_alloc w' _ mb (Nat.lt_of_lt_of_le hml (Nat.le_trans B2.out.size hb2.size))).trans ((hb2.block mb (Nat.lt_of_lt_of_le hml B2.out.size)).trans ((B2.out.block mb hml).trans hm1)))
      obtain ⟨tx, htx⟩ : ∃ t, t = s.extract i (i + (n)) := ⟨_, rfl⟩
      rw [← htx] at hlk ⊢
      have X1 := Lib.hid hb2
      have X2 := Lib.hid b1
      have X3 := Lib.hid htx
      have X4 := Lib.hid h24
      clear hb2 b1 b2 hb hm1 hm2 hml htx h24
      cases hcw : LX.words.contains (bts tx) with
      | true =>
        rw [hcw] at hlk
        simp only [if_true] at hlk
        have X5 := Lib.hid hcw
        clear hcw
        go_wp2_with fail
        go_quiet (fail)
        go_wp2_with fail
        have wt : LX.words.contains (((bts s).drop i).take (n)) = true := by
          have e : bts tx = ((bts s).drop i).take (n) := by rw [X3.out, bts_extract, Nat.add_sub_cancel_left]
          rw [← e]; exact X5.out
        have er : r = .tok 5 0 (n) := by
          rw [HR.out]; unfold LX.named; rw [NL.out]; unfold LX.made; rw [if_neg X4.out]
          simp only [wt]
          rfl
        have zl : z < w'.heap.size := yl
        have hv : (((w'.alloc (.cells #[.int .i64 k, .int .i64 0, .string tx, .int .i64 i] 154)).drewN nq).setCell ⟨w'.heap.size, 0, none⟩ (.int .i64 5)).heap[z]? = some (.cells #[.int .i64 0, .int .i64 0, .string ⟨#[]⟩, .int .i64 0] 154 (0, 0)) := by
          rw [Below.heap_setCell _ _ _ _ (by show z ≠ w'.heap.size; omega)]; exact (Below.heap_alloc w' _ z zl).trans X2.out
        have hf := four_set hv (.int .i64 5) (.int .i64 0) (.string tx) (.int .i64 i)
        have hbel : Below w.heap.size w (((w'.alloc (.cells #[.int .i64 k, .int .i64 0, .string tx, .int .i64 i] 154)).drewN nq).setCell ⟨w'.heap.size, 0, none⟩ (.int .i64 5)) := by
          have h1 := below_drawn ((B2.out.trans (X1.out.mono B2.out.size)).alloc (Nat.le_trans B2.out.size X1.out.size) (.cells #[.int .i64 k, .int .i64 0, .string tx, .int .i64 i] 154)) nq
          exact h1.setCell (p := ⟨w'.heap.size, 0, none⟩) (Nat.le_trans B2.out.size X1.out.size) _
        have hzb : w.heap.size ≤ z := Nat.le_of_eq B4.out.symm
        refine bodyPost_ret (v := tokV 5 0 tx i) (by rw [results_one_cell rfl]; simp [asAddr, load39 hf]) rfl ?_
        have hfin := (((hbel.setCell (p := ⟨z, 0, none⟩) hzb (.int .i64 5)).setCell (p := ⟨z, 1, none⟩) hzb (.int .i64 0)).setCell (p := ⟨z, 2, none⟩) hzb (.string tx)).setCell (p := ⟨z, 3, none⟩) hzb (.int .i64 i)
        rw [er]
        exact ⟨by rw [X3.out]; try rfl, hfin⟩
      | false =>
        rw [hcw] at hlk
        simp only [Bool.false_eq_true, if_false] at hlk
        have X5 := Lib.hid hcw
        clear hcw
        go_wp2_with fail
        go_quiet (fail)
        go_wp2_with fail
        have wt : LX.words.contains (((bts s).drop i).take (n)) = false := by
          have e : bts tx = ((bts s).drop i).take (n) := by rw [X3.out, bts_extract, Nat.add_sub_cancel_left]
          rw [← e]; exact X5.out
        have er : r = .tok k 0 (n) := by
          rw [HR.out]; unfold LX.named; rw [NL.out]; unfold LX.made; rw [if_neg X4.out]
          simp only [wt]
          rfl
        have zl : z < w'.heap.size := yl
        have hv : ((w'.alloc (.cells #[.int .i64 k, .int .i64 0, .string tx, .int .i64 i] 154)).drewN nq).heap[z]? = some (.cells #[.int .i64 0, .int .i64 0, .string ⟨#[]⟩, .int .i64 0] 154 (0, 0)) := by
          exact (Below.heap_alloc w' _ z zl).trans X2.out
        have hf := four_set hv (.int .i64 k) (.int .i64 0) (.string tx) (.int .i64 i)
        have hbel : Below w.heap.size w ((w'.alloc (.cells #[.int .i64 k, .int .i64 0, .string tx, .int .i64 i] 154)).drewN nq) := by
          have h1 := below_drawn ((B2.out.trans (X1.out.mono B2.out.size)).alloc (Nat.le_trans B2.out.size X1.out.size) (.cells #[.int .i64 k, .int .i64 0, .string tx, .int .i64 i] 154)) nq
          exact h1
        have hzb : w.heap.size ≤ z := Nat.le_of_eq B4.out.symm
        refine bodyPost_ret (v := tokV k 0 tx i) (by rw [results_one_cell rfl]; simp [asAddr, load39 hf]) rfl ?_
        have hfin := (((hbel.setCell (p := ⟨z, 0, none⟩) hzb (.int .i64 k)).setCell (p := ⟨z, 1, none⟩) hzb (.int .i64 0)).setCell (p := ⟨z, 2, none⟩) hzb (.string tx)).setCell (p := ⟨z, 3, none⟩) hzb (.int .i64 i)
        rw [er]
        exact ⟨by rw [X3.out]; try rfl, hfin⟩
end Go.Proofs.YtnkahlloahgifaaGreatDoor.Lx
