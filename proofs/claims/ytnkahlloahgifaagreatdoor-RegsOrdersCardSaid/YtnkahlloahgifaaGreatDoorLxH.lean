/- A token is read: walked, over a contract of Number. -/
import Derived.Test.YtnkahlloahgifaaGreatDoorLxG
set_option linter.unusedSimpArgs false
set_option linter.unusedVariables false
namespace Go.Proofs.YtnkahlloahgifaaGreatDoor.Lx
open Go.RowKit

theorem token_eq (s : ByteArray) (i : Nat) (hi : i < s.size) :
    LX.token ((bts s).drop i) = if LX.digit ((bts s).getD i 0) || (bts s).getD i 0 == 126 then LX.number ((bts s).drop i) (if (bts s).getD i 0 = 126 then 1 else 0)
    else if LX.small ((bts s).getD i 0) then LX.named 2 ((bts s).drop i)
    else if LX.great ((bts s).getD i 0) then LX.named 3 ((bts s).drop i)
    else if (bts s).getD i 0 = 39 ∧ LX.small ((bts s).getD (i + 1) 0) then LX.made 4 (1 + LX.run LX.part ((bts s).drop (i + 1)))
    else if [61, 62].isPrefixOf ((bts s).drop i) = true ∨ [45, 62].isPrefixOf ((bts s).drop i) = true then .tok 6 0 2
    else if LX.signs.contains ((bts s).getD i 0) then .tok 6 0 1
    else .bad 11 := by
  have hl : i < (bts s).length := by rw [bts_length]; exact hi
  have e1 : (bts s).getD i 0 = (bts s)[i] := by rw [List.getD_eq_getElem?_getD, List.getElem?_eq_getElem hl]; rfl
  have e2 : LX.head0 ((bts s).drop (i + 1)) = (bts s).getD (i + 1) 0 := by
    unfold LX.head0
    rw [List.headD_eq_head?_getD, List.head?_drop, List.getD_eq_getElem?_getD]
  rw [← e2, e1, List.drop_eq_getElem_cons hl]
  generalize (bts s)[i] = c
  generalize (bts s).drop (i + 1) = t
  unfold LX.token
  have e3 : ((c = 61 ∨ c = 45) ∧ LX.head0 t = 62) = ([61, 62].isPrefixOf (c :: t) = true ∨ [45, 62].isPrefixOf (c :: t) = true) := by
    cases t with
    | nil => simp [List.isPrefixOf, LX.head0]
    | cons d t =>
      simp only [List.isPrefixOf, LX.head0, List.headD_cons, Bool.and_true, Bool.and_eq_true, beq_iff_eq, eq_iff_iff]
      constructor
      · rintro ⟨h | h, k⟩
        · exact .inl ⟨h.symm, k.symm⟩
        · exact .inr ⟨h.symm, k.symm⟩
      · rintro (⟨h, k⟩ | ⟨h, k⟩)
        · exact ⟨.inl h.symm, k.symm⟩
        · exact ⟨.inr h.symm, k.symm⟩
  simp only [e3]

def signB : ByteArray := ⟨#[40, 41, 44, 59, 58, 124, 61, 60, 43, 45, 42, 47, 37, 95]⟩

theorem signs_eq (c : Nat) (hc : c < 256) : decide (0 ≤ Lib.indexByte signB.data.toList ((c : Int)).toNat.toUInt8) = LX.signs.contains c := by
  have h : ∀ c : Fin 256, decide (0 ≤ Lib.indexByte signB.data.toList ((c.1 : Int)).toNat.toUInt8) = LX.signs.contains c.1 := by decide +kernel
  exact h ⟨c, hc⟩

theorem bts_lt (s : ByteArray) (i : Nat) : (bts s).getD i 0 < 256 := by
  rw [List.getD_eq_getElem?_getD]
  rcases Nat.lt_or_ge i s.size with h | h
  · rw [bts_get s h]; exact (s[i]'h).toNat_lt
  · rw [List.getElem?_eq_none (by rw [bts_length]; exact h)]; decide

theorem made_tpost {w : World} {s : ByteArray} {i k n : Nat} {e : Ending} {w' : World} (h : MPost w s i k n e w') : TPost w s i (LX.made k n) e w' := by
  unfold MPost at h
  unfold LX.made
  by_cases hn : 24 < n
  · rw [if_pos hn] at h ⊢; exact h
  · rw [if_neg hn] at h ⊢; exact h

set_option maxHeartbeats 4000000 in
set_option maxRecDepth 20000 in
theorem token_any (NL : NumLaw) {w : World} {b : Nat} {s : ByteArray} {i mb : Nat} {cv : Value} (h : Sc w b s i mb cv) (henv : Env w) (hw : Wd w mb) (hmb : mb ≠ b) (hi : i < s.size) :
    Calls Tryz.prog 143 #[.pointer (some ⟨b, 0, none⟩)] w (TPost w s i (LX.token ((bts s).drop i))) := by
  have hne := token_eq s i hi
  obtain ⟨c, hc⟩ : ∃ c, c = (bts s).getD i 0 := ⟨_, rfl⟩
  obtain ⟨d, hd⟩ : ∃ d, d = (bts s).getD (i + 1) 0 := ⟨_, rfl⟩
  obtain ⟨r, hr⟩ : ∃ r, r = LX.token ((bts s).drop i) := ⟨_, rfl⟩
  have c256 : c < 256 := by rw [hc]; exact bts_lt s i
  rw [← hr] at hne ⊢
  rw [← hc, ← hd] at hne
  obtain ⟨c0, c1, lt, le, sz⟩ := h.at'
  have ATW : Hid (∀ W : World, W.heap[b]? = w.heap[b]? → At W b s i) := fun W e => ⟨by rw [World.cell?_of_block (w := w) e]; exact c0, by rw [World.cell?_of_block (w := w) e]; exact c1, by
    rw [h.1] at e; exact (Array.getElem?_eq_some_iff.1 e).1, le, sz⟩
  have SCW : Hid (∀ W : World, W.heap[b]? = w.heap[b]? → Sc W b s i mb cv) := fun W e => ⟨e.trans h.1, h.2⟩
  have HC := Lib.hid hc
  have HD := Lib.hid hd
  have HR := Lib.hid hne
  have HE := Lib.hid henv
  have HW := Lib.hid hw
  have HB := Lib.hid hmb
  have HI := Lib.hid hi
  have HL := Lib.hid NL
  have HCB := Lib.hid c256
  clear hc hd hr hne henv hw hmb hi NL c256 le h c0 c1 sz
  go_enter Tryz.func143, Tryz.ntmps143
  go_wp2_with fail
  obtain ⟨z, hz⟩ : ∃ z, z = w.heap.size := ⟨_, rfl⟩
  obtain ⟨W0, hW0⟩ : ∃ W, W = w.alloc (.cells #[.int .i64 0, .int .i64 0, .string ⟨#[]⟩, .int .i64 0] 154) := ⟨_, rfl⟩
  rw [← hW0, ← hz]
  have B0 : Hid (W0.heap[b]? = w.heap[b]?) := by rw [hW0]; exact Below.heap_alloc _ _ _ lt
  have B1 : Hid (W0.heap[z]? = some (.cells #[.int .i64 0, .int .i64 0, .string ⟨#[]⟩, .int .i64 0] 154 (0, 0))) := by rw [hW0, hz]; exact heap_alloc_new w _
  have B2 : Hid (Below w.heap.size w W0) := by rw [hW0]; exact (Below.refl _ _).alloc (Nat.le_refl _) _
  have B3 : Hid (z < W0.heap.size) := (Array.getElem?_eq_some_iff.1 B1.out).1
  have B4 := Lib.hid hz
  have HEW : Hid (∀ q, Env (W0.drewN q)) := fun q => HE.out.keep (below_drawn B2.out q) HE.out.size
  have HWW : Hid (∀ q, Wd (W0.drewN q) mb) := fun q => by
    obtain ⟨es, clock, h1, h2⟩ := HW.out
    exact ⟨es, clock, (B2.out.block mb (Array.getElem?_eq_some_iff.1 h1).1).trans h1, h2⟩
  have END : Hid (∀ (W W' : World) (q : Nat) (k v : Int) (t : ByteArray), Below W0.heap.size (W0.drewN q) W →
      W.heap[z]? = some (.cells #[.int .i64 0, .int .i64 0, .string ⟨#[]⟩, .int .i64 0] 154 (0, 0)) ∧ Below w.heap.size w ((((W.setCell ⟨z, 0, none⟩ (.int .i64 k)).setCell ⟨z, 1, none⟩ (.int .i64 v)).setCell ⟨z, 2, none⟩ (.string t)).setCell ⟨z, 3, none⟩ (.int .i64 i))) := fun W W' q k v t hb => by
    have hb2 : Below W0.heap.size W0 W := below_of_drew hb
    have hzb : w.heap.size ≤ z := Nat.le_of_eq B4.out.symm
    exact ⟨(hb2.block z B3.out).trans B1.out, ((((B2.out.trans (hb2.mono B2.out.size)).setCell (p := ⟨z, 0, none⟩) hzb (.int .i64 k)).setCell (p := ⟨z, 1, none⟩) hzb (.int .i64 v)).setCell (p := ⟨z, 2, none⟩) hzb (.string t)).setCell (p := ⟨z, 3, none⟩) hzb (.int .i64 i)⟩
  clear hz hW0
  refine (peek_any (ATW.out W0 B0.out) 0 (by decide)).mono ?_
  rintro e w1 ⟨rfl, q1, rfl⟩
  rw [Nat.add_zero, ← HC.out]
  go_wp2_with fail
  refine (digit_any _ c).mono ?_
  rintro e w2 ⟨rfl, rfl⟩
  cases hdg : LX.digit c with
  | true =>
    have HDG := Lib.hid hdg
    clear hdg
    go_wp2_with fail
    have NB := number_any HL.out (SCW.out (W0.drewN q1) B0.out) (HEW.out q1) HI.out
    refine NB.mono ?_
    clear NB
    intro e w3 hp
    obtain ⟨cr, hcr⟩ : ∃ cr, cr = r := ⟨_, rfl⟩
    have HP0 : TPost (W0.drewN (q1)) s i cr e w3 := by
      rw [hcr, HR.out, HDG.out, Bool.true_or, if_pos rfl, HC.out]
      exact hp
    have HCR := Lib.hid hcr
    clear hp hcr
    cases cr with
    | bad er =>
      obtain ⟨rfl, hb⟩ := HP0
      unfold thrown
      have X1 := Lib.hid hb
      clear hb
      go_wp2_with fail
      refine ⟨rfl, ?_⟩
      rw [← HCR.out]
      exact ⟨rfl, B2.out.trans ((below_of_drew X1.out).mono B2.out.size)⟩
    | tok k v n =>
      obtain ⟨rfl, hb⟩ := HP0
      unfold tokV
      have X2 := END.out w3 w3 _ k v (s.extract i (i + n)) hb
      have X1 := Lib.hid hb
      have X3 := Lib.hid X2
      have yf : ∀ q, w3.frozen? ⟨z, q, none⟩ = false := fun q => frozen_of_row w3 z q _ _ X2.1
      have y0 : w3.cell? ⟨z, 0, none⟩ = some (.int .i64 0) := by rw [cell_of_row w3 z 0 _ _ _ X2.1]; rfl
      have y1 : w3.cell? ⟨z, 1, none⟩ = some (.int .i64 0) := by rw [cell_of_row w3 z 1 _ _ _ X2.1]; rfl
      have y2 : w3.cell? ⟨z, 2, none⟩ = some (.string ⟨#[]⟩) := by rw [cell_of_row w3 z 2 _ _ _ X2.1]; rfl
      have y3 : w3.cell? ⟨z, 3, none⟩ = some (.int .i64 0) := by rw [cell_of_row w3 z 3 _ _ _ X2.1]; rfl
      clear X2 hb
      obtain ⟨tx, htx⟩ : ∃ t, t = s.extract i (i + n) := ⟨_, rfl⟩
      rw [← htx]
      have HTX := Lib.hid htx
      clear htx
      go_wp2_with fail
      have hf := four_set X3.out.1 (.int .i64 k) (.int .i64 v) (.string tx) (.int .i64 i)
      refine bodyPost_ret (v := tokV k v tx i) (by rw [results_one_cell rfl]; simp [asAddr, load39 hf]) rfl ?_
      rw [← HCR.out]
      have X4 := X3.out.2
      rw [← HTX.out] at X4
      exact ⟨by rw [HTX.out]; try rfl, X4⟩
  | false =>
    have HDG := Lib.hid hdg
    clear hdg
    by_cases hc126 : c = 126
    · have hz126 : (c : Int) = 126 := by omega
      have HC6 := Lib.hid hc126
      clear hc126
      go_wp2_with fail
      have NB := number_any HL.out (SCW.out (W0.drewN q1) B0.out) (HEW.out q1) HI.out
      refine NB.mono ?_
      clear NB
      intro e w3 hp
      obtain ⟨cr, hcr⟩ : ∃ cr, cr = r := ⟨_, rfl⟩
      have HP0 : TPost (W0.drewN (q1)) s i cr e w3 := by
        rw [hcr, HR.out, HDG.out, HC6.out, show ((false || (126 : Nat) == 126) = true) from rfl, if_pos rfl, if_pos rfl]
        rw [← HC.out, HC6.out, if_pos rfl] at hp; exact hp
      have HCR := Lib.hid hcr
      clear hp hcr
      cases cr with
      | bad er =>
        obtain ⟨rfl, hb⟩ := HP0
        unfold thrown
        have X1 := Lib.hid hb
        clear hb
        go_wp2_with fail
        refine ⟨rfl, ?_⟩
        rw [← HCR.out]
        exact ⟨rfl, B2.out.trans ((below_of_drew X1.out).mono B2.out.size)⟩
      | tok k v n =>
        obtain ⟨rfl, hb⟩ := HP0
        unfold tokV
        have X2 := END.out w3 w3 _ k v (s.extract i (i + n)) hb
        have X1 := Lib.hid hb
        have X3 := Lib.hid X2
        have yf : ∀ q, w3.frozen? ⟨z, q, none⟩ = false := fun q => frozen_of_row w3 z q _ _ X2.1
        have y0 : w3.cell? ⟨z, 0, none⟩ = some (.int .i64 0) := by rw [cell_of_row w3 z 0 _ _ _ X2.1]; rfl
        have y1 : w3.cell? ⟨z, 1, none⟩ = some (.int .i64 0) := by rw [cell_of_row w3 z 1 _ _ _ X2.1]; rfl
        have y2 : w3.cell? ⟨z, 2, none⟩ = some (.string ⟨#[]⟩) := by rw [cell_of_row w3 z 2 _ _ _ X2.1]; rfl
        have y3 : w3.cell? ⟨z, 3, none⟩ = some (.int .i64 0) := by rw [cell_of_row w3 z 3 _ _ _ X2.1]; rfl
        clear X2 hb
        obtain ⟨tx, htx⟩ : ∃ t, t = s.extract i (i + n) := ⟨_, rfl⟩
        rw [← htx]
        have HTX := Lib.hid htx
        clear htx
        go_wp2_with fail
        have hf := four_set X3.out.1 (.int .i64 k) (.int .i64 v) (.string tx) (.int .i64 i)
        refine bodyPost_ret (v := tokV k v tx i) (by rw [results_one_cell rfl]; simp [asAddr, load39 hf]) rfl ?_
        rw [← HCR.out]
        have X4 := X3.out.2
        rw [← HTX.out] at X4
        exact ⟨by rw [HTX.out]; try rfl, X4⟩
    · have hz126 : ¬ (c : Int) = 126 := by omega
      have HDN : Hid ((LX.digit c || c == 126) = false) := by show _ = _; rw [HDG.out, Bool.false_or]; exact beq_false_of_ne hc126
      clear hc126
      go_wp2_with fail
      refine (small_any _ c).mono ?_
      rintro e w2 ⟨rfl, rfl⟩
      cases hsm : LX.small c with
      | true =>
        have HSM := Lib.hid hsm
        clear hsm
        go_wp2_with fail
        have NB := name_any (SCW.out (W0.drewN q1) B0.out) (HWW.out q1) HB.out 2 (by decide) HI.out
        refine NB.mono ?_
        clear NB
        intro e w3 hp
        obtain ⟨cr, hcr⟩ : ∃ cr, cr = r := ⟨_, rfl⟩
        have HP0 : TPost (W0.drewN (q1)) s i cr e w3 := by
          rw [hcr, HR.out, HDN.out, HSM.out, if_neg Bool.false_ne_true, if_pos rfl]
          exact hp
        have HCR := Lib.hid hcr
        clear hp hcr
        cases cr with
        | bad er =>
          obtain ⟨rfl, hb⟩ := HP0
          unfold thrown
          have X1 := Lib.hid hb
          clear hb
          go_wp2_with fail
          refine ⟨rfl, ?_⟩
          rw [← HCR.out]
          exact ⟨rfl, B2.out.trans ((below_of_drew X1.out).mono B2.out.size)⟩
        | tok k v n =>
          obtain ⟨rfl, hb⟩ := HP0
          unfold tokV
          have X2 := END.out w3 w3 _ k v (s.extract i (i + n)) hb
          have X1 := Lib.hid hb
          have X3 := Lib.hid X2
          have yf : ∀ q, w3.frozen? ⟨z, q, none⟩ = false := fun q => frozen_of_row w3 z q _ _ X2.1
          have y0 : w3.cell? ⟨z, 0, none⟩ = some (.int .i64 0) := by rw [cell_of_row w3 z 0 _ _ _ X2.1]; rfl
          have y1 : w3.cell? ⟨z, 1, none⟩ = some (.int .i64 0) := by rw [cell_of_row w3 z 1 _ _ _ X2.1]; rfl
          have y2 : w3.cell? ⟨z, 2, none⟩ = some (.string ⟨#[]⟩) := by rw [cell_of_row w3 z 2 _ _ _ X2.1]; rfl
          have y3 : w3.cell? ⟨z, 3, none⟩ = some (.int .i64 0) := by rw [cell_of_row w3 z 3 _ _ _ X2.1]; rfl
          clear X2 hb
          obtain ⟨tx, htx⟩ : ∃ t, t = s.extract i (i + n) := ⟨_, rfl⟩
          rw [← htx]
          have HTX := Lib.hid htx
          clear htx
          go_wp2_with fail
          have hf := four_set X3.out.1 (.int .i64 k) (.int .i64 v) (.string tx) (.int .i64 i)
          refine bodyPost_ret (v := tokV k v tx i) (by rw [results_one_cell rfl]; simp [asAddr, load39 hf]) rfl ?_
          rw [← HCR.out]
          have X4 := X3.out.2
          rw [← HTX.out] at X4
          exact ⟨by rw [HTX.out]; try rfl, X4⟩
      | false =>
        have HSM := Lib.hid hsm
        clear hsm
        go_wp2_with fail
        refine (great_any _ c).mono ?_
        rintro e w2 ⟨rfl, rfl⟩
        cases hgr : LX.great c with
        | true =>
          have HGR := Lib.hid hgr
          clear hgr
          go_wp2_with fail
          have NB := name_any (SCW.out (W0.drewN q1) B0.out) (HWW.out q1) HB.out 3 (by decide) HI.out
          refine NB.mono ?_
          clear NB
          intro e w3 hp
          obtain ⟨cr, hcr⟩ : ∃ cr, cr = r := ⟨_, rfl⟩
          have HP0 : TPost (W0.drewN (q1)) s i cr e w3 := by
            rw [hcr, HR.out, HDN.out, HSM.out, HGR.out, if_neg Bool.false_ne_true, if_neg Bool.false_ne_true, if_pos rfl]
            exact hp
          have HCR := Lib.hid hcr
          clear hp hcr
          cases cr with
          | bad er =>
            obtain ⟨rfl, hb⟩ := HP0
            unfold thrown
            have X1 := Lib.hid hb
            clear hb
            go_wp2_with fail
            refine ⟨rfl, ?_⟩
            rw [← HCR.out]
            exact ⟨rfl, B2.out.trans ((below_of_drew X1.out).mono B2.out.size)⟩
          | tok k v n =>
            obtain ⟨rfl, hb⟩ := HP0
            unfold tokV
            have X2 := END.out w3 w3 _ k v (s.extract i (i + n)) hb
            have X1 := Lib.hid hb
            have X3 := Lib.hid X2
            have yf : ∀ q, w3.frozen? ⟨z, q, none⟩ = false := fun q => frozen_of_row w3 z q _ _ X2.1
            have y0 : w3.cell? ⟨z, 0, none⟩ = some (.int .i64 0) := by rw [cell_of_row w3 z 0 _ _ _ X2.1]; rfl
            have y1 : w3.cell? ⟨z, 1, none⟩ = some (.int .i64 0) := by rw [cell_of_row w3 z 1 _ _ _ X2.1]; rfl
            have y2 : w3.cell? ⟨z, 2, none⟩ = some (.string ⟨#[]⟩) := by rw [cell_of_row w3 z 2 _ _ _ X2.1]; rfl
            have y3 : w3.cell? ⟨z, 3, none⟩ = some (.int .i64 0) := by rw [cell_of_row w3 z 3 _ _ _ X2.1]; rfl
            clear X2 hb
            obtain ⟨tx, htx⟩ : ∃ t, t = s.extract i (i + n) := ⟨_, rfl⟩
            rw [← htx]
            have HTX := Lib.hid htx
            clear htx
            go_wp2_with fail
            have hf := four_set X3.out.1 (.int .i64 k) (.int .i64 v) (.string tx) (.int .i64 i)
            refine bodyPost_ret (v := tokV k v tx i) (by rw [results_one_cell rfl]; simp [asAddr, load39 hf]) rfl ?_
            rw [← HCR.out]
            have X4 := X3.out.2
            rw [← HTX.out] at X4
            exact ⟨by rw [HTX.out]; try rfl, X4⟩
        | false =>
          have HGR := Lib.hid hgr
          clear hgr
          have HR2 : Hid (r = if c = 39 ∧ LX.small d then LX.made 4 (1 + LX.run LX.part ((bts s).drop (i + 1)))
              else if [61, 62].isPrefixOf ((bts s).drop i) = true ∨ [45, 62].isPrefixOf ((bts s).drop i) = true then .tok 6 0 2
              else if LX.signs.contains c then .tok 6 0 1
              else .bad 11) := by
            show _ = _
            rw [HR.out, HDN.out, HSM.out, HGR.out, if_neg Bool.false_ne_true, if_neg Bool.false_ne_true, if_neg Bool.false_ne_true]
          by_cases hc39 : c = 39
          · have hz39 : (c : Int) = 39 := by omega
            have HC9 := Lib.hid hc39
            clear hc39
            go_wp2_with fail
            refine (peek_any (ATW.out (W0.drewN q1) B0.out) 1 (by decide)).mono ?_
            rintro e w3 ⟨rfl, q2, rfl⟩
            rw [← HD.out]
            go_wp2_with fail
            refine (small_any _ d).mono ?_
            rintro e w3 ⟨rfl, rfl⟩
            cases hsd : LX.small d with
            | true =>
              have HSD := Lib.hid hsd
              clear hsd
              go_wp2_with fail
              have RP := run_part (ATW.out (W0.drewN (q1 + q2)) B0.out) 1 (by decide)
              obtain ⟨rp, hrp⟩ : ∃ rp, rp = LX.run LX.part ((bts s).drop (i + 1)) := ⟨_, rfl⟩
              have hle : i + (1 + rp) ≤ s.size := by
                have := run_le LX.part ((bts s).drop (i + 1))
                have := HI.out
                rw [List.length_drop, bts_length, ← hrp] at *
                omega
              have hsz : rp ≤ 400000 := by have := (SCW.out w rfl).2.2; omega
              rw [← hrp] at RP
              have HRP := Lib.hid hrp
              have HLE := Lib.hid hle
              clear hrp hle
              refine RP.mono ?_
              clear RP
              rintro e w3 ⟨rfl, q3, rfl⟩
              go_wp2_with fail
              have MD := made_any (SCW.out (W0.drewN (q1 + q2 + q3)) B0.out) 4 (1 + rp) HLE.out
              rw [show ((1 + rp : Nat) : Int) = 1 + (rp : Int) from by push_cast; rfl] at MD
              have NB := MD
              refine NB.mono ?_
              clear NB
              intro e w3 hp
              obtain ⟨cr, hcr⟩ : ∃ cr, cr = r := ⟨_, rfl⟩
              have HP0 : TPost (W0.drewN (q1 + q2 + q3)) s i cr e w3 := by
                rw [hcr, HR2.out, HC9.out, if_pos ⟨rfl, HSD.out⟩, ← HRP.out]
                exact made_tpost (k := 4) hp
              have HCR := Lib.hid hcr
              clear hp hcr
              cases cr with
              | bad er =>
                obtain ⟨rfl, hb⟩ := HP0
                unfold thrown
                have X1 := Lib.hid hb
                clear hb
                go_wp2_with fail
                refine ⟨rfl, ?_⟩
                rw [← HCR.out]
                exact ⟨rfl, B2.out.trans ((below_of_drew X1.out).mono B2.out.size)⟩
              | tok k v n =>
                obtain ⟨rfl, hb⟩ := HP0
                unfold tokV
                have X2 := END.out w3 w3 _ k v (s.extract i (i + n)) hb
                have X1 := Lib.hid hb
                have X3 := Lib.hid X2
                have yf : ∀ q, w3.frozen? ⟨z, q, none⟩ = false := fun q => frozen_of_row w3 z q _ _ X2.1
                have y0 : w3.cell? ⟨z, 0, none⟩ = some (.int .i64 0) := by rw [cell_of_row w3 z 0 _ _ _ X2.1]; rfl
                have y1 : w3.cell? ⟨z, 1, none⟩ = some (.int .i64 0) := by rw [cell_of_row w3 z 1 _ _ _ X2.1]; rfl
                have y2 : w3.cell? ⟨z, 2, none⟩ = some (.string ⟨#[]⟩) := by rw [cell_of_row w3 z 2 _ _ _ X2.1]; rfl
                have y3 : w3.cell? ⟨z, 3, none⟩ = some (.int .i64 0) := by rw [cell_of_row w3 z 3 _ _ _ X2.1]; rfl
                clear X2 hb
                obtain ⟨tx, htx⟩ : ∃ t, t = s.extract i (i + n) := ⟨_, rfl⟩
                rw [← htx]
                have HTX := Lib.hid htx
                clear htx
                go_wp2_with fail
                have hf := four_set X3.out.1 (.int .i64 k) (.int .i64 v) (.string tx) (.int .i64 i)
                refine bodyPost_ret (v := tokV k v tx i) (by rw [results_one_cell rfl]; simp [asAddr, load39 hf]) rfl ?_
                rw [← HCR.out]
                have X4 := X3.out.2
                rw [← HTX.out] at X4
                exact ⟨by rw [HTX.out]; try rfl, X4⟩
            | false =>
              have HR3 : Hid (r = if [61, 62].isPrefixOf ((bts s).drop i) = true ∨ [45, 62].isPrefixOf ((bts s).drop i) = true then .tok 6 0 2
                        else if LX.signs.contains c then .tok 6 0 1
                        else .bad 11) := by
                show _ = _
                rw [HR2.out, if_neg (by rw [hsd]; simp)]
              clear hsd
              go_wp2_with fail
              refine (starts_any (ATW.out (W0.drewN (q1 + q2)) B0.out) ⟨#[61, 62]⟩).mono ?_
              rintro e w3 ⟨rfl, q4, rfl⟩
              rw [show bts ⟨#[61, 62]⟩ = [61, 62] from rfl]
              cases h61 : [61, 62].isPrefixOf ((bts s).drop i) with
              | true =>
                have H61 := Lib.hid h61
                have HLE : Hid (i + 2 ≤ s.size) := by
                  have := prefix2_length h61
                  rw [List.length_drop, bts_length] at this
                  show _ ≤ _
                  omega
                clear h61
                go_wp2_with fail
                have NB := made_any (SCW.out (W0.drewN (q1 + q2 + q4)) B0.out) 6 2 HLE.out
                refine NB.mono ?_
                clear NB
                intro e w3 hp
                obtain ⟨cr, hcr⟩ : ∃ cr, cr = r := ⟨_, rfl⟩
                have HP0 : TPost (W0.drewN (q1 + q2 + q4)) s i cr e w3 := by
                  rw [hcr, HR3.out, if_pos (.inl H61.out)]
                  exact made_tpost (k := 6) (n := 2) hp
                have HCR := Lib.hid hcr
                clear hp hcr
                cases cr with
                | bad er =>
                  obtain ⟨rfl, hb⟩ := HP0
                  unfold thrown
                  have X1 := Lib.hid hb
                  clear hb
                  go_wp2_with fail
                  refine ⟨rfl, ?_⟩
                  rw [← HCR.out]
                  exact ⟨rfl, B2.out.trans ((below_of_drew X1.out).mono B2.out.size)⟩
                | tok k v n =>
                  obtain ⟨rfl, hb⟩ := HP0
                  unfold tokV
                  have X2 := END.out w3 w3 _ k v (s.extract i (i + n)) hb
                  have X1 := Lib.hid hb
                  have X3 := Lib.hid X2
                  have yf : ∀ q, w3.frozen? ⟨z, q, none⟩ = false := fun q => frozen_of_row w3 z q _ _ X2.1
                  have y0 : w3.cell? ⟨z, 0, none⟩ = some (.int .i64 0) := by rw [cell_of_row w3 z 0 _ _ _ X2.1]; rfl
                  have y1 : w3.cell? ⟨z, 1, none⟩ = some (.int .i64 0) := by rw [cell_of_row w3 z 1 _ _ _ X2.1]; rfl
                  have y2 : w3.cell? ⟨z, 2, none⟩ = some (.string ⟨#[]⟩) := by rw [cell_of_row w3 z 2 _ _ _ X2.1]; rfl
                  have y3 : w3.cell? ⟨z, 3, none⟩ = some (.int .i64 0) := by rw [cell_of_row w3 z 3 _ _ _ X2.1]; rfl
                  clear X2 hb
                  obtain ⟨tx, htx⟩ : ∃ t, t = s.extract i (i + n) := ⟨_, rfl⟩
                  rw [← htx]
                  have HTX := Lib.hid htx
                  clear htx
                  go_wp2_with fail
                  have hf := four_set X3.out.1 (.int .i64 k) (.int .i64 v) (.string tx) (.int .i64 i)
                  refine bodyPost_ret (v := tokV k v tx i) (by rw [results_one_cell rfl]; simp [asAddr, load39 hf]) rfl ?_
                  rw [← HCR.out]
                  have X4 := X3.out.2
                  rw [← HTX.out] at X4
                  exact ⟨by rw [HTX.out]; try rfl, X4⟩
              | false =>
                have H61 := Lib.hid h61
                clear h61
                go_wp2_with fail
                refine (starts_any (ATW.out (W0.drewN (q1 + q2 + q4)) B0.out) ⟨#[45, 62]⟩).mono ?_
                rintro e w3 ⟨rfl, q5, rfl⟩
                rw [show bts ⟨#[45, 62]⟩ = [45, 62] from rfl]
                cases h45 : [45, 62].isPrefixOf ((bts s).drop i) with
                | true =>
                  have H45 := Lib.hid h45
                  have HLE : Hid (i + 2 ≤ s.size) := by
                    have := prefix2_length h45
                    rw [List.length_drop, bts_length] at this
                    show _ ≤ _
                    omega
                  clear h45
                  go_wp2_with fail
                  have NB := made_any (SCW.out (W0.drewN (q1 + q2 + q4 + q5)) B0.out) 6 2 HLE.out
                  refine NB.mono ?_
                  clear NB
                  intro e w3 hp
                  obtain ⟨cr, hcr⟩ : ∃ cr, cr = r := ⟨_, rfl⟩
                  have HP0 : TPost (W0.drewN (q1 + q2 + q4 + q5)) s i cr e w3 := by
                    rw [hcr, HR3.out, if_pos (.inr H45.out)]
                    exact made_tpost (k := 6) (n := 2) hp
                  have HCR := Lib.hid hcr
                  clear hp hcr
                  cases cr with
                  | bad er =>
                    obtain ⟨rfl, hb⟩ := HP0
                    unfold thrown
                    have X1 := Lib.hid hb
                    clear hb
                    go_wp2_with fail
                    refine ⟨rfl, ?_⟩
                    rw [← HCR.out]
                    exact ⟨rfl, B2.out.trans ((below_of_drew X1.out).mono B2.out.size)⟩
                  | tok k v n =>
                    obtain ⟨rfl, hb⟩ := HP0
                    unfold tokV
                    have X2 := END.out w3 w3 _ k v (s.extract i (i + n)) hb
                    have X1 := Lib.hid hb
                    have X3 := Lib.hid X2
                    have yf : ∀ q, w3.frozen? ⟨z, q, none⟩ = false := fun q => frozen_of_row w3 z q _ _ X2.1
                    have y0 : w3.cell? ⟨z, 0, none⟩ = some (.int .i64 0) := by rw [cell_of_row w3 z 0 _ _ _ X2.1]; rfl
                    have y1 : w3.cell? ⟨z, 1, none⟩ = some (.int .i64 0) := by rw [cell_of_row w3 z 1 _ _ _ X2.1]; rfl
                    have y2 : w3.cell? ⟨z, 2, none⟩ = some (.string ⟨#[]⟩) := by rw [cell_of_row w3 z 2 _ _ _ X2.1]; rfl
                    have y3 : w3.cell? ⟨z, 3, none⟩ = some (.int .i64 0) := by rw [cell_of_row w3 z 3 _ _ _ X2.1]; rfl
                    clear X2 hb
                    obtain ⟨tx, htx⟩ : ∃ t, t = s.extract i (i + n) := ⟨_, rfl⟩
                    rw [← htx]
                    have HTX := Lib.hid htx
                    clear htx
                    go_wp2_with fail
                    have hf := four_set X3.out.1 (.int .i64 k) (.int .i64 v) (.string tx) (.int .i64 i)
                    refine bodyPost_ret (v := tokV k v tx i) (by rw [results_one_cell rfl]; simp [asAddr, load39 hf]) rfl ?_
                    rw [← HCR.out]
                    have X4 := X3.out.2
                    rw [← HTX.out] at X4
                    exact ⟨by rw [HTX.out]; try rfl, X4⟩
                | false =>
                  have HR4 : Hid (r = if LX.signs.contains c then .tok 6 0 1 else .bad 11) := by
                    show _ = _
                    rw [HR3.out, if_neg (by rw [H61.out, h45]; simp)]
                  clear h45
                  go_wp2_with fail
                  have SB := Tryz.strings_IndexByte signB c (W0.drewN (q1 + q2 + q4 + q5))
                  have hsg := signs_eq c HCB.out
                  rw [hz39] at SB hsg
                  refine SB.mono ?_
                  clear SB
                  rintro e w3 ⟨rfl, rfl⟩
                  obtain ⟨x, hx⟩ : ∃ x, x = Lib.indexByte signB.data.toList (39 : Int).toNat.toUInt8 := ⟨_, rfl⟩
                  rw [← hx] at hsg ⊢
                  clear hx
                  cases hct : LX.signs.contains c with
                  | true =>
                    rw [hct] at hsg
                    have hx0 : 0 ≤ x := of_decide_eq_true hsg
                    have HCT := Lib.hid hct
                    clear hct hsg
                    go_wp2_with fail
                    have NB := made_any (SCW.out (W0.drewN (q1 + q2 + q4 + q5)) B0.out) 6 1 HI.out
                    refine NB.mono ?_
                    clear NB
                    intro e w3 hp
                    obtain ⟨cr, hcr⟩ : ∃ cr, cr = r := ⟨_, rfl⟩
                    have HP0 : TPost (W0.drewN (q1 + q2 + q4 + q5)) s i cr e w3 := by
                      rw [hcr, HR4.out, if_pos HCT.out]
                      exact made_tpost (k := 6) (n := 1) hp
                    have HCR := Lib.hid hcr
                    clear hp hcr
                    cases cr with
                    | bad er =>
                      obtain ⟨rfl, hb⟩ := HP0
                      unfold thrown
                      have X1 := Lib.hid hb
                      clear hb
                      go_wp2_with fail
                      refine ⟨rfl, ?_⟩
                      rw [← HCR.out]
                      exact ⟨rfl, B2.out.trans ((below_of_drew X1.out).mono B2.out.size)⟩
                    | tok k v n =>
                      obtain ⟨rfl, hb⟩ := HP0
                      unfold tokV
                      have X2 := END.out w3 w3 _ k v (s.extract i (i + n)) hb
                      have X1 := Lib.hid hb
                      have X3 := Lib.hid X2
                      have yf : ∀ q, w3.frozen? ⟨z, q, none⟩ = false := fun q => frozen_of_row w3 z q _ _ X2.1
                      have y0 : w3.cell? ⟨z, 0, none⟩ = some (.int .i64 0) := by rw [cell_of_row w3 z 0 _ _ _ X2.1]; rfl
                      have y1 : w3.cell? ⟨z, 1, none⟩ = some (.int .i64 0) := by rw [cell_of_row w3 z 1 _ _ _ X2.1]; rfl
                      have y2 : w3.cell? ⟨z, 2, none⟩ = some (.string ⟨#[]⟩) := by rw [cell_of_row w3 z 2 _ _ _ X2.1]; rfl
                      have y3 : w3.cell? ⟨z, 3, none⟩ = some (.int .i64 0) := by rw [cell_of_row w3 z 3 _ _ _ X2.1]; rfl
                      clear X2 hb
                      obtain ⟨tx, htx⟩ : ∃ t, t = s.extract i (i + n) := ⟨_, rfl⟩
                      rw [← htx]
                      have HTX := Lib.hid htx
                      clear htx
                      go_wp2_with fail
                      have hf := four_set X3.out.1 (.int .i64 k) (.int .i64 v) (.string tx) (.int .i64 i)
                      refine bodyPost_ret (v := tokV k v tx i) (by rw [results_one_cell rfl]; simp [asAddr, load39 hf]) rfl ?_
                      rw [← HCR.out]
                      have X4 := X3.out.2
                      rw [← HTX.out] at X4
                      exact ⟨by rw [HTX.out]; try rfl, X4⟩
                  | false =>
                    rw [hct] at hsg
                    have hx0 : ¬ 0 ≤ x := of_decide_eq_false hsg
                    have HCT := Lib.hid hct
                    obtain ⟨c0, c1, lt', -, -⟩ := ATW.out W0 B0.out
                    clear hct hsg
                    go_wp2_with fail
                    refine ⟨rfl, ?_⟩
                    rw [HR4.out, if_neg (by rw [HCT.out]; exact Bool.false_ne_true)]
                    exact ⟨rfl, below_drawn B2.out _⟩
          · have HR3 : Hid (r = if [61, 62].isPrefixOf ((bts s).drop i) = true ∨ [45, 62].isPrefixOf ((bts s).drop i) = true then .tok 6 0 2
                      else if LX.signs.contains c then .tok 6 0 1
                      else .bad 11) := by
              show _ = _
              rw [HR2.out, if_neg (by rintro ⟨h, -⟩; exact hc39 h)]
            have hz39 : ¬ (c : Int) = 39 := by omega
            clear hc39
            go_wp2_with fail
            refine (starts_any (ATW.out (W0.drewN (q1)) B0.out) ⟨#[61, 62]⟩).mono ?_
            rintro e w3 ⟨rfl, q4, rfl⟩
            rw [show bts ⟨#[61, 62]⟩ = [61, 62] from rfl]
            cases h61 : [61, 62].isPrefixOf ((bts s).drop i) with
            | true =>
              have H61 := Lib.hid h61
              have HLE : Hid (i + 2 ≤ s.size) := by
                have := prefix2_length h61
                rw [List.length_drop, bts_length] at this
                show _ ≤ _
                omega
              clear h61
              go_wp2_with fail
              have NB := made_any (SCW.out (W0.drewN (q1 + q4)) B0.out) 6 2 HLE.out
              refine NB.mono ?_
              clear NB
              intro e w3 hp
              obtain ⟨cr, hcr⟩ : ∃ cr, cr = r := ⟨_, rfl⟩
              have HP0 : TPost (W0.drewN (q1 + q4)) s i cr e w3 := by
                rw [hcr, HR3.out, if_pos (.inl H61.out)]
                exact made_tpost (k := 6) (n := 2) hp
              have HCR := Lib.hid hcr
              clear hp hcr
              cases cr with
              | bad er =>
                obtain ⟨rfl, hb⟩ := HP0
                unfold thrown
                have X1 := Lib.hid hb
                clear hb
                go_wp2_with fail
                refine ⟨rfl, ?_⟩
                rw [← HCR.out]
                exact ⟨rfl, B2.out.trans ((below_of_drew X1.out).mono B2.out.size)⟩
              | tok k v n =>
                obtain ⟨rfl, hb⟩ := HP0
                unfold tokV
                have X2 := END.out w3 w3 _ k v (s.extract i (i + n)) hb
                have X1 := Lib.hid hb
                have X3 := Lib.hid X2
                have yf : ∀ q, w3.frozen? ⟨z, q, none⟩ = false := fun q => frozen_of_row w3 z q _ _ X2.1
                have y0 : w3.cell? ⟨z, 0, none⟩ = some (.int .i64 0) := by rw [cell_of_row w3 z 0 _ _ _ X2.1]; rfl
                have y1 : w3.cell? ⟨z, 1, none⟩ = some (.int .i64 0) := by rw [cell_of_row w3 z 1 _ _ _ X2.1]; rfl
                have y2 : w3.cell? ⟨z, 2, none⟩ = some (.string ⟨#[]⟩) := by rw [cell_of_row w3 z 2 _ _ _ X2.1]; rfl
                have y3 : w3.cell? ⟨z, 3, none⟩ = some (.int .i64 0) := by rw [cell_of_row w3 z 3 _ _ _ X2.1]; rfl
                clear X2 hb
                obtain ⟨tx, htx⟩ : ∃ t, t = s.extract i (i + n) := ⟨_, rfl⟩
                rw [← htx]
                have HTX := Lib.hid htx
                clear htx
                go_wp2_with fail
                have hf := four_set X3.out.1 (.int .i64 k) (.int .i64 v) (.string tx) (.int .i64 i)
                refine bodyPost_ret (v := tokV k v tx i) (by rw [results_one_cell rfl]; simp [asAddr, load39 hf]) rfl ?_
                rw [← HCR.out]
                have X4 := X3.out.2
                rw [← HTX.out] at X4
                exact ⟨by rw [HTX.out]; try rfl, X4⟩
            | false =>
              have H61 := Lib.hid h61
              clear h61
              go_wp2_with fail
              refine (starts_any (ATW.out (W0.drewN (q1 + q4)) B0.out) ⟨#[45, 62]⟩).mono ?_
              rintro e w3 ⟨rfl, q5, rfl⟩
              rw [show bts ⟨#[45, 62]⟩ = [45, 62] from rfl]
              cases h45 : [45, 62].isPrefixOf ((bts s).drop i) with
              | true =>
                have H45 := Lib.hid h45
                have HLE : Hid (i + 2 ≤ s.size) := by
                  have := prefix2_length h45
                  rw [List.length_drop, bts_length] at this
                  show _ ≤ _
                  omega
                clear h45
                go_wp2_with fail
                have NB := made_any (SCW.out (W0.drewN (q1 + q4 + q5)) B0.out) 6 2 HLE.out
                refine NB.mono ?_
                clear NB
                intro e w3 hp
                obtain ⟨cr, hcr⟩ : ∃ cr, cr = r := ⟨_, rfl⟩
                have HP0 : TPost (W0.drewN (q1 + q4 + q5)) s i cr e w3 := by
                  rw [hcr, HR3.out, if_pos (.inr H45.out)]
                  exact made_tpost (k := 6) (n := 2) hp
                have HCR := Lib.hid hcr
                clear hp hcr
                cases cr with
                | bad er =>
                  obtain ⟨rfl, hb⟩ := HP0
                  unfold thrown
                  have X1 := Lib.hid hb
                  clear hb
                  go_wp2_with fail
                  refine ⟨rfl, ?_⟩
                  rw [← HCR.out]
                  exact ⟨rfl, B2.out.trans ((below_of_drew X1.out).mono B2.out.size)⟩
                | tok k v n =>
                  obtain ⟨rfl, hb⟩ := HP0
                  unfold tokV
                  have X2 := END.out w3 w3 _ k v (s.extract i (i + n)) hb
                  have X1 := Lib.hid hb
                  have X3 := Lib.hid X2
                  have yf : ∀ q, w3.frozen? ⟨z, q, none⟩ = false := fun q => frozen_of_row w3 z q _ _ X2.1
                  have y0 : w3.cell? ⟨z, 0, none⟩ = some (.int .i64 0) := by rw [cell_of_row w3 z 0 _ _ _ X2.1]; rfl
                  have y1 : w3.cell? ⟨z, 1, none⟩ = some (.int .i64 0) := by rw [cell_of_row w3 z 1 _ _ _ X2.1]; rfl
                  have y2 : w3.cell? ⟨z, 2, none⟩ = some (.string ⟨#[]⟩) := by rw [cell_of_row w3 z 2 _ _ _ X2.1]; rfl
                  have y3 : w3.cell? ⟨z, 3, none⟩ = some (.int .i64 0) := by rw [cell_of_row w3 z 3 _ _ _ X2.1]; rfl
                  clear X2 hb
                  obtain ⟨tx, htx⟩ : ∃ t, t = s.extract i (i + n) := ⟨_, rfl⟩
                  rw [← htx]
                  have HTX := Lib.hid htx
                  clear htx
                  go_wp2_with fail
                  have hf := four_set X3.out.1 (.int .i64 k) (.int .i64 v) (.string tx) (.int .i64 i)
                  refine bodyPost_ret (v := tokV k v tx i) (by rw [results_one_cell rfl]; simp [asAddr, load39 hf]) rfl ?_
                  rw [← HCR.out]
                  have X4 := X3.out.2
                  rw [← HTX.out] at X4
                  exact ⟨by rw [HTX.out]; try rfl, X4⟩
              | false =>
                have HR4 : Hid (r = if LX.signs.contains c then .tok 6 0 1 else .bad 11) := by
                  show _ = _
                  rw [HR3.out, if_neg (by rw [H61.out, h45]; simp)]
                clear h45
                go_wp2_with fail
                have SB := Tryz.strings_IndexByte signB c (W0.drewN (q1 + q4 + q5))
                have hsg := signs_eq c HCB.out

                refine SB.mono ?_
                clear SB
                rintro e w3 ⟨rfl, rfl⟩
                obtain ⟨x, hx⟩ : ∃ x, x = Lib.indexByte signB.data.toList ((c : Int) : Int).toNat.toUInt8 := ⟨_, rfl⟩
                rw [← hx] at hsg ⊢
                clear hx
                cases hct : LX.signs.contains c with
                | true =>
                  rw [hct] at hsg
                  have hx0 : 0 ≤ x := of_decide_eq_true hsg
                  have HCT := Lib.hid hct
                  clear hct hsg
                  go_wp2_with fail
                  have NB := made_any (SCW.out (W0.drewN (q1 + q4 + q5)) B0.out) 6 1 HI.out
                  refine NB.mono ?_
                  clear NB
                  intro e w3 hp
                  obtain ⟨cr, hcr⟩ : ∃ cr, cr = r := ⟨_, rfl⟩
                  have HP0 : TPost (W0.drewN (q1 + q4 + q5)) s i cr e w3 := by
                    rw [hcr, HR4.out, if_pos HCT.out]
                    exact made_tpost (k := 6) (n := 1) hp
                  have HCR := Lib.hid hcr
                  clear hp hcr
                  cases cr with
                  | bad er =>
                    obtain ⟨rfl, hb⟩ := HP0
                    unfold thrown
                    have X1 := Lib.hid hb
                    clear hb
                    go_wp2_with fail
                    refine ⟨rfl, ?_⟩
                    rw [← HCR.out]
                    exact ⟨rfl, B2.out.trans ((below_of_drew X1.out).mono B2.out.size)⟩
                  | tok k v n =>
                    obtain ⟨rfl, hb⟩ := HP0
                    unfold tokV
                    have X2 := END.out w3 w3 _ k v (s.extract i (i + n)) hb
                    have X1 := Lib.hid hb
                    have X3 := Lib.hid X2
                    have yf : ∀ q, w3.frozen? ⟨z, q, none⟩ = false := fun q => frozen_of_row w3 z q _ _ X2.1
                    have y0 : w3.cell? ⟨z, 0, none⟩ = some (.int .i64 0) := by rw [cell_of_row w3 z 0 _ _ _ X2.1]; rfl
                    have y1 : w3.cell? ⟨z, 1, none⟩ = some (.int .i64 0) := by rw [cell_of_row w3 z 1 _ _ _ X2.1]; rfl
                    have y2 : w3.cell? ⟨z, 2, none⟩ = some (.string ⟨#[]⟩) := by rw [cell_of_row w3 z 2 _ _ _ X2.1]; rfl
                    have y3 : w3.cell? ⟨z, 3, none⟩ = some (.int .i64 0) := by rw [cell_of_row w3 z 3 _ _ _ X2.1]; rfl
                    clear X2 hb
                    obtain ⟨tx, htx⟩ : ∃ t, t = s.extract i (i + n) := ⟨_, rfl⟩
                    rw [← htx]
                    have HTX := Lib.hid htx
                    clear htx
                    go_wp2_with fail
                    have hf := four_set X3.out.1 (.int .i64 k) (.int .i64 v) (.string tx) (.int .i64 i)
                    refine bodyPost_ret (v := tokV k v tx i) (by rw [results_one_cell rfl]; simp [asAddr, load39 hf]) rfl ?_
                    rw [← HCR.out]
                    have X4 := X3.out.2
                    rw [← HTX.out] at X4
                    exact ⟨by rw [HTX.out]; try rfl, X4⟩
                | false =>
                  rw [hct] at hsg
                  have hx0 : ¬ 0 ≤ x := of_decide_eq_false hsg
                  have HCT := Lib.hid hct
                  obtain ⟨c0, c1, lt', -, -⟩ := ATW.out W0 B0.out
                  clear hct hsg
                  go_wp2_with fail
                  refine ⟨rfl, ?_⟩
                  rw [HR4.out, if_neg (by rw [HCT.out]; exact Bool.false_ne_true)]
                  exact ⟨rfl, below_drawn B2.out _⟩
end Go.Proofs.YtnkahlloahgifaaGreatDoor.Lx
