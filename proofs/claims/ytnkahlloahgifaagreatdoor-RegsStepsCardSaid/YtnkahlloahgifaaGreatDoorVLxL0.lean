/- Part. -/
import Derived.Test.YtnkahlloahgifaaGreatDoorVLxG
import Derived.Test.YtnkahlloahgifaaGreatDoorVLxE
set_option linter.unusedSimpArgs false
set_option linter.unusedVariables false
namespace Go.Proofs.YtnkahlloahgifaaGreatDoor.Lx
open Go.RowKit
theorem token_eq (s:ByteArray) (i:Nat) (hi:i<s.size) :
  LX.token ((bts s).drop i)=if LX.digit ((bts s).getD i 0)||(bts s).getD i 0==126 then LX.number ((bts s).drop i) (if (bts s).getD i 0=126 then 1 else 0)
  else if LX.small ((bts s).getD i 0) then LX.named 2 ((bts s).drop i)
  else if LX.great ((bts s).getD i 0) then LX.named 3 ((bts s).drop i)
  else if (bts s).getD i 0=39∧LX.small ((bts s).getD (i+1) 0) then LX.made 4 (1+LX.run LX.part ((bts s).drop (i+1)))
  else if [61,62].isPrefixOf ((bts s).drop i)=true∨[45,62].isPrefixOf ((bts s).drop i)=true then .tok 6 0 2
  else if LX.signs.contains ((bts s).getD i 0) then .tok 6 0 1
  else .bad 11:=by
 have hl:i<(bts s).length:=by rw [bts_length];exact hi
 have e1:(bts s).getD i 0=(bts s)[i]:=by rw [List.getD_eq_getElem?_getD,List.getElem?_eq_getElem hl];rfl
 have e2:LX.head0 ((bts s).drop (i+1))=(bts s).getD (i+1) 0:=by
  unfold LX.head0
  rw [List.headD_eq_head?_getD,List.head?_drop,List.getD_eq_getElem?_getD]
 rw [← e2,e1,List.drop_eq_getElem_cons hl]
 generalize (bts s)[i]=c
 generalize (bts s).drop (i+1)=t
 unfold LX.token
 have e3:((c=61∨c=45)∧LX.head0 t=62)=([61,62].isPrefixOf (c :: t)=true∨[45,62].isPrefixOf (c :: t)=true):=by
  cases t with
  | nil=>simp [List.isPrefixOf,LX.head0]
  | cons d t =>
   simp only [List.isPrefixOf,LX.head0,List.headD_cons,Bool.and_true,Bool.and_eq_true,beq_iff_eq,eq_iff_iff]
   constructor
   ·rintro ⟨h | h,k⟩
    ·exact .inl ⟨h.symm,k.symm⟩
    ·exact .inr ⟨h.symm,k.symm⟩
   ·rintro (⟨h,k⟩|⟨h,k⟩)
    ·exact⟨.inl h.symm,k.symm⟩
    ·exact⟨.inr h.symm,k.symm⟩
 simp only [e3]
def signB:ByteArray:=⟨#[40,41,44,59,58,124,61,60,43,45,42,47,37,95]⟩
theorem signs_eq (c:Nat) (hc:c<256):decide (0≤Lib.indexByte signB.data.toList ((c:Int)).toNat.toUInt8)=LX.signs.contains c:=by
 have h:∀ c:Fin 256,decide (0≤Lib.indexByte signB.data.toList ((c.1:Int)).toNat.toUInt8)=LX.signs.contains c.1:=by decide +kernel
 exact h ⟨c,hc⟩
theorem bts_lt (s:ByteArray) (i:Nat):(bts s).getD i 0<256:=by
 rw [List.getD_eq_getElem?_getD]
 rcases Nat.lt_or_ge i s.size with h | h
 ·rw [bts_get s h];exact(s[i]'h).toNat_lt
 ·rw [List.getElem?_eq_none (by rw [bts_length];exact h)];decide
theorem made_tpost {w:World}{s:ByteArray}{i k n:Nat}{e:Ending}{w':World}(h:MPost w s i k n e w'):TPost w s i (LX.made k n) e w':=by
 unfold MPost at h
 unfold LX.made
 by_cases hn:24<n
 ·rw [if_pos hn] at h ⊢;exact h
 ·rw [if_neg hn] at h ⊢;exact h
set_option maxHeartbeats 4000000 in
set_option maxRecDepth 20000 in
theorem token_any (NL : NumLaw) {w : World} {b : Nat} {s : ByteArray} {i mb : Nat} {cv : Value} (h : Sc w b s i mb cv) (henv : Env w) (hw : Wd w mb) (hmb : mb ≠ b) (hi : i < s.size) :
    Calls Tryz.prog 143 #[.pointer (some ⟨b, 0, none⟩)] w (TPost w s i (LX.token ((bts s).drop i))) := by
  have hne := token_eq s i hi
  obtain ⟨c, hc⟩ : ∃ c, c = (bts s).getD i 0 := ⟨_, rfl⟩
  obtain ⟨d, hd⟩ : ∃ d, d = (bts s).getD (i + 1) 0 := ⟨_, rfl⟩
  obtain ⟨r, hr⟩ : ∃ r, r = LX.token ((bts s).drop i) := ⟨_, rfl⟩
  have c256 : c < 256 := by rw [hc]; exact bts_lt s i
  rw [← hr] at hne ⊢
  rw [← hc, ← hd] at hne
  obtain ⟨c0, c1, lt, le, sz⟩ := h.at'
  have ATW : Hid (∀ W : World, W.heap[b]? = w.heap[b]? → At W b s i) := fun W e => ⟨by rw [World.cell?_of_block (w := w) e]; exact c0, by rw [World.cell?_of_block (w := w) e]; exact c1, by
    rw [h.1] at e; exact (Array.getElem?_eq_some_iff.1 e).1, le, sz⟩
  have SCW : Hid (∀ W : World, W.heap[b]? = w.heap[b]? → Sc W b s i mb cv) := fun W e => ⟨e.trans h.1, h.2⟩
  have HC := Lib.hid hc
  have HD := Lib.hid hd
  have HR := Lib.hid hne
  have HE := Lib.hid henv
  have HW := Lib.hid hw
  have HB := Lib.hid hmb
  have HI := Lib.hid hi
  have HL := Lib.hid NL
  have HCB := Lib.hid c256
  clear hc hd hr hne henv hw hmb hi NL c256 le h c0 c1 sz
  go_enter Tryz.func143, Tryz.ntmps143
  go_wp2_with fail
  obtain ⟨z, hz⟩ : ∃ z, z = w.heap.size := ⟨_, rfl⟩
  obtain ⟨W0, hW0⟩ : ∃ W, W = w.alloc (.cells #[.int .i64 0, .int .i64 0, .string ⟨#[]⟩, .int .i64 0] 154) := ⟨_, rfl⟩
  rw [← hW0, ← hz]
  have B0 : Hid (W0.heap[b]? = w.heap[b]?) := by rw [hW0]; exact Below.heap_alloc _ _ _ lt
  have B1 : Hid (W0.heap[z]? = some (.cells #[.int .i64 0, .int .i64 0, .string ⟨#[]⟩, .int .i64 0] 154 (0, 0))) := by rw [hW0, hz]; exact heap_alloc_new w _
  have B2 : Hid (Below w.heap.size w W0) := by rw [hW0]; exact (Below.refl _ _).alloc (Nat.le_refl _) _
  have B3 : Hid (z < W0.heap.size) := (Array.getElem?_eq_some_iff.1 B1.out).1
  have B4 := Lib.hid hz
  have HEW : Hid (∀ q, Env (W0.drewN q)) := fun q => HE.out.keep (below_drawn B2.out q) HE.out.size
  have HWW : Hid (∀ q, Wd (W0.drewN q) mb) := fun q => by
    obtain ⟨es, clock, h1, h2⟩ := HW.out
    exact ⟨es, clock, (B2.out.block mb (Array.getElem?_eq_some_iff.1 h1).1).trans h1, h2⟩
  have END : Hid (∀ (W W' : World) (q : Nat) (k v : Int) (t : ByteArray), Below W0.heap.size (W0.drewN q) W →
      W.heap[z]? = some (.cells #[.int .i64 0, .int .i64 0, .string ⟨#[]⟩, .int .i64 0] 154 (0, 0)) ∧ Below w.heap.size w ((((W.setCell ⟨z, 0, none⟩ (.int .i64 k)).setCell ⟨z, 1, none⟩ (.int .i64 v)).setCell ⟨z, 2, none⟩ (.string t)).setCell ⟨z, 3, none⟩ (.int .i64 i))) := fun W W' q k v t hb => by
    have hb2 : Below W0.heap.size W0 W := below_of_drew hb
    have hzb : w.heap.size ≤ z := Nat.le_of_eq B4.out.symm
    exact ⟨(hb2.block z B3.out).trans B1.out, ((((B2.out.trans (hb2.mono B2.out.size)).setCell (p := ⟨z, 0, none⟩) hzb (.int .i64 k)).setCell (p := ⟨z, 1, none⟩) hzb (.int .i64 v)).setCell (p := ⟨z, 2, none⟩) hzb (.string t)).setCell (p := ⟨z, 3, none⟩) hzb (.int .i64 i)⟩
  clear hz hW0
  refine (peek_any (ATW.out W0 B0.out) 0 (by decide)).mono ?_
  rintro e w1 ⟨rfl, q1, rfl⟩
  rw [Nat.add_zero, ← HC.out]
  go_wp2_with fail
  refine (digit_any _ c).mono ?_
  rintro e w2 ⟨rfl, rfl⟩
  cases hdg : LX.digit c with
  | true =>
    have HDG := Lib.hid hdg
    clear hdg
    go_wp2_with fail
    have NB := number_any HL.out (SCW.out (W0.drewN q1) B0.out) (HEW.out q1) HI.out
    refine NB.mono ?_
    clear NB
    intro e w3 hp
    obtain ⟨cr, hcr⟩ : ∃ cr, cr = r := ⟨_, rfl⟩
    have HP0 : TPost (W0.drewN (q1)) s i cr e w3 := by
      rw [hcr, HR.out, HDG.out, Bool.true_or, if_pos rfl, HC.out]
      exact hp
    have HCR := Lib.hid hcr
    clear hp hcr
    cases cr with
    | bad er =>
      obtain ⟨rfl, hb⟩ := HP0
      unfold thrown
      have X1 := Lib.hid hb
      clear hb
      go_wp2_with fail
      refine ⟨rfl, ?_⟩
      rw [← HCR.out]
      exact ⟨rfl, B2.out.trans ((below_of_drew X1.out).mono B2.out.size)⟩
    | tok k v n =>
      obtain ⟨rfl, hb⟩ := HP0
      unfold tokV
      have X2 := END.out w3 w3 _ k v (s.extract i (i + n)) hb
      have X1 := Lib.hid hb
      have X3 := Lib.hid X2
      have yf : ∀ q, w3.frozen? ⟨z, q, none⟩ = false := fun q => frozen_of_row w3 z q _ _ X2.1
      have y0 : w3.cell? ⟨z, 0, none⟩ = some (.int .i64 0) := by rw [cell_of_row w3 z 0 _ _ _ X2.1]; rfl
      have y1 : w3.cell? ⟨z, 1, none⟩ = some (.int .i64 0) := by rw [cell_of_row w3 z 1 _ _ _ X2.1]; rfl
      have y2 : w3.cell? ⟨z, 2, none⟩ = some (.string ⟨#[]⟩) := by rw [cell_of_row w3 z 2 _ _ _ X2.1]; rfl
      have y3 : w3.cell? ⟨z, 3, none⟩ = some (.int .i64 0) := by rw [cell_of_row w3 z 3 _ _ _ X2.1]; rfl
      clear X2 hb
      obtain ⟨tx, htx⟩ : ∃ t, t = s.extract i (i + n) := ⟨_, rfl⟩
      rw [← htx]
      have HTX := Lib.hid htx
      clear htx
      go_wp2_with fail
      have hf := four_set X3.out.1 (.int .i64 k) (.int .i64 v) (.string tx) (.int .i64 i)
      refine bodyPost_ret (v := tokV k v tx i) (by rw [results_one_cell rfl]; simp [asAddr, load39 hf]) rfl ?_
      rw [← HCR.out]
      have X4 := X3.out.2
      rw [← HTX.out] at X4
      exact ⟨by rw [HTX.out]; try rfl, X4⟩
  | false =>
    have HDG := Lib.hid hdg
    clear hdg
    by_cases hc126 : c = 126
    · have hz126 : (c : Int) = 126 := by omega
      have HC6 := Lib.hid hc126
      clear hc126
      go_wp2_with fail
      have NB := number_any HL.out (SCW.out (W0.drewN q1) B0.out) (HEW.out q1) HI.out
      refine NB.mono ?_
      clear NB
      intro e w3 hp
      obtain ⟨cr, hcr⟩ : ∃ cr, cr = r := ⟨_, rfl⟩
      have HP0 : TPost (W0.drewN (q1)) s i cr e w3 := by
        rw [hcr, HR.out, HDG.out, HC6.out, show ((false || (126 : Nat) == 126) = true) from rfl, if_pos rfl, if_pos rfl]
        rw [← HC.out, HC6.out, if_pos rfl] at hp; exact hp
      have HCR := Lib.hid hcr
      clear hp hcr
      cases cr with
      | bad er =>
        obtain ⟨rfl, hb⟩ := HP0
        unfold thrown
        have X1 := Lib.hid hb
        clear hb
        go_wp2_with fail
        refine ⟨rfl, ?_⟩
        rw [← HCR.out]
        exact ⟨rfl, B2.out.trans ((below_of_drew X1.out).mono B2.out.size)⟩
      | tok k v n =>
        obtain ⟨rfl, hb⟩ := HP0
        unfold tokV
        have X2 := END.out w3 w3 _ k v (s.extract i (i + n)) hb
        have X1 := Lib.hid hb
        have X3 := Lib.hid X2
        have yf : ∀ q, w3.frozen? ⟨z, q, none⟩ = false := fun q => frozen_of_row w3 z q _ _ X2.1
        have y0 : w3.cell? ⟨z, 0, none⟩ = some (.int .i64 0) := by rw [cell_of_row w3 z 0 _ _ _ X2.1]; rfl
        have y1 : w3.cell? ⟨z, 1, none⟩ = some (.int .i64 0) := by rw [cell_of_row w3 z 1 _ _ _ X2.1]; rfl
        have y2 : w3.cell? ⟨z, 2, none⟩ = some (.string ⟨#[]⟩) := by rw [cell_of_row w3 z 2 _ _ _ X2.1]; rfl
        have y3 : w3.cell? ⟨z, 3, none⟩ = some (.int .i64 0) := by rw [cell_of_row w3 z 3 _ _ _ X2.1]; rfl
        clear X2 hb
        obtain ⟨tx, htx⟩ : ∃ t, t = s.extract i (i + n) := ⟨_, rfl⟩
        rw [← htx]
        have HTX := Lib.hid htx
        clear htx
        go_wp2_with fail
        have hf := four_set X3.out.1 (.int .i64 k) (.int .i64 v) (.string tx) (.int .i64 i)
        refine bodyPost_ret (v := tokV k v tx i) (by rw [results_one_cell rfl]; simp [asAddr, load39 hf]) rfl ?_
        rw [← HCR.out]
        have X4 := X3.out.2
        rw [← HTX.out] at X4
        exact ⟨by rw [HTX.out]; try rfl, X4⟩
    · have hz126 : ¬ (c : Int) = 126 := by omega
      have HDN : Hid ((LX.digit c || c == 126) = false) := by show _ = _; rw [HDG.out, Bool.false_or]; exact beq_false_of_ne hc126
      clear hc126
      go_wp2_with fail
      refine (small_any _ c).mono ?_
      rintro e w2 ⟨rfl, rfl⟩
      cases hsm : LX.small c with
      | true =>
        have HSM := Lib.hid hsm
        clear hsm
        go_wp2_with fail
        have NB := name_any (SCW.out (W0.drewN q1) B0.out) (HWW.out q1) HB.out 2 (by decide) HI.out
        refine NB.mono ?_
        clear NB
        intro e w3 hp
        obtain ⟨cr, hcr⟩ : ∃ cr, cr = r := ⟨_, rfl⟩
        have HP0 : TPost (W0.drewN (q1)) s i cr e w3 := by
          rw [hcr, HR.out, HDN.out, HSM.out, if_neg Bool.false_ne_true, if_pos rfl]
          exact hp
        have HCR := Lib.hid hcr
        clear hp hcr
        cases cr with
        | bad er =>
          obtain ⟨rfl, hb⟩ := HP0
          unfold thrown
          have X1 := Lib.hid hb
          clear hb
          go_wp2_with fail
          refine ⟨rfl, ?_⟩
          rw [← HCR.out]
          exact ⟨rfl, B2.out.trans ((below_of_drew X1.out).mono B2.out.size)⟩
        | tok k v n =>
          obtain ⟨rfl, hb⟩ := HP0
          unfold tokV
          have X2 := END.out w3 w3 _ k v (s.extract i (i + n)) hb
          have X1 := Lib.hid hb
          have X3 := Lib.hid X2
          have yf : ∀ q, w3.frozen? ⟨z, q, none⟩ = false := fun q => frozen_of_row w3 z q _ _ X2.1
          have y0 : w3.cell? ⟨z, 0, none⟩ = some (.int .i64 0) := by rw [cell_of_row w3 z 0 _ _ _ X2.1]; rfl
          have y1 : w3.cell? ⟨z, 1, none⟩ = some (.int .i64 0) := by rw [cell_of_row w3 z 1 _ _ _ X2.1]; rfl
          have y2 : w3.cell? ⟨z, 2, none⟩ = some (.string ⟨#[]⟩) := by rw [cell_of_row w3 z 2 _ _ _ X2.1]; rfl
          have y3 : w3.cell? ⟨z, 3, none⟩ = some (.int .i64 0) := by rw [cell_of_row w3 z 3 _ _ _ X2.1]; rfl
          clear X2 hb
          obtain ⟨tx, htx⟩ : ∃ t, t = s.extract i (i + n) := ⟨_, rfl⟩
          rw [← htx]
          have HTX := Lib.hid htx
          clear htx
          go_wp2_with fail
          have hf := four_set X3.out.1 (.int .i64 k) (.int .i64 v) (.string tx) (.int .i64 i)
          refine bodyPost_ret (v := tokV k v tx i) (by rw [results_one_cell rfl]; simp [asAddr, load39 hf]) rfl ?_
          rw [← HCR.out]
          have X4 := X3.out.2
          rw [← HTX.out] at X4
          exact ⟨by rw [HTX.out]; try rfl, X4⟩
      | false =>
        have HSM := Lib.hid hsm
        clear hsm
        go_wp2_with fail
        refine (great_any _ c).mono ?_
        rintro e w2 ⟨rfl, rfl⟩
        cases hgr : LX.great c with
        | true =>
          have HGR := Lib.hid hgr
          clear hgr
          go_wp2_with fail
          have NB := name_any (SCW.out (W0.drewN q1) B0.out) (HWW.out q1) HB.out 3 (by decide) HI.out
          refine NB.mono ?_
          clear NB
          intro e w3 hp
          obtain ⟨cr, hcr⟩ : ∃ cr, cr = r := ⟨_, rfl⟩
          have HP0 : TPost (W0.drewN (q1)) s i cr e w3 := by
            rw [hcr, HR.out, HDN.out, HSM.out, HGR.out, if_neg Bool.false_ne_true, if_neg Bool.false_ne_true, if_pos rfl]
            exact hp
          have HCR := Lib.hid hcr
          clear hp hcr
          cases cr with
          | bad er =>
            obtain ⟨rfl, hb⟩ := HP0
            unfold thrown
            have X1 := Lib.hid hb
            clear hb
            go_wp2_with fail
            refine ⟨rfl, ?_⟩
            rw [← HCR.out]
            exact ⟨rfl, B2.out.trans ((below_of_drew X1.out).mono B2.out.size)⟩
          | tok k v n =>
            obtain ⟨rfl, hb⟩ := HP0
            unfold tokV
            have X2 := END.out w3 w3 _ k v (s.extract i (i + n)) hb
            have X1 := Lib.hid hb
            have X3 := Lib.hid X2
            have yf : ∀ q, w3.frozen? ⟨z, q, none⟩ = false := fun q => frozen_of_row w3 z q _ _ X2.1
            have y0 : w3.cell? ⟨z, 0, none⟩ = some (.int .i64 0) := by rw [cell_of_row w3 z 0 _ _ _ X2.1]; rfl
            have y1 : w3.cell? ⟨z, 1, none⟩ = some (.int .i64 0) := by rw [cell_of_row w3 z 1 _ _ _ X2.1]; rfl
            have y2 : w3.cell? ⟨z, 2, none⟩ = some (.string ⟨#[]⟩) := by rw [cell_of_row w3 z 2 _ _ _ X2.1]; rfl
            have y3 : w3.cell? ⟨z, 3, none⟩ = some (.int .i64 0) := by rw [cell_of_row w3 z 3 _ _ _ X2.1]; rfl
            clear X2 hb
            obtain ⟨tx, htx⟩ : ∃ t, t = s.extract i (i + n) := ⟨_, rfl⟩
            rw [← htx]
            have HTX := Lib.hid htx
            clear htx
            go_wp2_with fail
            have hf := four_set X3.out.1 (.int .i64 k) (.int .i64 v) (.string tx) (.int .i64 i)
            refine bodyPost_ret (v := tokV k v tx i) (by rw [results_one_cell rfl]; simp [asAddr, load39 hf]) rfl ?_
            rw [← HCR.out]
            have X4 := X3.out.2
            rw [← HTX.out] at X4
            exact ⟨by rw [HTX.out]; try rfl, X4⟩
        | false =>
          have HGR := Lib.hid hgr
          clear hgr
          have HR2 : Hid (r = if c = 39 ∧ LX.small d then LX.made 4 (1 + LX.run LX.part ((bts s).drop (i + 1)))
              else if [61, 62].isPrefixOf ((bts s).drop i) = true ∨ [45, 62].isPrefixOf ((bts s).drop i) = true then .tok 6 0 2
              else if LX.signs.contains c then .tok 6 0 1
              else .bad 11) := by
            show _ = _
            rw [HR.out, HDN.out, HSM.out, HGR.out, if_neg Bool.false_ne_true, if_neg Bool.false_ne_true, if_neg Bool.false_ne_true]
          by_cases hc39 : c = 39
          · have hz39 : (c : Int) = 39 := by omega
            have HC9 := Lib.hid hc39
            clear hc39
            go_wp2_with fail
            refine (peek_any (ATW.out (W0.drewN q1) B0.out) 1 (by decide)).mono ?_
            rintro e w3 ⟨rfl, q2, rfl⟩
            rw [← HD.out]
            go_wp2_with fail
            refine (small_any _ d).mono ?_
            rintro e w3 ⟨rfl, rfl⟩
            cases hsd : LX.small d with
            | true =>
              have HSD := Lib.hid hsd
              clear hsd
              go_wp2_with fail
              have RP := run_part (ATW.out (W0.drewN (q1 + q2)) B0.out) 1 (by decide)
              obtain ⟨rp, hrp⟩ : ∃ rp, rp = LX.run LX.part ((bts s).drop (i + 1)) := ⟨_, rfl⟩
              have hle : i + (1 + rp) ≤ s.size := by
                have := run_le LX.part ((bts s).drop (i + 1))
                have := HI.out
                rw [List.length_drop, bts_length, ← hrp] at *
                omega
              have hsz : rp ≤ 400000 := by have := (SCW.out w rfl).2.2; omega
              rw [← hrp] at RP
              have HRP := Lib.hid hrp
              have HLE := Lib.hid hle
              clear hrp hle
              refine RP.mono ?_
              clear RP
              rintro e w3 ⟨rfl, q3, rfl⟩
              go_wp2_with fail
              have MD := made_any (SCW.out (W0.drewN (q1 + q2 + q3)) B0.out) 4 (1 + rp) HLE.out
              rw [show ((1 + rp : Nat) : Int) = 1 + (rp : Int) from by push_cast; rfl] at MD
              have NB := MD
              refine NB.mono ?_
              clear NB
              intro e w3 hp
              obtain ⟨cr, hcr⟩ : ∃ cr, cr = r := ⟨_, rfl⟩
              have HP0 : TPost (W0.drewN (q1 + q2 + q3)) s i cr e w3 := by
                rw [hcr, HR2.out, HC9.out, if_pos ⟨rfl, HSD.out⟩, ← HRP.out]
                exact made_tpost (k := 4) hp
              have HCR := Lib.hid hcr
              clear hp hcr
              cases cr with
              | bad er =>
                obtain ⟨rfl, hb⟩ := HP0
                unfold thrown
                have X1 := Lib.hid hb
                clear hb
                go_wp2_with fail
                refine ⟨rfl, ?_⟩
                rw [← HCR.out]
                exact ⟨rfl, B2.out.trans ((below_of_drew X1.out).mono B2.out.size)⟩
              | tok k v n =>
                obtain ⟨rfl, hb⟩ := HP0
                unfold tokV
                have X2 := END.out w3 w3 _ k v (s.extract i (i + n)) hb
                have X1 := Lib.hid hb
                have X3 := Lib.hid X2
                have yf : ∀ q, w3.frozen? ⟨z, q, none⟩ = false := fun q => frozen_of_row w3 z q _ _ X2.1
                have y0 : w3.cell? ⟨z, 0, none⟩ = some (.int .i64 0) := by rw [cell_of_row w3 z 0 _ _ _ X2.1]; rfl
                have y1 : w3.cell? ⟨z, 1, none⟩ = some (.int .i64 0) := by rw [cell_of_row w3 z 1 _ _ _ X2.1]; rfl
                have y2 : w3.cell? ⟨z, 2, none⟩ = some (.string ⟨#[]⟩) := by rw [cell_of_row w3 z 2 _ _ _ X2.1]; rfl
                have y3 : w3.cell? ⟨z, 3, none⟩ = some (.int .i64 0) := by rw [cell_of_row w3 z 3 _ _ _ X2.1]; rfl
                clear X2 hb
                obtain ⟨tx, htx⟩ : ∃ t, t = s.extract i (i + n) := ⟨_, rfl⟩
                rw [← htx]
                have HTX := Lib.hid htx
                clear htx
                go_wp2_with fail
                have hf := four_set X3.out.1 (.int .i64 k) (.int .i64 v) (.string tx) (.int .i64 i)
                refine bodyPost_ret (v := tokV k v tx i) (by rw [results_one_cell rfl]; simp [asAddr, load39 hf]) rfl ?_
                rw [← HCR.out]
                have X4 := X3.out.2
                rw [← HTX.out] at X4
                exact ⟨by rw [HTX.out]; try rfl, X4⟩
            | false =>
              have HR3 : Hid (r = if [61, 62].isPrefixOf ((bts s).drop i) = true ∨ [45, 62].isPrefixOf ((bts s).drop i) = true then .tok 6 0 2
                        else if LX.signs.contains c then .tok 6 0 1
                        else .bad 11) := by
                show _ = _
                rw [HR2.out, if_neg (by rw [hsd]; simp)]
              clear hsd
              go_wp2_with fail
              refine (starts_any (ATW.out (W0.drewN (q1 + q2)) B0.out) ⟨#[61, 62]⟩).mono ?_
              rintro e w3 ⟨rfl, q4, rfl⟩
              rw [show bts ⟨#[61, 62]⟩ = [61, 62] from rfl]
              cases h61 : [61, 62].isPrefixOf ((bts s).drop i) with
              | true =>
                have H61 := Lib.hid h61
                have HLE : Hid (i + 2 ≤ s.size) := by
                  have := prefix2_length h61
                  rw [List.length_drop, bts_length] at this
                  show _ ≤ _
                  omega
                clear h61
                go_wp2_with fail
                have NB := made_any (SCW.out (W0.drewN (q1 + q2 + q4)) B0.out) 6 2 HLE.out
                refine NB.mono ?_
                clear NB
                intro e w3 hp
                obtain ⟨cr, hcr⟩ : ∃ cr, cr = r := ⟨_, rfl⟩
                have HP0 : TPost (W0.drewN (q1 + q2 + q4)) s i cr e w3 := by
                  rw [hcr, HR3.out, if_pos (.inl H61.out)]
                  exact made_tpost (k := 6) (n := 2) hp
                have HCR := Lib.hid hcr
                clear hp hcr
                cases cr with
                | bad er =>
                  obtain ⟨rfl, hb⟩ := HP0
                  unfold thrown
                  have X1 := Lib.hid hb
                  clear hb
                  go_wp2_with fail
                  refine ⟨rfl, ?_⟩
                  rw [← HCR.out]
                  exact ⟨rfl, B2.out.trans ((below_of_drew X1.out).mono B2.out.size)⟩
                | tok k v n =>
                  obtain ⟨rfl, hb⟩ := HP0
                  unfold tokV
                  have X2 := END.out w3 w3 _ k v (s.extract i (i + n)) hb
                  have X1 := Lib.hid hb
                  have X3 := Lib.hid X2
                  have yf : ∀ q, w3.frozen? ⟨z, q, none⟩ = false := fun q => frozen_of_row w3 z q _ _ X2.1
                  have y0 : w3.cell? ⟨z, 0, none⟩ = some (.int .i64 0) := by rw [cell_of_row w3 z 0 _ _ _ X2.1]; rfl
                  have y1 : w3.cell? ⟨z, 1, none⟩ = some (.int .i64 0) := by rw [cell_of_row w3 z 1 _ _ _ X2.1]; rfl
                  have y2 : w3.cell? ⟨z, 2, none⟩ = some (.string ⟨#[]⟩) := by rw [cell_of_row w3 z 2 _ _ _ X2.1]; rfl
                  have y3 : w3.cell? ⟨z, 3, none⟩ = some (.int .i64 0) := by rw [cell_of_row w3 z 3 _ _ _ X2.1]; rfl
                  clear X2 hb
                  obtain ⟨tx, htx⟩ : ∃ t, t = s.extract i (i + n) := ⟨_, rfl⟩
                  rw [← htx]
                  have HTX := Lib.hid htx
                  clear htx
                  go_wp2_with fail
                  have hf := four_set X3.out.1 (.int .i64 k) (.int .i64 v) (.string tx) (.int .i64 i)
                  refine bodyPost_ret (v := tokV k v tx i) (by rw [results_one_cell rfl]; simp [asAddr, load39 hf]) rfl ?_
                  rw [← HCR.out]
                  have X4 := X3.out.2
                  rw [← HTX.out] at X4
                  exact ⟨by rw [HTX.out]; try rfl, X4⟩
              | false =>
                have H61 := Lib.hid h61
                clear h61
                go_wp2_with fail
                refine (starts_any (ATW.out (W0.drewN (q1 + q2 + q4)) B0.out) ⟨#[45, 62]⟩).mono ?_
                rintro e w3 ⟨rfl, q5, rfl⟩
                rw [show bts ⟨#[45, 62]⟩ = [45, 62] from rfl]
                cases h45 : [45, 62].isPrefixOf ((bts s).drop i) with
                | true =>
                  have H45 := Lib.hid h45
                  have HLE : Hid (i + 2 ≤ s.size) := by
                    have := prefix2_length h45
                    rw [List.length_drop, bts_length] at this
                    show _ ≤ _
                    omega
                  clear h45
                  go_wp2_with fail
                  have NB := made_any (SCW.out (W0.drewN (q1 + q2 + q4 + q5)) B0.out) 6 2 HLE.out
                  refine NB.mono ?_
                  clear NB
                  intro e w3 hp
                  obtain ⟨cr, hcr⟩ : ∃ cr, cr = r := ⟨_, rfl⟩
                  have HP0 : TPost (W0.drewN (q1 + q2 + q4 + q5)) s i cr e w3 := by
                    rw [hcr, HR3.out, if_pos (.inr H45.out)]
                    exact made_tpost (k := 6) (n := 2) hp
                  have HCR := Lib.hid hcr
                  clear hp hcr
                  cases cr with
                  | bad er =>
                    obtain ⟨rfl, hb⟩ := HP0
                    unfold thrown
                    have X1 := Lib.hid hb
                    clear hb
                    go_wp2_with fail
                    refine ⟨rfl, ?_⟩
                    rw [← HCR.out]
                    exact ⟨rfl, B2.out.trans ((below_of_drew X1.out).mono B2.out.size)⟩
                  | tok k v n =>
                    obtain ⟨rfl, hb⟩ := HP0
                    unfold tokV
                    have X2 := END.out w3 w3 _ k v (s.extract i (i + n)) hb
                    have X1 := Lib.hid hb
                    have X3 := Lib.hid X2
                    have yf : ∀ q, w3.frozen? ⟨z, q, none⟩ = false := fun q => frozen_of_row w3 z q _ _ X2.1
                    have y0 : w3.cell? ⟨z, 0, none⟩ = some (.int .i64 0) := by rw [cell_of_row w3 z 0 _ _ _ X2.1]; rfl
                    have y1 : w3.cell? ⟨z, 1, none⟩ = some (.int .i64 0) := by rw [cell_of_row w3 z 1 _ _ _ X2.1]; rfl
                    have y2 : w3.cell? ⟨z, 2, none⟩ = some (.string ⟨#[]⟩) := by rw [cell_of_row w3 z 2 _ _ _ X2.1]; rfl
                    have y3 : w3.cell? ⟨z, 3, none⟩ = some (.int .i64 0) := by rw [cell_of_row w3 z 3 _ _ _ X2.1]; rfl
                    clear X2 hb
                    obtain ⟨tx, htx⟩ : ∃ t, t = s.extract i (i + n) := ⟨_, rfl⟩
                    rw [← htx]
                    have HTX := Lib.hid htx
                    clear htx
                    go_wp2_with fail
                    have hf := four_set X3.out.1 (.int .i64 k) (.int .i64 v) (.string tx) (.int .i64 i)
                    refine bodyPost_ret (v := tokV k v tx i) (by rw [results_one_cell rfl]; simp [asAddr, load39 hf]) rfl ?_
                    rw [← HCR.out]
                    have X4 := X3.out.2
                    rw [← HTX.out] at X4
                    exact ⟨by rw [HTX.out]; try rfl, X4⟩
                | false =>
                  have HR4 : Hid (r = if LX.signs.contains c then .tok 6 0 1 else .bad 11) := by
                    show _ = _
                    rw [HR3.out, if_neg (by rw [H61.out, h45]; simp)]
                  clear h45
                  go_wp2_with fail
                  have SB := Tryz.strings_IndexByte signB c (W0.drewN (q1 + q2 + q4 + q5))
                  have hsg := signs_eq c HCB.out
                  rw [hz39] at SB hsg
                  refine SB.mono ?_
                  clear SB
                  rintro e w3 ⟨rfl, rfl⟩
                  obtain ⟨x, hx⟩ : ∃ x, x = Lib.indexByte signB.data.toList (39 : Int).toNat.toUInt8 := ⟨_, rfl⟩
                  rw [← hx] at hsg ⊢
                  clear hx
                  cases hct : LX.signs.contains c with
                  | true =>
                    rw [hct] at hsg
                    have hx0 : 0 ≤ x := of_decide_eq_true hsg
                    have HCT := Lib.hid hct
                    clear hct hsg
                    go_wp2_with fail
                    have NB := made_any (SCW.out (W0.drewN (q1 + q2 + q4 + q5)) B0.out) 6 1 HI.out
                    refine NB.mono ?_
                    clear NB
                    intro e w3 hp
                    obtain ⟨cr, hcr⟩ : ∃ cr, cr = r := ⟨_, rfl⟩
                    have HP0 : TPost (W0.drewN (q1 + q2 + q4 + q5)) s i cr e w3 := by
                      rw [hcr, HR4.out, if_pos HCT.out]
                      exact made_tpost (k := 6) (n := 1) hp
                    have HCR := Lib.hid hcr
                    clear hp hcr
                    cases cr with
                    | bad er =>
                      obtain ⟨rfl, hb⟩ := HP0
                      unfold thrown
                      have X1 := Lib.hid hb
                      clear hb
                      go_wp2_with fail
                      refine ⟨rfl, ?_⟩
                      rw [← HCR.out]
                      exact ⟨rfl, B2.out.trans ((below_of_drew X1.out).mono B2.out.size)⟩
                    | tok k v n =>
                      obtain ⟨rfl, hb⟩ := HP0
                      unfold tokV
                      have X2 := END.out w3 w3 _ k v (s.extract i (i + n)) hb
                      have X1 := Lib.hid hb
                      have X3 := Lib.hid X2
                      have yf : ∀ q, w3.frozen? ⟨z, q, none⟩ = false := fun q => frozen_of_row w3 z q _ _ X2.1
                      have y0 : w3.cell? ⟨z, 0, none⟩ = some (.int .i64 0) := by rw [cell_of_row w3 z 0 _ _ _ X2.1]; rfl
                      have y1 : w3.cell? ⟨z, 1, none⟩ = some (.int .i64 0) := by rw [cell_of_row w3 z 1 _ _ _ X2.1]; rfl
                      have y2 : w3.cell? ⟨z, 2, none⟩ = some (.string ⟨#[]⟩) := by rw [cell_of_row w3 z 2 _ _ _ X2.1]; rfl
                      have y3 : w3.cell? ⟨z, 3, none⟩ = some (.int .i64 0) := by rw [cell_of_row w3 z 3 _ _ _ X2.1]; rfl
                      clear X2 hb
                      obtain ⟨tx, htx⟩ : ∃ t, t = s.extract i (i + n) := ⟨_, rfl⟩
                      rw [← htx]
                      have HTX := Lib.hid htx
                      clear htx
                      go_wp2_with fail
                      have hf := four_set X3.out.1 (.int .i64 k) (.int .i64 v) (.string tx) (.int .i64 i)
                      refine bodyPost_ret (v := tokV k v tx i) (by rw [results_one_cell rfl]; simp [asAddr, load39 hf]) rfl ?_
                      rw [← HCR.out]
                      have X4 := X3.out.2
                      rw [← HTX.out] at X4
                      exact ⟨by rw [HTX.out]; try rfl, X4⟩
                  | false =>
                    rw [hct] at hsg
                    have hx0 : ¬ 0 ≤ x := of_decide_eq_false hsg
                    have HCT := Lib.hid hct
                    obtain ⟨c0, c1, lt', -, -⟩ := ATW.out W0 B0.out
                    clear hct hsg
                    go_wp2_with fail
                    refine ⟨rfl, ?_⟩
                    rw [HR4.out, if_neg (by rw [HCT.out]; exact Bool.false_ne_true)]
                    exact ⟨rfl, below_drawn B2.out _⟩
          · have HR3 : Hid (r = if [61, 62].isPrefixOf ((bts s).drop i) = true ∨ [45, 62].isPrefixOf ((bts s).drop i) = true then .tok 6 0 2
                      else if LX.signs.contains c then .tok 6 0 1
                      else .bad 11) := by
              show _ = _
              rw [HR2.out, if_neg (by rintro ⟨h, -⟩; exact hc39 h)]
            have hz39 : ¬ (c : Int) = 39 := by omega
            clear hc39
            go_wp2_with fail
            refine (starts_any (ATW.out (W0.drewN (q1)) B0.out) ⟨#[61, 62]⟩).mono ?_
            rintro e w3 ⟨rfl, q4, rfl⟩
            rw [show bts ⟨#[61, 62]⟩ = [61, 62] from rfl]
            cases h61 : [61, 62].isPrefixOf ((bts s).drop i) with
            | true =>
              have H61 := Lib.hid h61
              have HLE : Hid (i + 2 ≤ s.size) := by
                have := prefix2_length h61
                rw [List.length_drop, bts_length] at this
                show _ ≤ _
                omega
              clear h61
              go_wp2_with fail
              have NB := made_any (SCW.out (W0.drewN (q1 + q4)) B0.out) 6 2 HLE.out
              refine NB.mono ?_
              clear NB
              intro e w3 hp
              obtain ⟨cr, hcr⟩ : ∃ cr, cr = r := ⟨_, rfl⟩
              have HP0 : TPost (W0.drewN (q1 + q4)) s i cr e w3 := by
                rw [hcr, HR3.out, if_pos (.inl H61.out)]
                exact made_tpost (k := 6) (n := 2) hp
              have HCR := Lib.hid hcr
              clear hp hcr
              cases cr with
              | bad er =>
                obtain ⟨rfl, hb⟩ := HP0
                unfold thrown
                have X1 := Lib.hid hb
                clear hb
                go_wp2_with fail
                refine ⟨rfl, ?_⟩
                rw [← HCR.out]
                exact ⟨rfl, B2.out.trans ((below_of_drew X1.out).mono B2.out.size)⟩
              | tok k v n =>
                obtain ⟨rfl, hb⟩ := HP0
                unfold tokV
                have X2 := END.out w3 w3 _ k v (s.extract i (i + n)) hb
                have X1 := Lib.hid hb
                have X3 := Lib.hid X2
                have yf : ∀ q, w3.frozen? ⟨z, q, none⟩ = false := fun q => frozen_of_row w3 z q _ _ X2.1
                have y0 : w3.cell? ⟨z, 0, none⟩ = some (.int .i64 0) := by rw [cell_of_row w3 z 0 _ _ _ X2.1]; rfl
                have y1 : w3.cell? ⟨z, 1, none⟩ = some (.int .i64 0) := by rw [cell_of_row w3 z 1 _ _ _ X2.1]; rfl
                have y2 : w3.cell? ⟨z, 2, none⟩ = some (.string ⟨#[]⟩) := by rw [cell_of_row w3 z 2 _ _ _ X2.1]; rfl
                have y3 : w3.cell? ⟨z, 3, none⟩ = some (.int .i64 0) := by rw [cell_of_row w3 z 3 _ _ _ X2.1]; rfl
                clear X2 hb
                obtain ⟨tx, htx⟩ : ∃ t, t = s.extract i (i + n) := ⟨_, rfl⟩
                rw [← htx]
                have HTX := Lib.hid htx
                clear htx
                go_wp2_with fail
                have hf := four_set X3.out.1 (.int .i64 k) (.int .i64 v) (.string tx) (.int .i64 i)
                refine bodyPost_ret (v := tokV k v tx i) (by rw [results_one_cell rfl]; simp [asAddr, load39 hf]) rfl ?_
                rw [← HCR.out]
                have X4 := X3.out.2
                rw [← HTX.out] at X4
                exact ⟨by rw [HTX.out]; try rfl, X4⟩
            | false =>
              have H61 := Lib.hid h61
              clear h61
              go_wp2_with fail
              refine (starts_any (ATW.out (W0.drewN (q1 + q4)) B0.out) ⟨#[45, 62]⟩).mono ?_
              rintro e w3 ⟨rfl, q5, rfl⟩
              rw [show bts ⟨#[45, 62]⟩ = [45, 62] from rfl]
              cases h45 : [45, 62].isPrefixOf ((bts s).drop i) with
              | true =>
                have H45 := Lib.hid h45
                have HLE : Hid (i + 2 ≤ s.size) := by
                  have := prefix2_length h45
                  rw [List.length_drop, bts_length] at this
                  show _ ≤ _
                  omega
                clear h45
                go_wp2_with fail
                have NB := made_any (SCW.out (W0.drewN (q1 + q4 + q5)) B0.out) 6 2 HLE.out
                refine NB.mono ?_
                clear NB
                intro e w3 hp
                obtain ⟨cr, hcr⟩ : ∃ cr, cr = r := ⟨_, rfl⟩
                have HP0 : TPost (W0.drewN (q1 + q4 + q5)) s i cr e w3 := by
                  rw [hcr, HR3.out, if_pos (.inr H45.out)]
                  exact made_tpost (k := 6) (n := 2) hp
                have HCR := Lib.hid hcr
                clear hp hcr
                cases cr with
                | bad er =>
                  obtain ⟨rfl, hb⟩ := HP0
                  unfold thrown
                  have X1 := Lib.hid hb
                  clear hb
                  go_wp2_with fail
                  refine ⟨rfl, ?_⟩
                  rw [← HCR.out]
                  exact ⟨rfl, B2.out.trans ((below_of_drew X1.out).mono B2.out.size)⟩
                | tok k v n =>
                  obtain ⟨rfl, hb⟩ := HP0
                  unfold tokV
                  have X2 := END.out w3 w3 _ k v (s.extract i (i + n)) hb
                  have X1 := Lib.hid hb
                  have X3 := Lib.hid X2
                  have yf : ∀ q, w3.frozen? ⟨z, q, none⟩ = false := fun q => frozen_of_row w3 z q _ _ X2.1
                  have y0 : w3.cell? ⟨z, 0, none⟩ = some (.int .i64 0) := by rw [cell_of_row w3 z 0 _ _ _ X2.1]; rfl
                  have y1 : w3.cell? ⟨z, 1, none⟩ = some (.int .i64 0) := by rw [cell_of_row w3 z 1 _ _ _ X2.1]; rfl
                  have y2 : w3.cell? ⟨z, 2, none⟩ = some (.string ⟨#[]⟩) := by rw [cell_of_row w3 z 2 _ _ _ X2.1]; rfl
                  have y3 : w3.cell? ⟨z, 3, none⟩ = some (.int .i64 0) := by rw [cell_of_row w3 z 3 _ _ _ X2.1]; rfl
                  clear X2 hb
                  obtain ⟨tx, htx⟩ : ∃ t, t = s.extract i (i + n) := ⟨_, rfl⟩
                  rw [← htx]
                  have HTX := Lib.hid htx
                  clear htx
                  go_wp2_with fail
                  have hf := four_set X3.out.1 (.int .i64 k) (.int .i64 v) (.string tx) (.int .i64 i)
                  refine bodyPost_ret (v := tokV k v tx i) (by rw [results_one_cell rfl]; simp [asAddr, load39 hf]) rfl ?_
                  rw [← HCR.out]
                  have X4 := X3.out.2
                  rw [← HTX.out] at X4
                  exact ⟨by rw [HTX.out]; try rfl, X4⟩
              | false =>
                have HR4 : Hid (r = if LX.signs.contains c then .tok 6 0 1 else .bad 11) := by
                  show _ = _
                  rw [HR3.out, if_neg (by rw [H61.out, h45]; simp)]
                clear h45
                go_wp2_with fail
                have SB := Tryz.strings_IndexByte signB c (W0.drewN (q1 + q4 + q5))
                have hsg := signs_eq c HCB.out
                refine SB.mono ?_
                clear SB
                rintro e w3 ⟨rfl, rfl⟩
                obtain ⟨x, hx⟩ : ∃ x, x = Lib.indexByte signB.data.toList ((c : Int) : Int).toNat.toUInt8 := ⟨_, rfl⟩
                rw [← hx] at hsg ⊢
                clear hx
                cases hct : LX.signs.contains c with
                | true =>
                  rw [hct] at hsg
                  have hx0 : 0 ≤ x := of_decide_eq_true hsg
                  have HCT := Lib.hid hct
                  clear hct hsg
                  go_wp2_with fail
                  have NB := made_any (SCW.out (W0.drewN (q1 + q4 + q5)) B0.out) 6 1 HI.out
                  refine NB.mono ?_
                  clear NB
                  intro e w3 hp
                  obtain ⟨cr, hcr⟩ : ∃ cr, cr = r := ⟨_, rfl⟩
                  have HP0 : TPost (W0.drewN (q1 + q4 + q5)) s i cr e w3 := by
                    rw [hcr, HR4.out, if_pos HCT.out]
                    exact made_tpost (k := 6) (n := 1) hp
                  have HCR := Lib.hid hcr
                  clear hp hcr
                  cases cr with
                  | bad er =>
                    obtain ⟨rfl, hb⟩ := HP0
                    unfold thrown
                    have X1 := Lib.hid hb
                    clear hb
                    go_wp2_with fail
                    refine ⟨rfl, ?_⟩
                    rw [← HCR.out]
                    exact ⟨rfl, B2.out.trans ((below_of_drew X1.out).mono B2.out.size)⟩
                  | tok k v n =>
                    obtain ⟨rfl, hb⟩ := HP0
                    unfold tokV
                    have X2 := END.out w3 w3 _ k v (s.extract i (i + n)) hb
                    have X1 := Lib.hid hb
                    have X3 := Lib.hid X2
                    have yf : ∀ q, w3.frozen? ⟨z, q, none⟩ = false := fun q => frozen_of_row w3 z q _ _ X2.1
                    have y0 : w3.cell? ⟨z, 0, none⟩ = some (.int .i64 0) := by rw [cell_of_row w3 z 0 _ _ _ X2.1]; rfl
                    have y1 : w3.cell? ⟨z, 1, none⟩ = some (.int .i64 0) := by rw [cell_of_row w3 z 1 _ _ _ X2.1]; rfl
                    have y2 : w3.cell? ⟨z, 2, none⟩ = some (.string ⟨#[]⟩) := by rw [cell_of_row w3 z 2 _ _ _ X2.1]; rfl
                    have y3 : w3.cell? ⟨z, 3, none⟩ = some (.int .i64 0) := by rw [cell_of_row w3 z 3 _ _ _ X2.1]; rfl
                    clear X2 hb
                    obtain ⟨tx, htx⟩ : ∃ t, t = s.extract i (i + n) := ⟨_, rfl⟩
                    rw [← htx]
                    have HTX := Lib.hid htx
                    clear htx
                    go_wp2_with fail
                    have hf := four_set X3.out.1 (.int .i64 k) (.int .i64 v) (.string tx) (.int .i64 i)
                    refine bodyPost_ret (v := tokV k v tx i) (by rw [results_one_cell rfl]; simp [asAddr, load39 hf]) rfl ?_
                    rw [← HCR.out]
                    have X4 := X3.out.2
                    rw [← HTX.out] at X4
                    exact ⟨by rw [HTX.out]; try rfl, X4⟩
                | false =>
                  rw [hct] at hsg
                  have hx0 : ¬ 0 ≤ x := of_decide_eq_false hsg
                  have HCT := Lib.hid hct
                  obtain ⟨c0, c1, lt', -, -⟩ := ATW.out W0 B0.out
                  clear hct hsg
                  go_wp2_with fail
                  refine ⟨rfl, ?_⟩
                  rw [HR4.out, if_neg (by rw [HCT.out]; exact Bool.false_ne_true)]
                  exact ⟨rfl, below_drawn B2.out _⟩
end Go.Proofs.YtnkahlloahgifaaGreatDoor.Lx

namespace Go.Proofs.YtnkahlloahgifaaGreatDoor.Lx
namespace LX
theorem run_le (p:Nat→Bool) (l:List Nat):run p l≤l.length:=by
 induction l with
 | nil=>exact Nat.le_refl _
 | cons c t ih =>
  rw [run]
  split
  ·simp only [List.length_cons];omega
  ·exact Nat.zero_le _
theorem num_nil:num []=none:=by decide
theorem made_ok {k n k' n':Nat}{v:Int}(h:made k n = .tok k' v n'):n'=n∧k'=k∧v=0∧n≤24:=by
 unfold made at h
 split at h
 ·cases h
 ·cases h;exact⟨rfl,rfl,rfl,by omega⟩
theorem nameLen_le (l:List Nat):nameLen l≤l.length:=by
 unfold nameLen
 have h1:=run_le part l
 simp only []
 split
 ·exact h1
 ·rename_i c t hc
  have h2:=run_le digit t
  have h3:(l.drop (run part l)).length=(c :: t).length:=by rw [hc]
  simp only [List.length_drop,List.length_cons] at h3
  split<;>omega
theorem nameLen_ge (l:List Nat):run part l≤nameLen l:=by
 unfold nameLen
 simp only []
 split
 ·exact Nat.le_refl _
 ·split<;>omega
theorem part_small {c:Nat}(h:small c=true):part c=true:=by simp [part,h]
theorem part_great {c:Nat}(h:great c=true):part c=true:=by simp [part,h]
theorem run_pos {p:Nat→Bool}{c:Nat}{t:List Nat}(h:p c=true):0<run p (c :: t):=by
 rw [run,if_pos h];omega
theorem number_ok {l:List Nat}{n k m:Nat}{v:Int}(h:number l n = .tok k v m):k=1∧m=n+run digit (l.drop n)∧num (l.take m)=some v:=by
 unfold number at h
 simp only [] at h
 split at h
 ·cases h
 ·rename_i v' hv
  split at h
  ·cases h;exact⟨rfl,rfl,hv⟩
  ·split at h
   ·cases h
   ·cases h;exact⟨rfl,rfl,hv⟩
theorem named_ok {l:List Nat}{k k' m:Nat}{v:Int}(h:named k l = .tok k' v m):m=nameLen l∧v=0∧m≤24∧k'=if words.contains (l.take m) then 5 else k:=by
 unfold named at h
 cases hm:made k (nameLen l) with
 | bad e=>rw [hm] at h;cases h
 | tok a b c =>
  rw [hm] at h
  obtain⟨rfl,rfl,rfl,h24⟩:=made_ok hm
  simp only [TR.tok.injEq] at h
  obtain⟨h1,h2,h3⟩:=h
  subst h3
  exact⟨rfl,h2.symm,h24,h1.symm⟩
theorem token_len {l:List Nat}{k m:Nat}{v:Int}(h:token l = .tok k v m):0<m∧m≤l.length:=by
 cases l with
 | nil=>cases h
 | cons c t =>
  unfold token at h
  simp only [] at h
  split at h
  ·obtain⟨_,hm,hv⟩:=number_ok h
   refine⟨?_,?_⟩
   ·rcases Nat.eq_zero_or_pos m with h0 | h0
    ·subst h0;rw [List.take_zero,num_nil] at hv;cases hv
    ·exact h0
   ·rw [hm]
    have:=run_le digit ((c :: t).drop (if c=126 then 1 else 0))
    rw [List.length_drop] at this
    split at this<;>simp_all<;>omega
  ·split at h
   ·rename_i hs
    obtain⟨rfl,_⟩:=named_ok h
    exact⟨Nat.lt_of_lt_of_le (run_pos (part_small hs)) (nameLen_ge _),nameLen_le _⟩
   ·split at h
    ·rename_i hs
     obtain⟨rfl,_⟩:=named_ok h
     exact⟨Nat.lt_of_lt_of_le (run_pos (part_great hs)) (nameLen_ge _),nameLen_le _⟩
    ·split at h
     ·obtain⟨rfl,_⟩:=made_ok h
      have:=run_le part t
      simp only [List.length_cons]
      exact⟨by omega,by omega⟩
     ·split at h
      ·rename_i hs
       cases h
       cases t with
       | nil=>simp [head0] at hs
       | cons d t=>simp
      ·split at h
       ·cases h;simp
       ·cases h
def Res.app (ts:List Tok) (cs:List (Nat×Nat)):Res→Res
 | .ok l c => .ok (ts++l) (cs++c)
 | .bad p e => .bad p e
theorem Res.app_app (a b:List Tok) (c d:List (Nat×Nat)) (r:Res):(r.app b d).app a c=r.app (a++b) (c++d):=by
 cases r<;>simp [Res.app]
theorem Res.app_nil (r:Res):r.app [] []=r:=by cases r<;>rfl
theorem Res.tok_app (t:Tok) (r:Res):r.tok t=r.app [t] []:=by cases r<;>rfl
theorem Res.cmt_app (c:Nat×Nat) (r:Res):r.cmt c=r.app [] [c]:=by cases r<;>rfl
theorem scanN_fuel:∀ (f g:Nat) (l:List Nat) (p:Nat),l.length≤f→l.length≤g→scanN f l p=scanN g l p
 | f,g,[],p,_,_=>by cases f<;>cases g<;>rfl
 | 0,g,c :: t,p,hf,_=>by simp at hf
 | f+1,0,c :: t,p,_,hg=>by simp at hg
 | f+1,g+1,c :: t,p,hf,hg=>by
  simp only [List.length_cons] at hf hg
  rw [scanN,scanN]
  split
  ·exact scanN_fuel f g t (p+1) (by omega) (by omega)
  ·split
   ·cases hc:cmt (c :: t) 0 0 with
    | fin n =>
     have h0:=cmt_fin hc
     simp only []
     rw [scanN_fuel f g ((c :: t).drop n) (p+n) (by simp only [List.length_drop,List.length_cons];omega) (by simp only [List.length_drop,List.length_cons];omega)]
    | deep n=>rfl
    | never=>rfl
   ·cases hc:token (c :: t) with
    | tok k v n =>
     have h0:=(token_len hc).1
     simp only []
     rw [scanN_fuel f g ((c :: t).drop n) (p+n) (by simp only [List.length_drop,List.length_cons];omega) (by simp only [List.length_drop,List.length_cons];omega)]
    | bad e=>rfl
def sc (T:List Nat) (j:Nat):Res:=scanN T.length (T.drop j) j
theorem scan_sc (T:List Nat):scan T=sc T 0:=rfl
theorem sc_end {T:List Nat}{j:Nat}(h:T.length≤j):sc T j = .ok [] []:=by
 unfold sc
 rw [List.drop_of_length_le h]
 cases T.length<;>rfl
theorem drop_get {T:List Nat}{j:Nat}(h:j<T.length):T.drop j=T.getD j 0 :: T.drop (j+1):=by
 rw [List.drop_eq_getElem_cons h,List.getD_eq_getElem?_getD,List.getElem?_eq_getElem h];rfl
theorem sc_step {T:List Nat}{j:Nat}(h:j<T.length):sc T j =
  if space (T.getD j 0) then sc T (j+1)
  else if opens (T.drop j) then
   match cmt (T.drop j) 0 0 with
   | .fin n=>(sc T (j+n)).app [] [(j,j+n)]
   | .deep n => .bad (j+n) 6
   | .never => .bad j 12
  else
   match token (T.drop j) with
   | .tok k v n=>(sc T (j+n)).app [⟨k,v,(T.drop j).take n,j⟩] []
   | .bad e => .bad j e:=by
 obtain⟨f,hf⟩:∃ f,T.length=f+1:=⟨T.length - 1,by omega⟩
 have hs:∀ n,0<n→scanN f ((T.drop j).drop n) (j+n)=sc T (j+n):=fun n hn=>by
  unfold sc
  rw [List.drop_drop]
  exact scanN_fuel _ _ _ _ (by rw [List.length_drop];omega) (by rw [List.length_drop];omega)
 have h1:scanN f (T.drop (j+1)) (j+1)=sc T (j+1):=by rw [← hs 1 (by omega),List.drop_drop]
 rw [← h1]
 conv=>lhs;unfold sc;rw [hf,drop_get h,scanN]
 rw [← drop_get h]
 split
 ·rfl
 ·split
  ·cases hc:cmt (T.drop j) 0 0 with
   | fin n=>simp only [];rw [Res.cmt_app,hs n (by have:=cmt_fin hc;omega)]
   | deep n=>rfl
   | never=>rfl
  ·cases hc:token (T.drop j) with
   | tok k v n=>simp only [];rw [Res.tok_app,hs n (token_len hc).1]
   | bad e=>rfl
theorem run_step {p:Nat→Bool}{T:List Nat}{j:Nat}(h:j<T.length):run p (T.drop j)=if p (T.getD j 0) then run p (T.drop (j+1))+1 else 0:=by
 rw [drop_get h,run]
theorem sc_spaces (T:List Nat):∀ (k j:Nat),run space (T.drop j)=k→sc T j=sc T (j+k)
 | 0,j,_=>rfl
 | k+1,j,hk=>by
  have hl:j<T.length:=by
   rcases Nat.lt_or_ge j T.length with h | h
   ·exact h
   ·rw [List.drop_of_length_le h] at hk;cases hk
  rw [run_step hl] at hk
  split at hk
  ·rename_i hs
   rw [sc_step hl,if_pos hs,sc_spaces T k (j+1) (by omega)]
   congr 1;omega
  ·cases hk
theorem run_stops (p:Nat→Bool) (T:List Nat):∀ (k j:Nat),run p (T.drop j)=k→j+k<T.length→p (T.getD (j+k) 0)=false
 | 0,j,hk,hl=>by
  rw [Nat.add_zero] at hl ⊢
  rw [run_step hl] at hk
  split at hk
  ·cases hk
  ·rename_i h;simpa using h
 | k+1,j,hk,hl=>by
  rw [run_step (by omega)] at hk
  split at hk
  ·have:=run_stops p T k (j+1) (by omega) (by omega)
   rw [show j+(k+1)=j+1+k from by omega];exact this
  ·cases hk
theorem cmt_le:∀ (l:List Nat) (d n m:Nat),cmt l d n = .fin m→m≤n+l.length
 | [],_,_,_,h=>by cases h
 | [_],_,_,_,h=>by cases h
 | a :: b :: t,d,n,m,h=>by
  rw [cmt] at h
  simp only [List.length_cons]
  split at h
  ·split at h
   ·cases h
   ·have:=cmt_le t _ _ _ h;omega
  ·split at h
   ·split at h
    ·cases h;omega
    ·have:=cmt_le t _ _ _ h;omega
   ·have:=cmt_le (b :: t) _ _ _ h
    simp only [List.length_cons] at this
    omega
theorem passN_abs (f : Nat) (T : List Nat) (j : Nat) : passN (f + 1) (T.drop j) j = if opens (T.drop (j + run space (T.drop j))) then
      match cmt (T.drop (j + run space (T.drop j))) 0 0 with
      | .fin n => (passN f (T.drop (j + run space (T.drop j) + n)) (j + run space (T.drop j) + n)).add [(j + run space (T.drop j), j + run space (T.drop j) + n)]
      | .deep n => .bad (j + run space (T.drop j) + n) 6
      | .never => .bad (j + run space (T.drop j)) 12
    else .to (j + run space (T.drop j)) [] := by
  rw [passN]
  simp only [List.drop_drop]
  by_cases h : opens (T.drop (j + run space (T.drop j))) = true
  · rw [if_pos h, if_pos h]
    cases cmt (T.drop (j + run space (T.drop j))) 0 0 <;> rfl
  · rw [if_neg h, if_neg h]
theorem opens_lt {T:List Nat}{j:Nat}(h:opens (T.drop j)=true):j<T.length∧space (T.getD j 0)=false:=by
 rcases Nat.lt_or_ge j T.length with hl | hl
 ·refine⟨hl,?_⟩
  rw [drop_get hl] at h
  generalize T.getD j 0=c at h
  by_cases e:c=40
  ·subst e;rfl
  ·exfalso
   unfold opens at h
   split at h
   ·rename_i heq;simp at heq;exact e heq.1
   ·cases h
 ·rw [List.drop_of_length_le hl] at h;cases h
theorem sc_pass (T:List Nat):∀ (f j:Nat),j≤T.length→T.length<f+j→(match passN f (T.drop j) j with
  | .bad q e=>sc T j = .bad q e
  | .to n cs=>sc T j=(sc T n).app [] cs∧j≤n∧n≤T.length∧cs.length+j≤n∧(n<T.length→space (T.getD n 0)=false∧opens (T.drop n)=false))
 | 0,j,hj,hf=>by omega
 | f+1,j,hj,hf=>by
  obtain⟨k,hk⟩:∃ k,k=run space (T.drop j):=⟨_,rfl⟩
  have hs:=sc_spaces T k j hk.symm
  have hkl:j+k≤T.length:=by
   have:=run_le space (T.drop j)
   rw [List.length_drop] at this
   omega
  rw [passN_abs,← hk,hs]
  cases ho:opens (T.drop (j+k)) with
  | false =>
   rw [if_neg (by decide)]
   exact⟨(Res.app_nil _).symm,by omega,hkl,by simp,fun hl=>⟨run_stops space T k j hk.symm hl,ho⟩⟩
  | true =>
   rw [if_pos rfl]
   obtain⟨hl,hsp⟩:=opens_lt ho
   have h1:=sc_step hl
   rw [hsp,if_neg (by decide),ho,if_pos rfl] at h1
   cases hc:cmt (T.drop (j+k)) 0 0 with
   | deep n=>rw [hc] at h1;exact h1
   | never=>rw [hc] at h1;exact h1
   | fin n =>
    rw [hc] at h1
    simp only [] at h1 ⊢
    have hn0:=cmt_fin hc
    have hn1:=cmt_le _ _ _ _ hc
    rw [List.length_drop] at hn1
    have ih:=sc_pass T f (j+k+n) (by omega) (by omega)
    rcases hp:passN f (T.drop (j+k+n)) (j+k+n) with ⟨m,cs⟩|⟨q,e⟩
    case bad =>
     rw [hp] at ih
     simp only [PR.add] at ih ⊢
     rw [h1,ih];rfl
    case «to» =>
     rw [hp] at ih
     simp only [PR.add] at ih ⊢
     obtain⟨i1,i2,i3,i4,i5⟩:=ih
     refine⟨?_,by omega,i3,by simp only [List.length_append,List.length_cons,List.length_nil];omega,i5⟩
     rw [h1,i1,Res.app_app]
     rfl
end LX
end Go.Proofs.YtnkahlloahgifaaGreatDoor.Lx

namespace Go.Proofs.YtnkahlloahgifaaGreatDoor.Lx
open Go.RowKit
structure Kt (n0:Nat) (w w':World):Prop where
 os:w'.os=w.os
 tape:w'.tape=w.tape
 output:w'.output=w.output
 size:w.heap.size≤w'.heap.size
 block:∀ k o,w.heap[k]?=some o→(k<n0∨((∀ c r,o ≠ .cells c 222 r)∧(∀ c r,o ≠ .cells c 228 r)))→w'.heap[k]?=some o
theorem Kt.refl (n0:Nat) (w:World):Kt n0 w w:=⟨rfl,rfl,rfl,Nat.le_refl _,fun _ _ h _=>h⟩
theorem Kt.trans {n0:Nat}{w w1 w2:World}(h:Kt n0 w w1) (k:Kt n0 w1 w2):Kt n0 w w2 :=
 ⟨k.os.trans h.os,k.tape.trans h.tape,k.output.trans h.output,Nat.le_trans h.size k.size,fun q o ho hq=>k.block q o (h.block q o ho hq) hq⟩
theorem Kt.drewN {n0:Nat}{w w':World}(h:Kt n0 w w') (m:Nat):Kt n0 w (w'.drewN m):=⟨h.os,h.tape,h.output,h.size,h.block⟩
theorem Kt.of_below {n0:Nat}{w w':World}(h:Below w.heap.size w w'):Kt n0 w w' :=
 ⟨h.os,h.tape,h.output,h.size,fun k o ho _=>(h.block k (Array.getElem?_eq_some_iff.1 ho).1).trans ho⟩
structure Kb (n0:Nat) (w w':World):Prop where
 os:w'.os=w.os
 tape:w'.tape=w.tape
 output:w'.output=w.output
 size:w.heap.size≤w'.heap.size
 block:∀ k o,w.heap[k]?=some o→(k<n0∨(∃ c,o = .cells c 222 (0,0))∨(∃ c,o = .cells c 228 (0,0))∨(∃ es cl,o = .map es cl)∨(∃ c,o = .cells c 200 (0,0)))→w'.heap[k]?=some o
theorem Kb.below {n0:Nat}{w w':World}(h:Kb n0 w w') (hn:n0≤w.heap.size):Below n0 w w' :=
 ⟨h.os,h.tape,h.output,h.size,fun k hk=>by
  have ho:w.heap[k]?=some w.heap[k]:=Array.getElem?_eq_getElem (by omega)
  rw [ho]
  exact h.block k _ ho (.inl hk)⟩
structure It (n0:Nat) (w:World) (b mb ib:Nat) (s:ByteArray) (i:Nat) (cv:Value) (cs:List (Nat×Nat)):Prop where
 sc:Sc w b s i mb cv
 cm:Cm w b cv cs
 hb:n0≤b
 hcv:∀ k,cv.ownBlock=some k→n0≤k
 wd:Wd w mb
 env:Env w
 hmb:mb≠b
 box:w.heap[ib]?=some (.cells #[.pointer (some ⟨b,0,none⟩)] 200 (0,0))
 n30:10≤n0
 n0w:n0≤w.heap.size
theorem Cm.blk {w:World}{b:Nat}{cv:Value}{cs:List (Nat×Nat)}(h:Cm w b cv cs) {k:Nat}(hk:cv.ownBlock=some k):∃ c,w.heap[k]?=some (.cells c 228 (0,0)):=by
 rcases h.row.2 with ⟨rfl,_⟩|⟨g,cap,cur,rfl,_,hg,_⟩
 ·simp [Value.ownBlock] at hk
 ·simp [Value.ownBlock] at hk;subst hk;exact⟨_,hg⟩
theorem Wd.keep {w w':World}{mb:Nat}(h:Wd w mb) (hk:∀ o,w.heap[mb]?=some o→(∃ es cl,o = .map es cl)→w'.heap[mb]?=some o):Wd w' mb:=by
 obtain⟨es,cl,h1,h2⟩:=h
 exact⟨es,cl,hk _ h1 ⟨_,_,rfl⟩,h2⟩
theorem Fr.kt {n0:Nat}{w w':World}{b mb i:Nat}{s:ByteArray}{cv cv':Value}{cs:List (Nat×Nat)}(h:Fr w w' b cv cv') (hs:Sc w b s i mb cv) (hc:Cm w b cv cs) (hb:n0≤b) (hcv:∀ k,cv.ownBlock=some k→n0≤k):Kt n0 w w':=by
 refine⟨h.os,h.tape,h.output,h.size,fun k o ho hk=>?_⟩
 refine(h.block k (Array.getElem?_eq_some_iff.1 ho).1 ?_ ?_).trans ho
 ·rintro rfl
  rcases hk with hk | ⟨hk,_⟩
  ·omega
  ·rw [hs.1] at ho
   simp only [Option.some.injEq] at ho
   exact hk _ _ ho.symm
 ·intro hk2
  rcases hk with hk | ⟨_,hk⟩
  ·have:=hcv k hk2;omega
  ·obtain⟨c,hc2⟩:=hc.blk hk2
   rw [hc2] at ho
   simp only [Option.some.injEq] at ho
   exact hk _ _ ho.symm
theorem Kt.below {n0:Nat}{w w':World}(h:Kt n0 w w') (hn:n0≤w.heap.size):Below n0 w w' :=
 ⟨h.os,h.tape,h.output,h.size,fun k hk=>by
  have ho:w.heap[k]?=some w.heap[k]:=Array.getElem?_eq_getElem (by omega)
  rw [ho]
  exact h.block k _ ho (.inl hk)⟩
theorem It.kt {n0:Nat}{w w':World}{b mb ib i i':Nat}{s:ByteArray}{cv cv':Value}{cs cs':List (Nat×Nat)}(h:It n0 w b mb ib s i cv cs) (k:Kt n0 w w') (hs:Sc w' b s i' mb cv') (hc:Cm w' b cv' cs') (hcv:∀ k,cv'.ownBlock=some k→n0≤k):It n0 w' b mb ib s i' cv' cs' :=
 ⟨hs,hc,h.hb,hcv,h.wd.keep (fun o ho he=>by obtain⟨es,cl,rfl⟩:=he;exact k.block mb _ ho (.inr ⟨nofun,nofun⟩)),
  h.env.keep (k.below h.n0w) h.n30,h.hmb,k.block ib _ h.box (.inr ⟨fun c r e=>by simp at e,fun c r e=>by simp at e⟩),h.n30,Nat.le_trans h.n0w k.size⟩
theorem It.fr {n0:Nat}{w w':World}{b mb ib i i':Nat}{s:ByteArray}{cv cv':Value}{cs cs':List (Nat×Nat)}(h:It n0 w b mb ib s i cv cs) (k:Fr w w' b cv cv') (hs:Sc w' b s i' mb cv') (hc:Cm w' b cv' cs'):It n0 w' b mb ib s i' cv' cs' :=
 h.kt (k.kt h.sc h.cm h.hb h.hcv) hs hc fun q hq=>by
  rcases k.own with e | ⟨p,e,hp⟩
  ·exact h.hcv q (e ▸ hq)
  ·rw [e] at hq;cases hq;exact Nat.le_trans h.n0w hp
theorem It.below {n0:Nat}{w w':World}{b mb ib i:Nat}{s:ByteArray}{cv:Value}{cs:List (Nat×Nat)}(h:It n0 w b mb ib s i cv cs) (k:Below w.heap.size w w'):It n0 w' b mb ib s i cv cs :=
 h.kt (Kt.of_below k) ⟨(k.block b (Array.getElem?_eq_some_iff.1 h.sc.1).1).trans h.sc.1,h.sc.2⟩ (h.cm.keep fun q hq _=>k.block q hq) h.hcv
theorem It.kb {n0:Nat}{w w':World}{b mb ib i:Nat}{s:ByteArray}{cv:Value}{cs:List (Nat×Nat)}(h:It n0 w b mb ib s i cv cs) (k:Kb n0 w w'):It n0 w' b mb ib s i cv cs :=
 ⟨⟨k.block b _ h.sc.1 (.inr (.inl ⟨_,rfl⟩)),h.sc.2⟩,h.cm.keep (fun q _ hq=>by obtain⟨c,hc⟩:=h.cm.blk hq;rw [hc];exact k.block q _ hc (.inr (.inr (.inl ⟨_,rfl⟩)))),h.hb,h.hcv,
  h.wd.keep fun o ho he=>k.block mb o ho (.inr (.inr (.inr (.inl he)))),h.env.keep (k.below h.n0w) h.n30,h.hmb,k.block ib _ h.box (.inr (.inr (.inr (.inr ⟨_,rfl⟩)))),h.n30,Nat.le_trans h.n0w k.size⟩
theorem It.drewN {n0:Nat}{w:World}{b mb ib i:Nat}{s:ByteArray}{cv:Value}{cs:List (Nat×Nat)}(h:It n0 w b mb ib s i cv cs) (m:Nat):It n0 (w.drewN m) b mb ib s i cv cs:=h.below (below_drawn (Below.refl _ _) m)
theorem It.adv {n0:Nat}{w w':World}{b mb ib i j:Nat}{s:ByteArray}{cv:Value}{cs:List (Nat×Nat)}(h:It n0 w b mb ib s i cv cs) (k:Mv w w' b j) (hj:j≤s.size):It n0 w' b mb ib s j cv cs∧Kt n0 w w':=by
 have f:=k.fr cv
 refine⟨h.fr f (h.sc.mv k hj) (h.cm.keep fun p hp hb=>k.block p fun e=>h.cm.ne (by rw [hb,e])),f.kt h.sc h.cm h.hb h.hcv⟩
end Go.Proofs.YtnkahlloahgifaaGreatDoor.Lx
