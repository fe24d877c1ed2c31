/- The reference's read at names and signs: walked. -/
import Derived.Test.YtfoijbcmjciihaaGreatDoorRe
set_option linter.unusedSimpArgs false
set_option linter.unusedVariables false
namespace Go.Proofs.YtfoijbcmjciihaaGreatDoor
open Go.RowKit

theorem words_small {l : List Nat} (h : LX.words.contains l = true) : LX.small (l.headD 0) = true := by
  have h1 : ∀ w ∈ LX.words, LX.small (w.headD 0) = true := by decide
  exact h1 l (by simpa using h)

theorem great_not_small {c : Nat} (h : LX.great c = true) : LX.small c = false := by
  unfold LX.great at h
  unfold LX.small
  simp at h ⊢
  omega

theorem not_digit {c : Nat} (h : LX.small c = true ∨ LX.great c = true) : LX.digit c = false ∧ c ≠ 126 ∧ c ≠ 39 := by
  unfold LX.small LX.great at h
  unfold LX.digit
  simp at h ⊢
  omega

theorem headD_take {l : List Nat} {n : Nat} (h : 0 < n) : (l.take n).headD 0 = l.headD 0 := by
  cases l with
  | nil => simp
  | cons a l => obtain ⟨m, rfl⟩ : ∃ m, n = m + 1 := ⟨n - 1, by omega⟩; rfl

theorem tok_small {c : Nat} {l : List Nat} (h : LX.small c = true) : LX.token (c :: l) = LX.named 2 (c :: l) := by
  obtain ⟨a, b, _⟩ := not_digit (.inl h)
  unfold LX.token
  simp only []
  rw [if_neg (by rw [a]; simp [b]), if_pos h]

theorem tok_great {c : Nat} {l : List Nat} (h : LX.great c = true) : LX.token (c :: l) = LX.named 3 (c :: l) := by
  obtain ⟨a, b, _⟩ := not_digit (.inr h)
  unfold LX.token
  simp only []
  rw [if_neg (by rw [a]; simp [b]), if_neg (by rw [great_not_small h]; decide), if_pos h]

set_option maxHeartbeats 4000000 in
set_option maxRecDepth 20000 in
theorem rread_great (w : World) (s : ByteArray) (i c : Nat) (h : RdAt s i c) (hc : LX.great c = true) :
    Calls Tryz.prog 35 #[.string s, .int .i64 i] w (RdPost w (rdV s i (LX.token ((bts s).drop i)))) := by
  obtain ⟨n, hn⟩ : ∃ n, n = LX.nameLen ((bts s).drop i) := ⟨_, rfl⟩
  have hle := LX.nameLen_le ((bts s).drop i)
  rw [← hn, List.length_drop, bts_length] at hle
  have hge : 0 < n := by
    have h1 := LX.nameLen_ge ((bts s).drop i)
    rw [← hn, h.drop, LX.run, if_pos (LX.part_great hc)] at h1
    omega
  have htok : LX.token ((bts s).drop i) = if 24 < n then .bad 2 else .tok (if LX.words.contains (((bts s).drop i).take n) then 5 else 3) 0 n := by
    rw [h.drop, tok_great hc, ← h.drop]
    unfold LX.named LX.made
    rw [← hn]
    by_cases h24 : 24 < n
    · rw [if_pos h24, if_pos h24]
    · rw [if_neg h24, if_neg h24]
  obtain ⟨hdg, h126, h39⟩ := not_digit (c := c) (.inr hc)
  have k126 : ((c : Int) == 126) = false := beq_false_of_ne (by omega)
  have k39 : ((c : Int) == 39) = false := beq_false_of_ne (by omega)
  have b0 := byte_at s h.lt h.byte
  have DG : Hid (∀ W, Calls Tryz.prog 52 #[.int .u8 c] W fun e w' => e = .returned (.bool false) ∧ w' = W) := fun W => by
    have := rdigit_any W c
    rw [hdg] at this
    exact this
  have SM : Hid (∀ W, Calls Tryz.prog 54 #[.int .u8 c] W fun e w' => e = .returned (.bool false) ∧ w' = W) := fun W => by
    have := rsmall_any W c
    rw [great_not_small hc] at this
    exact this
  have GR : Hid (∀ W, Calls Tryz.prog 56 #[.int .u8 c] W fun e w' => e = .returned (.bool true) ∧ w' = W) := fun W => by
    have := rgreat_any W c
    rw [hc] at this
    exact this
  obtain ⟨J, hJ⟩ : ∃ J, J = i + n := ⟨_, rfl⟩
  have NM : Hid (∀ W, Calls Tryz.prog 57 #[.string s, .int .i64 i] W fun e w' => e = .returned (.int .i64 J) ∧ w' = W) := fun W => by
    have := rnamed_any W s h.size i (by have := h.lt; omega)
    rw [← hn, ← hJ] at this
    exact this
  have sl : ∀ m, (Instr.slice 9 (.string s) (some (.int .i64 i)) (some (.int .i64 J)) none).run Tryz.prog m = .ok (.string (s.extract i (i + n))) m := fun m => by
    have := slice_mid s i n (by omega) m
    rw [show (i : Int) + (n : Int) = (J : Int) from by omega] at this
    exact this
  obtain ⟨tx, htx⟩ : ∃ t, t = s.extract i (i + n) := ⟨_, rfl⟩
  rw [← htx] at sl
  have hbt : bts tx = ((bts s).drop i).take n := by rw [htx, bts_extract, Nat.add_sub_cancel_left]
  rw [← hbt] at htok
  have WD : Hid (∀ W, Calls Tryz.prog 58 #[.string tx] W fun e w' => e = .returned (.bool (LX.words.contains (bts tx))) ∧ Below W.heap.size W w') := fun W => rword_any W tx
  obtain ⟨b, hb⟩ : ∃ b, b = LX.words.contains (bts tx) := ⟨_, rfl⟩
  rw [← hb] at WD htok
  obtain ⟨V, hV⟩ : ∃ V, V = rdV s i (LX.token ((bts s).drop i)) := ⟨_, rfl⟩
  rw [← hV]
  rw [htok] at hV
  have hz : (s.size : Int) ≤ 400000 := by have := h.size; omega
  have hiz : (i : Int) < (s.size : Int) := by have := h.lt; omega
  have hJz : (J : Int) ≤ (s.size : Int) := by omega
  have hJi : (i : Int) < (J : Int) := by omega
  have hbf : b = false := by
    cases hq : b with
    | false => rfl
    | true =>
      rw [hq] at hb
      have h1 := words_small hb.symm
      rw [hbt, headD_take hge, h.drop, List.headD_cons, great_not_small hc] at h1
      cases h1
  by_cases h24 : 24 < n
  · have hv : V = .tuple #[tokV 0 0 ⟨#[]⟩ 0, .int .i64 2] := by rw [hV, if_pos h24]; rfl
    have HV := Lib.hid hv
    have h24z : (24 : Int) < (J : Int) - (i : Int) := by omega
    clear hv hV htok h hc hn hle h24 htx hge hdg h126 h39 hJ hbt hb
    go_enter Tryz.func35, Tryz.ntmps35
    go_wp2_with fail
    refine (DG.out _).mono ?_
    rintro e w1 ⟨rfl, rfl⟩
    go_wp2_with fail
    refine (SM.out _).mono ?_
    rintro e w1 ⟨rfl, rfl⟩
    go_wp2_with fail
    refine (GR.out _).mono ?_
    rintro e w1 ⟨rfl, rfl⟩
    go_wp2_with fail
    refine (NM.out _).mono ?_
    rintro e w1 ⟨rfl, rfl⟩
    go_wp2_with fail
    go_returns
    exact ⟨by rw [HV.out]; rfl, (Below.refl _ _).alloc (Nat.le_refl _) _⟩
  · have h24z : (J : Int) - (i : Int) ≤ 24 := by omega
    cases b with
    | true =>
      cases hbf
    | false =>
      have hv : V = .tuple #[tokV 3 0 tx i, .int .i64 0] := by rw [hV, if_neg h24, htx]; rfl
      have HV := Lib.hid hv
      clear hv hV htok h hc hn hle h24 htx hge hdg h126 h39 hJ hbt hb
      go_enter Tryz.func35, Tryz.ntmps35
      go_wp2_with fail
      refine (DG.out _).mono ?_
      rintro e w1 ⟨rfl, rfl⟩
      go_wp2_with fail
      refine (SM.out _).mono ?_
      rintro e w1 ⟨rfl, rfl⟩
      go_wp2_with fail
      refine (GR.out _).mono ?_
      rintro e w1 ⟨rfl, rfl⟩
      go_wp2_with fail
      refine (NM.out _).mono ?_
      rintro e w1 ⟨rfl, rfl⟩
      go_wp2_with fail
      refine (GR.out _).mono ?_
      rintro e w1 ⟨rfl, rfl⟩
      go_wp2_with fail
      go_returns
      exact ⟨by rw [HV.out]; rfl, (Below.refl _ _).alloc (Nat.le_refl _) _⟩

set_option maxHeartbeats 4000000 in
set_option maxRecDepth 20000 in
theorem rread_small (w : World) (s : ByteArray) (i c : Nat) (h : RdAt s i c) (hc : LX.small c = true) :
    Calls Tryz.prog 35 #[.string s, .int .i64 i] w (RdPost w (rdV s i (LX.token ((bts s).drop i)))) := by
  obtain ⟨n, hn⟩ : ∃ n, n = LX.nameLen ((bts s).drop i) := ⟨_, rfl⟩
  have hle := LX.nameLen_le ((bts s).drop i)
  rw [← hn, List.length_drop, bts_length] at hle
  have hge : 0 < n := by
    have h1 := LX.nameLen_ge ((bts s).drop i)
    rw [← hn, h.drop, LX.run, if_pos (LX.part_small hc)] at h1
    omega
  have htok : LX.token ((bts s).drop i) = if 24 < n then .bad 2 else .tok (if LX.words.contains (((bts s).drop i).take n) then 5 else 2) 0 n := by
    rw [h.drop, tok_small hc, ← h.drop]
    unfold LX.named LX.made
    rw [← hn]
    by_cases h24 : 24 < n
    · rw [if_pos h24, if_pos h24]
    · rw [if_neg h24, if_neg h24]
  obtain ⟨hdg, h126, h39⟩ := not_digit (c := c) (.inl hc)
  have k126 : ((c : Int) == 126) = false := beq_false_of_ne (by omega)
  have k39 : ((c : Int) == 39) = false := beq_false_of_ne (by omega)
  have b0 := byte_at s h.lt h.byte
  have DG : Hid (∀ W, Calls Tryz.prog 52 #[.int .u8 c] W fun e w' => e = .returned (.bool false) ∧ w' = W) := fun W => by
    have := rdigit_any W c
    rw [hdg] at this
    exact this
  have SM : Hid (∀ W, Calls Tryz.prog 54 #[.int .u8 c] W fun e w' => e = .returned (.bool true) ∧ w' = W) := fun W => by
    have := rsmall_any W c
    rw [hc] at this
    exact this
  have GR : Hid (∀ W, Calls Tryz.prog 56 #[.int .u8 c] W fun e w' => e = .returned (.bool false) ∧ w' = W) := fun W => by
    have := rgreat_any W c
    rw [show LX.great c = false from by
      cases hq : LX.great c with
      | false => rfl
      | true => have := great_not_small hq; rw [hc] at this; cases this] at this
    exact this
  obtain ⟨J, hJ⟩ : ∃ J, J = i + n := ⟨_, rfl⟩
  have NM : Hid (∀ W, Calls Tryz.prog 57 #[.string s, .int .i64 i] W fun e w' => e = .returned (.int .i64 J) ∧ w' = W) := fun W => by
    have := rnamed_any W s h.size i (by have := h.lt; omega)
    rw [← hn, ← hJ] at this
    exact this
  have sl : ∀ m, (Instr.slice 9 (.string s) (some (.int .i64 i)) (some (.int .i64 J)) none).run Tryz.prog m = .ok (.string (s.extract i (i + n))) m := fun m => by
    have := slice_mid s i n (by omega) m
    rw [show (i : Int) + (n : Int) = (J : Int) from by omega] at this
    exact this
  obtain ⟨tx, htx⟩ : ∃ t, t = s.extract i (i + n) := ⟨_, rfl⟩
  rw [← htx] at sl
  have hbt : bts tx = ((bts s).drop i).take n := by rw [htx, bts_extract, Nat.add_sub_cancel_left]
  rw [← hbt] at htok
  have WD : Hid (∀ W, Calls Tryz.prog 58 #[.string tx] W fun e w' => e = .returned (.bool (LX.words.contains (bts tx))) ∧ Below W.heap.size W w') := fun W => rword_any W tx
  obtain ⟨b, hb⟩ : ∃ b, b = LX.words.contains (bts tx) := ⟨_, rfl⟩
  rw [← hb] at WD htok
  obtain ⟨V, hV⟩ : ∃ V, V = rdV s i (LX.token ((bts s).drop i)) := ⟨_, rfl⟩
  rw [← hV]
  rw [htok] at hV
  have hz : (s.size : Int) ≤ 400000 := by have := h.size; omega
  have hiz : (i : Int) < (s.size : Int) := by have := h.lt; omega
  have hJz : (J : Int) ≤ (s.size : Int) := by omega
  have hJi : (i : Int) < (J : Int) := by omega
  by_cases h24 : 24 < n
  · have hv : V = .tuple #[tokV 0 0 ⟨#[]⟩ 0, .int .i64 2] := by rw [hV, if_pos h24]; rfl
    have HV := Lib.hid hv
    have h24z : (24 : Int) < (J : Int) - (i : Int) := by omega
    clear hv hV htok h hc hn hle h24 htx hge hdg h126 h39 hJ hbt hb
    go_enter Tryz.func35, Tryz.ntmps35
    go_wp2_with fail
    refine (DG.out _).mono ?_
    rintro e w1 ⟨rfl, rfl⟩
    go_wp2_with fail
    refine (SM.out _).mono ?_
    rintro e w1 ⟨rfl, rfl⟩
    go_wp2_with fail
    refine (NM.out _).mono ?_
    rintro e w1 ⟨rfl, rfl⟩
    go_wp2_with fail
    go_returns
    exact ⟨by rw [HV.out]; rfl, (Below.refl _ _).alloc (Nat.le_refl _) _⟩
  · have h24z : (J : Int) - (i : Int) ≤ 24 := by omega
    cases b with
    | true =>
      have hv : V = .tuple #[tokV 5 0 tx i, .int .i64 0] := by rw [hV, if_neg h24, htx]; rfl
      have HV := Lib.hid hv
      have HLT : Hid True := trivial
      clear hv hV htok h hc hn hle h24 htx hge hdg h126 h39 hJ hbt hb
      go_enter Tryz.func35, Tryz.ntmps35
      go_wp2_with fail
      refine (DG.out _).mono ?_
      rintro e w1 ⟨rfl, rfl⟩
      go_wp2_with fail
      refine (SM.out _).mono ?_
      rintro e w1 ⟨rfl, rfl⟩
      go_wp2_with fail
      refine (NM.out _).mono ?_
      rintro e w1 ⟨rfl, rfl⟩
      go_wp2_with fail
      refine (GR.out _).mono ?_
      rintro e w1 ⟨rfl, rfl⟩
      go_wp2_with fail
      refine (WD.out _).mono ?_
      rintro e w1 ⟨rfl, hb⟩
      have hblk : w1.heap[w.heap.size]? = some (.cells #[.int .i64 0, .int .i64 0, .string ⟨#[]⟩, .int .i64 0] 42 (0, 0)) := (hb.block _ (by simp)).trans (heap_alloc_new w _)
      have e0 : w1.cell? ⟨w.heap.size, 0, none⟩ = some (.int .i64 0) := by rw [cell_of_row _ _ 0 _ _ _ hblk]; rfl
      have e1 : w1.cell? ⟨w.heap.size, 1, none⟩ = some (.int .i64 0) := by rw [cell_of_row _ _ 1 _ _ _ hblk]; rfl
      have e2 : w1.cell? ⟨w.heap.size, 2, none⟩ = some (.string ⟨#[]⟩) := by rw [cell_of_row _ _ 2 _ _ _ hblk]; rfl
      have e3 : w1.cell? ⟨w.heap.size, 3, none⟩ = some (.int .i64 0) := by rw [cell_of_row _ _ 3 _ _ _ hblk]; rfl
      have ef : ∀ q, w1.frozen? ⟨w.heap.size, q, none⟩ = false := fun q => frozen_of_row w1 _ q _ _ hblk
      have HBK := Lib.hid hblk
      have HBL : Hid (Below w.heap.size w w1) := ((Below.refl _ _).alloc (Nat.le_refl _) _).trans (hb.mono (by simp))
      clear hb hblk
      go_wp2_with fail
      exact bodyPost_ret (v := .tuple #[tokV 5 0 tx i, .int .i64 0]) (by rw [results_cell_tmp rfl]; simp [asAddr, load39 (four_set HBK.out _ _ _ _)]) rfl ⟨by rw [HV.out], (((HBL.out.setCell (Nat.le_refl _) _).setCell (Nat.le_refl _) _).setCell (Nat.le_refl _) _).setCell (Nat.le_refl _) _⟩
    | false =>
      have hv : V = .tuple #[tokV 2 0 tx i, .int .i64 0] := by rw [hV, if_neg h24, htx]; rfl
      have HV := Lib.hid hv
      clear hv hV htok h hc hn hle h24 htx hge hdg h126 h39 hJ hbt hb
      go_enter Tryz.func35, Tryz.ntmps35
      go_wp2_with fail
      refine (DG.out _).mono ?_
      rintro e w1 ⟨rfl, rfl⟩
      go_wp2_with fail
      refine (SM.out _).mono ?_
      rintro e w1 ⟨rfl, rfl⟩
      go_wp2_with fail
      refine (NM.out _).mono ?_
      rintro e w1 ⟨rfl, rfl⟩
      go_wp2_with fail
      refine (GR.out _).mono ?_
      rintro e w1 ⟨rfl, rfl⟩
      go_wp2_with fail
      refine (WD.out _).mono ?_
      rintro e w1 ⟨rfl, hb⟩
      have hblk : w1.heap[w.heap.size]? = some (.cells #[.int .i64 0, .int .i64 0, .string ⟨#[]⟩, .int .i64 0] 42 (0, 0)) := (hb.block _ (by simp)).trans (heap_alloc_new w _)
      have e0 : w1.cell? ⟨w.heap.size, 0, none⟩ = some (.int .i64 0) := by rw [cell_of_row _ _ 0 _ _ _ hblk]; rfl
      have e1 : w1.cell? ⟨w.heap.size, 1, none⟩ = some (.int .i64 0) := by rw [cell_of_row _ _ 1 _ _ _ hblk]; rfl
      have e2 : w1.cell? ⟨w.heap.size, 2, none⟩ = some (.string ⟨#[]⟩) := by rw [cell_of_row _ _ 2 _ _ _ hblk]; rfl
      have e3 : w1.cell? ⟨w.heap.size, 3, none⟩ = some (.int .i64 0) := by rw [cell_of_row _ _ 3 _ _ _ hblk]; rfl
      have ef : ∀ q, w1.frozen? ⟨w.heap.size, q, none⟩ = false := fun q => frozen_of_row w1 _ q _ _ hblk
      have HBK := Lib.hid hblk
      have HBL : Hid (Below w.heap.size w w1) := ((Below.refl _ _).alloc (Nat.le_refl _) _).trans (hb.mono (by simp))
      clear hb hblk
      go_wp2_with fail
      exact bodyPost_ret (v := .tuple #[tokV 2 0 tx i, .int .i64 0]) (by rw [results_cell_tmp rfl]; simp [asAddr, load39 (four_set HBK.out _ _ _ _)]) rfl ⟨by rw [HV.out], (((HBL.out.setCell (Nat.le_refl _) _).setCell (Nat.le_refl _) _).setCell (Nat.le_refl _) _).setCell (Nat.le_refl _) _⟩
end Go.Proofs.YtfoijbcmjciihaaGreatDoor
