/- Digits and Number: walked. -/
import Derived.Test.YtnkahlloahgifaaGreatDoorLxG
import Derived.Test.YtnkahlloahgifaaGreatDoorLxNum
import Derived.Test.YtnkahlloahgifaaGreatDoorShelf
import Derived.Lib.ItoaLen
import Derived.Lib.SplitLaws
import Derived.Lib.AtoiErrMem
set_option linter.unusedSimpArgs false
set_option linter.unusedVariables false
namespace Go.Proofs.YtnkahlloahgifaaGreatDoor.Lx
open Go.RowKit

theorem below_more (w : World) (os : Array Obj) (B : Nat) (hB : B ≤ w.heap.size) : Below B w (Go.Sort.grow w os) :=
  ⟨rfl, rfl, rfl, by show w.heap.size ≤ (w.heap ++ os).size; rw [Array.size_append]; omega, fun k hk => by
    show (w.heap ++ os)[k]? = w.heap[k]?
    rw [Array.getElem?_append_left (Nat.lt_of_lt_of_le hk hB)]⟩

set_option maxRecDepth 20000 in
theorem digits_any {w : World} (henv : Env w) (n : Int) (h0 : -9223372036854775808 ≤ n) (h1 : n ≤ 9223372036854775807) :
    Calls Tryz.prog 163 #[.int .i64 n] w fun e w' => e = .returned (.string (digS n)) ∧ Below w.heap.size w w' := by
  obtain ⟨m, hm⟩ := henv.max
  have IT := Tryz.strconv_Itoa n h0 h1 w henv.tab
  have HM := Lib.hid hm
  have HE := Lib.hid henv
  have hl := Lib.itoa_length_le n h0 h1
  have HL : Hid ((⟨(Lib.itoa n).toArray⟩ : ByteArray).size ≤ 21) := hl
  have HR : Hid ((⟨(Lib.replace (⟨(Lib.itoa n).toArray⟩ : ByteArray).data.toList [45] [126] 1).toArray⟩ : ByteArray) = digS n) := by
    show ByteArray.mk _ = ByteArray.mk _
    rw [show (⟨(Lib.itoa n).toArray⟩ : ByteArray).data.toList = Lib.itoa n from rfl, replace_itoa]
  clear hm henv h0 h1 hl
  obtain ⟨tx, htx⟩ : ∃ t : ByteArray, t = ⟨(Lib.itoa n).toArray⟩ := ⟨_, rfl⟩
  rw [← htx] at IT HL HR
  clear htx
  go_enter Tryz.func163, Tryz.ntmps163
  go_wp2_with fail
  refine IT.mono ?_
  clear IT
  rintro e w1 ⟨rfl, k, os, rfl⟩
  have HB : Hid (Below w.heap.size w (Go.Sort.grow (w.drewN k) os)) := (below_drawn (Below.refl w.heap.size w) k).trans (below_more (w.drewN k) os _ (Nat.le_refl _))
  go_wp2_with fail
  obtain ⟨W, hW⟩ : ∃ W, W = Go.Sort.grow (w.drewN k) os := ⟨_, rfl⟩
  rw [← hW] at HB ⊢
  clear hW
  have RP := Tryz.strings_Replace tx ⟨#[45]⟩ ⟨#[126]⟩ 1 m W (by have := HL.out; omega) (by rw [HB.out.cell (by show 0 < _; have := HE.out.size; omega)]; exact HM.out) (by decide) (by
    have hc := Lib.countB_le (⟨#[45]⟩ : ByteArray) (by decide) tx.size tx (Nat.le_refl _)
    have := HL.out
    have e1 : (⟨#[126]⟩ : ByteArray).size = 1 := rfl
    rw [e1]
    omega)
  rw [show (⟨#[45]⟩ : ByteArray).data.toList = [45] from rfl, show (⟨#[126]⟩ : ByteArray).data.toList = [126] from rfl, HR.out] at RP
  refine RP.mono ?_
  clear RP
  rintro e w2 ⟨rfl, hb⟩
  go_wp2_with fail
  go_ret
  exact ⟨rfl, HB.out.trans (hb.mono HB.out.size)⟩

theorem index_in (a : UInt8) : ∀ l : List UInt8, Lib.index l [a] = -1 ∨ (0 ≤ Lib.index l [a] ∧ Lib.index l [a] < l.length)
  | [] => .inl rfl
  | b :: l => by
    have ih := index_in a l
    unfold Lib.index
    split
    · exact .inr ⟨by decide, by simp only [List.length_cons]; omega⟩
    · split
      · exact .inl rfl
      · rename_i h
        rcases ih with ih | ih
        · rw [ih] at h; exact absurd rfl h
        · exact .inr ⟨by omega, by simp; omega⟩

theorem replaceK_length (a b : UInt8) : ∀ (k : Nat) (s : List UInt8), (Lib.replaceK [a] [b] k s).length = s.length
  | 0, _ => rfl
  | k + 1, s => by
    unfold Lib.replaceK
    split
    · rfl
    · rename_i h
      rcases index_in a s with ih | ih
      · rw [ih] at h; exact absurd rfl h
      · simp only [List.length_append, replaceK_length a b k, List.length_take, List.length_drop, List.length_singleton]
        omega

theorem replace_length (a b : UInt8) (s : List UInt8) : (Lib.replace s [a] [b] 1).length = s.length := by
  unfold Lib.replace
  split
  · rfl
  · exact replaceK_length a b _ s

theorem digS_size (n : Int) (h0 : -9223372036854775808 ≤ n) (h1 : n ≤ 9223372036854775807) : (digS n).size ≤ 21 := by
  show (digL n).length ≤ 21
  rw [← replace_itoa, replace_length]
  exact Lib.itoa_length_le n h0 h1

set_option maxHeartbeats 1000000 in
set_option maxRecDepth 20000 in
theorem number_law : NumLaw := by
  intro w t henv ht
  obtain ⟨m, hm⟩ := henv.max
  have HM := Lib.hid hm
  have HE := Lib.hid henv
  have HT := Lib.hid ht
  clear hm henv ht
  have RP := Tryz.strings_Replace t ⟨#[126]⟩ ⟨#[45]⟩ 1 m w (by have := HT.out; omega) HM.out (by decide) (by
    have hc := Lib.countB_le (⟨#[126]⟩ : ByteArray) (by decide) t.size t (Nat.le_refl _)
    have := HT.out
    have e1 : (⟨#[45]⟩ : ByteArray).size = 1 := rfl
    rw [e1]
    omega)
  rw [show (⟨#[45]⟩ : ByteArray).data.toList = [45] from rfl, show (⟨#[126]⟩ : ByteArray).data.toList = [126] from rfl] at RP
  obtain ⟨x, hx⟩ : ∃ x, x = Lib.replace t.data.toList [126] [45] 1 := ⟨_, rfl⟩
  have HX := Lib.hid hx
  rw [← hx] at RP
  clear hx
  go_enter Tryz.func158, Tryz.ntmps158
  go_wp2_with fail
  refine RP.mono ?_
  clear RP
  rintro e w1 ⟨rfl, hb1⟩
  have HB1 := Lib.hid hb1
  have HE1 : Hid (Env w1) := HE.out.keep hb1 HE.out.size
  have HXS : Hid ((⟨x.toArray⟩ : ByteArray).size ≤ 400000) := by
    show x.length ≤ _
    rw [HX.out, replace_length]
    exact HT.out
  clear hb1
  go_wp2_with fail
  have BAD : Hid (LX.num (bts t) = none → ∀ w', Below w.heap.size w w' → NumPost w t (.returned (.tuple #[.int .i64 0, .int .i64 13])) w') := fun h w' hb => by
    unfold NumPost
    rw [h]
    exact ⟨rfl, hb⟩
  cases hv : LX.num (bts t) with
  | some v =>
    obtain ⟨e1, e2⟩ := atoi_of_num hv
    obtain ⟨h0, h1, -⟩ := num_some hv
    have HV := Lib.hid hv
    rw [← HX.out] at e2
    have AT := Tryz.strconv_Atoi_ok ⟨x.toArray⟩ (by have := HXS.out; omega) v e2 w1
    have D := fun (W : World) (h : Env W) => digits_any h v h0 h1
    have HD := Lib.hid D
    have HT2 := Lib.hid e1
    clear hv e1 e2 D h0 h1
    refine AT.mono ?_
    clear AT
    rintro e w2 ⟨rfl, hw2⟩
    have HB2 : Hid (Below w1.heap.size w1 w2) := by
      rcases hw2 with rfl | ⟨u, rfl⟩
      · exact Below.refl _ _
      · exact Lib.bytesWorld_below _ _ _
    clear hw2
    go_wp2_with fail
    refine (HD.out w2 (HE1.out.keep HB2.out HE1.out.size)).mono ?_
    rintro e w3 ⟨rfl, hb3⟩
    rw [← HT2.out]
    have HB3 := Lib.hid hb3
    clear hb3
    go_wp2_with fail
    go_returns
    unfold NumPost
    rw [HV.out]
    exact ⟨rfl, HB1.out.trans ((HB2.out.trans (HB3.out.mono HB2.out.size)).mono HB1.out.size)⟩
  | none =>
    have HV := Lib.hid hv
    have NE : Hid (∀ v, -9223372036854775808 ≤ v → v ≤ 9223372036854775807 → digS v ≠ t) := ne_of_num hv
    clear hv
    cases ha : Lib.atoiAll x with
    | ok v =>
      obtain ⟨h0, h1⟩ := atoi_range ha
      have AT := Tryz.strconv_Atoi_ok ⟨x.toArray⟩ (by have := HXS.out; omega) v ha w1
      have D := fun (W : World) (h : Env W) => digits_any h v h0 h1
      have HD := Lib.hid D
      have hne : ((digS v).toList == t.toList) = false := beq_false_of_ne fun e => NE.out v h0 h1 (by rw [ByteArray.toList_eq, ByteArray.toList_eq] at e; exact bts_inj (by unfold bts; rw [e]))
      clear ha D h0 h1
      refine AT.mono ?_
      clear AT
      rintro e w2 ⟨rfl, hw2⟩
      have HB2 : Hid (Below w1.heap.size w1 w2) := by
        rcases hw2 with rfl | ⟨u, rfl⟩
        · exact Below.refl _ _
        · exact Lib.bytesWorld_below _ _ _
      clear hw2
      go_wp2_with fail
      refine (HD.out w2 (HE1.out.keep HB2.out HE1.out.size)).mono ?_
      rintro e w3 ⟨rfl, hb3⟩
      have HB3 := Lib.hid hb3
      clear hb3
      go_wp2_with fail
      go_returns
      exact BAD.out HV.out _ (HB1.out.trans ((HB2.out.trans (HB3.out.mono HB2.out.size)).mono HB1.out.size))
    | range =>
      obtain ⟨tp, p, hvar⟩ := HE1.out.rng
      have AT := Tryz.strconv_Atoi_range ⟨x.toArray⟩ (by have := HXS.out; omega) ha _ w1 hvar (.inr ⟨tp, p, rfl⟩)
      clear ha hvar
      refine AT.mono ?_
      clear AT
      rintro e w2 ⟨N, rfl, -, -, hb2⟩
      have HB2 := Lib.hid hb2
      clear hb2
      go_wp2_with fail
      go_returns
      exact BAD.out HV.out _ (HB1.out.trans ((HB2.out).mono HB1.out.size))
    | _ =>
      obtain ⟨tp, p, hvar⟩ := HE1.out.syn
      have AT := Tryz.strconv_Atoi_syntax ⟨x.toArray⟩ (by have := HXS.out; omega) (by rw [ha] <;> rfl) _ w1 hvar (.inr ⟨tp, p, rfl⟩)
      clear ha hvar
      refine AT.mono ?_
      clear AT
      rintro e w2 ⟨N, rfl, -, -, hb2⟩
      have HB2 := Lib.hid hb2
      clear hb2
      go_wp2_with fail
      go_returns
      exact BAD.out HV.out _ (HB1.out.trans ((HB2.out).mono HB1.out.size))
end Go.Proofs.YtnkahlloahgifaaGreatDoor.Lx
