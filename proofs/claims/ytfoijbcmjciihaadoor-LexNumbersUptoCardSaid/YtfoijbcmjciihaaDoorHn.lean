/- LexNumbers: walked. -/
import Derived.Test.YtfoijbcmjciihaaDoorNd
import Derived.Test.YtfoijbcmjciihaaDoorI
import Derived.Test.YtfoijbcmjciihaaDoorH5
set_option linter.unusedSimpArgs false
set_option linter.unusedVariables false
namespace Go.Proofs.YtfoijbcmjciihaaDoor
open Go.RowKit

set_option maxHeartbeats 1000000 in
set_option maxRecDepth 20000 in
theorem number_far : ∀ (w : World) (t : ByteArray), Env w → t.size ≤ 1048576 → Calls Tryd.prog 12 #[.string t] w (NumPost w t) := by
  intro w t henv ht
  obtain ⟨m, hm⟩ := henv.max
  have HM := Lib.hid hm
  have HE := Lib.hid henv
  have HT := Lib.hid ht
  clear hm henv ht
  have RP := Tryd.strings_Replace t ⟨#[126]⟩ ⟨#[45]⟩ 1 m w (by have := HT.out; omega) HM.out (by decide) (by
    have hc := Lib.countB_le (⟨#[126]⟩ : ByteArray) (by decide) t.size t (Nat.le_refl _)
    have := HT.out
    have e1 : (⟨#[45]⟩ : ByteArray).size = 1 := rfl
    rw [e1]
    omega)
  rw [show (⟨#[45]⟩ : ByteArray).data.toList = [45] from rfl, show (⟨#[126]⟩ : ByteArray).data.toList = [126] from rfl] at RP
  obtain ⟨x, hx⟩ : ∃ x, x = Lib.replace t.data.toList [126] [45] 1 := ⟨_, rfl⟩
  have HX := Lib.hid hx
  rw [← hx] at RP
  clear hx
  go_enter Tryd.func12, Tryd.ntmps12
  go_wp2_with fail
  refine RP.mono ?_
  clear RP
  rintro e w1 ⟨rfl, hb1⟩
  have HB1 := Lib.hid hb1
  have HE1 : Hid (Env w1) := HE.out.keep hb1 HE.out.size
  have HXS : Hid ((⟨x.toArray⟩ : ByteArray).size ≤ 1048576) := by
    show x.length ≤ _
    rw [HX.out, replace_length]
    exact HT.out
  clear hb1
  go_wp2_with fail
  have BAD : Hid (LX.num (bts t) = none → ∀ w', Below w.heap.size w w' → NumPost w t (.returned (.tuple #[.int .i64 0, .int .i64 13])) w') := fun h w' hb => by
    unfold NumPost
    rw [h]
    exact ⟨rfl, hb⟩
  cases hv : LX.num (bts t) with
  | some v =>
    obtain ⟨e1, e2⟩ := atoi_of_num hv
    obtain ⟨h0, h1, -⟩ := num_some hv
    have HV := Lib.hid hv
    rw [← HX.out] at e2
    have AT := Tryd.strconv_Atoi_ok ⟨x.toArray⟩ (by have := HXS.out; omega) v e2 w1
    have D := fun (W : World) (h : Env W) => digits_any h v h0 h1
    have HD := Lib.hid D
    have HT2 := Lib.hid e1
    clear hv e1 e2 D h0 h1
    refine AT.mono ?_
    clear AT
    rintro e w2 ⟨rfl, hw2⟩
    have HB2 : Hid (Below w1.heap.size w1 w2) := by
      rcases hw2 with rfl | ⟨u, rfl⟩
      · exact Below.refl _ _
      · exact Lib.bytesWorld_below _ _ _
    clear hw2
    go_wp2_with fail
    refine (HD.out w2 (HE1.out.keep HB2.out HE1.out.size)).mono ?_
    rintro e w3 ⟨rfl, hb3⟩
    rw [← HT2.out]
    have HB3 := Lib.hid hb3
    clear hb3
    go_wp2_with fail
    go_returns
    unfold NumPost
    rw [HV.out]
    exact ⟨rfl, HB1.out.trans ((HB2.out.trans (HB3.out.mono HB2.out.size)).mono HB1.out.size)⟩
  | none =>
    have HV := Lib.hid hv
    have NE : Hid (∀ v, -9223372036854775808 ≤ v → v ≤ 9223372036854775807 → digS v ≠ t) := ne_of_num hv
    clear hv
    cases ha : Lib.atoiAll x with
    | ok v =>
      obtain ⟨h0, h1⟩ := atoi_range ha
      have AT := Tryd.strconv_Atoi_ok ⟨x.toArray⟩ (by have := HXS.out; omega) v ha w1
      have D := fun (W : World) (h : Env W) => digits_any h v h0 h1
      have HD := Lib.hid D
      have hne : ((digS v).toList == t.toList) = false := beq_false_of_ne fun e => NE.out v h0 h1 (by rw [ByteArray.toList_eq, ByteArray.toList_eq] at e; exact bts_inj (by unfold bts; rw [e]))
      clear ha D h0 h1
      refine AT.mono ?_
      clear AT
      rintro e w2 ⟨rfl, hw2⟩
      have HB2 : Hid (Below w1.heap.size w1 w2) := by
        rcases hw2 with rfl | ⟨u, rfl⟩
        · exact Below.refl _ _
        · exact Lib.bytesWorld_below _ _ _
      clear hw2
      go_wp2_with fail
      refine (HD.out w2 (HE1.out.keep HB2.out HE1.out.size)).mono ?_
      rintro e w3 ⟨rfl, hb3⟩
      have HB3 := Lib.hid hb3
      clear hb3
      go_wp2_with fail
      go_returns
      exact BAD.out HV.out _ (HB1.out.trans ((HB2.out.trans (HB3.out.mono HB2.out.size)).mono HB1.out.size))
    | range =>
      obtain ⟨tp, p, hvar⟩ := HE1.out.rng
      have AT := Tryd.strconv_Atoi_range ⟨x.toArray⟩ (by have := HXS.out; omega) ha _ w1 hvar (.inr ⟨tp, p, rfl⟩)
      clear ha hvar
      refine AT.mono ?_
      clear AT
      rintro e w2 ⟨N, rfl, -, -, hb2⟩
      have HB2 := Lib.hid hb2
      clear hb2
      go_wp2_with fail
      go_returns
      exact BAD.out HV.out _ (HB1.out.trans ((HB2.out).mono HB1.out.size))
    | _ =>
      obtain ⟨tp, p, hvar⟩ := HE1.out.syn
      have AT := Tryd.strconv_Atoi_syntax ⟨x.toArray⟩ (by have := HXS.out; omega) (by rw [ha]; rfl) _ w1 hvar (.inr ⟨tp, p, rfl⟩)
      clear ha hvar
      refine AT.mono ?_
      clear AT
      rintro e w2 ⟨N, rfl, -, -, hb2⟩
      have HB2 := Lib.hid hb2
      clear hb2
      go_wp2_with fail
      go_returns
      exact BAD.out HV.out _ (HB1.out.trans ((HB2.out).mono HB1.out.size))

set_option maxHeartbeats 1000000 in
set_option maxRecDepth 20000 in
theorem numbers_walk {w : World} (henv : Env w) (s : ByteArray) (hs : s.size ≤ 1048576) (n : Int) (h0 : -9223372036854775808 ≤ n) (h1 : n ≤ 9223372036854775807) : Calls Tryd.prog 3 #[.string s, .int .i64 n] w (TrueP w) := by
  have SA := Lib.hid (sane_any henv)
  have HE := Lib.hid henv
  have DN : Hid (∀ W, Env W → Calls Tryd.prog 14 #[.int .i64 n] W fun e w' => e = .returned (.string (digS n)) ∧ Below W.heap.size W w') := fun W hW => digits_any hW n h0 h1
  have RD : Hid (∀ W, Calls Tryd.prog 15 #[.int .i64 n] W fun e w' => e = .returned (.string (digS n)) ∧ w' = W) := fun W => refDigits_any W n h0 h1
  have NB : Hid (∀ W, Env W → Calls Tryd.prog 12 #[.string (digS n)] W fun e w' => e = .returned (.tuple #[.int .i64 n, .int .i64 0]) ∧ Below W.heap.size W w') := fun W hW => by
    have := number_far W (digS n) hW (by have := digS_size n h0 h1; omega)
    unfold NumPost at this
    rw [bts_digS n h0 h1, num_digs n h0 h1] at this
    exact this
  obtain ⟨t, ht⟩ : ∃ t, t = digS n := ⟨_, rfl⟩
  rw [← ht] at DN RD NB
  cases hv : LX.num (bts s) with
  | none =>
    have N1 : Hid (∀ W, Env W → Calls Tryd.prog 12 #[.string s] W fun e w' => e = .returned (.tuple #[.int .i64 0, .int .i64 13]) ∧ Below W.heap.size W w') := fun W hW => by
      have := number_far W s hW hs
      unfold NumPost at this
      rw [hv] at this
      exact this
    have R1 : Hid (∀ W, Calls Tryd.prog 13 #[.string s] W fun e w' => e = .returned (.tuple #[.int .i64 0, .int .i64 13]) ∧ w' = W) := fun W => by
      have := refNumber_any W s
      unfold RN at this
      rw [hv] at this
      exact this
    clear hv ht henv hs h0 h1
    go_enter Tryd.func3, Tryd.ntmps3
    go_wp2_with fail
    refine SA.out.mono ?_
    rintro e w1 ⟨rfl, hb⟩
    have HB := Lib.hid hb
    clear hb
    go_wp2_with fail
    refine (N1.out _ (HE.out.on HB.out)).mono ?_
    rintro e w2 ⟨rfl, hb⟩
    have HB2 : Hid (Below w.heap.size w w2) := HB.out.trans (hb.mono HB.out.size)
    clear hb
    go_wp2_with fail
    refine (R1.out _).mono ?_
    rintro e w3 ⟨rfl, rfl⟩
    go_wp2_with fail
    refine (DN.out _ (HE.out.on HB2.out)).mono ?_
    rintro e w4 ⟨rfl, hb⟩
    have HB4 : Hid (Below w.heap.size w w4) := HB2.out.trans (hb.mono HB2.out.size)
    clear hb
    go_wp2_with fail
    refine (NB.out _ (HE.out.on HB4.out)).mono ?_
    rintro e w5 ⟨rfl, hb⟩
    have HB5 : Hid (Below w.heap.size w w5) := HB4.out.trans (hb.mono HB4.out.size)
    clear hb
    go_wp2_with fail
    refine (RD.out _).mono ?_
    rintro e w6 ⟨rfl, rfl⟩
    go_wp2_with fail
    go_ret
    exact ⟨rfl, HB5.out⟩
  | some v =>
    obtain ⟨v0, v1, v2⟩ := num_some hv
    have N1 : Hid (∀ W, Env W → Calls Tryd.prog 12 #[.string s] W fun e w' => e = .returned (.tuple #[.int .i64 v, .int .i64 0]) ∧ Below W.heap.size W w') := fun W hW => by
      have := number_far W s hW hs
      unfold NumPost at this
      rw [hv] at this
      exact this
    have R1 : Hid (∀ W, Calls Tryd.prog 13 #[.string s] W fun e w' => e = .returned (.tuple #[.int .i64 v, .int .i64 0]) ∧ w' = W) := fun W => by
      have := refNumber_any W s
      unfold RN at this
      rw [hv] at this
      exact this
    have DV : Hid (∀ W, Env W → Calls Tryd.prog 14 #[.int .i64 v] W fun e w' => e = .returned (.string s) ∧ Below W.heap.size W w') := fun W hW => by
      have := digits_any hW v v0 v1
      rw [show digS v = s from bts_inj (by rw [bts_digS v v0 v1, v2])] at this
      exact this
    clear hv ht henv hs h0 h1 v0 v1 v2
    go_enter Tryd.func3, Tryd.ntmps3
    go_wp2_with fail
    refine SA.out.mono ?_
    rintro e w1 ⟨rfl, hb⟩
    have HB := Lib.hid hb
    clear hb
    go_wp2_with fail
    refine (N1.out _ (HE.out.on HB.out)).mono ?_
    rintro e w2 ⟨rfl, hb⟩
    have HB2 : Hid (Below w.heap.size w w2) := HB.out.trans (hb.mono HB.out.size)
    clear hb
    go_wp2_with fail
    refine (R1.out _).mono ?_
    rintro e w3 ⟨rfl, rfl⟩
    go_wp2_with fail
    refine (DN.out _ (HE.out.on HB2.out)).mono ?_
    rintro e w4 ⟨rfl, hb⟩
    have HB4 : Hid (Below w.heap.size w w4) := HB2.out.trans (hb.mono HB2.out.size)
    clear hb
    go_wp2_with fail
    refine (NB.out _ (HE.out.on HB4.out)).mono ?_
    rintro e w5 ⟨rfl, hb⟩
    have HB5 : Hid (Below w.heap.size w w5) := HB4.out.trans (hb.mono HB4.out.size)
    clear hb
    go_wp2_with fail
    refine (RD.out _).mono ?_
    rintro e w6 ⟨rfl, rfl⟩
    go_wp2_with fail
    refine (DV.out _ (HE.out.on HB5.out)).mono ?_
    rintro e w7 ⟨rfl, hb⟩
    have HB7 : Hid (Below w.heap.size w w7) := HB5.out.trans (hb.mono HB5.out.size)
    clear hb
    go_wp2_with fail
    go_ret
    exact ⟨rfl, HB7.out⟩
end Go.Proofs.YtfoijbcmjciihaaDoor
