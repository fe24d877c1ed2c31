/- LexBack: walked. -/
import Derived.Test.YtfoijbcmjciihaaDoorSf
import Derived.Test.YtfoijbcmjciihaaDoorPd
import Derived.Test.YtfoijbcmjciihaaDoorH5
set_option linter.unusedSimpArgs false
set_option linter.unusedVariables false
namespace Go.Proofs.YtfoijbcmjciihaaDoor
open Go.RowKit

def ShPost (w : World) (ts : List Tkv) (e : Ending) (w' : World) : Prop := e = .returned (.bool (decide (ts.length ≤ 500) && ts.all Tkv.ok)) ∧ Below w.heap.size w w'

set_option maxHeartbeats 1000000 in
set_option maxRecDepth 20000 in
theorem short_any {w : World} (henv : Env w) {v : Value} {ts : List Tkv} (hts : TkS w v ts) (hsz : ∀ t ∈ ts, t.tx.size ≤ 9223372036854775807) :
    Calls Tryd.prog 23 #[v] w (ShPost w ts) := by
  obtain ⟨a, c, rfl, hcap, hcells⟩ := hts.shape
  obtain ⟨n, hnn⟩ : ∃ n, n = ts.length := ⟨_, rfl⟩
  rw [← hnn] at hcap hts ⊢
  by_cases h5 : n ≤ 500
  · have h5z : (n : Int) ≤ 500 := by omega
    have HE := Lib.hid henv
    have HTS := Lib.hid hts
    have HN := Lib.hid hnn
    have HSZ := Lib.hid hsz
    have H5 : Hid (n ≤ 500) := h5
    have BAD : Hid (∀ w', Below w.heap.size w w' → ts.all Tkv.ok = false → ShPost w ts (.returned (.bool false)) w') := fun w' hb h => ⟨by rw [h, Bool.and_false], hb⟩
    clear henv hts hnn hsz h5 hcells hcap
    go_enter Tryd.func23, Tryd.ntmps23
    go_wp2_with fail
    go_loopw [3] (fun i wr => ∃ k : Nat, k ≤ n ∧ i = .int .i64 k ∧ (ts.take k).all Tkv.ok = true ∧ Below w.heap.size w wr) (fun i _ => n - (intOf i).toNat)
    case atStart => exact ⟨0, Nat.zero_le _, rfl, by simp, Below.refl _ _⟩
    case round =>
      obtain ⟨k, hk, rfl, hall, hbl⟩ := hrel
      have HBL := Lib.hid hbl
      have HALL := Lib.hid hall
      clear hbl hall
      by_cases hlt : k < n
      · have hltz : (k : Int) < (n : Int) := by omega
        obtain ⟨t, ht⟩ : ∃ t, ts[k]? = some t := ⟨_, List.getElem?_eq_getElem (by have := HN.out; omega)⟩
        obtain ⟨g, off, rfl, _, c0, c1, c2, c3⟩ := tkS_cell (HTS.out.keep HBL.out) ht
        have CK := check_any (HE.out.on HBL.out) t.k t.v t.p t.tx (HSZ.out t (List.mem_of_getElem? ht))
        unfold CkPost at CK
        have HLT := Lib.hid hlt
        have htk : ts.take (k + 1) = ts.take k ++ [t] := by
          obtain ⟨h1, h2⟩ := List.getElem?_eq_some_iff.1 ht
          rw [List.take_succ_eq_append_getElem h1, h2]
        have HTK := Lib.hid htk
        have HT := Lib.hid ht
        obtain ⟨tk, tv, tx, tp⟩ := t
        simp only [] at c0 c1 c2 c3 CK
        cases hok : LX.checkOf tk tv (bts tx) tp with
        | true =>
          rw [hok] at CK
          have HOK := Lib.hid hok
          have CK2 := Lib.hid CK
          clear ht htk hlt hk hok CK
          go_wp2_with fail
          refine CK2.out.mono ?_
          rintro e w1 ⟨rfl, hb⟩
          have HB1 : Hid (Below w.heap.size w w1) := HBL.out.trans (hb.mono HBL.out.size)
          clear hb
          go_wp2_with fail
          go_roundw
          case rel => exact ⟨k + 1, HLT.out, by go_num, by rw [HTK.out, List.all_append, HALL.out]; simp [Tkv.ok, HOK.out], HB1.out⟩
          case measure => have := HLT.out; simp [intOf]; omega
        | false =>
          rw [hok] at CK
          have HOK := Lib.hid hok
          have CK2 := Lib.hid CK
          clear ht htk hlt hk hok CK
          go_wp2_with fail
          refine CK2.out.mono ?_
          rintro e w1 ⟨rfl, hb⟩
          have HB1 : Hid (Below w.heap.size w w1) := HBL.out.trans (hb.mono HBL.out.size)
          clear hb
          go_wp2_with fail
          go_ret
          exact BAD.out _ HB1.out (by
            rw [List.all_eq_false]
            exact ⟨_, List.mem_of_getElem? HT.out, by simp [Tkv.ok, HOK.out]⟩)
      · have hge : (n : Int) ≤ (k : Int) := by omega
        have HK : Hid (k = n) := by show k = n; omega
        clear hlt hk
        go_wp2_with fail
        go_ret
        refine ⟨?_, HBL.out⟩
        have h1 := HALL.out
        rw [HK.out, HN.out, List.take_of_length_le (Nat.le_refl _)] at h1
        rw [h1, Bool.and_true, ← HN.out, show decide (n ≤ 500) = true from by simp; exact H5.out]
        rfl
  · have h5z : (500 : Int) < (n : Int) := by omega
    have BAD : Hid (∀ w', Below w.heap.size w w' → ShPost w ts (.returned (.bool false)) w') := fun w' hb => ⟨by rw [show decide (ts.length ≤ 500) = false from by simp; omega, Bool.false_and], hb⟩
    clear h5 hts hnn hsz hcells hcap henv
    go_enter Tryd.func23, Tryd.ntmps23
    go_wp2_with fail
    go_ret
    exact BAD.out _ (Below.refl _ _)

theorem size40 {us : List LX.Tok} (h : us.length ≤ 20000) (p : Nat) : ((LX.backs p us).map tkv).length * 40 ≤ 140737488355328 := by
  rw [List.length_map, LX.backs_length]; omega

theorem tkv_size {us : List LX.Tok} (hg : ∀ u ∈ us, LX.Good u) : ∀ t ∈ us.map tkv, t.tx.size ≤ 9223372036854775807 := by
  intro t ht
  obtain ⟨u, hu, rfl⟩ := List.mem_map.1 ht
  have h1 := (hg u hu).short
  show (ofB u.text).size ≤ _
  have : (ofB u.text).size = u.text.length := by unfold ofB; show (List.map UInt8.ofNat u.text).length = _; rw [List.length_map]
  omega

/-- The scan of the joined text. -/
theorem scan_jB {w : World} (henv : Env w) {us : List LX.Tok} (hg : ∀ u ∈ us, LX.Good u) (hb : LX.Bt us) (hl : (LX.jl us).length ≤ 20000) : Calls Tryd.prog 20 #[.string (jB us)] w (TkPost w (.ok (LX.backs 0 us) [])) := by
  have hz := jB_size hb
  have := scan_any henv (jB us) (by omega)
  rw [up_small (by omega), bts_jB hb, LX.scan_jl us hg] at this
  exact this

set_option maxHeartbeats 1000000 in
set_option maxRecDepth 20000 in
theorem back_walk {w : World} (henv : Env w) {v : Value} {ts : List Tkv} (hts : TkS w v ts) (hn : ts.length * 40 ≤ 140737488355328) (hsz : ∀ t ∈ ts, t.tx.size ≤ 9223372036854775807) :
    Calls Tryd.prog 9 #[v] w (TrueP w) := by
  have SA := Lib.hid (sane_any henv)
  have HE := Lib.hid henv
  have HTS := Lib.hid hts
  have HSZ := Lib.hid hsz
  have SH : Hid (∀ W, Below w.heap.size w W → Calls Tryd.prog 23 #[v] W (ShPost W ts)) := fun W hW => short_any (HE.out.on hW) (HTS.out.keep hW) HSZ.out
  have JN : Hid (∀ W, Below w.heap.size w W → Calls Tryd.prog 24 #[v] W (JPost W ts)) := fun W hW => join_any (HE.out.on hW) (HTS.out.keep hW) hn HSZ.out
  cases hsh : (decide (ts.length ≤ 500) && ts.all Tkv.ok) with
  | false =>
    have SH2 : Hid (∀ W, Below w.heap.size w W → Calls Tryd.prog 23 #[v] W fun e w' => e = .returned (.bool false) ∧ Below W.heap.size W w') := fun W hW => by
      have := SH.out W hW
      unfold ShPost at this
      rw [hsh] at this
      exact this
    clear hsh SH JN henv hts hn hsz
    go_enter Tryd.func9, Tryd.ntmps9
    go_wp2_with fail
    refine SA.out.mono ?_
    rintro e w1 ⟨rfl, hb⟩
    have HB := Lib.hid hb
    clear hb
    go_wp2_with fail
    refine (SH2.out _ HB.out).mono ?_
    rintro e w2 ⟨rfl, hb⟩
    have HB2 : Hid (Below w.heap.size w w2) := HB.out.trans (hb.mono HB.out.size)
    clear hb
    go_wp2_with fail
    go_ret
    exact ⟨rfl, HB2.out⟩
  | true =>
    have SH2 : Hid (∀ W, Below w.heap.size w W → Calls Tryd.prog 23 #[v] W fun e w' => e = .returned (.bool true) ∧ Below W.heap.size W w') := fun W hW => by
      have := SH.out W hW
      unfold ShPost at this
      rw [hsh] at this
      exact this
    rw [Bool.and_eq_true, decide_eq_true_eq] at hsh
    obtain ⟨h5, hall⟩ := hsh
    obtain ⟨e1, hg⟩ := map_tokOf hall
    obtain ⟨us, hus⟩ : ∃ us, us = ts.map tokOf := ⟨_, rfl⟩
    rw [← hus] at e1 hg
    have hbt : LX.Bt us := by
      intro u hu
      rw [hus] at hu
      obtain ⟨t, ht, rfl⟩ := List.mem_map.1 hu
      exact bts_small t.tx
    have hul : us.length ≤ 500 := by rw [hus, List.length_map]; exact h5
    have hjl : (LX.jl us).length ≤ 20000 := by
      by_cases h0 : us = []
      · rw [h0]; decide
      · have h1 := LX.jl_length us h0
        rw [LX.sum_len] at h1
        have h2 := LX.sum_le hg
        omega
    have JN2 : Hid (∀ W, Below w.heap.size w W → Calls Tryd.prog 24 #[v] W fun e w' => e = .returned (.string (jB us)) ∧ Below W.heap.size W w') := fun W hW => by
      have := JN.out W hW
      unfold JPost at this
      rw [← e1, joinB_good hg hbt] at this
      exact this
    have SC : Hid (∀ W, Env W → Calls Tryd.prog 20 #[.string (jB us)] W fun e w' => ∃ ad c, e = .returned (.tuple #[.slice ad us.length c, .int .i64 0, .int .i64 0]) ∧ w'.ownsRow W.heap.size 39 4 (.slice ad us.length c) us.length (flatT (LX.backs 0 us)) ∧ Below W.heap.size W w') := fun W hW =>
      (scan_jB hW hg hbt hjl).mono fun e w' ⟨ad, c, h1, h2, h3⟩ => ⟨ad, c, by rw [h1]; simp only [LX.Res.toks, LX.backs_length]; rfl, by simpa only [LX.Res.toks, LX.backs_length] using h2, h3⟩
    have SM : Hid (∀ W va, Below w.heap.size w W → TkS W va ((LX.backs 0 us).map tkv) → Calls Tryd.prog 25 #[va, v] W fun e w' => e = .returned (.bool true) ∧ Below W.heap.size W w') := fun W va hW hva => by
      have := same_any hva (HTS.out.keep hW) (size40 (by omega) 0) hn
      unfold SamePost at this
      rw [← e1, sameT_backs] at this
      exact this
    have JN3 : Hid (∀ W va, Env W → TkS W va ((LX.backs 0 us).map tkv) → Calls Tryd.prog 24 #[va] W fun e w' => e = .returned (.string (jB us)) ∧ Below W.heap.size W w') := fun W va hW hva => by
      have := join_any hW hva (size40 (by omega) 0) (tkv_size (LX.backs_good hg 0))
      unfold JPost at this
      rw [joinB_good (LX.backs_good hg 0) (backs_bt hbt 0), jB_backs] at this
      exact this
    obtain ⟨lu, hlu⟩ : ∃ n, n = us.length := ⟨_, rfl⟩
    rw [← hlu] at SC
    have HLU : Hid (lu = (LX.backs 0 us).length) := by rw [LX.backs_length]; exact hlu
    clear SH JN henv hts hn hsz hlu hjl hul hbt hus hg e1 hall h5
    go_enter Tryd.func9, Tryd.ntmps9
    go_wp2_with fail
    refine SA.out.mono ?_
    rintro e w1 ⟨rfl, hb⟩
    have HB := Lib.hid hb
    clear hb
    go_wp2_with fail
    refine (SH2.out _ HB.out).mono ?_
    rintro e w2 ⟨rfl, hb⟩
    have HB2 : Hid (Below w.heap.size w w2) := HB.out.trans (hb.mono HB.out.size)
    clear hb
    go_wp2_with fail
    refine (JN2.out _ HB2.out).mono ?_
    rintro e w3 ⟨rfl, hb⟩
    have HB3 : Hid (Below w.heap.size w w3) := HB2.out.trans (hb.mono HB2.out.size)
    clear hb
    go_wp2_with fail
    refine (SC.out _ (HE.out.on HB3.out)).mono ?_
    rintro e w4 ⟨az, cz, rfl, hz, hb⟩
    have HB4 : Hid (Below w.heap.size w w4) := HB3.out.trans (hb.mono HB3.out.size)
    clear hb
    have HZ : Hid (TkS w4 (.slice az lu cz) ((LX.backs 0 us).map tkv)) := by rw [HLU.out] at hz ⊢; exact tks_of_owns hz
    clear hz
    go_wp2_with fail
    refine (SM.out _ _ HB4.out HZ.out).mono ?_
    rintro e w5 ⟨rfl, hb⟩
    have HB5 : Hid (Below w.heap.size w w5) := HB4.out.trans (hb.mono HB4.out.size)
    have HZ5 := Lib.hid (HZ.out.keep hb)
    clear hb
    go_wp2_with fail
    refine (JN3.out _ _ (HE.out.on HB5.out) HZ5.out).mono ?_
    rintro e w6 ⟨rfl, hb⟩
    have HB6 : Hid (Below w.heap.size w w6) := HB5.out.trans (hb.mono HB5.out.size)
    clear hb
    go_wp2_with fail
    go_ret
    exact ⟨rfl, HB6.out⟩
end Go.Proofs.YtfoijbcmjciihaaDoor
