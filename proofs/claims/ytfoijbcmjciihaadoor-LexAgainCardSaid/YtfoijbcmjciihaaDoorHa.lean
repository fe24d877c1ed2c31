/- LexAgain: walked. -/
import Derived.Test.YtfoijbcmjciihaaDoorH9
import Derived.Test.YtfoijbcmjciihaaDoorW
set_option linter.unusedSimpArgs false
set_option linter.unusedVariables false
namespace Go.Proofs.YtfoijbcmjciihaaDoor
open Go.RowKit

set_option maxHeartbeats 1000000 in
set_option maxRecDepth 20000 in
theorem again_bad {w : World} (henv : Env w) (s : ByteArray) (hz : s.size ≤ 5000) {p er : Nat} (hr : LX.scan (bts s) = .bad p er) : Calls Tryd.prog 10 #[.string s] w (TrueP w) := by
  have SA := Lib.hid (sane_any henv)
  have HE := Lib.hid henv
  obtain ⟨hee, _⟩ := LX.scan_bad hr
  have S1 : Hid (∀ W, Env W → Calls Tryd.prog 20 #[.string s] W fun e w' => ∃ ad c, e = .returned (.tuple #[.slice ad 0 c, .int .i64 p, .int .i64 er]) ∧ True ∧ Below W.heap.size W w') := fun W hW => by
    have := scan_any hW s (by omega)
    rw [up_small (by omega), hr] at this
    exact this.mono fun e w' ⟨ad, c, h1, _, h3⟩ => ⟨ad, c, h1, trivial, h3⟩
  have hne : ((er : Int) == 0) = false := by simp; omega
  have z1 : (s.size : Int) ≤ 5000 := by omega
  clear hr hz henv hee
  go_enter Tryd.func10, Tryd.ntmps10
  go_wp2_with fail
  refine SA.out.mono ?_
  rintro e w1 ⟨rfl, hb⟩
  have HB := Lib.hid hb
  clear hb
  go_wp2_with fail
  refine (S1.out _ (HE.out.on HB.out)).mono ?_
  rintro e w2 ⟨ax, cx, rfl, -, hb⟩
  have HB2 : Hid (Below w.heap.size w w2) := HB.out.trans (hb.mono HB.out.size)
  clear hb
  go_wp2_with fail
  go_ret
  exact ⟨rfl, HB2.out⟩

set_option maxHeartbeats 1000000 in
set_option maxRecDepth 20000 in
theorem again_long {w : World} (henv : Env w) (s : ByteArray) (hz : 5000 < s.size) : Calls Tryd.prog 10 #[.string s] w (TrueP w) := by
  have SA := Lib.hid (sane_any henv)
  have z1 : (5000 : Int) < (s.size : Int) := by omega
  clear hz henv
  go_enter Tryd.func10, Tryd.ntmps10
  go_wp2_with fail
  refine SA.out.mono ?_
  rintro e w1 ⟨rfl, hb⟩
  have HB := Lib.hid hb
  clear hb
  go_wp2_with fail
  go_ret
  exact ⟨rfl, HB.out⟩

theorem digS_text {u : LX.Tok} (h : LX.Good u) (hb : ∀ c ∈ u.text, c < 256) (h1 : u.kind = 1) : (-9223372036854775808 ≤ u.num ∧ u.num ≤ 9223372036854775807) ∧ digS u.num = ofB u.text := by
  have hd := h.digs h1
  have hn := h.num
  rw [if_pos h1] at hn
  have hr : -9223372036854775808 ≤ u.num ∧ u.num ≤ 9223372036854775807 := by
    cases hq : LX.num u.text with
    | none => rw [hq] at hn; rw [hn]; decide
    | some v =>
      rw [hq] at hn
      obtain ⟨a, b, _⟩ := num_some hq
      have hn' : u.num = v := hn
      omega
  refine ⟨hr, bts_inj ?_⟩
  rw [bts_digS _ hr.1 hr.2, hd, bts_ofB hb]

set_option maxHeartbeats 4000000 in
set_option maxRecDepth 20000 in
theorem again_good {w : World} (henv : Env w) (s : ByteArray) (hz : s.size ≤ 5000) {us : List LX.Tok} {cs : List (Nat × Nat)} (hr : LX.scan (bts s) = .ok us cs) : Calls Tryd.prog 10 #[.string s] w (TrueP w) := by
  have SA := Lib.hid (sane_any henv)
  have HE := Lib.hid henv
  have hg : ∀ u ∈ us, LX.Good u := LX.sc_good (bts s) (j := 0) hr
  have hbt : LX.Bt us := by have := scan_bytes s; rw [hr] at this; exact this
  have hsum := LX.sc_sum (bts s) _ 0 rfl us cs hr
  rw [bts_length] at hsum
  have hlen := LX.sum_ge hg
  have hjl : (LX.jl us).length ≤ 10000 ∧ (us ≠ [] → (LX.jl us).length + 1 = LX.pre us us.length) ∧ (us = [] → LX.jl us = []) := by
    by_cases h0 : us = []
    · rw [h0]; exact ⟨by decide, fun h => absurd rfl h, fun _ => rfl⟩
    · have h1 := LX.jl_length us h0
      refine ⟨?_, fun _ => ?_, fun h => absurd h h0⟩
      · rw [LX.sum_len] at h1; omega
      · rw [h1]; unfold LX.pre; rw [List.take_of_length_le (Nat.le_refl _)]
  obtain ⟨hj1, hj2, hj3⟩ := hjl
  have hpre : ∀ n, n ≤ us.length → LX.pre us n ≤ 10000 := fun n hn => by
    unfold LX.pre
    have e : (us.map fun t => t.text.length + 1).sum = ((us.take n).map fun t => t.text.length + 1).sum + ((us.drop n).map fun t => t.text.length + 1).sum := by
      rw [← List.sum_append, ← List.map_append, List.take_append_drop]
    have h2 := LX.sum_len us
    omega
  have S1 : Hid (∀ W, Env W → Calls Tryd.prog 20 #[.string s] W fun e w' => ∃ ad c, e = .returned (.tuple #[.slice ad us.length c, .int .i64 0, .int .i64 0]) ∧ w'.ownsRow W.heap.size 39 4 (.slice ad us.length c) us.length (flatT us) ∧ Below W.heap.size W w') := fun W hW => by
    have := scan_any hW s (by omega)
    rw [up_small (by omega), hr] at this
    exact this.mono fun e w' ⟨ad, c, h1, h2, h3⟩ => ⟨ad, c, h1, h2, h3⟩
  have S2 : Hid (∀ W, Env W → Calls Tryd.prog 20 #[.string (jB us)] W fun e w' => ∃ ad c, e = .returned (.tuple #[.slice ad us.length c, .int .i64 0, .int .i64 0]) ∧ w'.ownsRow W.heap.size 39 4 (.slice ad us.length c) us.length (flatT (LX.backs 0 us)) ∧ Below W.heap.size W w') := fun W hW =>
    (scan_jB hW hg hbt (by omega)).mono fun e w' ⟨ad, c, h1, h2, h3⟩ => ⟨ad, c, by rw [h1]; simp only [LX.Res.toks, LX.backs_length]; rfl, by simpa only [LX.Res.toks, LX.backs_length] using h2, h3⟩
  have JN : Hid (∀ W va, Env W → TkS W va (us.map tkv) → Calls Tryd.prog 24 #[va] W fun e w' => e = .returned (.string (jB us)) ∧ Below W.heap.size W w') := fun W va hW hva => by
    have := join_any hW hva (by rw [List.length_map]; omega) (tkv_size hg)
    unfold JPost at this
    rw [joinB_good hg hbt] at this
    exact this
  have SM : Hid (∀ W va vb, TkS W va ((LX.backs 0 us).map tkv) → TkS W vb (us.map tkv) → Calls Tryd.prog 25 #[va, vb] W fun e w' => e = .returned (.bool true) ∧ Below W.heap.size W w') := fun W va vb hva hvb => by
    have := same_any hva hvb (size40 (by omega) 0) (by rw [List.length_map]; omega)
    unfold SamePost at this
    rw [sameT_backs] at this
    exact this
  obtain ⟨lu, hlu⟩ : ∃ n, n = us.length := ⟨_, rfl⟩
  rw [← hlu] at S1 S2 hj2 hpre
  have z1 : (s.size : Int) ≤ 5000 := by omega
  have hlz : (lu : Int) ≤ 5000 := by omega
  have HLU : Hid (lu = us.length) := hlu
  have HLB : Hid (lu = (LX.backs 0 us).length) := by rw [LX.backs_length]; exact hlu
  have HG := Lib.hid hg
  have HBT := Lib.hid hbt
  have HJ2 := Lib.hid hj2
  have HJ3 := Lib.hid hj3
  have HPRE := Lib.hid hpre
  have hsz := jB_size hbt
  have HJS : Hid ((jB us).size = (LX.jl us).length) := hsz
  have hjz : ((jB us).size : Int) ≤ 10000 := by omega
  obtain ⟨J, hJ⟩ : ∃ J, J = jB us := ⟨_, rfl⟩
  rw [← hJ] at S2 JN HJS hjz
  have HJ := Lib.hid hJ
  have hwj : IntKind.i64.wrap ((J.size : Int) + 1) = (J.size : Int) + 1 := wrap_in _ (by omega)
  clear hr hz henv hg hbt hsum hlen hj1 hj2 hj3 hpre hlu hsz hJ
  go_enter Tryd.func10, Tryd.ntmps10
  go_wp2_with fail
  refine SA.out.mono ?_
  rintro e w1 ⟨rfl, hb⟩
  have HB := Lib.hid hb
  clear hb
  go_wp2_with fail
  refine (S1.out _ (HE.out.on HB.out)).mono ?_
  rintro e w2 ⟨ax, cx, rfl, hx, hb⟩
  have HB2 : Hid (Below w.heap.size w w2) := HB.out.trans (hb.mono HB.out.size)
  have HX : Hid (TkS w2 (.slice ax lu cx) (us.map tkv)) := by rw [HLU.out] at hx ⊢; exact tks_of_owns hx
  clear hb hx
  go_wp2_with fail
  refine (JN.out _ _ (HE.out.on HB2.out) HX.out).mono ?_
  rintro e w3 ⟨rfl, hb⟩
  have HB3 : Hid (Below w.heap.size w w3) := HB2.out.trans (hb.mono HB2.out.size)
  have HX3 := Lib.hid (HX.out.keep hb)
  clear hb HX
  go_wp2_with fail
  refine (S2.out _ (HE.out.on HB3.out)).mono ?_
  rintro e w4 ⟨az, cz, rfl, hz, hb⟩
  have HB4 : Hid (Below w.heap.size w w4) := HB3.out.trans (hb.mono HB3.out.size)
  have HX4 := Lib.hid (HX3.out.keep hb)
  have HZ : Hid (TkS w4 (.slice az lu cz) ((LX.backs 0 us).map tkv)) := by rw [HLB.out] at hz ⊢; exact tks_of_owns hz
  clear hb hz HX3
  go_wp2_with fail
  refine (SM.out _ _ _ HZ.out HX4.out).mono ?_
  rintro e w5 ⟨rfl, hb⟩
  have HB5 : Hid (Below w.heap.size w w5) := HB4.out.trans (hb.mono HB4.out.size)
  have HZ5 := Lib.hid (HZ.out.keep hb)
  clear hb HX4 HZ
  go_wp2_with fail
  clear HB HB2 HB3 HB4 SA S1 S2 JN SM
  go_loopw [11, 12] (fun a i wr => ∃ n : Nat, n ≤ lu ∧ i = .int .i64 n ∧ a = .int .i64 (LX.pre us n) ∧ Below w5.heap.size w5 wr) (fun _ i _ => lu - (intOf i).toNat)
  case atStart => exact ⟨0, Nat.zero_le _, rfl, rfl, Below.refl _ _⟩
  case round =>
    obtain ⟨n, hn, rfl, ha, hbl⟩ := hrel
    have HBL := Lib.hid hbl
    obtain ⟨pn, hpn⟩ : ∃ p, p = LX.pre us n := ⟨_, rfl⟩
    rw [← hpn] at ha
    subst ha
    clear hbl
    by_cases hlt : n < lu
    · have hltz : (n : Int) < (lu : Int) := by omega
      obtain ⟨q, hq⟩ : ∃ q, (LX.backs 0 us)[n]? = some q := ⟨_, List.getElem?_eq_getElem (by have := HLB.out; omega)⟩
      obtain ⟨u, hu, -⟩ := LX.backs_get us 0 n q hq
      have hplace := LX.backs_place us 0 n q hq
      rw [Nat.zero_add, ← hpn] at hplace
      have hgq := LX.backs_good HG.out 0 q (List.mem_of_getElem? hq)
      have hbq := backs_bt HBT.out 0 q (List.mem_of_getElem? hq)
      have hpn1 : LX.pre us (n + 1) = pn + q.text.length + 1 := by
        obtain ⟨u, hu, e⟩ := LX.backs_get us 0 n q hq
        rw [LX.pre_succ hu, hpn, e]
      have hpz := HPRE.out (n + 1) hlt
      obtain ⟨gz, oz, rfl, c0, c1, c2, c3⟩ := tks_get (HZ5.out.keep HBL.out) hq
      have hgz := tks_lt (HZ5.out.keep HBL.out) hq
      rw [hplace] at c3
      have hkk : LX.kindOf (bts (ofB q.text)) = q.kind := by rw [bts_ofB hbq]; exact hgq.kind
      have htl : (ofB q.text).size = q.text.length := by unfold ofB; show (List.map UInt8.ofNat q.text).length = _; rw [List.length_map]
      have hsh := hgq.short
      have KK : Hid (∀ x : Wg wr, Calls Tryd.prog 26 #[.string (ofB q.text)] x.v fun e w' => e = .returned (.int .i64 q.kind) ∧ ∃ y : Wg wr, w' = y.v) :=
        Wg.call fun x => by
          have := kind_any (HE.out.on (HB5.out.trans ((HBL.out.trans (x.ch.mono HBL.out.size)).mono HB5.out.size))) (ofB q.text) (by omega)
          unfold KPost at this
          rw [hkk] at this
          exact this
      have DG : Hid (q.kind = 1 → ∀ x : Wg wr, Calls Tryd.prog 14 #[.int .i64 q.num] x.v fun e w' => e = .returned (.string (ofB q.text)) ∧ ∃ y : Wg wr, w' = y.v) := fun h1 =>
        Wg.call fun x => by
          obtain ⟨hr1, hr2⟩ := digS_text hgq hbq h1
          have := digits_any (HE.out.on (HB5.out.trans ((HBL.out.trans (x.ch.mono HBL.out.size)).mono HB5.out.size))) q.num hr1.1 hr1.2
          rw [hr2] at this
          exact this
      obtain ⟨tx, htx⟩ : ∃ t, t = ofB q.text := ⟨_, rfl⟩
      obtain ⟨kd, hkd⟩ : ∃ t, t = q.kind := ⟨_, rfl⟩
      obtain ⟨nv, hnv⟩ : ∃ t, t = q.num := ⟨_, rfl⟩
      rw [← htx] at htl KK DG c2
      rw [← hkd] at KK DG c0
      rw [← hnv] at DG c1
      have d0 : ∀ x : Wg wr, x.v.cell? ⟨gz, oz + n * 4, none⟩ = some (.int .i64 kd) := fun x => x.cell hgz c0
      have d1 : ∀ x : Wg wr, x.v.cell? ⟨gz, oz + n * 4 + 1, none⟩ = some (.int .i64 nv) := fun x => x.cell hgz c1
      have d2 : ∀ x : Wg wr, x.v.cell? ⟨gz, oz + n * 4 + 2, none⟩ = some (.string tx) := fun x => x.cell hgz c2
      have d3 : ∀ x : Wg wr, x.v.cell? ⟨gz, oz + n * 4 + 3, none⟩ = some (.int .i64 pn) := fun x => x.cell hgz c3
      have hpz1 : (pn : Int) + (tx.size : Int) + 1 ≤ 10000 := by omega
      have hw1 : IntKind.i64.wrap ((pn : Int) + (tx.size : Int)) = (pn : Int) + (tx.size : Int) := wrap_in _ (by omega)
      have hw2 : IntKind.i64.wrap ((pn : Int) + (tx.size : Int) + 1) = (pn : Int) + (tx.size : Int) + 1 := wrap_in _ (by omega)
      have HP1 : Hid ((pn : Int) + (tx.size : Int) + 1 = ((LX.pre us (n + 1) : Nat) : Int)) := by rw [hpn1, ← htl]; show _ = _; omega
      have HLT := Lib.hid hlt
      clear hq hu hplace hgq hbq hpn1 hpz hgz hkk htl hsh htx hkd hnv c0 c1 c2 c3 hlt hpn hn
      by_cases h1 : kd = 1
      · subst h1
        have DG2 := Lib.hid (DG.out rfl)
        clear DG
        go_wp2_with fail
        refine wp_region_below (by kernel_rfl) (by kernel_rfl) ?_
        repeat
          first
          | go_big_quiet_skip
          | (go_big_quiet_want
             go_big_quiet_op
             first
             | go_big_quiet_on
             | (refine ⟨_, fun _ => rfl, ?_⟩; go_big_quiet_on)
             | (apply Exists.intro
                refine ⟨fun x => ?_, ?_⟩
                · (first | (go_at_call 14; exact DG2.out _) | (go_at_call 26; exact KK.out _))
                go_big_quiet_on))
        refine wpQuiet_nil ?_
        intro x
        go_wp2_with fail
        go_roundw
        case rel => exact ⟨n + 1, HLT.out, by go_num, by rw [HP1.out], HBL.out.trans (x.ch.mono HBL.out.size)⟩
        case measure => have := HLT.out; simp [intOf]; omega
      · have k1 : ((kd : Int) == 1) = false := by simp; omega
        clear h1 DG
        go_wp2_with fail
        refine wp_region_below (by kernel_rfl) (by kernel_rfl) ?_
        repeat
          first
          | go_big_quiet_skip
          | (go_big_quiet_want
             go_big_quiet_op
             first
             | go_big_quiet_on
             | (refine ⟨_, fun _ => rfl, ?_⟩; go_big_quiet_on)
             | (apply Exists.intro
                refine ⟨fun x => ?_, ?_⟩
                · (go_at_call 26; exact KK.out _)
                go_big_quiet_on))
        refine wpQuiet_nil ?_
        intro x
        go_wp2_with fail
        go_roundw
        case rel => exact ⟨n + 1, HLT.out, by go_num, by rw [HP1.out], HBL.out.trans (x.ch.mono HBL.out.size)⟩
        case measure => have := HLT.out; simp [intOf]; omega
    · have hge : (lu : Int) ≤ (n : Int) := by omega
      obtain rfl : n = lu := by omega
      by_cases h0 : us = []
      · have hl0 : (n : Int) = 0 := by have := HLU.out; rw [h0] at this; simpa using this
        obtain rfl : n = 0 := by omega
        have e0 : J.toList = [] := by
          have h1 : J.size = 0 := by rw [HJS.out, HJ3.out h0]; rfl
          rw [ByteArray.toList_eq]
          exact List.length_eq_zero_iff.1 h1
        clear h0 hl0 hlt hn hpn
        go_wp2_with fail
        go_ret
        exact ⟨rfl, HB5.out.trans (HBL.out.mono HB5.out.size)⟩
      · have hl0 : (0 : Int) < (n : Int) := by
          have := HLU.out
          have h2 : 0 < us.length := List.length_pos_iff.2 h0
          omega
        have hn0 : ((n : Int) == 0) = false := by simp; omega
        have e1 : ((pn : Int) == (J.size : Int) + 1) = true := by
          have h1 := HJ2.out h0
          rw [← hpn] at h1
          have := HJS.out
          simp
          omega
        clear h0 hlt hn hpn
        go_wp2_with fail
        go_ret
        exact ⟨rfl, HB5.out.trans (HBL.out.mono HB5.out.size)⟩

theorem again_walk {w : World} (henv : Env w) (s : ByteArray) (hmax : s.size ≤ 9223372036854775807) : Calls Tryd.prog 10 #[.string s] w (TrueP w) := by
  by_cases h : 5000 < s.size
  · exact again_long henv s h
  · cases hr : LX.scan (bts s) with
    | bad p er => exact again_bad henv s (by omega) hr
    | ok us cs => exact again_good henv s (by omega) hr
end Go.Proofs.YtfoijbcmjciihaaDoor
