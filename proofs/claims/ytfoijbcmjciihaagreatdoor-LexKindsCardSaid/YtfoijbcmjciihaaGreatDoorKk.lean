/- What kind a text is, by the program and by the reference: walked. -/
import Derived.Test.YtfoijbcmjciihaaGreatDoorPk
import Derived.Test.YtfoijbcmjciihaaGreatDoorRg
import Derived.Test.YtfoijbcmjciihaaGreatDoorRh
import Derived.Test.YtfoijbcmjciihaaGreatDoorSb
set_option linter.unusedSimpArgs false
set_option linter.unusedVariables false
namespace Go.Proofs.YtfoijbcmjciihaaGreatDoor
open Go.RowKit

theorem isCon_any {w : World} (henv : Env w) (s : ByteArray) (hmax : s.size ≤ 9223372036854775807) :
    Calls Tryz.prog 16 #[.string s] w fun e w' => e = .returned (.bool (LX.kindOf (bts s) == 3)) ∧ Below w.heap.size w w' := by
  have K := Lib.hid (kind_any henv s hmax)
  obtain ⟨r, hr⟩ : ∃ r, r = LX.kindOf (bts s) := ⟨_, rfl⟩
  unfold KPost at K
  rw [← hr] at K ⊢
  have e1 : ((r : Int) == 3) = (r == 3) := by rw [Bool.eq_iff_iff, beq_iff_eq, beq_iff_eq]; omega
  have HE := Lib.hid e1
  clear hr henv e1
  go_enter Tryz.func16, Tryz.ntmps16
  go_wp2_with fail
  refine K.out.mono ?_
  rintro e w1 ⟨rfl, hb⟩
  have HB := Lib.hid hb
  clear hb
  go_wp2_with fail
  go_ret
  exact ⟨by rw [← HE.out]; rfl, HB.out⟩

theorem isVar_any {w : World} (henv : Env w) (s : ByteArray) (hmax : s.size ≤ 9223372036854775807) :
    Calls Tryz.prog 17 #[.string s] w fun e w' => e = .returned (.bool (LX.kindOf (bts s) == 4)) ∧ Below w.heap.size w w' := by
  have K := Lib.hid (kind_any henv s hmax)
  obtain ⟨r, hr⟩ : ∃ r, r = LX.kindOf (bts s) := ⟨_, rfl⟩
  unfold KPost at K
  rw [← hr] at K ⊢
  have e1 : ((r : Int) == 4) = (r == 4) := by rw [Bool.eq_iff_iff, beq_iff_eq, beq_iff_eq]; omega
  have HE := Lib.hid e1
  clear hr henv e1
  go_enter Tryz.func17, Tryz.ntmps17
  go_wp2_with fail
  refine K.out.mono ?_
  rintro e w1 ⟨rfl, hb⟩
  have HB := Lib.hid hb
  clear hb
  go_wp2_with fail
  go_ret
  exact ⟨by rw [← HE.out]; rfl, HB.out⟩

theorem isWord_any {w : World} (henv : Env w) (s : ByteArray) (hmax : s.size ≤ 9223372036854775807) :
    Calls Tryz.prog 18 #[.string s] w fun e w' => e = .returned (.bool (LX.kindOf (bts s) == 5)) ∧ Below w.heap.size w w' := by
  have K := Lib.hid (kind_any henv s hmax)
  obtain ⟨r, hr⟩ : ∃ r, r = LX.kindOf (bts s) := ⟨_, rfl⟩
  unfold KPost at K
  rw [← hr] at K ⊢
  have e1 : ((r : Int) == 5) = (r == 5) := by rw [Bool.eq_iff_iff, beq_iff_eq, beq_iff_eq]; omega
  have HE := Lib.hid e1
  clear hr henv e1
  go_enter Tryz.func18, Tryz.ntmps18
  go_wp2_with fail
  refine K.out.mono ?_
  rintro e w1 ⟨rfl, hb⟩
  have HB := Lib.hid hb
  clear hb
  go_wp2_with fail
  go_ret
  exact ⟨by rw [← HE.out]; rfl, HB.out⟩


theorem rread_any (w : World) (s : ByteArray) (i c : Nat) (h : RdAt s i c) : Calls Tryz.prog 35 #[.string s, .int .i64 i] w (RdPost w (rdV s i (LX.token ((bts s).drop i)))) := by
  cases hd : LX.digit c with
  | true => exact rread_digit w s i c h hd
  | false =>
    by_cases h126 : c = 126
    · exact rread_tilde w s i c h h126
    · cases hs : LX.small c with
      | true => exact rread_small w s i c h hs
      | false =>
        cases hg : LX.great c with
        | true => exact rread_great w s i c h hg
        | false =>
          by_cases h39 : c = 39
          · by_cases hl : i + 1 < s.size
            · cases hn : LX.small ((bts s).getD (i + 1) 0) with
              | true => rw [h39] at h; exact rread_var w s i h hl hn
              | false => exact rread_quote w s i c h hd h126 hs hg h39 hl hn
            · exact rread_quote_end w s i c h hd h126 hs hg h39 (by omega)
          · exact rread_sign w s i c h hd h126 hs hg h39

def RkPost (w : World) (k : Nat) (e : Ending) (w' : World) : Prop := e = .returned (.int .i64 k) ∧ Below w.heap.size w w'

theorem slice_to (s : ByteArray) (p : Nat) (hp : p ≤ s.size) (m : World) : (Instr.slice 9 (.string s) none (some (.int .i64 p)) none).run Tryz.prog m = .ok (.string (s.extract 0 p)) m := by
  have := run_slice_string_to_if (P := Tryz.prog) m 9 s .i64 p Tryz.underlying9
  rw [this]
  simp [show (p : Int) ≤ (s.size : Int) from by omega]


theorem two_head (s : ByteArray) (h : 1 < s.size) : ∃ x : ByteArray, (∀ m, (Instr.slice 9 (.string s) none (some (.int .i64 2)) none).run Tryz.prog m = .ok (.string x) m) ∧ (x.toList == ([40, 42] : List UInt8)) = LX.opens (bts s) := by
  have hx : bts (s.extract 0 2) = [(bts s).getD 0 0, (bts s).getD 1 0] := by
    rw [bts_extract, List.drop_zero]
    have h1 := LX.drop_get (T := bts s) (j := 0) (by rw [bts_length]; omega)
    have h2 := LX.drop_get (T := bts s) (j := 1) (by rw [bts_length]; omega)
    rw [List.drop_zero] at h1
    rw [h1]
    show (_ :: (bts s).drop 1).take 2 = _
    rw [h2]
    rfl
  refine ⟨s.extract 0 2, fun m => slice_to s 2 (by omega) m, ?_⟩
  have := two_eq hx ⟨#[40, 42]⟩ (a := 40) (b := 42) rfl
  rw [lit4042] at this
  rw [this]
  cases ho : LX.opens (bts s) with
  | true =>
    obtain ⟨a, b⟩ := LX.opens_two ho
    rw [a, b]; rfl
  | false =>
    cases hq : ((bts s).getD 0 0 == 40 && (bts s).getD 1 0 == 42) with
    | false => rfl
    | true =>
      simp only [Bool.and_eq_true, beq_iff_eq] at hq
      rw [LX.opens_of hq.1 hq.2] at ho
      cases ho

set_option maxHeartbeats 1000000 in
set_option maxRecDepth 20000 in
theorem rkind_any (w : World) (s : ByteArray) : Calls Tryz.prog 14 #[.string s] w (RkPost w (LX.refKind (bts s))) := by
  obtain ⟨K, hK⟩ : ∃ K, K = LX.refKind (bts s) := ⟨_, rfl⟩
  rw [← hK]
  unfold LX.refKind at hK
  rw [bts_length] at hK
  have ZERO : Hid (K = 0 → ∀ w', Below w.heap.size w w' → RkPost w K (.returned (.int .i64 0)) w') := fun h w' hb => ⟨by rw [h]; rfl, hb⟩
  by_cases h0 : s.size = 0
  · have e0 : bts s = [] := List.length_eq_zero_iff.1 (by rw [bts_length]; exact h0)
    rw [if_pos (.inl e0)] at hK
    have HK := Lib.hid hK
    have z0 : ((s.size : Int) == 0) = true := by rw [h0]; rfl
    have z1 : (s.size == 0) = true := by rw [h0]; rfl
    clear hK e0 h0
    go_enter Tryz.func14, Tryz.ntmps14
    go_wp2_with fail
    go_ret
    exact ZERO.out HK.out _ (Below.refl _ _)
  · have hne : bts s ≠ [] := fun e => h0 (by rw [← bts_length, e]; rfl)
    have z0 : ((s.size : Int) == 0) = false := beq_false_of_ne (by omega)
    have z1 : (s.size == 0) = false := beq_false_of_ne (by omega)
    by_cases h100 : 100 < s.size
    · rw [if_pos (.inr h100)] at hK
      have HK := Lib.hid hK
      have z2 : (100 : Int) < (s.size : Int) := by omega
      clear hK hne h0 h100
      go_enter Tryz.func14, Tryz.ntmps14
      go_wp2_with fail
      go_ret
      exact ZERO.out HK.out _ (Below.refl _ _)
    · rw [if_neg (fun e => by rcases e with e | e; · exact hne e
                              · exact h100 e), LX.headD_getD] at hK
      have z2 : (s.size : Int) ≤ 100 := by omega
      have z3 : (0 : Int) < (s.size : Int) := by omega
      obtain ⟨c, hc⟩ : ∃ c, (bts s).getD 0 0 = c := ⟨_, rfl⟩
      have b0 : ∀ m, (Instr.index 9 (.string s) (.int .i64 0)).run Tryz.prog m = .ok (.int .u8 c) m := byte_at (i := 0) s (by omega) hc
      rw [hc] at hK
      have SP : Hid (∀ W, Calls Tryz.prog 33 #[.int .u8 c] W fun e w' => e = .returned (.bool (LX.space c)) ∧ w' = W) := fun W => rspace_any W c
      cases hsp : LX.space c with
      | true =>
        rw [if_pos (.inl hsp)] at hK
        rw [hsp] at SP
        have HK := Lib.hid hK
        clear hK hne h0 h100 hc hsp
        go_enter Tryz.func14, Tryz.ntmps14
        go_wp2_with fail
        refine (SP.out _).mono ?_
        rintro e w1 ⟨rfl, rfl⟩
        go_wp2_with fail
        go_ret
        exact ZERO.out HK.out _ (Below.refl _ _)
      | false =>
        rw [hsp] at SP
        have RA : Hid (∀ W, Calls Tryz.prog 35 #[.string s, .int .i64 0] W (RdPost W (rdV s 0 (LX.token (bts s))))) := fun W => by
          have := rread_any W s 0 c ⟨by omega, by omega, hc⟩
          rw [List.drop_zero] at this
          exact this
        have main : ∀ (pre : LX.opens (bts s) = false), (∃ x : ByteArray, (1 < s.size → (∀ m, (Instr.slice 9 (.string s) none (some (.int .i64 2)) none).run Tryz.prog m = .ok (.string x) m) ∧ (x.toList == ([40, 42] : List UInt8)) = false)) → Calls Tryz.prog 14 #[.string s] w (RkPost w K) := fun pre hx => by
          obtain ⟨x, hx⟩ := hx
          rw [if_neg (fun e => by rcases e with e | e; · rw [hsp] at e; cases e
                                  · rw [pre] at e; cases e)] at hK
          by_cases h1 : 1 < s.size
          · obtain ⟨sl, ne⟩ := hx h1
            have z4 : (1 : Int) < (s.size : Int) := by omega
            clear hx h1
            cases ht : LX.token (bts s) with
            | bad er =>
              rw [ht] at hK RA
              have hee := LX.token_bad ht
              have k0 : ((er : Int) == 0) = false := beq_false_of_ne (by omega)
              have HK := Lib.hid hK
              clear hK hne h0 h100 hc hsp ht hee pre
              go_enter Tryz.func14, Tryz.ntmps14
              go_wp2_with fail
              refine (SP.out _).mono ?_
              rintro e w1 ⟨rfl, rfl⟩
              go_wp2_with fail
              refine (RA.out _).mono ?_
              rintro e w1 ⟨rfl, hb⟩
              have HB := Lib.hid hb
              clear hb
              unfold rdV tokV
              go_wp2_with fail
              go_ret
              exact ZERO.out HK.out _ (HB.out.alloc HB.out.size _)
            | tok k v n =>
              rw [ht] at hK RA
              have h9 := LX.token_len ht
              rw [bts_length] at h9
              obtain ⟨tx, htx⟩ : ∃ t, t = s.extract 0 (0 + n) := ⟨_, rfl⟩
              have hts : tx.size = n := by rw [htx, ByteArray.size_extract]; omega
              have RA2 : Hid (∀ W, Calls Tryz.prog 35 #[.string s, .int .i64 0] W (RdPost W (.tuple #[.agg #[.int .i64 k, .int .i64 v, .string tx, .int .i64 0], .int .i64 0]))) := fun W => by rw [htx]; exact RA.out W
              clear RA
              have RA := RA2
              clear RA2
              by_cases hn : n = s.size
              · have k1 : ((tx.size : Int) == (s.size : Int)) = true := by rw [hts, hn]; simp
                have k2 : (tx.size == s.size) = true := by rw [hts, hn]; simp
                have hv : K = k := by rw [hK]; simp only []; rw [if_pos hn]
                have HV := Lib.hid hv
                clear hK hv hne h0 h100 hc hsp ht h9 pre htx hts hn
                go_enter Tryz.func14, Tryz.ntmps14
                go_wp2_with fail
                refine (SP.out _).mono ?_
                rintro e w1 ⟨rfl, rfl⟩
                go_wp2_with fail
                refine (RA.out _).mono ?_
                rintro e w1 ⟨rfl, hb⟩
                have HB := Lib.hid hb
                clear hb
                go_wp2_with fail
                go_ret
                exact ⟨by rw [HV.out]; rfl, HB.out.alloc HB.out.size _⟩
              · have k1 : ((tx.size : Int) == (s.size : Int)) = false := beq_false_of_ne (by omega)
                have k2 : (tx.size == s.size) = false := beq_false_of_ne (by omega)
                have hv : K = 0 := by rw [hK]; simp only []; rw [if_neg hn]
                have HV := Lib.hid hv
                clear hK hv hne h0 h100 hc hsp ht h9 pre htx hts hn
                go_enter Tryz.func14, Tryz.ntmps14
                go_wp2_with fail
                refine (SP.out _).mono ?_
                rintro e w1 ⟨rfl, rfl⟩
                go_wp2_with fail
                refine (RA.out _).mono ?_
                rintro e w1 ⟨rfl, hb⟩
                have HB := Lib.hid hb
                clear hb
                go_wp2_with fail
                go_ret
                exact ZERO.out HV.out _ (HB.out.alloc HB.out.size _)
          · have z4 : (s.size : Int) ≤ 1 := by omega
            clear hx h1
            cases ht : LX.token (bts s) with
            | bad er =>
              rw [ht] at hK RA
              have hee := LX.token_bad ht
              have k0 : ((er : Int) == 0) = false := beq_false_of_ne (by omega)
              have HK := Lib.hid hK
              clear hK hne h0 h100 hc hsp ht hee pre
              go_enter Tryz.func14, Tryz.ntmps14
              go_wp2_with fail
              refine (SP.out _).mono ?_
              rintro e w1 ⟨rfl, rfl⟩
              go_wp2_with fail
              refine (RA.out _).mono ?_
              rintro e w1 ⟨rfl, hb⟩
              have HB := Lib.hid hb
              clear hb
              unfold rdV tokV
              go_wp2_with fail
              go_ret
              exact ZERO.out HK.out _ (HB.out.alloc HB.out.size _)
            | tok k v n =>
              rw [ht] at hK RA
              have h9 := LX.token_len ht
              rw [bts_length] at h9
              obtain ⟨tx, htx⟩ : ∃ t, t = s.extract 0 (0 + n) := ⟨_, rfl⟩
              have hts : tx.size = n := by rw [htx, ByteArray.size_extract]; omega
              have RA2 : Hid (∀ W, Calls Tryz.prog 35 #[.string s, .int .i64 0] W (RdPost W (.tuple #[.agg #[.int .i64 k, .int .i64 v, .string tx, .int .i64 0], .int .i64 0]))) := fun W => by rw [htx]; exact RA.out W
              clear RA
              have RA := RA2
              clear RA2
              by_cases hn : n = s.size
              · have k1 : ((tx.size : Int) == (s.size : Int)) = true := by rw [hts, hn]; simp
                have k2 : (tx.size == s.size) = true := by rw [hts, hn]; simp
                have hv : K = k := by rw [hK]; simp only []; rw [if_pos hn]
                have HV := Lib.hid hv
                clear hK hv hne h0 h100 hc hsp ht h9 pre htx hts hn
                go_enter Tryz.func14, Tryz.ntmps14
                go_wp2_with fail
                refine (SP.out _).mono ?_
                rintro e w1 ⟨rfl, rfl⟩
                go_wp2_with fail
                refine (RA.out _).mono ?_
                rintro e w1 ⟨rfl, hb⟩
                have HB := Lib.hid hb
                clear hb
                go_wp2_with fail
                go_ret
                exact ⟨by rw [HV.out]; rfl, HB.out.alloc HB.out.size _⟩
              · have k1 : ((tx.size : Int) == (s.size : Int)) = false := beq_false_of_ne (by omega)
                have k2 : (tx.size == s.size) = false := beq_false_of_ne (by omega)
                have hv : K = 0 := by rw [hK]; simp only []; rw [if_neg hn]
                have HV := Lib.hid hv
                clear hK hv hne h0 h100 hc hsp ht h9 pre htx hts hn
                go_enter Tryz.func14, Tryz.ntmps14
                go_wp2_with fail
                refine (SP.out _).mono ?_
                rintro e w1 ⟨rfl, rfl⟩
                go_wp2_with fail
                refine (RA.out _).mono ?_
                rintro e w1 ⟨rfl, hb⟩
                have HB := Lib.hid hb
                clear hb
                go_wp2_with fail
                go_ret
                exact ZERO.out HV.out _ (HB.out.alloc HB.out.size _)
        by_cases h1 : 1 < s.size
        · obtain ⟨x, sl, hx⟩ := two_head s h1
          cases ho : LX.opens (bts s) with
          | false => exact main ho ⟨x, fun _ => ⟨sl, by rw [hx, ho]⟩⟩
          | true =>
            rw [if_pos (.inr ho)] at hK
            rw [ho] at hx
            have HK := Lib.hid hK
            have z4 : (1 : Int) < (s.size : Int) := by omega
            clear hK hne h0 h100 hc hsp ho main RA h1
            go_enter Tryz.func14, Tryz.ntmps14
            go_wp2_with fail
            refine (SP.out _).mono ?_
            rintro e w1 ⟨rfl, rfl⟩
            go_wp2_with fail
            go_ret
            exact ZERO.out HK.out _ (Below.refl _ _)
        · refine main ?_ ⟨⟨#[]⟩, fun h => absurd h h1⟩
          cases ho : LX.opens (bts s) with
          | false => rfl
          | true =>
            obtain ⟨_, b⟩ := LX.opens_two ho
            rw [List.getD_eq_getElem?_getD, List.getElem?_eq_none (by rw [bts_length]; omega)] at b
            cases b

def RpPost (w : World) (b : Bool) (e : Ending) (w' : World) : Prop := e = .returned (.bool b) ∧ Below w.heap.size w w'

theorem contains_drop {T : List Nat} {k c : Nat} (h : k < T.length) (hc : T.getD k 0 = c) : (T.drop k).contains 39 = ((39 == c) || (T.drop (k + 1)).contains 39) := by
  rw [LX.drop_get h, hc, List.contains_cons]

set_option maxHeartbeats 1000000 in
set_option maxRecDepth 20000 in
theorem rplainText_any (w : World) (s : ByteArray) (hmax : s.size ≤ 9223372036854775807) : Calls Tryz.prog 21 #[.string s] w (RpPost w (LX.refPlain (bts s))) := by
  obtain ⟨b, hb⟩ : ∃ b, b = LX.refPlain (bts s) := ⟨_, rfl⟩
  rw [← hb]
  unfold LX.refPlain at hb
  have RK : Hid (∀ W, Calls Tryz.prog 14 #[.string s] W (RkPost W (LX.refKind (bts s)))) := fun W => rkind_any W s
  obtain ⟨k, hk⟩ : ∃ k, k = LX.refKind (bts s) := ⟨_, rfl⟩
  rw [← hk] at hb RK
  by_cases h : k = 2 ∨ k = 3 ∨ k = 4
  · rw [if_pos h] at hb
    have HB := Lib.hid hb
    have hm : (s.size : Int) ≤ 9223372036854775807 := by omega
    have hpos : 1 ≤ s.size := by
      rcases Nat.eq_zero_or_pos s.size with h0 | h0
      · exfalso
        have e0 : bts s = [] := List.length_eq_zero_iff.1 (by rw [bts_length]; exact h0)
        rw [e0] at hk
        have : LX.refKind [] = 0 := rfl
        omega
      · exact h0
    have HPOS : Hid (1 ≤ s.size) := hpos
    clear hb hk hmax hpos
    have loop : ∀ (kk : Int), (kk = 2 ∨ kk = 3 ∨ kk = 4) → (k : Int) = kk → Calls Tryz.prog 21 #[.string s] w (RpPost w b) := fun kk h2 h3 => by
      have RK2 : Hid (∀ W, Calls Tryz.prog 14 #[.string s] W fun e w' => e = .returned (.int .i64 kk) ∧ Below W.heap.size W w') := fun W => by rw [← h3]; exact RK.out W
      clear RK h3 h
      rcases h2 with rfl | rfl | rfl
      all_goals
        go_enter Tryz.func21, Tryz.ntmps21
        go_wp2_with fail
        refine (RK2.out _).mono ?_
        rintro e w1 ⟨rfl, hbw⟩
        have HW := Lib.hid hbw
        clear hbw
        go_wp2_with fail
        go_loop [4] (fun i => ∃ q : Nat, 1 ≤ q ∧ q ≤ s.size ∧ i = .int .i64 q ∧ b = !((bts s).drop q).contains 39) (fun i => s.size - (intOf i).toNat)
        case atStart => exact ⟨1, Nat.le_refl _, HPOS.out, rfl, HB.out⟩
        case round =>
          obtain ⟨q, hq1, hq2, rfl, hqb⟩ := hrel
          have HQB := Lib.hid hqb
          have HQ1 : Hid (1 ≤ q) := hq1
          clear hqb hq1
          by_cases hlt : q < s.size
          · have hlz : (q : Int) < (s.size : Int) := by omega
            obtain ⟨c, hc⟩ : ∃ c, (bts s).getD q 0 = c := ⟨_, rfl⟩
            have bq := byte_at s hlt hc
            have hcd := contains_drop (by rw [bts_length]; exact hlt) hc
            have HCD := Lib.hid hcd
            have HLT : Hid (q < s.size) := hlt
            clear hc hcd hlt hq2
            by_cases h39 : c = 39
            · have k39 : ((c : Int) == 39) = true := by rw [h39]; rfl
              have HV : Hid (b = false) := by rw [HQB.out, HCD.out, h39]; rfl
              clear h39
              go_wp2_with fail
              go_ret
              exact ⟨by rw [HV.out]; rfl, HW.out⟩
            · have k39 : ((c : Int) == 39) = false := beq_false_of_ne (by omega)
              have HN : Hid (((39 : Nat) == c) = false) := beq_false_of_ne (fun e => h39 e.symm)
              clear h39
              go_wp2_with fail
              go_round
              case rel => exact ⟨q + 1, by have := HQ1.out; omega, HLT.out, by go_num, by rw [HQB.out, HCD.out, HN.out, Bool.false_or]⟩
              case measure => have := HLT.out; simp [intOf]; omega
          · have hge : (s.size : Int) ≤ (q : Int) := by omega
            have HV : Hid (b = true) := by
              rw [HQB.out, List.drop_of_length_le (by rw [bts_length]; omega)]; rfl
            clear hlt hq2
            go_wp2_with fail
            go_ret
            exact ⟨by rw [HV.out]; rfl, HW.out⟩
    rcases h with h | h | h
    · exact loop 2 (.inl rfl) (by rw [h]; rfl)
    · exact loop 3 (.inr (.inl rfl)) (by rw [h]; rfl)
    · exact loop 4 (.inr (.inr rfl)) (by rw [h]; rfl)
  · rw [if_neg h] at hb
    have HB := Lib.hid hb
    have k2 : ((k : Int) == 2) = false := beq_false_of_ne (by omega)
    have k3 : ((k : Int) == 3) = false := beq_false_of_ne (by omega)
    have k4 : ((k : Int) == 4) = false := beq_false_of_ne (by omega)
    have n2 : ((k : Int) != 2) = true := by simp; omega
    have n3 : ((k : Int) != 3) = true := by simp; omega
    have n4 : ((k : Int) != 4) = true := by simp; omega
    clear hb hk h hmax
    go_enter Tryz.func21, Tryz.ntmps21
    go_wp2_with fail
    refine (RK.out _).mono ?_
    rintro e w1 ⟨rfl, hbw⟩
    have HW := Lib.hid hbw
    clear hbw
    go_wp2_with fail
    go_ret
    exact ⟨by rw [HB.out]; rfl, HW.out⟩

def TrueP (w : World) (e : Ending) (w' : World) : Prop := e = .returned (.bool true) ∧ Below w.heap.size w w'

set_option maxHeartbeats 2000000 in
set_option maxRecDepth 20000 in
theorem kinds_walk {w : World} (henv : Env w) (s : ByteArray) (hmax : s.size ≤ 9223372036854775807) : Calls Tryz.prog 4 #[.string s] w (TrueP w) := by
  have SA := Lib.hid (sane_any henv)
  have HE := Lib.hid henv
  have RK : Hid (∀ W, Calls Tryz.prog 14 #[.string s] W (RkPost W (LX.kindOf (bts s)))) := fun W => by rw [← LX.refKind_eq]; exact rkind_any W s
  have K1 : Hid (∀ W, Env W → Calls Tryz.prog 15 #[.string s] W fun e w' => e = .returned (.bool (LX.kindOf (bts s) == 2)) ∧ Below W.heap.size W w') := fun W hW => isName_any hW s hmax
  have K2 : Hid (∀ W, Env W → Calls Tryz.prog 16 #[.string s] W fun e w' => e = .returned (.bool (LX.kindOf (bts s) == 3)) ∧ Below W.heap.size W w') := fun W hW => isCon_any hW s hmax
  have K3 : Hid (∀ W, Env W → Calls Tryz.prog 17 #[.string s] W fun e w' => e = .returned (.bool (LX.kindOf (bts s) == 4)) ∧ Below W.heap.size W w') := fun W hW => isVar_any hW s hmax
  have K4 : Hid (∀ W, Env W → Calls Tryz.prog 18 #[.string s] W fun e w' => e = .returned (.bool (LX.kindOf (bts s) == 5)) ∧ Below W.heap.size W w') := fun W hW => isWord_any hW s hmax
  have K5 : Hid (∀ W, Env W → Calls Tryz.prog 19 #[.string s] W fun e w' => e = .returned (.int .i64 (LX.kindOf (bts s))) ∧ Below W.heap.size W w') := fun W hW => kind_any hW s hmax
  have K6 : Hid (∀ W, Env W → Calls Tryz.prog 20 #[.string s] W fun e w' => e = .returned (.bool (LX.plainOf (bts s))) ∧ Below W.heap.size W w') := fun W hW => plain_any hW s hmax
  have K7 : Hid (∀ W, Calls Tryz.prog 21 #[.string s] W fun e w' => e = .returned (.bool (LX.plainOf (bts s))) ∧ Below W.heap.size W w') := fun W => by rw [← LX.refPlain_eq]; exact rplainText_any W s hmax
  obtain ⟨k, hk⟩ : ∃ k, k = LX.kindOf (bts s) := ⟨_, rfl⟩
  obtain ⟨p, hp⟩ : ∃ p, p = LX.plainOf (bts s) := ⟨_, rfl⟩
  rw [← hk] at RK K1 K2 K3 K4 K5
  rw [← hp] at K6 K7
  have e2 : (k == 2) = ((k : Int) == 2) := by rw [Bool.eq_iff_iff, beq_iff_eq, beq_iff_eq]; omega
  have e3 : (k == 3) = ((k : Int) == 3) := by rw [Bool.eq_iff_iff, beq_iff_eq, beq_iff_eq]; omega
  have e4 : (k == 4) = ((k : Int) == 4) := by rw [Bool.eq_iff_iff, beq_iff_eq, beq_iff_eq]; omega
  have e5 : (k == 5) = ((k : Int) == 5) := by rw [Bool.eq_iff_iff, beq_iff_eq, beq_iff_eq]; omega
  rw [e2] at K1
  rw [e3] at K2
  rw [e4] at K3
  rw [e5] at K4
  clear henv hk hp e2 e3 e4 e5 hmax
  go_enter Tryz.func4, Tryz.ntmps4
  go_wp2_with fail
  refine SA.out.mono ?_
  rintro e w1 ⟨rfl, hb⟩
  have HB := Lib.hid hb
  clear hb
  go_wp2_with fail
  refine (RK.out _).mono ?_
  rintro e w2 ⟨rfl, hb⟩
  have HB2 : Hid (Below w.heap.size w w2) := HB.out.trans (hb.mono HB.out.size)
  clear hb
  go_wp2_with fail
  refine (K1.out _ (HE.out.on HB2.out)).mono ?_
  rintro e w3 ⟨rfl, hb⟩
  have HB3 : Hid (Below w.heap.size w w3) := HB2.out.trans (hb.mono HB2.out.size)
  clear hb
  go_wp2_with fail
  refine (K2.out _ (HE.out.on HB3.out)).mono ?_
  rintro e w4 ⟨rfl, hb⟩
  have HB4 : Hid (Below w.heap.size w w4) := HB3.out.trans (hb.mono HB3.out.size)
  clear hb
  go_wp2_with fail
  refine (K3.out _ (HE.out.on HB4.out)).mono ?_
  rintro e w5 ⟨rfl, hb⟩
  have HB5 : Hid (Below w.heap.size w w5) := HB4.out.trans (hb.mono HB4.out.size)
  clear hb
  go_wp2_with fail
  refine (K4.out _ (HE.out.on HB5.out)).mono ?_
  rintro e w6 ⟨rfl, hb⟩
  have HB6 : Hid (Below w.heap.size w w6) := HB5.out.trans (hb.mono HB5.out.size)
  clear hb
  go_wp2_with fail
  refine (K5.out _ (HE.out.on HB6.out)).mono ?_
  rintro e w7 ⟨rfl, hb⟩
  have HB7 : Hid (Below w.heap.size w w7) := HB6.out.trans (hb.mono HB6.out.size)
  clear hb
  go_wp2_with fail
  refine (K6.out _ (HE.out.on HB7.out)).mono ?_
  rintro e w8 ⟨rfl, hb⟩
  have HB8 : Hid (Below w.heap.size w w8) := HB7.out.trans (hb.mono HB7.out.size)
  clear hb
  go_wp2_with fail
  refine (K7.out _).mono ?_
  rintro e w9 ⟨rfl, hb⟩
  have HB9 : Hid (Below w.heap.size w w9) := HB8.out.trans (hb.mono HB8.out.size)
  clear hb
  go_wp2_with fail
  go_ret
  exact ⟨rfl, HB9.out⟩
end Go.Proofs.YtfoijbcmjciihaaGreatDoor
