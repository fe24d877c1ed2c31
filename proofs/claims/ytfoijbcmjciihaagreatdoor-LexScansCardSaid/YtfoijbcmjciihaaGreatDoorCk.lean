/- The reference's Kind, Plain, Check, Same and Join, and the laws LexKinds and LexChecks: walked (merged from Pk, Kk, Se, Sf, Cz, Cs, Cj, Cw). -/
import Derived.Test.YtfoijbcmjciihaaGreatDoorPb
import Derived.Test.YtfoijbcmjciihaaGreatDoorPn
import Derived.Test.YtfoijbcmjciihaaGreatDoorRg
import Derived.Test.YtfoijbcmjciihaaGreatDoorRh
import Derived.Test.YtfoijbcmjciihaaGreatDoorSb
import Derived.Test.YtfoijbcmjciihaaGreatDoorTk
import Derived.Test.YtfoijbcmjciihaaGreatDoorJn
import Derived.Lib.AppendStr
import Derived.Laws.IdiomStrings
import Derived.Laws.BytesArg
import Derived.Test.YtfoijbcmjciihaaGreatDoorW
set_option linter.unusedSimpArgs false
set_option linter.unusedVariables false

namespace Go.Proofs.YtfoijbcmjciihaaGreatDoor
namespace LX

/-- Tokens stand from where the scan begins on, and end within the text. -/
theorem sc_lo (T : List Nat) : ∀ (n j : Nat), T.length - j = n → ∀ ts cs, sc T j = .ok ts cs → ∀ t ∈ ts, j ≤ t.place ∧ t.place + t.text.length ≤ T.length := by
  intro n
  induction n using Nat.strongRecOn with
  | ind n ih =>
    intro j hn ts cs h
    rcases Nat.lt_or_ge j T.length with hj | hj
    · rw [sc_step hj] at h
      split at h
      · intro t ht
        have := ih _ (by omega) (j + 1) rfl ts cs h t ht
        omega
      · split at h
        · cases hc : cmt (T.drop j) 0 0 with
          | fin m =>
            rw [hc] at h
            simp only [] at h
            have h0 := cmt_fin hc
            cases hs : sc T (j + m) with
            | ok t2 c2 =>
              rw [hs] at h
              simp only [Res.app, Res.ok.injEq, List.nil_append] at h
              rw [← h.1]
              intro t ht
              have := ih _ (by omega) (j + m) rfl t2 c2 hs t ht
              omega
            | bad p e => rw [hs] at h; cases h
          | deep m => rw [hc] at h; cases h
          | never => rw [hc] at h; cases h
        · cases hc : token (T.drop j) with
          | tok k v m =>
            rw [hc] at h
            simp only [] at h
            have h0 := token_len hc
            rw [List.length_drop] at h0
            cases hs : sc T (j + m) with
            | ok t2 c2 =>
              rw [hs] at h
              simp only [Res.app, Res.ok.injEq, List.cons_append, List.nil_append] at h
              rw [← h.1]
              intro t ht
              rcases List.mem_cons.1 ht with rfl | ht
              · refine ⟨Nat.le_refl _, ?_⟩
                show j + ((T.drop j).take m).length ≤ T.length
                rw [List.length_take, List.length_drop]; omega
              · have := ih _ (by omega) (j + m) rfl t2 c2 hs t ht
                omega
            | bad p e => rw [hs] at h; cases h
          | bad e => rw [hc] at h; cases h
    · rw [sc_end hj] at h
      cases h
      intro t ht
      cases ht

/-- The kind of the one token that a text is, as the reference has it. -/
def refKind (l : List Nat) : Nat := if l = [] ∨ 100 < l.length then 0 else if space (l.headD 0) = true ∨ opens l = true then 0 else match token l with
  | .tok k _ n => if n = l.length then k else 0
  | .bad _ => 0

theorem headD_getD (l : List Nat) : l.headD 0 = l.getD 0 0 := by cases l <;> rfl

theorem good_token {t : Tok} (h : Good t) : space (t.text.headD 0) = false ∧ opens t.text = false ∧ token t.text = .tok t.kind t.num t.text.length := by
  have hs := h.alone
  have hp := h.pos
  rw [scan_sc, sc_step hp, List.drop_zero] at hs
  split at hs
  · exfalso
    have := sc_lo t.text _ (0 + 1) rfl _ _ hs _ List.mem_cons_self
    have h2 := this.1
    simp at h2
  · rename_i hsp
    split at hs
    · exfalso
      cases hc : cmt t.text 0 0 with
      | fin m =>
        rw [hc] at hs
        simp only [] at hs
        have h0 := cmt_fin hc
        cases hq : sc t.text (0 + m) with
        | ok t2 c2 =>
          rw [hq] at hs
          simp [Res.app] at hs
        | bad p e => rw [hq] at hs; cases hs
      | deep m => rw [hc] at hs; cases hs
      | never => rw [hc] at hs; cases hs
    · rename_i hop
      cases hc : token t.text with
      | tok k v m =>
        rw [hc] at hs
        simp only [] at hs
        have h0 := token_len hc
        cases hq : sc t.text (0 + m) with
        | ok t2 c2 =>
          rw [hq] at hs
          simp only [Res.app, Res.ok.injEq, List.cons_append, List.nil_append, List.cons.injEq, Tok.mk.injEq] at hs
          obtain ⟨⟨⟨e1, e2, e3, _⟩, _⟩, _⟩ := hs
          have hm : m = t.text.length := by
            have := congrArg List.length e3
            rw [List.length_take] at this
            omega
          refine ⟨by rw [headD_getD]; simpa using hsp, by simpa using hop, by rw [e1, e2, hm]⟩
        | bad p e => rw [hq] at hs; cases hs
      | bad e => rw [hc] at hs; cases hs

theorem refKind_eq (l : List Nat) : refKind l = kindOf l := by
  by_cases hk : kindOf l = 0
  · rw [hk]
    unfold refKind
    split
    · rfl
    · rename_i h1
      split
      · rfl
      · rename_i h2
        cases hc : token l with
        | bad e => rfl
        | tok k v n =>
          simp only []
          split
          · rename_i hn
            exfalso
            have hkk := token_kind hc
            have h3 : scan l = .ok [⟨k, v, l, 0⟩] [] := by
              rw [scan_sc, sc_step (List.length_pos_iff.2 (fun e => h1 (.inl e)))]
              rw [← headD_getD, if_neg (fun e => h2 (.inl e)), List.drop_zero, if_neg (fun e => h2 (.inr e)), hc]
              simp only []
              rw [Nat.zero_add, sc_end (by omega), List.take_of_length_le (by omega)]
              rfl
            unfold kindOf at hk
            rw [if_neg (by omega), h3] at hk
            simp only [] at hk
            rw [if_pos trivial] at hk
            exact hkk.1 hk
          · rfl
  · obtain ⟨v, hg⟩ := good_of_kind (l := l) rfl hk
    obtain ⟨h1, h2, h3⟩ := good_token hg
    have h1' : space (l.headD 0) = false := h1
    have h2' : opens l = false := h2
    have h3' : token l = .tok (kindOf l) v l.length := h3
    have hs : l.length ≤ 24 := hg.short
    have hp : 0 < l.length := hg.pos
    unfold refKind
    rw [if_neg (fun e => by rcases e with e | e; · rw [e] at hp; simp at hp
                            · omega), if_neg (fun e => by rcases e with e | e; · rw [h1'] at e; cases e
                                                          · rw [h2'] at e; cases e), h3']
    simp only []
    rw [if_pos trivial]

/-- Whether a text is plain, as the reference has it. -/
def refPlain (l : List Nat) : Bool := if refKind l = 2 ∨ refKind l = 3 ∨ refKind l = 4 then !(l.drop 1).contains 39 else false

theorem run_all {p : Nat → Bool} : ∀ l : List Nat, run p l = l.length → ∀ c ∈ l, p c = true
  | [], _, _, h => by cases h
  | a :: l, h, c, hc => by
    rw [run] at h
    split at h
    · rename_i ha
      rcases List.mem_cons.1 hc with rfl | hc
      · exact ha
      · exact run_all l (by simpa using h) c hc
    · simp at h

theorem kind_head {l : List Nat} {k : Nat} {v : Int} (h : token l = .tok k v l.length) (hk : k = 2 ∨ k = 3 ∨ k = 4) : (k = 4 ∧ ∃ t, l = 39 :: t ∧ run part t = t.length) ∨ (k ≠ 4 ∧ l.headD 0 ≠ 39) := by
  cases l with
  | nil => cases h
  | cons c t =>
    unfold token at h
    simp only [] at h
    split at h
    · obtain ⟨h1, _⟩ := number_ok h
      omega
    · split at h
      · rename_i hs
        obtain ⟨_, _, _, h4⟩ := named_ok h
        right
        refine ⟨by rw [h4]; split <;> decide, ?_⟩
        intro e
        have e' : c = 39 := e
        rw [e'] at hs
        cases hs
      · split at h
        · rename_i hs
          obtain ⟨_, _, _, h4⟩ := named_ok h
          right
          refine ⟨by rw [h4]; split <;> decide, ?_⟩
          intro e
          have e' : c = 39 := e
          rw [e'] at hs
          cases hs
        · split at h
          · rename_i hs
            obtain ⟨h1, h2, _⟩ := made_ok h
            left
            refine ⟨h2, t, by rw [hs.1], ?_⟩
            rw [List.length_cons] at h1
            omega
          · split at h
            · simp only [TR.tok.injEq] at h; omega
            · split at h
              · simp only [TR.tok.injEq] at h; omega
              · cases h

theorem refPlain_eq (l : List Nat) : refPlain l = plainOf l := by
  unfold refPlain plainOf
  rw [refKind_eq]
  by_cases hk : kindOf l = 2 ∨ kindOf l = 3 ∨ kindOf l = 4
  · rw [if_pos hk]
    obtain ⟨v, hg⟩ := good_of_kind (l := l) rfl (by omega)
    obtain ⟨_, _, h3⟩ := good_token hg
    have h3' : token l = .tok (kindOf l) v l.length := h3
    rcases kind_head h3' hk with ⟨h4, t, e, ht⟩ | ⟨h4, hh⟩
    · rw [if_neg (by omega), h4, e, List.drop_succ_cons, List.drop_zero]
      cases hc : t.contains 39 with
      | false => rfl
      | true =>
        have := run_all t ht 39 (by simpa using hc)
        cases this
    · rw [if_pos (by omega)]
      cases l with
      | nil => rfl
      | cons c t =>
        have hh' : c ≠ 39 := hh
        rw [List.drop_succ_cons, List.drop_zero, List.contains_cons, show ((39 : Nat) == c) = false from beq_false_of_ne (fun e => hh' e.symm), Bool.false_or]
  · rw [if_neg hk, if_neg (by omega)]
    symm
    exact beq_false_of_ne (by omega)
end LX
end Go.Proofs.YtfoijbcmjciihaaGreatDoor


namespace Go.Proofs.YtfoijbcmjciihaaGreatDoor
open Go.RowKit

theorem isCon_any {w : World} (henv : Env w) (s : ByteArray) (hmax : s.size ≤ 9223372036854775807) :
    Calls Tryz.prog 16 #[.string s] w fun e w' => e = .returned (.bool (LX.kindOf (bts s) == 3)) ∧ Below w.heap.size w w' := by
  have K := Lib.hid (kind_any henv s hmax)
  obtain ⟨r, hr⟩ : ∃ r, r = LX.kindOf (bts s) := ⟨_, rfl⟩
  unfold KPost at K
  rw [← hr] at K ⊢
  have e1 : ((r : Int) == 3) = (r == 3) := by rw [Bool.eq_iff_iff, beq_iff_eq, beq_iff_eq]; omega
  have HE := Lib.hid e1
  clear hr henv e1
  go_enter Tryz.func16, Tryz.ntmps16
  go_wp2_with fail
  refine K.out.mono ?_
  rintro e w1 ⟨rfl, hb⟩
  have HB := Lib.hid hb
  clear hb
  go_wp2_with fail
  go_ret
  exact ⟨by rw [← HE.out]; rfl, HB.out⟩

theorem isVar_any {w : World} (henv : Env w) (s : ByteArray) (hmax : s.size ≤ 9223372036854775807) :
    Calls Tryz.prog 17 #[.string s] w fun e w' => e = .returned (.bool (LX.kindOf (bts s) == 4)) ∧ Below w.heap.size w w' := by
  have K := Lib.hid (kind_any henv s hmax)
  obtain ⟨r, hr⟩ : ∃ r, r = LX.kindOf (bts s) := ⟨_, rfl⟩
  unfold KPost at K
  rw [← hr] at K ⊢
  have e1 : ((r : Int) == 4) = (r == 4) := by rw [Bool.eq_iff_iff, beq_iff_eq, beq_iff_eq]; omega
  have HE := Lib.hid e1
  clear hr henv e1
  go_enter Tryz.func17, Tryz.ntmps17
  go_wp2_with fail
  refine K.out.mono ?_
  rintro e w1 ⟨rfl, hb⟩
  have HB := Lib.hid hb
  clear hb
  go_wp2_with fail
  go_ret
  exact ⟨by rw [← HE.out]; rfl, HB.out⟩

theorem isWord_any {w : World} (henv : Env w) (s : ByteArray) (hmax : s.size ≤ 9223372036854775807) :
    Calls Tryz.prog 18 #[.string s] w fun e w' => e = .returned (.bool (LX.kindOf (bts s) == 5)) ∧ Below w.heap.size w w' := by
  have K := Lib.hid (kind_any henv s hmax)
  obtain ⟨r, hr⟩ : ∃ r, r = LX.kindOf (bts s) := ⟨_, rfl⟩
  unfold KPost at K
  rw [← hr] at K ⊢
  have e1 : ((r : Int) == 5) = (r == 5) := by rw [Bool.eq_iff_iff, beq_iff_eq, beq_iff_eq]; omega
  have HE := Lib.hid e1
  clear hr henv e1
  go_enter Tryz.func18, Tryz.ntmps18
  go_wp2_with fail
  refine K.out.mono ?_
  rintro e w1 ⟨rfl, hb⟩
  have HB := Lib.hid hb
  clear hb
  go_wp2_with fail
  go_ret
  exact ⟨by rw [← HE.out]; rfl, HB.out⟩


theorem rread_any (w : World) (s : ByteArray) (i c : Nat) (h : RdAt s i c) : Calls Tryz.prog 35 #[.string s, .int .i64 i] w (RdPost w (rdV s i (LX.token ((bts s).drop i)))) := by
  cases hd : LX.digit c with
  | true => exact rread_digit w s i c h hd
  | false =>
    by_cases h126 : c = 126
    · exact rread_tilde w s i c h h126
    · cases hs : LX.small c with
      | true => exact rread_small w s i c h hs
      | false =>
        cases hg : LX.great c with
        | true => exact rread_great w s i c h hg
        | false =>
          by_cases h39 : c = 39
          · by_cases hl : i + 1 < s.size
            · cases hn : LX.small ((bts s).getD (i + 1) 0) with
              | true => rw [h39] at h; exact rread_var w s i h hl hn
              | false => exact rread_quote w s i c h hd h126 hs hg h39 hl hn
            · exact rread_quote_end w s i c h hd h126 hs hg h39 (by omega)
          · exact rread_sign w s i c h hd h126 hs hg h39

def RkPost (w : World) (k : Nat) (e : Ending) (w' : World) : Prop := e = .returned (.int .i64 k) ∧ Below w.heap.size w w'

theorem slice_to (s : ByteArray) (p : Nat) (hp : p ≤ s.size) (m : World) : (Instr.slice 9 (.string s) none (some (.int .i64 p)) none).run Tryz.prog m = .ok (.string (s.extract 0 p)) m := by
  have := run_slice_string_to_if (P := Tryz.prog) m 9 s .i64 p Tryz.underlying9
  rw [this]
  simp [show (p : Int) ≤ (s.size : Int) from by omega]


theorem two_head (s : ByteArray) (h : 1 < s.size) : ∃ x : ByteArray, (∀ m, (Instr.slice 9 (.string s) none (some (.int .i64 2)) none).run Tryz.prog m = .ok (.string x) m) ∧ (x.toList == ([40, 42] : List UInt8)) = LX.opens (bts s) := by
  have hx : bts (s.extract 0 2) = [(bts s).getD 0 0, (bts s).getD 1 0] := by
    rw [bts_extract, List.drop_zero]
    have h1 := LX.drop_get (T := bts s) (j := 0) (by rw [bts_length]; omega)
    have h2 := LX.drop_get (T := bts s) (j := 1) (by rw [bts_length]; omega)
    rw [List.drop_zero] at h1
    rw [h1]
    show (_ :: (bts s).drop 1).take 2 = _
    rw [h2]
    rfl
  refine ⟨s.extract 0 2, fun m => slice_to s 2 (by omega) m, ?_⟩
  have := two_eq hx ⟨#[40, 42]⟩ (a := 40) (b := 42) rfl
  rw [lit4042] at this
  rw [this]
  cases ho : LX.opens (bts s) with
  | true =>
    obtain ⟨a, b⟩ := LX.opens_two ho
    rw [a, b]; rfl
  | false =>
    cases hq : ((bts s).getD 0 0 == 40 && (bts s).getD 1 0 == 42) with
    | false => rfl
    | true =>
      simp only [Bool.and_eq_true, beq_iff_eq] at hq
      rw [LX.opens_of hq.1 hq.2] at ho
      cases ho

set_option maxHeartbeats 1000000 in
set_option maxRecDepth 20000 in
theorem rkind_any (w : World) (s : ByteArray) : Calls Tryz.prog 14 #[.string s] w (RkPost w (LX.refKind (bts s))) := by
  obtain ⟨K, hK⟩ : ∃ K, K = LX.refKind (bts s) := ⟨_, rfl⟩
  rw [← hK]
  unfold LX.refKind at hK
  rw [bts_length] at hK
  have ZERO : Hid (K = 0 → ∀ w', Below w.heap.size w w' → RkPost w K (.returned (.int .i64 0)) w') := fun h w' hb => ⟨by rw [h]; rfl, hb⟩
  by_cases h0 : s.size = 0
  · have e0 : bts s = [] := List.length_eq_zero_iff.1 (by rw [bts_length]; exact h0)
    rw [if_pos (.inl e0)] at hK
    have HK := Lib.hid hK
    have z0 : ((s.size : Int) == 0) = true := by rw [h0]; rfl
    have z1 : (s.size == 0) = true := by rw [h0]; rfl
    clear hK e0 h0
    go_enter Tryz.func14, Tryz.ntmps14
    go_wp2_with fail
    go_ret
    exact ZERO.out HK.out _ (Below.refl _ _)
  · have hne : bts s ≠ [] := fun e => h0 (by rw [← bts_length, e]; rfl)
    have z0 : ((s.size : Int) == 0) = false := beq_false_of_ne (by omega)
    have z1 : (s.size == 0) = false := beq_false_of_ne (by omega)
    by_cases h100 : 100 < s.size
    · rw [if_pos (.inr h100)] at hK
      have HK := Lib.hid hK
      have z2 : (100 : Int) < (s.size : Int) := by omega
      clear hK hne h0 h100
      go_enter Tryz.func14, Tryz.ntmps14
      go_wp2_with fail
      go_ret
      exact ZERO.out HK.out _ (Below.refl _ _)
    · rw [if_neg (fun e => by rcases e with e | e; · exact hne e
                              · exact h100 e), LX.headD_getD] at hK
      have z2 : (s.size : Int) ≤ 100 := by omega
      have z3 : (0 : Int) < (s.size : Int) := by omega
      obtain ⟨c, hc⟩ : ∃ c, (bts s).getD 0 0 = c := ⟨_, rfl⟩
      have b0 : ∀ m, (Instr.index 9 (.string s) (.int .i64 0)).run Tryz.prog m = .ok (.int .u8 c) m := byte_at (i := 0) s (by omega) hc
      rw [hc] at hK
      have SP : Hid (∀ W, Calls Tryz.prog 33 #[.int .u8 c] W fun e w' => e = .returned (.bool (LX.space c)) ∧ w' = W) := fun W => rspace_any W c
      cases hsp : LX.space c with
      | true =>
        rw [if_pos (.inl hsp)] at hK
        rw [hsp] at SP
        have HK := Lib.hid hK
        clear hK hne h0 h100 hc hsp
        go_enter Tryz.func14, Tryz.ntmps14
        go_wp2_with fail
        refine (SP.out _).mono ?_
        rintro e w1 ⟨rfl, rfl⟩
        go_wp2_with fail
        go_ret
        exact ZERO.out HK.out _ (Below.refl _ _)
      | false =>
        rw [hsp] at SP
        have RA : Hid (∀ W, Calls Tryz.prog 35 #[.string s, .int .i64 0] W (RdPost W (rdV s 0 (LX.token (bts s))))) := fun W => by
          have := rread_any W s 0 c ⟨by omega, by omega, hc⟩
          rw [List.drop_zero] at this
          exact this
        have main : ∀ (pre : LX.opens (bts s) = false), (∃ x : ByteArray, (1 < s.size → (∀ m, (Instr.slice 9 (.string s) none (some (.int .i64 2)) none).run Tryz.prog m = .ok (.string x) m) ∧ (x.toList == ([40, 42] : List UInt8)) = false)) → Calls Tryz.prog 14 #[.string s] w (RkPost w K) := fun pre hx => by
          obtain ⟨x, hx⟩ := hx
          rw [if_neg (fun e => by rcases e with e | e; · rw [hsp] at e; cases e
                                  · rw [pre] at e; cases e)] at hK
          by_cases h1 : 1 < s.size
          · obtain ⟨sl, ne⟩ := hx h1
            have z4 : (1 : Int) < (s.size : Int) := by omega
            clear hx h1
            cases ht : LX.token (bts s) with
            | bad er =>
              rw [ht] at hK RA
              have hee := LX.token_bad ht
              have k0 : ((er : Int) == 0) = false := beq_false_of_ne (by omega)
              have HK := Lib.hid hK
              clear hK hne h0 h100 hc hsp ht hee pre
              go_enter Tryz.func14, Tryz.ntmps14
              go_wp2_with fail
              refine (SP.out _).mono ?_
              rintro e w1 ⟨rfl, rfl⟩
              go_wp2_with fail
              refine (RA.out _).mono ?_
              rintro e w1 ⟨rfl, hb⟩
              have HB := Lib.hid hb
              clear hb
              unfold rdV tokV
              go_wp2_with fail
              go_ret
              exact ZERO.out HK.out _ (HB.out.alloc HB.out.size _)
            | tok k v n =>
              rw [ht] at hK RA
              have h9 := LX.token_len ht
              rw [bts_length] at h9
              obtain ⟨tx, htx⟩ : ∃ t, t = s.extract 0 (0 + n) := ⟨_, rfl⟩
              have hts : tx.size = n := by rw [htx, ByteArray.size_extract]; omega
              have RA2 : Hid (∀ W, Calls Tryz.prog 35 #[.string s, .int .i64 0] W (RdPost W (.tuple #[.agg #[.int .i64 k, .int .i64 v, .string tx, .int .i64 0], .int .i64 0]))) := fun W => by rw [htx]; exact RA.out W
              clear RA
              have RA := RA2
              clear RA2
              by_cases hn : n = s.size
              · have k1 : ((tx.size : Int) == (s.size : Int)) = true := by rw [hts, hn]; simp
                have k2 : (tx.size == s.size) = true := by rw [hts, hn]; simp
                have hv : K = k := by rw [hK]; simp only []; rw [if_pos hn]
                have HV := Lib.hid hv
                clear hK hv hne h0 h100 hc hsp ht h9 pre htx hts hn
                go_enter Tryz.func14, Tryz.ntmps14
                go_wp2_with fail
                refine (SP.out _).mono ?_
                rintro e w1 ⟨rfl, rfl⟩
                go_wp2_with fail
                refine (RA.out _).mono ?_
                rintro e w1 ⟨rfl, hb⟩
                have HB := Lib.hid hb
                clear hb
                go_wp2_with fail
                go_ret
                exact ⟨by rw [HV.out]; rfl, HB.out.alloc HB.out.size _⟩
              · have k1 : ((tx.size : Int) == (s.size : Int)) = false := beq_false_of_ne (by omega)
                have k2 : (tx.size == s.size) = false := beq_false_of_ne (by omega)
                have hv : K = 0 := by rw [hK]; simp only []; rw [if_neg hn]
                have HV := Lib.hid hv
                clear hK hv hne h0 h100 hc hsp ht h9 pre htx hts hn
                go_enter Tryz.func14, Tryz.ntmps14
                go_wp2_with fail
                refine (SP.out _).mono ?_
                rintro e w1 ⟨rfl, rfl⟩
                go_wp2_with fail
                refine (RA.out _).mono ?_
                rintro e w1 ⟨rfl, hb⟩
                have HB := Lib.hid hb
                clear hb
                go_wp2_with fail
                go_ret
                exact ZERO.out HV.out _ (HB.out.alloc HB.out.size _)
          · have z4 : (s.size : Int) ≤ 1 := by omega
            clear hx h1
            cases ht : LX.token (bts s) with
            | bad er =>
              rw [ht] at hK RA
              have hee := LX.token_bad ht
              have k0 : ((er : Int) == 0) = false := beq_false_of_ne (by omega)
              have HK := Lib.hid hK
              clear hK hne h0 h100 hc hsp ht hee pre
              go_enter Tryz.func14, Tryz.ntmps14
              go_wp2_with fail
              refine (SP.out _).mono ?_
              rintro e w1 ⟨rfl, rfl⟩
              go_wp2_with fail
              refine (RA.out _).mono ?_
              rintro e w1 ⟨rfl, hb⟩
              have HB := Lib.hid hb
              clear hb
              unfold rdV tokV
              go_wp2_with fail
              go_ret
              exact ZERO.out HK.out _ (HB.out.alloc HB.out.size _)
            | tok k v n =>
              rw [ht] at hK RA
              have h9 := LX.token_len ht
              rw [bts_length] at h9
              obtain ⟨tx, htx⟩ : ∃ t, t = s.extract 0 (0 + n) := ⟨_, rfl⟩
              have hts : tx.size = n := by rw [htx, ByteArray.size_extract]; omega
              have RA2 : Hid (∀ W, Calls Tryz.prog 35 #[.string s, .int .i64 0] W (RdPost W (.tuple #[.agg #[.int .i64 k, .int .i64 v, .string tx, .int .i64 0], .int .i64 0]))) := fun W => by rw [htx]; exact RA.out W
              clear RA
              have RA := RA2
              clear RA2
              by_cases hn : n = s.size
              · have k1 : ((tx.size : Int) == (s.size : Int)) = true := by rw [hts, hn]; simp
                have k2 : (tx.size == s.size) = true := by rw [hts, hn]; simp
                have hv : K = k := by rw [hK]; simp only []; rw [if_pos hn]
                have HV := Lib.hid hv
                clear hK hv hne h0 h100 hc hsp ht h9 pre htx hts hn
                go_enter Tryz.func14, Tryz.ntmps14
                go_wp2_with fail
                refine (SP.out _).mono ?_
                rintro e w1 ⟨rfl, rfl⟩
                go_wp2_with fail
                refine (RA.out _).mono ?_
                rintro e w1 ⟨rfl, hb⟩
                have HB := Lib.hid hb
                clear hb
                go_wp2_with fail
                go_ret
                exact ⟨by rw [HV.out]; rfl, HB.out.alloc HB.out.size _⟩
              · have k1 : ((tx.size : Int) == (s.size : Int)) = false := beq_false_of_ne (by omega)
                have k2 : (tx.size == s.size) = false := beq_false_of_ne (by omega)
                have hv : K = 0 := by rw [hK]; simp only []; rw [if_neg hn]
                have HV := Lib.hid hv
                clear hK hv hne h0 h100 hc hsp ht h9 pre htx hts hn
                go_enter Tryz.func14, Tryz.ntmps14
                go_wp2_with fail
                refine (SP.out _).mono ?_
                rintro e w1 ⟨rfl, rfl⟩
                go_wp2_with fail
                refine (RA.out _).mono ?_
                rintro e w1 ⟨rfl, hb⟩
                have HB := Lib.hid hb
                clear hb
                go_wp2_with fail
                go_ret
                exact ZERO.out HV.out _ (HB.out.alloc HB.out.size _)
        by_cases h1 : 1 < s.size
        · obtain ⟨x, sl, hx⟩ := two_head s h1
          cases ho : LX.opens (bts s) with
          | false => exact main ho ⟨x, fun _ => ⟨sl, by rw [hx, ho]⟩⟩
          | true =>
            rw [if_pos (.inr ho)] at hK
            rw [ho] at hx
            have HK := Lib.hid hK
            have z4 : (1 : Int) < (s.size : Int) := by omega
            clear hK hne h0 h100 hc hsp ho main RA h1
            go_enter Tryz.func14, Tryz.ntmps14
            go_wp2_with fail
            refine (SP.out _).mono ?_
            rintro e w1 ⟨rfl, rfl⟩
            go_wp2_with fail
            go_ret
            exact ZERO.out HK.out _ (Below.refl _ _)
        · refine main ?_ ⟨⟨#[]⟩, fun h => absurd h h1⟩
          cases ho : LX.opens (bts s) with
          | false => rfl
          | true =>
            obtain ⟨_, b⟩ := LX.opens_two ho
            rw [List.getD_eq_getElem?_getD, List.getElem?_eq_none (by rw [bts_length]; omega)] at b
            cases b

def RpPost (w : World) (b : Bool) (e : Ending) (w' : World) : Prop := e = .returned (.bool b) ∧ Below w.heap.size w w'

theorem contains_drop {T : List Nat} {k c : Nat} (h : k < T.length) (hc : T.getD k 0 = c) : (T.drop k).contains 39 = ((39 == c) || (T.drop (k + 1)).contains 39) := by
  rw [LX.drop_get h, hc, List.contains_cons]

set_option maxHeartbeats 1000000 in
set_option maxRecDepth 20000 in
theorem rplainText_any (w : World) (s : ByteArray) (hmax : s.size ≤ 9223372036854775807) : Calls Tryz.prog 21 #[.string s] w (RpPost w (LX.refPlain (bts s))) := by
  obtain ⟨b, hb⟩ : ∃ b, b = LX.refPlain (bts s) := ⟨_, rfl⟩
  rw [← hb]
  unfold LX.refPlain at hb
  have RK : Hid (∀ W, Calls Tryz.prog 14 #[.string s] W (RkPost W (LX.refKind (bts s)))) := fun W => rkind_any W s
  obtain ⟨k, hk⟩ : ∃ k, k = LX.refKind (bts s) := ⟨_, rfl⟩
  rw [← hk] at hb RK
  by_cases h : k = 2 ∨ k = 3 ∨ k = 4
  · rw [if_pos h] at hb
    have HB := Lib.hid hb
    have hm : (s.size : Int) ≤ 9223372036854775807 := by omega
    have hpos : 1 ≤ s.size := by
      rcases Nat.eq_zero_or_pos s.size with h0 | h0
      · exfalso
        have e0 : bts s = [] := List.length_eq_zero_iff.1 (by rw [bts_length]; exact h0)
        rw [e0] at hk
        have : LX.refKind [] = 0 := rfl
        omega
      · exact h0
    have HPOS : Hid (1 ≤ s.size) := hpos
    clear hb hk hmax hpos
    have loop : ∀ (kk : Int), (kk = 2 ∨ kk = 3 ∨ kk = 4) → (k : Int) = kk → Calls Tryz.prog 21 #[.string s] w (RpPost w b) := fun kk h2 h3 => by
      have RK2 : Hid (∀ W, Calls Tryz.prog 14 #[.string s] W fun e w' => e = .returned (.int .i64 kk) ∧ Below W.heap.size W w') := fun W => by rw [← h3]; exact RK.out W
      clear RK h3 h
      rcases h2 with rfl | rfl | rfl
      all_goals
        go_enter Tryz.func21, Tryz.ntmps21
        go_wp2_with fail
        refine (RK2.out _).mono ?_
        rintro e w1 ⟨rfl, hbw⟩
        have HW := Lib.hid hbw
        clear hbw
        go_wp2_with fail
        go_loop [4] (fun i => ∃ q : Nat, 1 ≤ q ∧ q ≤ s.size ∧ i = .int .i64 q ∧ b = !((bts s).drop q).contains 39) (fun i => s.size - (intOf i).toNat)
        case atStart => exact ⟨1, Nat.le_refl _, HPOS.out, rfl, HB.out⟩
        case round =>
          obtain ⟨q, hq1, hq2, rfl, hqb⟩ := hrel
          have HQB := Lib.hid hqb
          have HQ1 : Hid (1 ≤ q) := hq1
          clear hqb hq1
          by_cases hlt : q < s.size
          · have hlz : (q : Int) < (s.size : Int) := by omega
            obtain ⟨c, hc⟩ : ∃ c, (bts s).getD q 0 = c := ⟨_, rfl⟩
            have bq := byte_at s hlt hc
            have hcd := contains_drop (by rw [bts_length]; exact hlt) hc
            have HCD := Lib.hid hcd
            have HLT : Hid (q < s.size) := hlt
            clear hc hcd hlt hq2
            by_cases h39 : c = 39
            · have k39 : ((c : Int) == 39) = true := by rw [h39]; rfl
              have HV : Hid (b = false) := by rw [HQB.out, HCD.out, h39]; rfl
              clear h39
              go_wp2_with fail
              go_ret
              exact ⟨by rw [HV.out]; rfl, HW.out⟩
            · have k39 : ((c : Int) == 39) = false := beq_false_of_ne (by omega)
              have HN : Hid (((39 : Nat) == c) = false) := beq_false_of_ne (fun e => h39 e.symm)
              clear h39
              go_wp2_with fail
              go_round
              case rel => exact ⟨q + 1, by have := HQ1.out; omega, HLT.out, by go_num, by rw [HQB.out, HCD.out, HN.out, Bool.false_or]⟩
              case measure => have := HLT.out; simp [intOf]; omega
          · have hge : (s.size : Int) ≤ (q : Int) := by omega
            have HV : Hid (b = true) := by
              rw [HQB.out, List.drop_of_length_le (by rw [bts_length]; omega)]; rfl
            clear hlt hq2
            go_wp2_with fail
            go_ret
            exact ⟨by rw [HV.out]; rfl, HW.out⟩
    rcases h with h | h | h
    · exact loop 2 (.inl rfl) (by rw [h]; rfl)
    · exact loop 3 (.inr (.inl rfl)) (by rw [h]; rfl)
    · exact loop 4 (.inr (.inr rfl)) (by rw [h]; rfl)
  · rw [if_neg h] at hb
    have HB := Lib.hid hb
    have k2 : ((k : Int) == 2) = false := beq_false_of_ne (by omega)
    have k3 : ((k : Int) == 3) = false := beq_false_of_ne (by omega)
    have k4 : ((k : Int) == 4) = false := beq_false_of_ne (by omega)
    have n2 : ((k : Int) != 2) = true := by simp; omega
    have n3 : ((k : Int) != 3) = true := by simp; omega
    have n4 : ((k : Int) != 4) = true := by simp; omega
    clear hb hk h hmax
    go_enter Tryz.func21, Tryz.ntmps21
    go_wp2_with fail
    refine (RK.out _).mono ?_
    rintro e w1 ⟨rfl, hbw⟩
    have HW := Lib.hid hbw
    clear hbw
    go_wp2_with fail
    go_ret
    exact ⟨by rw [HB.out]; rfl, HW.out⟩

def TrueP (w : World) (e : Ending) (w' : World) : Prop := e = .returned (.bool true) ∧ Below w.heap.size w w'

set_option maxHeartbeats 2000000 in
set_option maxRecDepth 20000 in
theorem kinds_walk {w : World} (henv : Env w) (s : ByteArray) (hmax : s.size ≤ 9223372036854775807) : Calls Tryz.prog 4 #[.string s] w (TrueP w) := by
  have SA := Lib.hid (sane_any henv)
  have HE := Lib.hid henv
  have RK : Hid (∀ W, Calls Tryz.prog 14 #[.string s] W (RkPost W (LX.kindOf (bts s)))) := fun W => by rw [← LX.refKind_eq]; exact rkind_any W s
  have K1 : Hid (∀ W, Env W → Calls Tryz.prog 15 #[.string s] W fun e w' => e = .returned (.bool (LX.kindOf (bts s) == 2)) ∧ Below W.heap.size W w') := fun W hW => isName_any hW s hmax
  have K2 : Hid (∀ W, Env W → Calls Tryz.prog 16 #[.string s] W fun e w' => e = .returned (.bool (LX.kindOf (bts s) == 3)) ∧ Below W.heap.size W w') := fun W hW => isCon_any hW s hmax
  have K3 : Hid (∀ W, Env W → Calls Tryz.prog 17 #[.string s] W fun e w' => e = .returned (.bool (LX.kindOf (bts s) == 4)) ∧ Below W.heap.size W w') := fun W hW => isVar_any hW s hmax
  have K4 : Hid (∀ W, Env W → Calls Tryz.prog 18 #[.string s] W fun e w' => e = .returned (.bool (LX.kindOf (bts s) == 5)) ∧ Below W.heap.size W w') := fun W hW => isWord_any hW s hmax
  have K5 : Hid (∀ W, Env W → Calls Tryz.prog 19 #[.string s] W fun e w' => e = .returned (.int .i64 (LX.kindOf (bts s))) ∧ Below W.heap.size W w') := fun W hW => kind_any hW s hmax
  have K6 : Hid (∀ W, Env W → Calls Tryz.prog 20 #[.string s] W fun e w' => e = .returned (.bool (LX.plainOf (bts s))) ∧ Below W.heap.size W w') := fun W hW => plain_any hW s hmax
  have K7 : Hid (∀ W, Calls Tryz.prog 21 #[.string s] W fun e w' => e = .returned (.bool (LX.plainOf (bts s))) ∧ Below W.heap.size W w') := fun W => by rw [← LX.refPlain_eq]; exact rplainText_any W s hmax
  obtain ⟨k, hk⟩ : ∃ k, k = LX.kindOf (bts s) := ⟨_, rfl⟩
  obtain ⟨p, hp⟩ : ∃ p, p = LX.plainOf (bts s) := ⟨_, rfl⟩
  rw [← hk] at RK K1 K2 K3 K4 K5
  rw [← hp] at K6 K7
  have e2 : (k == 2) = ((k : Int) == 2) := by rw [Bool.eq_iff_iff, beq_iff_eq, beq_iff_eq]; omega
  have e3 : (k == 3) = ((k : Int) == 3) := by rw [Bool.eq_iff_iff, beq_iff_eq, beq_iff_eq]; omega
  have e4 : (k == 4) = ((k : Int) == 4) := by rw [Bool.eq_iff_iff, beq_iff_eq, beq_iff_eq]; omega
  have e5 : (k == 5) = ((k : Int) == 5) := by rw [Bool.eq_iff_iff, beq_iff_eq, beq_iff_eq]; omega
  rw [e2] at K1
  rw [e3] at K2
  rw [e4] at K3
  rw [e5] at K4
  clear henv hk hp e2 e3 e4 e5 hmax
  go_enter Tryz.func4, Tryz.ntmps4
  go_wp2_with fail
  refine SA.out.mono ?_
  rintro e w1 ⟨rfl, hb⟩
  have HB := Lib.hid hb
  clear hb
  go_wp2_with fail
  refine (RK.out _).mono ?_
  rintro e w2 ⟨rfl, hb⟩
  have HB2 : Hid (Below w.heap.size w w2) := HB.out.trans (hb.mono HB.out.size)
  clear hb
  go_wp2_with fail
  refine (K1.out _ (HE.out.on HB2.out)).mono ?_
  rintro e w3 ⟨rfl, hb⟩
  have HB3 : Hid (Below w.heap.size w w3) := HB2.out.trans (hb.mono HB2.out.size)
  clear hb
  go_wp2_with fail
  refine (K2.out _ (HE.out.on HB3.out)).mono ?_
  rintro e w4 ⟨rfl, hb⟩
  have HB4 : Hid (Below w.heap.size w w4) := HB3.out.trans (hb.mono HB3.out.size)
  clear hb
  go_wp2_with fail
  refine (K3.out _ (HE.out.on HB4.out)).mono ?_
  rintro e w5 ⟨rfl, hb⟩
  have HB5 : Hid (Below w.heap.size w w5) := HB4.out.trans (hb.mono HB4.out.size)
  clear hb
  go_wp2_with fail
  refine (K4.out _ (HE.out.on HB5.out)).mono ?_
  rintro e w6 ⟨rfl, hb⟩
  have HB6 : Hid (Below w.heap.size w w6) := HB5.out.trans (hb.mono HB5.out.size)
  clear hb
  go_wp2_with fail
  refine (K5.out _ (HE.out.on HB6.out)).mono ?_
  rintro e w7 ⟨rfl, hb⟩
  have HB7 : Hid (Below w.heap.size w w7) := HB6.out.trans (hb.mono HB6.out.size)
  clear hb
  go_wp2_with fail
  refine (K6.out _ (HE.out.on HB7.out)).mono ?_
  rintro e w8 ⟨rfl, hb⟩
  have HB8 : Hid (Below w.heap.size w w8) := HB7.out.trans (hb.mono HB7.out.size)
  clear hb
  go_wp2_with fail
  refine (K7.out _).mono ?_
  rintro e w9 ⟨rfl, hb⟩
  have HB9 : Hid (Below w.heap.size w w9) := HB8.out.trans (hb.mono HB8.out.size)
  clear hb
  go_wp2_with fail
  go_ret
  exact ⟨rfl, HB9.out⟩
end Go.Proofs.YtfoijbcmjciihaaGreatDoor


namespace Go.Proofs.YtfoijbcmjciihaaGreatDoor
open Go.RowKit

def eqT (a b : Tkv) : Bool := decide (a.k = b.k ∧ a.v = b.v ∧ a.tx = b.tx)

def sameT : List Tkv → List Tkv → Bool
  | [], [] => true
  | a :: xs, b :: bs => eqT a b && sameT xs bs
  | _, _ => false

theorem sameT_length : ∀ {xs bs : List Tkv}, sameT xs bs = true → xs.length = bs.length
  | [], [], _ => rfl
  | a :: xs, b :: bs, h => by
    rw [sameT, Bool.and_eq_true] at h
    rw [List.length_cons, List.length_cons, sameT_length h.2]
  | [], _ :: _, h => by cases h
  | _ :: _, [], h => by cases h

theorem bytes_ne {s t : ByteArray} (h : ¬ s = t) : (s.toList == t.toList) = false := beq_false_of_ne fun e => h (by
  rw [ByteArray.toList_eq, ByteArray.toList_eq] at e
  exact bts_inj (by unfold bts; rw [e]))

set_option maxHeartbeats 1000000 in
theorem same1_any (w : World) (k v p k' v' p' : Int) (tx tx' : ByteArray) :
    Calls Tryz.prog 42 #[.agg #[.int .i64 k, .int .i64 v, .string tx, .int .i64 p], .agg #[.int .i64 k', .int .i64 v', .string tx', .int .i64 p']] w fun e w' => e = .returned (.bool (decide (k = k' ∧ v = v' ∧ tx = tx'))) ∧ Below w.heap.size w w' := by
  by_cases h1 : k = k'
  · subst h1
    by_cases h2 : v = v'
    · subst h2
      by_cases h3 : tx = tx'
      · subst h3
        rw [show decide (k = k ∧ v = v ∧ tx = tx) = true from by simp]
        go_enter Tryz.func42, Tryz.ntmps42
        go_wp2_with fail
        go_ret
        exact ⟨rfl, ((Below.refl _ _).alloc (Nat.le_refl _) _).alloc (by simp) _⟩
      · rw [show decide (k = k ∧ v = v ∧ tx = tx') = false from by simp [h3]]
        have e3 := bytes_ne h3
        clear h3
        go_enter Tryz.func42, Tryz.ntmps42
        go_wp2_with fail
        go_ret
        exact ⟨rfl, ((Below.refl _ _).alloc (Nat.le_refl _) _).alloc (by simp) _⟩
    · rw [show decide (k = k ∧ v = v' ∧ tx = tx') = false from by simp [h2]]
      have e2 : (v == v') = false := by simpa using h2
      clear h2
      go_enter Tryz.func42, Tryz.ntmps42
      go_wp2_with fail
      go_ret
      exact ⟨rfl, ((Below.refl _ _).alloc (Nat.le_refl _) _).alloc (by simp) _⟩
  · rw [show decide (k = k' ∧ v = v' ∧ tx = tx') = false from by simp [h1]]
    have e1 : (k == k') = false := by simpa using h1
    clear h1
    go_enter Tryz.func42, Tryz.ntmps42
    go_wp2_with fail
    go_ret
    exact ⟨rfl, ((Below.refl _ _).alloc (Nat.le_refl _) _).alloc (by simp) _⟩

theorem tkS_cell {W : World} {ad : Option Addr} {n c : Nat} {ts : List Tkv} (h : TkS W (.slice ad n c) ts) {i : Nat} {t : Tkv} (ht : ts[i]? = some t) : ∃ g off, ad = some ⟨g, off, none⟩ ∧ g < W.heap.size ∧
    W.cell? ⟨g, off + i * 4, none⟩ = some (.int .i64 t.k) ∧ W.cell? ⟨g, off + i * 4 + 1, none⟩ = some (.int .i64 t.v) ∧ W.cell? ⟨g, off + i * 4 + 2, none⟩ = some (.string t.tx) ∧ W.cell? ⟨g, off + i * 4 + 3, none⟩ = some (.int .i64 t.p) := by
  obtain ⟨a, c', he, _, h2⟩ := h.shape
  simp only [Value.slice.injEq] at he
  obtain ⟨rfl, _, _⟩ := he
  obtain ⟨g, off, rfl, hg, h3⟩ := h2 (fun e => by rw [e] at ht; cases ht)
  exact ⟨g, off, rfl, hg, h3 i t ht⟩

theorem TkS.len {W : World} {ad : Option Addr} {n c : Nat} {ts : List Tkv} (h : TkS W (.slice ad n c) ts) : n = ts.length ∧ n ≤ c := by
  obtain ⟨a, c', he, hc, _⟩ := h.shape
  simp only [Value.slice.injEq] at he
  omega

def SamePost (w : World) (xs bs : List Tkv) (e : Ending) (w' : World) : Prop := e = .returned (.bool (sameT xs bs)) ∧ Below w.heap.size w w'
end Go.Proofs.YtfoijbcmjciihaaGreatDoor


namespace Go.Proofs.YtfoijbcmjciihaaGreatDoor
open Go.RowKit

theorem sameT_diff : ∀ {xs ys : List Tkv}, ¬ xs.length = ys.length → sameT xs ys = false := fun {xs ys} h => by
  cases hs : sameT xs ys with
  | false => rfl
  | true => exact absurd (sameT_length hs) h

theorem sameT_drop {xs ys : List Tkv} {k : Nat} {a b : Tkv} (ha : xs[k]? = some a) (hb : ys[k]? = some b) : sameT (xs.drop k) (ys.drop k) = (eqT a b && sameT (xs.drop (k + 1)) (ys.drop (k + 1))) := by
  obtain ⟨h1, h2⟩ := List.getElem?_eq_some_iff.1 ha
  obtain ⟨h3, h4⟩ := List.getElem?_eq_some_iff.1 hb
  rw [List.drop_eq_getElem_cons h1, List.drop_eq_getElem_cons h3, h2, h4, sameT]

set_option maxHeartbeats 2000000 in
set_option maxRecDepth 20000 in
theorem eqFunc_any {w : World} {va vb : Value} {xs ys : List Tkv} (ha : TkS w va xs) (hb : TkS w vb ys) (hna : xs.length * 40 ≤ 140737488355328) (hnb : ys.length * 40 ≤ 140737488355328) :
    Calls Tryz.prog 41 #[va, vb, .func (.func 42) #[] #[]] w (SamePost w xs ys) := by
  obtain ⟨aa, ca, rfl, hca, -⟩ := ha.shape
  obtain ⟨ab, cb, rfl, hcb, -⟩ := hb.shape
  by_cases hl : xs.length = ys.length
  · obtain ⟨n, hn⟩ : ∃ n, n = xs.length := ⟨_, rfl⟩
    have hn2 : n = ys.length := hn.trans hl
    rw [← hn] at ha hca hna ⊢
    rw [← hn2] at hb hcb ⊢
    have HA := Lib.hid ha
    have HB := Lib.hid hb
    have HN := Lib.hid hn
    have HN2 := Lib.hid hn2
    have hnz : (n : Int) ≤ 140737488355328 := by omega
    clear ha hb hn hn2 hna hnb hl hca hcb
    go_enter Tryz.func41, Tryz.ntmps41
    go_wp2_with fail
    go_loopw [17] (fun i wr => ∃ k : Nat, k ≤ n ∧ i = .int .i64 k ∧ sameT xs ys = sameT (xs.drop k) (ys.drop k) ∧ Below w.heap.size w wr) (fun i _ => n - (intOf i).toNat)
    case atStart => exact ⟨0, Nat.zero_le _, rfl, rfl, Below.refl _ _⟩
    case round =>
      obtain ⟨k, hk, rfl, hs, hbl⟩ := hrel
      have HBL := Lib.hid hbl
      have HS := Lib.hid hs
      clear hbl hs
      by_cases hlt : k < n
      · have hltz : (k : Int) < (n : Int) := by omega
        obtain ⟨a, hxa⟩ : ∃ t, xs[k]? = some t := ⟨_, List.getElem?_eq_getElem (by have := HN.out; omega)⟩
        obtain ⟨b, hyb⟩ : ∃ t, ys[k]? = some t := ⟨_, List.getElem?_eq_getElem (by have := HN2.out; omega)⟩
        obtain ⟨ga, oa, rfl, hga, c0, c1, c2, c3⟩ := tkS_cell (HA.out.keep HBL.out) hxa
        obtain ⟨gb, ob, rfl, hgb, d0, d1, d2, d3⟩ := tkS_cell (HB.out.keep HBL.out) hyb
        have HD := Lib.hid (sameT_drop hxa hyb)
        have HLT := Lib.hid hlt
        obtain ⟨ak, av, ax, ap⟩ := a
        obtain ⟨bk, bv, bx, bp⟩ := b
        simp only [] at c0 c1 c2 c3 d0 d1 d2 d3
        have CA : Hid (∀ W, Calls Tryz.prog 42 #[.agg #[.int .i64 ak, .int .i64 av, .string ax, .int .i64 ap], .agg #[.int .i64 bk, .int .i64 bv, .string bx, .int .i64 bp]] W fun e w' => e = .returned (.bool (eqT ⟨ak, av, ax, ap⟩ ⟨bk, bv, bx, bp⟩)) ∧ Below W.heap.size W w') := fun W => same1_any W _ _ _ _ _ _ _ _
        clear hxa hyb hlt hk
        go_wp2_with fail
        refine (CA.out _).mono ?_
        rintro e w1 ⟨rfl, hb⟩
        have HB1 : Hid (Below w.heap.size w w1) := ((HBL.out.alloc HBL.out.size _).alloc (by have := HBL.out.size; simp; omega) _).trans (hb.mono (by have := HBL.out.size; simp; omega))
        clear hb c0 c1 c2 c3 d0 d1 d2 d3
        cases he : eqT ⟨ak, av, ax, ap⟩ ⟨bk, bv, bx, bp⟩ with
        | true =>
          have HE := Lib.hid he
          clear he
          go_wp2_with fail
          go_roundw
          case rel => exact ⟨k + 1, HLT.out, by go_num, by rw [HS.out, HD.out, HE.out]; rfl, HB1.out⟩
          case measure => have := HLT.out; simp [intOf]; omega
        | false =>
          have HE := Lib.hid he
          clear he
          go_wp2_with fail
          go_ret
          refine ⟨?_, HB1.out⟩
          rw [HS.out, HD.out, HE.out]
          rfl
      · have hge : (n : Int) ≤ (k : Int) := by omega
        have HK : Hid (k = n) := by show k = n; omega
        clear hlt hk
        go_wp2_with fail
        go_ret
        refine ⟨?_, HBL.out⟩
        rw [HS.out, List.drop_of_length_le (by have := HN.out; have := HK.out; omega), List.drop_of_length_le (by have := HN2.out; have := HK.out; omega)]
        rfl
  · have hne : ((xs.length : Int) != (ys.length : Int)) = true := by simp; omega
    have HD := Lib.hid (sameT_diff hl)
    clear hl ha hb hca hcb hna hnb
    go_enter Tryz.func41, Tryz.ntmps41
    go_wp2_with fail
    go_ret
    refine ⟨?_, Below.refl _ _⟩
    rw [HD.out]
    rfl

theorem same_any {w : World} {va vb : Value} {xs ys : List Tkv} (ha : TkS w va xs) (hb : TkS w vb ys) (hna : xs.length * 40 ≤ 140737488355328) (hnb : ys.length * 40 ≤ 140737488355328) :
    Calls Tryz.prog 26 #[va, vb] w (SamePost w xs ys) := by
  have E := Lib.hid (eqFunc_any ha hb hna hnb)
  obtain ⟨aa, ca, rfl, hca, -⟩ := ha.shape
  obtain ⟨ab, cb, rfl, hcb, -⟩ := hb.shape
  clear ha hb hca hcb hna hnb
  go_enter Tryz.func26, Tryz.ntmps26
  go_wp2_with fail
  refine E.out.mono ?_
  rintro e w1 ⟨rfl, hb⟩
  go_wp2_with fail
  go_ret
  exact ⟨rfl, hb⟩
end Go.Proofs.YtfoijbcmjciihaaGreatDoor


namespace Go.Proofs.YtfoijbcmjciihaaGreatDoor
open Go.RowKit

set_option maxHeartbeats 2000000 in
set_option maxRecDepth 20000 in
theorem rcheck_any (w : World) (k v p : Int) (tx : ByteArray) :
    Calls Tryz.prog 23 #[.agg #[.int .i64 k, .int .i64 v, .string tx, .int .i64 p]] w (CkPost w k v tx p) := by
  have RK : Hid (∀ W, Calls Tryz.prog 14 #[.string tx] W (RkPost W (LX.kindOf (bts tx)))) := fun W => by rw [← LX.refKind_eq]; exact rkind_any W tx
  have NM : Hid (∀ W, Calls Tryz.prog 37 #[.string tx] W (RN (LX.num (bts tx)) W)) := fun W => refNumber_any W tx
  obtain ⟨W0, hW0⟩ : ∃ W, W = w.alloc (.cells #[.int .i64 k, .int .i64 v, .string tx, .int .i64 p] 42) := ⟨_, rfl⟩
  obtain ⟨z, hz⟩ : ∃ z, z = w.heap.size := ⟨_, rfl⟩
  have hblk : W0.heap[z]? = some (.cells #[.int .i64 k, .int .i64 v, .string tx, .int .i64 p] 42 (0, 0)) := by rw [hW0, hz]; exact heap_alloc_new w _
  have BW : Hid (Below w.heap.size w W0) := by rw [hW0]; exact (Below.refl _ _).alloc (Nat.le_refl _) _
  have CELLS : Hid (∀ w1, Below W0.heap.size W0 w1 → w1.cell? ⟨z, 0, none⟩ = some (.int .i64 k) ∧ w1.cell? ⟨z, 1, none⟩ = some (.int .i64 v) ∧ w1.cell? ⟨z, 2, none⟩ = some (.string tx) ∧ w1.cell? ⟨z, 3, none⟩ = some (.int .i64 p)) := fun w1 h => by
    have hb : w1.heap[z]? = some (.cells #[.int .i64 k, .int .i64 v, .string tx, .int .i64 p] 42 (0, 0)) := (h.block _ (Array.getElem?_eq_some_iff.1 hblk).1).trans hblk
    refine ⟨?_, ?_, ?_, ?_⟩
    · rw [cell_of_row _ _ 0 _ _ _ hb]; rfl
    · rw [cell_of_row _ _ 1 _ _ _ hb]; rfl
    · rw [cell_of_row _ _ 2 _ _ _ hb]; rfl
    · rw [cell_of_row _ _ 3 _ _ _ hb]; rfl
  obtain ⟨c0, c1, c2, c3⟩ := CELLS.out W0 (Below.refl _ _)
  have HW0 := Lib.hid hW0
  have HZ := Lib.hid hz
  obtain ⟨kd, hkd⟩ : ∃ r, r = LX.kindOf (bts tx) := ⟨_, rfl⟩
  have CK : Hid (LX.checkOf k v (bts tx) p = (decide (0 ≤ p) && (kd : Int) == k && k != 0 && v == (if k = 1 then (LX.num (bts tx)).getD 0 else 0))) := by rw [hkd]; rfl
  have GOOD : Hid (LX.checkOf k v (bts tx) p = true → ∀ w', Below w.heap.size w w' → CkPost w k v tx p (.returned (.int .i64 0)) w') := fun h w' hb => ⟨by rw [h]; rfl, hb⟩
  have BAD : Hid (LX.checkOf k v (bts tx) p = false → ∀ w', Below w.heap.size w w' → CkPost w k v tx p (.returned (.int .i64 10)) w') := fun h w' hb => ⟨by rw [h]; rfl, hb⟩
  rw [← hkd] at RK
  clear hkd hz hW0 hblk
  by_cases h1 : p < 0 ∨ kd = 0 ∨ (kd : Int) ≠ k
  · have hf : LX.checkOf k v (bts tx) p = false := by
      rw [CK.out]
      rcases h1 with h | h | h
      · rw [show decide (0 ≤ p) = false from by simp; omega]; rfl
      · cases hq : ((kd : Int) == k) with
        | false => simp
        | true =>
          have : k = 0 := by rw [beq_iff_eq] at hq; omega
          rw [this]; simp
      · rw [show ((kd : Int) == k) = false from beq_false_of_ne h]; simp
    have HF := Lib.hid hf
    by_cases hp : p < 0
    · have dp : decide (p < 0) = true := by simpa using hp
      clear h1 hf hp
      go_enter Tryz.func23, Tryz.ntmps23
      go_upto_region 1 with (fail)
      rw [← HW0.out, ← HZ.out]
      go_wp2_with fail
      refine (RK.out _).mono ?_
      rintro e w1 ⟨rfl, hb⟩
      obtain ⟨c0', c1', c2', c3'⟩ := CELLS.out w1 hb
      have HB : Hid (Below w.heap.size w w1) := BW.out.trans (hb.mono BW.out.size)
      clear hb c0 c1 c2 c3
      go_wp2_with fail
      go_ret
      exact BAD.out HF.out _ HB.out
    · have dp : decide (p < 0) = false := by simp; omega
      by_cases h0 : kd = 0
      · subst h0
        clear h1 hf hp
        go_enter Tryz.func23, Tryz.ntmps23
        go_upto_region 1 with (fail)
        rw [← HW0.out, ← HZ.out]
        go_wp2_with fail
        refine (RK.out _).mono ?_
        rintro e w1 ⟨rfl, hb⟩
        obtain ⟨c0', c1', c2', c3'⟩ := CELLS.out w1 hb
        have HB : Hid (Below w.heap.size w w1) := BW.out.trans (hb.mono BW.out.size)
        clear hb c0 c1 c2 c3
        go_wp2_with fail
        go_ret
        exact BAD.out HF.out _ HB.out
      · have e0 : ((kd : Int) == 0) = false := beq_false_of_ne (by omega)
        have e1 : ((kd : Int) == k) = false := beq_false_of_ne (by omega)
        have e2 : ((kd : Int) != k) = true := by simp; omega
        clear h1 hf hp h0
        go_enter Tryz.func23, Tryz.ntmps23
        go_upto_region 1 with (fail)
        rw [← HW0.out, ← HZ.out]
        go_wp2_with fail
        refine (RK.out _).mono ?_
        rintro e w1 ⟨rfl, hb⟩
        obtain ⟨c0', c1', c2', c3'⟩ := CELLS.out w1 hb
        have HB : Hid (Below w.heap.size w w1) := BW.out.trans (hb.mono BW.out.size)
        clear hb c0 c1 c2 c3
        go_wp2_with fail
        go_ret
        exact BAD.out HF.out _ HB.out
  · have hp : 0 ≤ p := by omega
    have dp : decide (p < 0) = false := by simp; omega
    have hk : (kd : Int) = k := by omega
    have hk0 : k ≠ 0 := by omega
    have e0 : (k == 0) = false := by simpa using hk0
    have RK2 : Hid (∀ W, Calls Tryz.prog 14 #[.string tx] W fun e w' => e = .returned (.int .i64 k) ∧ Below W.heap.size W w') := fun W => by rw [← hk]; exact RK.out W
    obtain ⟨nv, hnv⟩ : ∃ n, n = (LX.num (bts tx)).getD 0 := ⟨_, rfl⟩
    obtain ⟨ne, hne⟩ : ∃ n : Int, n = if (LX.num (bts tx)).isSome then 0 else 13 := ⟨_, rfl⟩
    have NM2 : Hid (∀ W, Calls Tryz.prog 37 #[.string tx] W fun e w' => e = .returned (.tuple #[.int .i64 nv, .int .i64 ne]) ∧ w' = W) := fun W => by rw [hnv, hne]; exact NM.out W
    have CK2 : Hid (LX.checkOf k v (bts tx) p = (v == (if k = 1 then nv else 0))) := by
      rw [CK.out, hnv, show decide (0 ≤ p) = true from by simpa using hp, show ((kd : Int) == k) = true from by simpa using hk, show (k != 0) = true from by simpa using hk0]
      rfl
    clear h1 hp hk hk0 hnv hne RK NM CK
    by_cases h1 : k = 1
    · subst h1
      by_cases hv : v = nv
      · subst hv
        have HF := Lib.hid (show LX.checkOf 1 v (bts tx) p = true from by rw [CK2.out]; simp)
        go_enter Tryz.func23, Tryz.ntmps23
        go_upto_region 1 with (fail)
        rw [← HW0.out, ← HZ.out]
        go_wp2_with fail
        refine (RK2.out _).mono ?_
        rintro e w1 ⟨rfl, hb⟩
        obtain ⟨c0', c1', c2', c3'⟩ := CELLS.out w1 hb
        have HB : Hid (Below w.heap.size w w1) := BW.out.trans (hb.mono BW.out.size)
        clear hb c0 c1 c2 c3
        go_wp2_with fail
        refine (NM2.out _).mono ?_
        rintro e w2 ⟨rfl, rfl⟩
        go_wp2_with fail
        go_ret
        exact GOOD.out HF.out _ HB.out
      · have HF := Lib.hid (show LX.checkOf 1 v (bts tx) p = false from by rw [CK2.out]; simp [hv])
        have ev : (nv == v) = false := beq_false_of_ne (fun e => hv e.symm)
        have ev2 : (nv != v) = true := by simp; exact fun e => hv e.symm
        clear hv
        go_enter Tryz.func23, Tryz.ntmps23
        go_upto_region 1 with (fail)
        rw [← HW0.out, ← HZ.out]
        go_wp2_with fail
        refine (RK2.out _).mono ?_
        rintro e w1 ⟨rfl, hb⟩
        obtain ⟨c0', c1', c2', c3'⟩ := CELLS.out w1 hb
        have HB : Hid (Below w.heap.size w w1) := BW.out.trans (hb.mono BW.out.size)
        clear hb c0 c1 c2 c3
        go_wp2_with fail
        refine (NM2.out _).mono ?_
        rintro e w2 ⟨rfl, rfl⟩
        go_wp2_with fail
        go_ret
        exact BAD.out HF.out _ HB.out
    · have k1 : (k == 1) = false := by simpa using h1
      have k1' : (k != 1) = true := by simpa using h1
      by_cases hv : v = 0
      · subst hv
        have HF := Lib.hid (show LX.checkOf k 0 (bts tx) p = true from by rw [CK2.out, if_neg h1]; rfl)
        clear h1
        go_enter Tryz.func23, Tryz.ntmps23
        go_upto_region 1 with (fail)
        rw [← HW0.out, ← HZ.out]
        go_wp2_with fail
        refine (RK2.out _).mono ?_
        rintro e w1 ⟨rfl, hb⟩
        obtain ⟨c0', c1', c2', c3'⟩ := CELLS.out w1 hb
        have HB : Hid (Below w.heap.size w w1) := BW.out.trans (hb.mono BW.out.size)
        clear hb c0 c1 c2 c3
        go_wp2_with fail
        refine (NM2.out _).mono ?_
        rintro e w2 ⟨rfl, rfl⟩
        go_wp2_with fail
        go_ret
        exact GOOD.out HF.out _ HB.out
      · have HF := Lib.hid (show LX.checkOf k v (bts tx) p = false from by rw [CK2.out, if_neg h1]; simpa using hv)
        have ev : (v == 0) = false := by simpa using hv
        have ev2 : (v != 0) = true := by simpa using hv
        clear h1 hv
        go_enter Tryz.func23, Tryz.ntmps23
        go_upto_region 1 with (fail)
        rw [← HW0.out, ← HZ.out]
        go_wp2_with fail
        refine (RK2.out _).mono ?_
        rintro e w1 ⟨rfl, hb⟩
        obtain ⟨c0', c1', c2', c3'⟩ := CELLS.out w1 hb
        have HB : Hid (Below w.heap.size w w1) := BW.out.trans (hb.mono BW.out.size)
        clear hb c0 c1 c2 c3
        go_wp2_with fail
        refine (NM2.out _).mono ?_
        rintro e w2 ⟨rfl, rfl⟩
        go_wp2_with fail
        go_ret
        exact BAD.out HF.out _ HB.out
end Go.Proofs.YtfoijbcmjciihaaGreatDoor


namespace Go.Proofs.YtfoijbcmjciihaaGreatDoor
open Go.RowKit

theorem eqT_of {ak av bk bv : Int} {ax bx : ByteArray} {ap bp : Int} : eqT ⟨ak, av, ax, ap⟩ ⟨bk, bv, bx, bp⟩ = decide (ak = bk ∧ av = bv ∧ ax = bx) := rfl

set_option maxHeartbeats 4000000 in
set_option maxRecDepth 20000 in
theorem rsame_any {w : World} {va vb : Value} {xs ys : List Tkv} (ha : TkS w va xs) (hb : TkS w vb ys) (hna : xs.length * 40 ≤ 140737488355328) (hnb : ys.length * 40 ≤ 140737488355328) :
    Calls Tryz.prog 27 #[va, vb] w (SamePost w xs ys) := by
  obtain ⟨aa, ca, rfl, hca, -⟩ := ha.shape
  obtain ⟨ab, cb, rfl, hcb, -⟩ := hb.shape
  by_cases hl : xs.length = ys.length
  · obtain ⟨n, hn⟩ : ∃ n, n = xs.length := ⟨_, rfl⟩
    have hn2 : n = ys.length := hn.trans hl
    rw [← hn] at ha hca hna ⊢
    rw [← hn2] at hb hcb ⊢
    have HA := Lib.hid ha
    have HB := Lib.hid hb
    have HN := Lib.hid hn
    have HN2 := Lib.hid hn2
    have hnz : (n : Int) ≤ 140737488355328 := by omega
    clear ha hb hn hn2 hna hnb hl hca hcb
    go_enter Tryz.func27, Tryz.ntmps27
    go_wp2_with fail
    go_loopw [5] (fun i wr => ∃ k : Nat, k ≤ n ∧ i = .int .i64 k ∧ sameT xs ys = sameT (xs.drop k) (ys.drop k) ∧ Below w.heap.size w wr) (fun i _ => n - (intOf i).toNat)
    case atStart => exact ⟨0, Nat.zero_le _, rfl, rfl, Below.refl _ _⟩
    case round =>
      obtain ⟨k, hk, rfl, hs, hbl⟩ := hrel
      have HBL := Lib.hid hbl
      have HS := Lib.hid hs
      clear hbl hs
      by_cases hlt : k < n
      · have hltz : (k : Int) < (n : Int) := by omega
        obtain ⟨a, hxa⟩ : ∃ t, xs[k]? = some t := ⟨_, List.getElem?_eq_getElem (by have := HN.out; omega)⟩
        obtain ⟨b, hyb⟩ : ∃ t, ys[k]? = some t := ⟨_, List.getElem?_eq_getElem (by have := HN2.out; omega)⟩
        obtain ⟨ga, oa, rfl, hga, c0, c1, c2, c3⟩ := tkS_cell (HA.out.keep HBL.out) hxa
        obtain ⟨gb, ob, rfl, hgb, d0, d1, d2, d3⟩ := tkS_cell (HB.out.keep HBL.out) hyb
        have HD := Lib.hid (sameT_drop hxa hyb)
        have HLT := Lib.hid hlt
        obtain ⟨ak, av, ax, ap⟩ := a
        obtain ⟨bk, bv, bx, bp⟩ := b
        simp only [] at c0 c1 c2 c3 d0 d1 d2 d3
        clear hxa hyb hlt hk
        by_cases h1 : ak = bk
        · subst h1
          by_cases h2 : av = bv
          · subst h2
            by_cases h3 : ax = bx
            · subst h3
              have HE := Lib.hid (show eqT ⟨ak, av, ax, ap⟩ ⟨ak, av, ax, bp⟩ = true from by rw [eqT_of]; simp)
              go_wp2_with fail
              go_quiet (fail)
              go_wp2_with fail
              go_roundw
              case rel => exact ⟨k + 1, HLT.out, by go_num, by rw [HS.out, HD.out, HE.out]; rfl, below_drawn HBL.out _⟩
              case measure => have := HLT.out; simp [intOf]; omega
            · have HE := Lib.hid (show eqT ⟨ak, av, ax, ap⟩ ⟨ak, av, bx, bp⟩ = false from by rw [eqT_of]; simp [h3])
              have e3 := bytes_ne h3
              have e3n : (ax.toList != bx.toList) = true := by rw [bne, e3]; rfl
              clear h3
              go_wp2_with fail
              go_quiet (fail)
              go_wp2_with fail
              go_ret
              refine ⟨?_, below_drawn HBL.out _⟩
              rw [HS.out, HD.out, HE.out]
              rfl
          · have HE := Lib.hid (show eqT ⟨ak, av, ax, ap⟩ ⟨ak, bv, bx, bp⟩ = false from by rw [eqT_of]; simp [h2])
            have e2 : (av == bv) = false := by simpa using h2
            have e2n : (av != bv) = true := by simpa using h2
            clear h2
            go_wp2_with fail
            go_quiet (fail)
            go_wp2_with fail
            go_ret
            refine ⟨?_, below_drawn HBL.out _⟩
            rw [HS.out, HD.out, HE.out]
            rfl
        · have HE := Lib.hid (show eqT ⟨ak, av, ax, ap⟩ ⟨bk, bv, bx, bp⟩ = false from by rw [eqT_of]; simp [h1])
          have e1 : (ak == bk) = false := by simpa using h1
          have e1n : (ak != bk) = true := by simpa using h1
          clear h1
          go_wp2_with fail
          go_quiet (fail)
          go_wp2_with fail
          go_ret
          refine ⟨?_, below_drawn HBL.out _⟩
          rw [HS.out, HD.out, HE.out]
          rfl
      · have hge : (n : Int) ≤ (k : Int) := by omega
        have HK : Hid (k = n) := by show k = n; omega
        clear hlt hk
        go_wp2_with fail
        go_ret
        refine ⟨?_, HBL.out⟩
        rw [HS.out, List.drop_of_length_le (by have := HN.out; have := HK.out; omega), List.drop_of_length_le (by have := HN2.out; have := HK.out; omega)]
        rfl
  · have hne : ((xs.length : Int) != (ys.length : Int)) = true := by simp; omega
    have HD := Lib.hid (sameT_diff hl)
    clear hl ha hb hca hcb hna hnb
    go_enter Tryz.func27, Tryz.ntmps27
    go_wp2_with fail
    go_ret
    refine ⟨?_, Below.refl _ _⟩
    rw [HD.out]
    rfl
end Go.Proofs.YtfoijbcmjciihaaGreatDoor


namespace Go.Proofs.YtfoijbcmjciihaaGreatDoor
open Go.RowKit

theorem Tryz.info5u : (Tryz.prog.info? 5).map (fun i => (i.zero, i.size, i.bytes)) = some (some (.int .u8 0), 1, 1) := by kernel_rfl

def bc (l : List UInt8) : List Value := l.map fun b => Value.int .u8 b.toNat

theorem bc_append (a b : List UInt8) : bc (a ++ b) = bc a ++ bc b := by unfold bc; rw [List.map_append]
theorem bc_length (a : List UInt8) : (bc a).length = a.length := by unfold bc; rw [List.length_map]
theorem strCells_bc (s : ByteArray) : Lib.strCells s = bc s.data.toList := rfl

theorem grown_of_below {w w' : World} (h : Below w.heap.size w w') : w.grownBy w' none := ⟨h.os, h.tape, h.output, h.size, fun k hk _ => h.block k hk⟩

theorem below_grown {w wr w' : World} {e size n : Nat} {v : Value} {xs : List Value} (hb : Below w.heap.size w wr) (ho : wr.ownsRow w.heap.size e size v n xs) (hg : wr.grownBy w' v.ownBlock) : Below w.heap.size w w' :=
  hb.trans ⟨hg.os, hg.tape, hg.output, hg.size, fun k hk => by
    refine hg.block k (Nat.lt_of_lt_of_le hk hb.size) (fun e => ?_)
    rcases ho.2 with ⟨rfl, _⟩ | ⟨g, cap, cur, rfl, hbg, _⟩
    · simp [Value.ownBlock] at e
    · simp [Value.ownBlock] at e; omega⟩

theorem own_call {wr w' : World} {e size n B : Nat} {v : Value} {xs : List Value} (ho : wr.ownsRow B e size v n xs) (hb : Below wr.heap.size wr w') : w'.ownsRow B e size v n xs :=
  ho.kept (grown_of_below hb) (by cases hv : v.ownBlock <;> simp)

theorem own_slice {W : World} {B e size n : Nat} {v : Value} {xs : List Value} (h : W.ownsRow B e size v n xs) : ∃ a c, v = .slice a n c := by
  rcases h.2 with ⟨rfl, rfl⟩ | ⟨g, cap, cur, e, _⟩
  · exact ⟨_, _, rfl⟩
  · exact ⟨_, _, e⟩

theorem take_ok {ts : List Tkv} {k : Nat} {t : Tkv} (h : ts[k]? = some t) : (ts.take (k + 1)).all Tkv.ok = ((ts.take k).all Tkv.ok && t.ok) := by
  rw [List.take_add_one, h]
  simp

theorem jn_take {ts : List Tkv} {k : Nat} {t : Tkv} (h : ts[k]? = some t) : jn (ts.take (k + 1)) = jn (ts.take k) ++ ((if k = 0 then [] else [32]) ++ t.tx.data.toList) := by
  have hk := (List.getElem?_eq_some_iff.1 h).1
  rw [List.take_add_one, h, Option.toList_some, jn_snoc]
  congr 2
  by_cases h0 : k = 0
  · subst h0; simp
  · rw [if_neg h0, if_neg]
    intro e
    have := congrArg List.length e
    rw [List.length_take, List.length_nil] at this
    omega

theorem joinB_bad {ts : List Tkv} {k : Nat} {t : Tkv} (h : ts[k]? = some t) (hf : t.ok = false) : joinB ts = ⟨#[]⟩ := by
  unfold joinB
  rw [if_neg]
  intro ha
  have := List.all_eq_true.1 ha t (List.mem_of_getElem? h)
  rw [hf] at this
  cases this

theorem run_conv_own {W : World} {B : Nat} {v : Value} {l : List UInt8} (h : W.ownsRow B 5 1 v l.length (bc l)) : (convert 55 9 v).run Tryz.prog W = .ok (.string ⟨l.toArray⟩) W := by
  rcases h.2 with ⟨rfl, h0⟩ | ⟨g, cap, cur, rfl, _⟩
  · have : l = [] := List.length_eq_zero_iff.1 h0
    subst this
    exact run_convert_bytes_nil W 55 5 Tryz.underlying55 Tryz.underlying5 0 0 9 Tryz.underlying9
  · refine run_convert_bytes_back W 55 9 5 ⟨g, 0, none⟩ cap l Tryz.underlying55 Tryz.underlying5 Tryz.underlying9 fun j hj => ?_
    refine h.cells rfl j _ ?_
    unfold bc
    rw [List.getElem?_map, List.getElem?_eq_getElem hj]
    rfl

set_option maxHeartbeats 4000000 in
set_option maxRecDepth 20000 in
theorem rjoin_any {w : World} {v : Value} {ts : List Tkv} (hts : TkS w v ts) (hn : ts.length * 40 ≤ 140737488355328) : Calls Tryz.prog 25 #[v] w (JPost w ts) := by
  obtain ⟨ad, c, rfl, hc, -⟩ := hts.shape
  obtain ⟨n, hln⟩ : ∃ n, n = ts.length := ⟨_, rfl⟩
  rw [← hln] at hts hn hc ⊢
  have HT := Lib.hid hts
  have HL := Lib.hid hln
  have hnz : (n : Int) ≤ 3518437208884 := by omega
  obtain ⟨i0, hi0, hz0, hz1, hz2⟩ := info_parts Tryz.info5u
  have HI := Lib.hid (And.intro hi0 (And.intro hz0 (And.intro hz1 hz2)))
  have OW : Hid (∀ W : World, W.heap.size = w.heap.size → (W.alloc (.cells #[] 5)).ownsRow w.heap.size 5 1 (.slice (some ⟨w.heap.size, 0, none⟩) 0 0) 0 []) := fun W hW => ⟨rfl, .inr ⟨w.heap.size, 0, #[], rfl, Nat.le_refl _, by rw [← hW]; exact heap_alloc_new W _, Nat.le_refl _, by decide, rfl, rfl⟩⟩
  clear hts hln hn hc hi0 hz0 hz1 hz2
  go_enter Tryz.func25, Tryz.ntmps25
  go_wp2_with fail
  go_loopw [3, 4] (fun o i wr => ∃ (k : Nat) (a : Option Addr) (m cp : Nat), k ≤ n ∧ i = .int .i64 k ∧ o = .slice a m cp ∧ m = (jn (ts.take k)).length ∧ wr.ownsRow w.heap.size 5 1 (.slice a m cp) m (bc (jn (ts.take k))) ∧ (ts.take k).all Tkv.ok = true ∧ Below w.heap.size w wr) (fun _ i _ => n - (intOf i).toNat)
  case atStart => exact ⟨0, _, _, _, Nat.zero_le _, rfl, rfl, by rw [List.take_zero]; rfl, by rw [List.take_zero]; exact OW.out _ rfl, by rw [List.take_zero]; rfl, (Below.refl _ _).alloc (Nat.le_refl _) _⟩
  case round =>
    obtain ⟨k, la, m, lc, hk, rfl, rfl, hm, hown, hall, hbl⟩ := hrel
    have HM := Lib.hid hm
    have HO := Lib.hid hown
    have HA := Lib.hid hall
    have HB := Lib.hid hbl
    have HMZ : Hid (m ≤ 25 * k) := by
      rw [hm]
      refine Nat.le_trans (jn_length _ hall) (Nat.mul_le_mul_left _ ?_)
      rw [List.length_take]
      exact Nat.min_le_left _ _
    clear hm hown hall hbl
    by_cases hlt : k < n
    · have hltz : (k : Int) < (n : Int) := by omega
      obtain ⟨t, ht⟩ : ∃ t, ts[k]? = some t := ⟨_, List.getElem?_eq_getElem (by have := HL.out; omega)⟩
      obtain ⟨g, o, rfl, hg0, -⟩ := tkS_cell HT.out ht
      obtain ⟨g', o', he, hg, c0, c1, c2, c3⟩ := tkS_cell (HT.out.keep HB.out) ht
      obtain ⟨rfl, rfl⟩ : g = g' ∧ o = o' := by simp at he; exact he
      have HGW := Lib.hid hg0
      clear he hg0
      have HTK := Lib.hid (take_ok ht)
      have HJT := Lib.hid (jn_take ht)
      have HLT := Lib.hid hlt
      cases hok : t.ok with
      | false =>
        have HBAD := Lib.hid (joinB_bad ht hok)
        obtain ⟨tk, tv, tx, tp⟩ := t
        simp only [] at c0 c1 c2 c3
        have hok' : LX.checkOf tk tv (bts tx) tp = false := hok
        have CA : Hid (∀ W, Calls Tryz.prog 23 #[.agg #[.int .i64 tk, .int .i64 tv, .string tx, .int .i64 tp]] W fun e w' => e = .returned (.int .i64 10) ∧ Below W.heap.size W w') := fun W => by
          have := rcheck_any W tk tv tp tx
          unfold CkPost at this
          rw [hok'] at this
          exact this
        clear ht hok hok' hlt hk
        go_wp2_with fail
        refine (CA.out _).mono ?_
        rintro e w1 ⟨rfl, hb⟩
        have HB1 : Hid (Below w.heap.size w w1) := HB.out.trans (hb.mono HB.out.size)
        clear hb c0 c1 c2 c3
        go_wp2_with fail
        go_ret
        exact ⟨by rw [HBAD.out]; rfl, HB1.out⟩
      | true =>
        have hsz := ok_size hok
        have HK1 : Hid ((ts.take (k + 1)).all Tkv.ok = true) := by rw [take_ok ht, HA.out, hok]; rfl
        obtain ⟨tk, tv, tx, tp⟩ := t
        simp only [] at c0 c1 c2 c3 hsz
        have hok' : LX.checkOf tk tv (bts tx) tp = true := hok
        have CA : Hid (∀ W, Calls Tryz.prog 23 #[.agg #[.int .i64 tk, .int .i64 tv, .string tx, .int .i64 tp]] W fun e w' => e = .returned (.int .i64 0) ∧ Below W.heap.size W w') := fun W => by
          have := rcheck_any W tk tv tp tx
          unfold CkPost at this
          rw [hok'] at this
          exact this
        have HSZ := Lib.hid hsz
        have HCELL : Hid (∀ W, Below wr.heap.size wr W → W.cell? ⟨g, o + k * 4 + 2, none⟩ = some (.string tx)) := fun W h => (h.cell hg).trans c2
        clear ht hok hok' hlt hk hsz
        go_wp2_with fail
        refine (CA.out _).mono ?_
        rintro e w1 ⟨rfl, hb⟩
        have HB1 : Hid (Below w.heap.size w w1) := HB.out.trans (hb.mono HB.out.size)
        have HO1 := Lib.hid (own_call HO.out hb)
        have d2 := HCELL.out w1 hb
        clear hb c0 c1 c2 c3
        by_cases h0 : k = 0
        · have dk : decide ((0 : Int) < (k : Int)) = false := by simp; omega
          have dk2 : (k : Int) = 0 := by omega
          have HJ : Hid (jn (ts.take (k + 1)) = jn (ts.take k) ++ tx.data.toList) := by rw [HJT.out, if_pos h0]; rfl
          subst h0
          have HC1 : Hid True := Lib.hid trivial
          go_wp2_with (at_builtin; refine Lib.wpList_append_own_string _ rfl _ _ 55 9 rfl w.heap.size 5 i0 Tryz.underlying55 Tryz.underlying9 HI.out.1 HI.out.2.1 HI.out.2.2.1 HI.out.2.2.2 (.slice la m lc) m (bc (jn (ts.take 0))) rfl HO1.out tx rfl ?_ ?_ HB1.out.size ?_)
          · have := HMZ.out; have := HLT.out; have := HSZ.out; simp only [maxLen]; omega
          · have := HMZ.out; have := HLT.out; have := HSZ.out; omega
          · intro v' w3 h1 h2 _
            obtain ⟨la3, lc3, rfl⟩ := own_slice h1
            have HO4 := Lib.hid h1
            have HB4 := Lib.hid (below_grown HB1.out HO1.out h2)
            clear h1 h2 d2
            go_wp2_with fail
            go_roundw
            case rel =>
              refine ⟨0 + 1, la3, m + tx.size, lc3, HLT.out, by go_num, rfl, ?_, ?_, HK1.out, HB4.out⟩
              · rw [HJ.out, List.length_append, ← HM.out]; rfl
              · rw [HJ.out, bc_append]; exact HO4.out
            case measure => have := HLT.out; simp [intOf]; omega
        · have dk : (0 : Int) < (k : Int) := by omega
          have HJ : Hid (jn (ts.take (k + 1)) = jn (ts.take k) ++ [32] ++ tx.data.toList) := by rw [HJT.out, if_neg h0, List.append_assoc]; rfl
          have HK0 := Lib.hid h0
          clear h0
          have hx : (w1.alloc (.cells #[.int .u8 32] 5)).heap[w1.heap.size]? = some (.cells #[.int .u8 32] 5 (0, 0)) := heap_alloc_new w1 _
          have HX := Lib.hid hx
          have HO2 : Hid ((w1.alloc (.cells #[.int .u8 32] 5)).ownsRow w.heap.size 5 1 (.slice la m lc) m (bc (jn (ts.take k)))) := HO1.out.alloc _
          have HB2 : Hid (Below w.heap.size w (w1.alloc (.cells #[.int .u8 32] 5))) := HB1.out.alloc HB1.out.size _
          have HC2 : Hid ((w1.alloc (.cells #[.int .u8 32] 5)).cell? ⟨g, o + k * 4 + 2, none⟩ = some (.string tx) ∧ some g ≠ (Value.slice la m lc).ownBlock) := ⟨(((Below.refl w1.heap.size w1).alloc (Nat.le_refl _) _).cell (World.block_lt_of_cell? w1 _ d2)).trans d2, fun e => by
            have h1 := HCELL.out wr (Below.refl _ _)
            rcases HO.out.2 with ⟨h, _⟩ | ⟨g2, cap, cur, h, hb2, _⟩
            · rw [h] at e; simp [Value.ownBlock] at e
            · rw [h] at e; simp [Value.ownBlock] at e; have := HGW.out; omega⟩
          clear hx d2
          go_wp2_with (at_builtin; refine wpList_append_own _ rfl _ _ 55 rfl w.heap.size 5 i0 (.int .u8 0) 1 1 Tryz.underlying55 HI.out.1 HI.out.2.1 HI.out.2.2.1 HI.out.2.2.2 rfl (by decide) (.slice la m lc) m (bc (jn (ts.take k))) rfl HO2.out ⟨w1.heap.size, 0, none⟩ 1 1 [.int .u8 32] rfl rfl ?_ ?_ ?_ ?_ HB2.out.size ?_)
          · intro q u hu
            rw [Addr.add_lit, cell_of_row _ _ _ _ _ _ HX.out]
            match q, hu with
            | 0, hu => simpa using hu
            | q + 1, hu => simp at hu
          · intro u hu; simp at hu; subst hu; rfl
          · have := HMZ.out; have := HLT.out; simp only [maxLen]; omega
          · have := HMZ.out; have := HLT.out; omega
          · intro v' w2 h1 h2 _
            obtain ⟨la2, lc2, rfl⟩ := own_slice h1
            have HO3 := Lib.hid h1
            have HB3 := Lib.hid (below_grown HB2.out HO2.out h2)
            have d2 := h2.cell HC2.out.1 HC2.out.2
            clear h1 h2
            go_wp2_with (at_builtin; refine Lib.wpList_append_own_string _ rfl _ _ 55 9 rfl w.heap.size 5 i0 Tryz.underlying55 Tryz.underlying9 HI.out.1 HI.out.2.1 HI.out.2.2.1 HI.out.2.2.2 (.slice la2 (m + 1) lc2) (m + 1) (bc (jn (ts.take k)) ++ [.int .u8 32]) rfl HO3.out tx rfl ?_ ?_ HB3.out.size ?_)
            · have := HMZ.out; have := HLT.out; have := HSZ.out; simp only [maxLen]; omega
            · have := HMZ.out; have := HLT.out; have := HSZ.out; omega
            · intro v' w3 h1 h2 _
              obtain ⟨la3, lc3, rfl⟩ := own_slice h1
              have HO4 := Lib.hid h1
              have HB4 := Lib.hid (below_grown HB3.out HO3.out h2)
              clear h1 h2 d2
              go_wp2_with fail
              go_roundw
              case rel =>
                refine ⟨k + 1, la3, m + 1 + tx.size, lc3, HLT.out, by go_num, rfl, ?_, ?_, HK1.out, HB4.out⟩
                · rw [HJ.out, List.length_append, List.length_append, ← HM.out]; rfl
                · rw [HJ.out, bc_append, bc_append, List.append_assoc]; exact HO4.out
              case measure => have := HLT.out; simp [intOf]; omega
    · have hge : (n : Int) ≤ (k : Int) := by omega
      have hkn : k = n := by omega
      have htk : ts.take k = ts := List.take_of_length_le (by have := HL.out; omega)
      rw [htk] at HM HO HA
      have hcv : (convert 55 9 (.slice la m lc)).run Tryz.prog wr = .ok (.string ⟨(jn ts).toArray⟩) wr := by
        have := HO.out
        rw [HM.out] at this ⊢
        exact run_conv_own this
      have HJB : Hid (joinB ts = ⟨(jn ts).toArray⟩) := by unfold joinB; rw [if_pos HA.out]; rfl
      obtain ⟨X, hX⟩ : ∃ X : ByteArray, X = ⟨(jn ts).toArray⟩ := ⟨_, rfl⟩
      rw [← hX] at hcv HJB
      clear hlt hk hkn htk hX
      go_wp2_with fail
      go_ret
      exact ⟨by rw [HJB.out]; rfl, HB.out⟩
end Go.Proofs.YtfoijbcmjciihaaGreatDoor


namespace Go.Proofs.YtfoijbcmjciihaaGreatDoor
open Go.RowKit

set_option maxHeartbeats 4000000 in
set_option maxRecDepth 20000 in
theorem checks_walk {w : World} (henv : Env w) {va vb : Value} {xs ys : List Tkv} (ha : TkS w va xs) (hb : TkS w vb ys) (hna : xs.length * 40 ≤ 140737488355328) (hnb : ys.length * 40 ≤ 140737488355328) (hsz : ∀ t ∈ xs, t.tx.size ≤ 9223372036854775807) :
    Calls Tryz.prog 5 #[va, vb] w (TrueP w) := by
  obtain ⟨aa, ca, rfl, hca, -⟩ := ha.shape
  obtain ⟨ab, cb, rfl, hcb, -⟩ := hb.shape
  have SA := Lib.hid (sane_any henv)
  have HE := Lib.hid henv
  obtain ⟨J, hJ⟩ : ∃ J, J = joinB xs := ⟨_, rfl⟩
  obtain ⟨sm, hsm⟩ : ∃ b, b = sameT xs ys := ⟨_, rfl⟩
  obtain ⟨n, hn⟩ : ∃ n, n = xs.length := ⟨_, rfl⟩
  obtain ⟨m, hm⟩ : ∃ n, n = ys.length := ⟨_, rfl⟩
  have JA : Hid (∀ W va, Env W → TkS W va xs → Calls Tryz.prog 24 #[va] W fun e w' => e = .returned (.string J) ∧ Below W.heap.size W w') := fun W va h1 h2 => by
    have := join_any h1 h2 hna hsz
    unfold JPost at this
    rw [← hJ] at this
    exact this
  have JB : Hid (∀ W va, TkS W va xs → Calls Tryz.prog 25 #[va] W fun e w' => e = .returned (.string J) ∧ Below W.heap.size W w') := fun W va h2 => by
    have := rjoin_any h2 hna
    unfold JPost at this
    rw [← hJ] at this
    exact this
  have SAB : Hid (∀ W va vb, TkS W va xs → TkS W vb ys → Calls Tryz.prog 26 #[va, vb] W fun e w' => e = .returned (.bool sm) ∧ Below W.heap.size W w') := fun W va vb h1 h2 => by
    have := same_any h1 h2 hna hnb
    unfold SamePost at this
    rw [← hsm] at this
    exact this
  have SRB : Hid (∀ W va vb, TkS W va xs → TkS W vb ys → Calls Tryz.prog 27 #[va, vb] W fun e w' => e = .returned (.bool sm) ∧ Below W.heap.size W w') := fun W va vb h1 h2 => by
    have := rsame_any h1 h2 hna hnb
    unfold SamePost at this
    rw [← hsm] at this
    exact this
  have HSZ := Lib.hid hsz
  rw [← hn] at ha hca hna ⊢
  rw [← hm] at hb hcb ⊢
  have HA := Lib.hid ha
  have HB := Lib.hid hb
  have HN := Lib.hid hn
  have hnz : (n : Int) ≤ 140737488355328 := by omega
  clear ha hb hca hcb hJ hsm hn hm hsz henv hna hnb
  go_enter Tryz.func5, Tryz.ntmps5
  go_wp2_with fail
  refine SA.out.mono ?_
  rintro e w1 ⟨rfl, hb⟩
  have HW := Lib.hid hb
  clear hb SA
  go_wp2_with fail
  go_loopw [6] (fun i wr => ∃ k : Nat, k ≤ n ∧ i = .int .i64 k ∧ Below w.heap.size w wr) (fun i _ => n - (intOf i).toNat)
  case atStart => exact ⟨0, Nat.zero_le _, rfl, HW.out⟩
  case round =>
    obtain ⟨k, hk, rfl, hbl⟩ := hrel
    have HBL := Lib.hid hbl
    clear hbl
    by_cases hlt : k < n ∧ k < 500
    · have hltz : (k : Int) < (n : Int) := by omega
      have hlt5 : (k : Int) < 500 := by omega
      have HLT := Lib.hid hlt.1
      obtain ⟨t, ht⟩ : ∃ t, xs[k]? = some t := ⟨_, List.getElem?_eq_getElem (by have := HN.out; omega)⟩
      obtain ⟨g, o, rfl, hg, c0, c1, c2, c3⟩ := tkS_cell (HA.out.keep HBL.out) ht
      have hts := HSZ.out t (List.mem_of_getElem? ht)
      obtain ⟨tk, tv, tx, tp⟩ := t
      simp only [] at c0 c1 c2 c3 hts
      obtain ⟨r, hr⟩ : ∃ r : Int, r = if LX.checkOf tk tv (bts tx) tp then 0 else 10 := ⟨_, rfl⟩
      have CA : Hid (∀ x : Wg wr, Calls Tryz.prog 22 #[.agg #[.int .i64 tk, .int .i64 tv, .string tx, .int .i64 tp]] x.v fun e w' => e = .returned (.int .i64 r) ∧ ∃ y : Wg wr, w' = y.v) :=
        Wg.call fun x => by
          have := check_any (HE.out.on (HBL.out.trans (x.ch.mono HBL.out.size))) tk tv tp tx hts
          unfold CkPost at this
          rw [← hr] at this
          exact this
      have CB : Hid (∀ x : Wg wr, Calls Tryz.prog 23 #[.agg #[.int .i64 tk, .int .i64 tv, .string tx, .int .i64 tp]] x.v fun e w' => e = .returned (.int .i64 r) ∧ ∃ y : Wg wr, w' = y.v) :=
        Wg.call fun x => by
          have := rcheck_any x.v tk tv tp tx
          unfold CkPost at this
          rw [← hr] at this
          exact this
      have d0 : ∀ x : Wg wr, x.v.cell? ⟨g, o + k * 4, none⟩ = some (.int .i64 tk) := fun x => x.cell hg c0
      have d1 : ∀ x : Wg wr, x.v.cell? ⟨g, o + k * 4 + 1, none⟩ = some (.int .i64 tv) := fun x => x.cell hg c1
      have d2 : ∀ x : Wg wr, x.v.cell? ⟨g, o + k * 4 + 2, none⟩ = some (.string tx) := fun x => x.cell hg c2
      have d3 : ∀ x : Wg wr, x.v.cell? ⟨g, o + k * 4 + 3, none⟩ = some (.int .i64 tp) := fun x => x.cell hg c3
      clear ht hts hr hlt hk c0 c1 c2 c3
      go_wp2_with fail
      refine wp_region_below (by kernel_rfl) (by kernel_rfl) ?_
      repeat
        first
        | go_big_quiet_skip
        | (go_big_quiet_want
           go_big_quiet_op
           first
           | go_big_quiet_on
           | (refine ⟨_, fun _ => rfl, ?_⟩; go_big_quiet_on)
           | (apply Exists.intro
              refine ⟨fun x => ?_, ?_⟩
              · (first | (go_at_call 22; exact CA.out _) | (go_at_call 23; exact CB.out _))
              go_big_quiet_on))
      refine wpQuiet_nil ?_
      intro x
      go_wp2_with fail
      go_roundw
      case rel => exact ⟨k + 1, HLT.out, by go_num, HBL.out.trans (x.ch.mono HBL.out.size)⟩
      case measure => have := HLT.out; simp [intOf]; omega
    · have EX : Hid (∀ {K : Prop}, ((n : Int) ≤ (k : Int) → K) → ((k : Int) < (n : Int) → (500 : Int) ≤ (k : Int) → K) → K) := fun h1 h2 => by
        by_cases hq : k < n
        · exact h2 (by omega) (by omega)
        · exact h1 (by omega)
      clear hlt hk
      refine EX.out (fun hge => ?_) (fun hltz hge => ?_)
      · go_wp2_with fail
        refine (JA.out _ _ (HE.out.on HBL.out) (HA.out.keep HBL.out)).mono ?_
        rintro e w2 ⟨rfl, hb⟩
        have HB2 : Hid (Below w.heap.size w w2) := HBL.out.trans (hb.mono HBL.out.size)
        clear hb
        go_wp2_with fail
        refine (JB.out _ _ (HA.out.keep HB2.out)).mono ?_
        rintro e w3 ⟨rfl, hb⟩
        have HB3 : Hid (Below w.heap.size w w3) := HB2.out.trans (hb.mono HB2.out.size)
        clear hb
        go_wp2_with fail
        refine (SAB.out _ _ _ (HA.out.keep HB3.out) (HB.out.keep HB3.out)).mono ?_
        rintro e w4 ⟨rfl, hb⟩
        have HB4 : Hid (Below w.heap.size w w4) := HB3.out.trans (hb.mono HB3.out.size)
        clear hb
        go_wp2_with fail
        refine (SRB.out _ _ _ (HA.out.keep HB4.out) (HB.out.keep HB4.out)).mono ?_
        rintro e w5 ⟨rfl, hb⟩
        have HB5 : Hid (Below w.heap.size w w5) := HB4.out.trans (hb.mono HB4.out.size)
        clear hb
        go_wp2_with fail
        go_ret
        exact ⟨rfl, HB5.out⟩
      · go_wp2_with fail
        refine (JA.out _ _ (HE.out.on HBL.out) (HA.out.keep HBL.out)).mono ?_
        rintro e w2 ⟨rfl, hb⟩
        have HB2 : Hid (Below w.heap.size w w2) := HBL.out.trans (hb.mono HBL.out.size)
        clear hb
        go_wp2_with fail
        refine (JB.out _ _ (HA.out.keep HB2.out)).mono ?_
        rintro e w3 ⟨rfl, hb⟩
        have HB3 : Hid (Below w.heap.size w w3) := HB2.out.trans (hb.mono HB2.out.size)
        clear hb
        go_wp2_with fail
        refine (SAB.out _ _ _ (HA.out.keep HB3.out) (HB.out.keep HB3.out)).mono ?_
        rintro e w4 ⟨rfl, hb⟩
        have HB4 : Hid (Below w.heap.size w w4) := HB3.out.trans (hb.mono HB3.out.size)
        clear hb
        go_wp2_with fail
        refine (SRB.out _ _ _ (HA.out.keep HB4.out) (HB.out.keep HB4.out)).mono ?_
        rintro e w5 ⟨rfl, hb⟩
        have HB5 : Hid (Below w.heap.size w w5) := HB4.out.trans (hb.mono HB4.out.size)
        clear hb
        go_wp2_with fail
        go_ret
        exact ⟨rfl, HB5.out⟩
end Go.Proofs.YtfoijbcmjciihaaGreatDoor
