/- Plain laws: the one token that a text is. -/
import Derived.Test.YtfoijbcmjciihaaGreatDoorPb
import Derived.Test.YtfoijbcmjciihaaGreatDoorPn
set_option linter.unusedSimpArgs false
set_option linter.unusedVariables false
namespace Go.Proofs.YtfoijbcmjciihaaGreatDoor
namespace LX

/-- Tokens stand from where the scan begins on, and end within the text. -/
theorem sc_lo (T : List Nat) : ∀ (n j : Nat), T.length - j = n → ∀ ts cs, sc T j = .ok ts cs → ∀ t ∈ ts, j ≤ t.place ∧ t.place + t.text.length ≤ T.length := by
  intro n
  induction n using Nat.strongRecOn with
  | ind n ih =>
    intro j hn ts cs h
    rcases Nat.lt_or_ge j T.length with hj | hj
    · rw [sc_step hj] at h
      split at h
      · intro t ht
        have := ih _ (by omega) (j + 1) rfl ts cs h t ht
        omega
      · split at h
        · cases hc : cmt (T.drop j) 0 0 with
          | fin m =>
            rw [hc] at h
            simp only [] at h
            have h0 := cmt_fin hc
            cases hs : sc T (j + m) with
            | ok t2 c2 =>
              rw [hs] at h
              simp only [Res.app, Res.ok.injEq, List.nil_append] at h
              rw [← h.1]
              intro t ht
              have := ih _ (by omega) (j + m) rfl t2 c2 hs t ht
              omega
            | bad p e => rw [hs] at h; cases h
          | deep m => rw [hc] at h; cases h
          | never => rw [hc] at h; cases h
        · cases hc : token (T.drop j) with
          | tok k v m =>
            rw [hc] at h
            simp only [] at h
            have h0 := token_len hc
            rw [List.length_drop] at h0
            cases hs : sc T (j + m) with
            | ok t2 c2 =>
              rw [hs] at h
              simp only [Res.app, Res.ok.injEq, List.cons_append, List.nil_append] at h
              rw [← h.1]
              intro t ht
              rcases List.mem_cons.1 ht with rfl | ht
              · refine ⟨Nat.le_refl _, ?_⟩
                show j + ((T.drop j).take m).length ≤ T.length
                rw [List.length_take, List.length_drop]; omega
              · have := ih _ (by omega) (j + m) rfl t2 c2 hs t ht
                omega
            | bad p e => rw [hs] at h; cases h
          | bad e => rw [hc] at h; cases h
    · rw [sc_end hj] at h
      cases h
      intro t ht
      cases ht

/-- The kind of the one token that a text is, as the reference has it. -/
def refKind (l : List Nat) : Nat := if l = [] ∨ 100 < l.length then 0 else if space (l.headD 0) = true ∨ opens l = true then 0 else match token l with
  | .tok k _ n => if n = l.length then k else 0
  | .bad _ => 0

theorem headD_getD (l : List Nat) : l.headD 0 = l.getD 0 0 := by cases l <;> rfl

theorem good_token {t : Tok} (h : Good t) : space (t.text.headD 0) = false ∧ opens t.text = false ∧ token t.text = .tok t.kind t.num t.text.length := by
  have hs := h.alone
  have hp := h.pos
  rw [scan_sc, sc_step hp, List.drop_zero] at hs
  split at hs
  · exfalso
    have := sc_lo t.text _ (0 + 1) rfl _ _ hs _ List.mem_cons_self
    have h2 := this.1
    simp at h2
  · rename_i hsp
    split at hs
    · exfalso
      cases hc : cmt t.text 0 0 with
      | fin m =>
        rw [hc] at hs
        simp only [] at hs
        have h0 := cmt_fin hc
        cases hq : sc t.text (0 + m) with
        | ok t2 c2 =>
          rw [hq] at hs
          simp [Res.app] at hs
        | bad p e => rw [hq] at hs; cases hs
      | deep m => rw [hc] at hs; cases hs
      | never => rw [hc] at hs; cases hs
    · rename_i hop
      cases hc : token t.text with
      | tok k v m =>
        rw [hc] at hs
        simp only [] at hs
        have h0 := token_len hc
        cases hq : sc t.text (0 + m) with
        | ok t2 c2 =>
          rw [hq] at hs
          simp only [Res.app, Res.ok.injEq, List.cons_append, List.nil_append, List.cons.injEq, Tok.mk.injEq] at hs
          obtain ⟨⟨⟨e1, e2, e3, _⟩, _⟩, _⟩ := hs
          have hm : m = t.text.length := by
            have := congrArg List.length e3
            rw [List.length_take] at this
            omega
          refine ⟨by rw [headD_getD]; simpa using hsp, by simpa using hop, by rw [e1, e2, hm]⟩
        | bad p e => rw [hq] at hs; cases hs
      | bad e => rw [hc] at hs; cases hs

theorem refKind_eq (l : List Nat) : refKind l = kindOf l := by
  by_cases hk : kindOf l = 0
  · rw [hk]
    unfold refKind
    split
    · rfl
    · rename_i h1
      split
      · rfl
      · rename_i h2
        cases hc : token l with
        | bad e => rfl
        | tok k v n =>
          simp only []
          split
          · rename_i hn
            exfalso
            have hkk := token_kind hc
            have h3 : scan l = .ok [⟨k, v, l, 0⟩] [] := by
              rw [scan_sc, sc_step (List.length_pos_iff.2 (fun e => h1 (.inl e)))]
              rw [← headD_getD, if_neg (fun e => h2 (.inl e)), List.drop_zero, if_neg (fun e => h2 (.inr e)), hc]
              simp only []
              rw [Nat.zero_add, sc_end (by omega), List.take_of_length_le (by omega)]
              rfl
            unfold kindOf at hk
            rw [if_neg (by omega), h3] at hk
            simp only [] at hk
            rw [if_pos trivial] at hk
            exact hkk.1 hk
          · rfl
  · obtain ⟨v, hg⟩ := good_of_kind (l := l) rfl hk
    obtain ⟨h1, h2, h3⟩ := good_token hg
    have h1' : space (l.headD 0) = false := h1
    have h2' : opens l = false := h2
    have h3' : token l = .tok (kindOf l) v l.length := h3
    have hs : l.length ≤ 24 := hg.short
    have hp : 0 < l.length := hg.pos
    unfold refKind
    rw [if_neg (fun e => by rcases e with e | e; · rw [e] at hp; simp at hp
                            · omega), if_neg (fun e => by rcases e with e | e; · rw [h1'] at e; cases e
                                                          · rw [h2'] at e; cases e), h3']
    simp only []
    rw [if_pos trivial]

/-- Whether a text is plain, as the reference has it. -/
def refPlain (l : List Nat) : Bool := if refKind l = 2 ∨ refKind l = 3 ∨ refKind l = 4 then !(l.drop 1).contains 39 else false

theorem run_all {p : Nat → Bool} : ∀ l : List Nat, run p l = l.length → ∀ c ∈ l, p c = true
  | [], _, _, h => by cases h
  | a :: l, h, c, hc => by
    rw [run] at h
    split at h
    · rename_i ha
      rcases List.mem_cons.1 hc with rfl | hc
      · exact ha
      · exact run_all l (by simpa using h) c hc
    · simp at h

theorem kind_head {l : List Nat} {k : Nat} {v : Int} (h : token l = .tok k v l.length) (hk : k = 2 ∨ k = 3 ∨ k = 4) : (k = 4 ∧ ∃ t, l = 39 :: t ∧ run part t = t.length) ∨ (k ≠ 4 ∧ l.headD 0 ≠ 39) := by
  cases l with
  | nil => cases h
  | cons c t =>
    unfold token at h
    simp only [] at h
    split at h
    · obtain ⟨h1, _⟩ := number_ok h
      omega
    · split at h
      · rename_i hs
        obtain ⟨_, _, _, h4⟩ := named_ok h
        right
        refine ⟨by rw [h4]; split <;> decide, ?_⟩
        intro e
        have e' : c = 39 := e
        rw [e'] at hs
        cases hs
      · split at h
        · rename_i hs
          obtain ⟨_, _, _, h4⟩ := named_ok h
          right
          refine ⟨by rw [h4]; split <;> decide, ?_⟩
          intro e
          have e' : c = 39 := e
          rw [e'] at hs
          cases hs
        · split at h
          · rename_i hs
            obtain ⟨h1, h2, _⟩ := made_ok h
            left
            refine ⟨h2, t, by rw [hs.1], ?_⟩
            rw [List.length_cons] at h1
            omega
          · split at h
            · simp only [TR.tok.injEq] at h; omega
            · split at h
              · simp only [TR.tok.injEq] at h; omega
              · cases h

theorem refPlain_eq (l : List Nat) : refPlain l = plainOf l := by
  unfold refPlain plainOf
  rw [refKind_eq]
  by_cases hk : kindOf l = 2 ∨ kindOf l = 3 ∨ kindOf l = 4
  · rw [if_pos hk]
    obtain ⟨v, hg⟩ := good_of_kind (l := l) rfl (by omega)
    obtain ⟨_, _, h3⟩ := good_token hg
    have h3' : token l = .tok (kindOf l) v l.length := h3
    rcases kind_head h3' hk with ⟨h4, t, e, ht⟩ | ⟨h4, hh⟩
    · rw [if_neg (by omega), h4, e, List.drop_succ_cons, List.drop_zero]
      cases hc : t.contains 39 with
      | false => rfl
      | true =>
        have := run_all t ht 39 (by simpa using hc)
        cases this
    · rw [if_pos (by omega)]
      cases l with
      | nil => rfl
      | cons c t =>
        have hh' : c ≠ 39 := hh
        rw [List.drop_succ_cons, List.drop_zero, List.contains_cons, show ((39 : Nat) == c) = false from beq_false_of_ne (fun e => hh' e.symm), Bool.false_or]
  · rw [if_neg hk, if_neg (by omega)]
    symm
    exact beq_false_of_ne (by omega)
end LX
end Go.Proofs.YtfoijbcmjciihaaGreatDoor
