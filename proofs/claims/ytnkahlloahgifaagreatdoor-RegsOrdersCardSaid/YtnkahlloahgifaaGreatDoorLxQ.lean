/- Plain laws of the scan: tokens have bytes; the scan from a place on; the pass, then a token. -/
import Derived.Test.YtnkahlloahgifaaGreatDoorLxE
set_option linter.unusedSimpArgs false
set_option linter.unusedVariables false
namespace Go.Proofs.YtnkahlloahgifaaGreatDoor.Lx
namespace LX

theorem run_le (p : Nat → Bool) (l : List Nat) : run p l ≤ l.length := by
  induction l with
  | nil => exact Nat.le_refl _
  | cons c t ih =>
    rw [run]
    split
    · simp only [List.length_cons]; omega
    · exact Nat.zero_le _

theorem num_nil : num [] = none := by decide

theorem made_ok {k n k' n' : Nat} {v : Int} (h : made k n = .tok k' v n') : n' = n ∧ k' = k ∧ v = 0 ∧ n ≤ 24 := by
  unfold made at h
  split at h
  · cases h
  · cases h; exact ⟨rfl, rfl, rfl, by omega⟩

theorem nameLen_le (l : List Nat) : nameLen l ≤ l.length := by
  unfold nameLen
  have h1 := run_le part l
  simp only []
  split
  · exact h1
  · rename_i c t hc
    have h2 := run_le digit t
    have h3 : (l.drop (run part l)).length = (c :: t).length := by rw [hc]
    simp only [List.length_drop, List.length_cons] at h3
    split <;> omega

theorem nameLen_ge (l : List Nat) : run part l ≤ nameLen l := by
  unfold nameLen
  simp only []
  split
  · exact Nat.le_refl _
  · split <;> omega

theorem part_small {c : Nat} (h : small c = true) : part c = true := by simp [part, h]
theorem part_great {c : Nat} (h : great c = true) : part c = true := by simp [part, h]
theorem part_digit {c : Nat} (h : digit c = true) : part c = true := by simp [part, h]

theorem run_pos {p : Nat → Bool} {c : Nat} {t : List Nat} (h : p c = true) : 0 < run p (c :: t) := by
  rw [run, if_pos h]; omega

theorem number_ok {l : List Nat} {n k m : Nat} {v : Int} (h : number l n = .tok k v m) : k = 1 ∧ m = n + run digit (l.drop n) ∧ num (l.take m) = some v := by
  unfold number at h
  simp only [] at h
  split at h
  · cases h
  · rename_i v' hv
    split at h
    · cases h; exact ⟨rfl, rfl, hv⟩
    · split at h
      · cases h
      · cases h; exact ⟨rfl, rfl, hv⟩

theorem named_ok {l : List Nat} {k k' m : Nat} {v : Int} (h : named k l = .tok k' v m) : m = nameLen l ∧ v = 0 ∧ m ≤ 24 ∧ k' = if words.contains (l.take m) then 5 else k := by
  unfold named at h
  cases hm : made k (nameLen l) with
  | bad e => rw [hm] at h; cases h
  | tok a b c =>
    rw [hm] at h
    obtain ⟨rfl, rfl, rfl, h24⟩ := made_ok hm
    simp only [TR.tok.injEq] at h
    obtain ⟨h1, h2, h3⟩ := h
    subst h3
    exact ⟨rfl, h2.symm, h24, h1.symm⟩

theorem token_len {l : List Nat} {k m : Nat} {v : Int} (h : token l = .tok k v m) : 0 < m ∧ m ≤ l.length := by
  cases l with
  | nil => cases h
  | cons c t =>
    unfold token at h
    simp only [] at h
    split at h
    · obtain ⟨_, hm, hv⟩ := number_ok h
      refine ⟨?_, ?_⟩
      · rcases Nat.eq_zero_or_pos m with h0 | h0
        · subst h0; rw [List.take_zero, num_nil] at hv; cases hv
        · exact h0
      · rw [hm]
        have := run_le digit ((c :: t).drop (if c = 126 then 1 else 0))
        rw [List.length_drop] at this
        split at this <;> simp_all <;> omega
    · split at h
      · rename_i hs
        obtain ⟨rfl, _⟩ := named_ok h
        exact ⟨Nat.lt_of_lt_of_le (run_pos (part_small hs)) (nameLen_ge _), nameLen_le _⟩
      · split at h
        · rename_i hs
          obtain ⟨rfl, _⟩ := named_ok h
          exact ⟨Nat.lt_of_lt_of_le (run_pos (part_great hs)) (nameLen_ge _), nameLen_le _⟩
        · split at h
          · obtain ⟨rfl, _⟩ := made_ok h
            have := run_le part t
            simp only [List.length_cons]
            exact ⟨by omega, by omega⟩
          · split at h
            · rename_i hs
              cases h
              cases t with
              | nil => simp [head0] at hs
              | cons d t => simp
            · split at h
              · cases h; simp
              · cases h

def Res.app (ts : List Tok) (cs : List (Nat × Nat)) : Res → Res
  | .ok l c => .ok (ts ++ l) (cs ++ c)
  | .bad p e => .bad p e

theorem Res.app_app (a b : List Tok) (c d : List (Nat × Nat)) (r : Res) : (r.app b d).app a c = r.app (a ++ b) (c ++ d) := by
  cases r <;> simp [Res.app]
theorem Res.app_nil (r : Res) : r.app [] [] = r := by cases r <;> rfl
theorem Res.tok_app (t : Tok) (r : Res) : r.tok t = r.app [t] [] := by cases r <;> rfl
theorem Res.cmt_app (c : Nat × Nat) (r : Res) : r.cmt c = r.app [] [c] := by cases r <;> rfl

theorem scanN_fuel : ∀ (f g : Nat) (l : List Nat) (p : Nat), l.length ≤ f → l.length ≤ g → scanN f l p = scanN g l p
  | f, g, [], p, _, _ => by cases f <;> cases g <;> rfl
  | 0, g, c :: t, p, hf, _ => by simp at hf
  | f + 1, 0, c :: t, p, _, hg => by simp at hg
  | f + 1, g + 1, c :: t, p, hf, hg => by
    simp only [List.length_cons] at hf hg
    rw [scanN, scanN]
    split
    · exact scanN_fuel f g t (p + 1) (by omega) (by omega)
    · split
      · cases hc : cmt (c :: t) 0 0 with
        | fin n =>
          have h0 := cmt_fin hc
          simp only []
          rw [scanN_fuel f g ((c :: t).drop n) (p + n) (by simp only [List.length_drop, List.length_cons]; omega) (by simp only [List.length_drop, List.length_cons]; omega)]
        | deep n => rfl
        | never => rfl
      · cases hc : token (c :: t) with
        | tok k v n =>
          have h0 := (token_len hc).1
          simp only []
          rw [scanN_fuel f g ((c :: t).drop n) (p + n) (by simp only [List.length_drop, List.length_cons]; omega) (by simp only [List.length_drop, List.length_cons]; omega)]
        | bad e => rfl

/-- The scan from a place on. -/
def sc (T : List Nat) (j : Nat) : Res := scanN T.length (T.drop j) j

theorem scan_sc (T : List Nat) : scan T = sc T 0 := rfl

theorem sc_end {T : List Nat} {j : Nat} (h : T.length ≤ j) : sc T j = .ok [] [] := by
  unfold sc
  rw [List.drop_of_length_le h]
  cases T.length <;> rfl

theorem drop_get {T : List Nat} {j : Nat} (h : j < T.length) : T.drop j = T.getD j 0 :: T.drop (j + 1) := by
  rw [List.drop_eq_getElem_cons h, List.getD_eq_getElem?_getD, List.getElem?_eq_getElem h]; rfl

theorem sc_step {T : List Nat} {j : Nat} (h : j < T.length) : sc T j =
    if space (T.getD j 0) then sc T (j + 1)
    else if opens (T.drop j) then
      match cmt (T.drop j) 0 0 with
      | .fin n => (sc T (j + n)).app [] [(j, j + n)]
      | .deep n => .bad (j + n) 6
      | .never => .bad j 12
    else
      match token (T.drop j) with
      | .tok k v n => (sc T (j + n)).app [⟨k, v, (T.drop j).take n, j⟩] []
      | .bad e => .bad j e := by
  obtain ⟨f, hf⟩ : ∃ f, T.length = f + 1 := ⟨T.length - 1, by omega⟩
  have hs : ∀ n, 0 < n → scanN f ((T.drop j).drop n) (j + n) = sc T (j + n) := fun n hn => by
    unfold sc
    rw [List.drop_drop]
    exact scanN_fuel _ _ _ _ (by rw [List.length_drop]; omega) (by rw [List.length_drop]; omega)
  have h1 : scanN f (T.drop (j + 1)) (j + 1) = sc T (j + 1) := by rw [← hs 1 (by omega), List.drop_drop]
  rw [← h1]
  conv => lhs; unfold sc; rw [hf, drop_get h, scanN]
  rw [← drop_get h]
  split
  · rfl
  · split
    · cases hc : cmt (T.drop j) 0 0 with
      | fin n => simp only []; rw [Res.cmt_app, hs n (by have := cmt_fin hc; omega)]
      | deep n => rfl
      | never => rfl
    · cases hc : token (T.drop j) with
      | tok k v n => simp only []; rw [Res.tok_app, hs n (token_len hc).1]
      | bad e => rfl

theorem run_step {p : Nat → Bool} {T : List Nat} {j : Nat} (h : j < T.length) : run p (T.drop j) = if p (T.getD j 0) then run p (T.drop (j + 1)) + 1 else 0 := by
  rw [drop_get h, run]

theorem sc_spaces (T : List Nat) : ∀ (k j : Nat), run space (T.drop j) = k → sc T j = sc T (j + k)
  | 0, j, _ => rfl
  | k + 1, j, hk => by
    have hl : j < T.length := by
      rcases Nat.lt_or_ge j T.length with h | h
      · exact h
      · rw [List.drop_of_length_le h] at hk; cases hk
    rw [run_step hl] at hk
    split at hk
    · rename_i hs
      rw [sc_step hl, if_pos hs, sc_spaces T k (j + 1) (by omega)]
      congr 1; omega
    · cases hk

/-- Behind a run no byte of the kind stands. -/
theorem run_stops (p : Nat → Bool) (T : List Nat) : ∀ (k j : Nat), run p (T.drop j) = k → j + k < T.length → p (T.getD (j + k) 0) = false
  | 0, j, hk, hl => by
    rw [Nat.add_zero] at hl ⊢
    rw [run_step hl] at hk
    split at hk
    · cases hk
    · rename_i h; simpa using h
  | k + 1, j, hk, hl => by
    rw [run_step (by omega)] at hk
    split at hk
    · have := run_stops p T k (j + 1) (by omega) (by omega)
      rw [show j + (k + 1) = j + 1 + k from by omega]; exact this
    · cases hk

theorem cmt_le : ∀ (l : List Nat) (d n m : Nat), cmt l d n = .fin m → m ≤ n + l.length
  | [], _, _, _, h => by cases h
  | [_], _, _, _, h => by cases h
  | a :: b :: t, d, n, m, h => by
    rw [cmt] at h
    simp only [List.length_cons]
    split at h
    · split at h
      · cases h
      · have := cmt_le t _ _ _ h; omega
    · split at h
      · split at h
        · cases h; omega
        · have := cmt_le t _ _ _ h; omega
      · have := cmt_le (b :: t) _ _ _ h
        simp only [List.length_cons] at this
        omega

theorem passN_abs (f : Nat) (T : List Nat) (j : Nat) : passN (f + 1) (T.drop j) j = if opens (T.drop (j + run space (T.drop j))) then
      match cmt (T.drop (j + run space (T.drop j))) 0 0 with
      | .fin n => (passN f (T.drop (j + run space (T.drop j) + n)) (j + run space (T.drop j) + n)).add [(j + run space (T.drop j), j + run space (T.drop j) + n)]
      | .deep n => .bad (j + run space (T.drop j) + n) 6
      | .never => .bad (j + run space (T.drop j)) 12
    else .to (j + run space (T.drop j)) [] := by
  rw [passN]
  simp only [List.drop_drop]
  by_cases h : opens (T.drop (j + run space (T.drop j))) = true
  · rw [if_pos h, if_pos h]
    cases cmt (T.drop (j + run space (T.drop j))) 0 0 <;> rfl
  · rw [if_neg h, if_neg h]

theorem opens_lt {T : List Nat} {j : Nat} (h : opens (T.drop j) = true) : j < T.length ∧ space (T.getD j 0) = false := by
  rcases Nat.lt_or_ge j T.length with hl | hl
  · refine ⟨hl, ?_⟩
    rw [drop_get hl] at h
    generalize T.getD j 0 = c at h
    by_cases e : c = 40
    · subst e; rfl
    · exfalso
      unfold opens at h
      split at h
      · rename_i heq; simp at heq; exact e heq.1
      · cases h
  · rw [List.drop_of_length_le hl] at h; cases h

/-- The pass, then the scan from there on. -/
theorem sc_pass (T : List Nat) : ∀ (f j : Nat), j ≤ T.length → T.length < f + j → (match passN f (T.drop j) j with
    | .bad q e => sc T j = .bad q e
    | .to n cs => sc T j = (sc T n).app [] cs ∧ j ≤ n ∧ n ≤ T.length ∧ cs.length + j ≤ n ∧ (n < T.length → space (T.getD n 0) = false ∧ opens (T.drop n) = false))
  | 0, j, hj, hf => by omega
  | f + 1, j, hj, hf => by
    obtain ⟨k, hk⟩ : ∃ k, k = run space (T.drop j) := ⟨_, rfl⟩
    have hs := sc_spaces T k j hk.symm
    have hkl : j + k ≤ T.length := by
      have := run_le space (T.drop j)
      rw [List.length_drop] at this
      omega
    rw [passN_abs, ← hk, hs]
    cases ho : opens (T.drop (j + k)) with
    | false =>
      rw [if_neg (by decide)]
      exact ⟨(Res.app_nil _).symm, by omega, hkl, by simp, fun hl => ⟨run_stops space T k j hk.symm hl, ho⟩⟩
    | true =>
      rw [if_pos rfl]
      obtain ⟨hl, hsp⟩ := opens_lt ho
      have h1 := sc_step hl
      rw [hsp, if_neg (by decide), ho, if_pos rfl] at h1
      cases hc : cmt (T.drop (j + k)) 0 0 with
      | deep n => rw [hc] at h1; exact h1
      | never => rw [hc] at h1; exact h1
      | fin n =>
        rw [hc] at h1
        simp only [] at h1 ⊢
        have hn0 := cmt_fin hc
        have hn1 := cmt_le _ _ _ _ hc
        rw [List.length_drop] at hn1
        have ih := sc_pass T f (j + k + n) (by omega) (by omega)
        rcases hp : passN f (T.drop (j + k + n)) (j + k + n) with ⟨m, cs⟩ | ⟨q, e⟩
        case bad =>
          rw [hp] at ih
          simp only [PR.add] at ih ⊢
          rw [h1, ih]; rfl
        case «to» =>
          rw [hp] at ih
          simp only [PR.add] at ih ⊢
          obtain ⟨i1, i2, i3, i4, i5⟩ := ih
          refine ⟨?_, by omega, i3, by simp only [List.length_append, List.length_cons, List.length_nil]; omega, i5⟩
          rw [h1, i1, Res.app_app]
          rfl

end LX
end Go.Proofs.YtnkahlloahgifaaGreatDoor.Lx
