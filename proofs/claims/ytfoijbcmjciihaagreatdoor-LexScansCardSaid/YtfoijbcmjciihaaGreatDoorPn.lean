/- Plain laws: the text without its comments has the same tokens; they lie apart, and the rest is blank. -/
import Derived.Test.YtfoijbcmjciihaaGreatDoorPp
import Derived.Test.YtfoijbcmjciihaaGreatDoorZ0
set_option linter.unusedSimpArgs false
set_option linter.unusedVariables false
namespace Go.Proofs.YtfoijbcmjciihaaGreatDoor
namespace LX

theorem run_more {p : Nat → Bool} (R : List Nat) : ∀ l : List Nat, run p l < l.length → run p (l ++ R) = run p l
  | [], h => by simp at h
  | c :: t, h => by
    rw [List.cons_append, run]
    rw [run] at h ⊢
    split
    · rename_i hc
      rw [if_pos hc] at h
      rw [run_more R t (by simp only [List.length_cons] at h; omega)]
    · rfl

theorem nameLen_more (R : List Nat) {l : List Nat} (h : nameLen l < l.length) (hR : l.length = nameLen l + 1 → l.getD (nameLen l) 0 = 39 → digit (head0 R) = false) : nameLen (l ++ R) = nameLen l := by
  have hge := nameLen_ge l
  have hr : run part (l ++ R) = run part l := run_more R l (by omega)
  have hdl : run part l < l.length := by omega
  unfold nameLen at h hR ⊢
  simp only [hr] at h hR ⊢
  rw [List.drop_append_of_le_length (by omega)]
  have hc := drop_get hdl
  obtain ⟨c, hcc⟩ : ∃ c, c = l.getD (run part l) 0 := ⟨_, rfl⟩
  obtain ⟨t, htt⟩ : ∃ t, t = l.drop (run part l + 1) := ⟨_, rfl⟩
  have htl : t.length = l.length - (run part l + 1) := by rw [htt, List.length_drop]
  rw [← hcc, ← htt] at hc
  rw [hc] at h hR ⊢
  simp only [List.cons_append] at h hR ⊢
  by_cases h39 : c = 39
  · by_cases hd : 0 < run digit t
    · rw [if_pos ⟨h39, hd⟩] at h
      have : run digit (t ++ R) = run digit t := run_more R t (by omega)
      rw [this]
    · rw [if_neg (fun e => hd e.2)] at h hR
      have h0 : run digit (t ++ R) = 0 := by
        cases ht : t with
        | nil =>
          have h1 := hR (by rw [ht] at htl; simp at htl; omega) (by rw [← hcc]; exact h39)
          cases R with
          | nil => rfl
          | cons x R =>
            have h2 : digit x = false := h1
            show run digit (x :: R) = 0
            rw [run, h2]; rfl
        | cons x t2 =>
          rw [ht] at hd
          rw [List.cons_append, run]
          rw [run] at hd
          split
          · rename_i hx; rw [if_pos hx] at hd; omega
          · rfl
      have h1 : run digit t = 0 := by omega
      rw [h0, h1]
  · rw [if_neg (fun e => h39 e.1), if_neg (fun e => h39 e.1)]

theorem number_more {l : List Nat} {n k m : Nat} {v : Int} (R : List Nat) (h : number l n = .tok k v m) (hm : m < l.length) : number (l ++ R) n = .tok k v m := by
  have h0 := number_ok h
  have hr : run digit ((l ++ R).drop n) = run digit (l.drop n) := by
    rw [List.drop_append_of_le_length (by omega)]
    exact run_more R _ (by rw [List.length_drop]; omega)
  unfold number at h ⊢
  simp only [hr, ← h0.2.1] at h ⊢
  rw [List.take_append_of_le_length (by omega), List.drop_append_of_le_length (by omega)]
  cases hn : num (l.take m) with
  | none => rw [hn] at h; cases h
  | some x =>
    rw [hn] at h
    simp only [] at h ⊢
    rw [drop_get hm] at h ⊢
    exact h

theorem named_more {l : List Nat} {k0 k m : Nat} {v : Int} (R : List Nat) (h : named k0 l = .tok k v m) (hm : m < l.length) (hR : l.length = m + 1 → l.getD m 0 = 39 → digit (head0 R) = false) : named k0 (l ++ R) = .tok k v m := by
  have h0 := named_ok h
  have hn : nameLen (l ++ R) = nameLen l := nameLen_more R (by omega) (by rw [← h0.1]; exact hR)
  unfold named at h ⊢
  rw [hn]
  cases hq : made k0 (nameLen l) with
  | bad e => rw [hq] at h; cases h
  | tok a b c =>
    rw [hq] at h
    have h1 := made_ok hq
    simp only [] at h ⊢
    rw [List.take_append_of_le_length (by omega)]
    exact h

theorem token_more {l : List Nat} {k m : Nat} {v : Int} (R : List Nat) (h : token l = .tok k v m) (hm : m < l.length) (hR : l.length = m + 1 → l.getD m 0 = 39 → digit (head0 R) = false) : token (l ++ R) = .tok k v m := by
  have hml := token_len h
  cases l with
  | nil => cases h
  | cons c t =>
    have hh : t ≠ [] → head0 (t ++ R) = head0 t := fun ht => by
      cases t with
      | nil => exact absurd rfl ht
      | cons a t => rfl
    have ht : t ≠ [] := fun e => by subst e; simp at hm; omega
    rw [List.cons_append]
    unfold token at h ⊢
    simp only [hh ht] at h ⊢
    split at h
    · rename_i hc
      rw [if_pos hc]
      exact number_more R h hm
    · rename_i hc
      rw [if_neg hc]
      split at h
      · rename_i hc; rw [if_pos hc]; exact named_more R h hm hR
      · rename_i hc
        rw [if_neg hc]
        split at h
        · rename_i hc; rw [if_pos hc]; exact named_more R h hm hR
        · rename_i hc
          rw [if_neg hc]
          split at h
          · rename_i hc
            rw [if_pos hc]
            have h1 := made_ok h
            rw [run_more R t (by simp only [List.length_cons] at hm; omega)]
            exact h
          · rename_i hc
            rw [if_neg hc]
            exact h

/-- Within a comment. -/
def within (cs : List (Nat × Nat)) (i : Nat) : Bool := cs.any fun c => decide (c.1 ≤ i) && decide (i < c.2)

theorem blankAll_get (cs : List (Nat × Nat)) : ∀ (l : List Nat) (i : Nat), (blankAll cs l)[i]? = (l[i]?).map fun c => if within cs i = true ∧ c ≠ 10 then 32 else c := by
  induction cs with
  | nil =>
    intro l i
    show l[i]? = _
    cases l[i]? <;> simp [within]
  | cons c cs ih =>
    intro l i
    show (blankAll cs (blank1 c.1 c.2 l))[i]? = _
    rw [ih, blank1_get]
    cases l[i]? with
    | none => rfl
    | some x =>
      simp only [Option.map_some, Option.some.injEq]
      have hw : within (c :: cs) i = ((decide (c.1 ≤ i) && decide (i < c.2)) || within cs i) := rfl
      rw [hw]
      by_cases h10 : x = 10
      · subst h10; simp
      · by_cases h1 : c.1 ≤ i ∧ i < c.2
        · have e1 : (if c.1 ≤ i ∧ i < c.2 ∧ x ≠ 10 then 32 else x) = 32 := if_pos ⟨h1.1, h1.2, h10⟩
          rw [e1]
          have e2 : ((decide (c.1 ≤ i) && decide (i < c.2)) || within cs i) = true := by simp [h1.1, h1.2]
          rw [e2]
          have e3 : (if (true = true) ∧ x ≠ 10 then 32 else x) = 32 := if_pos ⟨rfl, h10⟩
          rw [e3]
          split <;> rfl
        · have e1 : (if c.1 ≤ i ∧ i < c.2 ∧ x ≠ 10 then 32 else x) = x := if_neg (fun e => h1 ⟨e.1, e.2.1⟩)
          rw [e1]
          have : (decide (c.1 ≤ i) && decide (i < c.2)) = false := by
            cases h2 : (decide (c.1 ≤ i) && decide (i < c.2)) with
            | false => rfl
            | true => simp at h2; exact absurd h2 h1
          rw [this, Bool.false_or]

/-- A text that is another one without comments, from a place on. -/
def Bl (S T : List Nat) (cs : List (Nat × Nat)) (j : Nat) : Prop := ∀ i, j ≤ i → i < T.length → S.getD i 0 = if within cs i = true ∧ T.getD i 0 ≠ 10 then 32 else T.getD i 0

theorem bl_all (cs : List (Nat × Nat)) (T : List Nat) : Bl (blankAll cs T) T cs 0 := fun i _ hi => by
  rw [List.getD_eq_getElem?_getD, blankAll_get, List.getD_eq_getElem?_getD, List.getElem?_eq_getElem hi]
  rfl

/-- A byte that is blank, a line feed where one was. -/
def gap (S T : List Nat) (i : Nat) : Prop := space (S.getD i 0) = true ∧ (S.getD i 0 = 10 ↔ T.getD i 0 = 10)

/-- Where tokens lie. -/
def Lies (S T : List Nat) : Nat → List Tok → Prop
  | at', [] => ∀ i, at' ≤ i → i < T.length → gap S T i
  | at', t :: ts => at' ≤ t.place ∧ t.place + t.text.length ≤ T.length ∧ (S.drop t.place).take t.text.length = t.text ∧ (T.drop t.place).take t.text.length = t.text ∧ (∀ i, at' ≤ i → i < t.place → gap S T i) ∧ Lies S T (t.place + t.text.length) ts

theorem Lies.back {S T : List Nat} {j k : Nat} {ts : List Tok} (h : Lies S T k ts) (hjk : j ≤ k) (hg : ∀ i, j ≤ i → i < k → i < T.length → gap S T i) : Lies S T j ts := by
  cases ts with
  | nil =>
    intro i h1 h2
    rcases Nat.lt_or_ge i k with h3 | h3
    · exact hg i h1 h3 h2
    · exact h i h3 h2
  | cons t ts =>
    obtain ⟨h1, h2, h3, h4, h5, h6⟩ := h
    refine ⟨by omega, h2, h3, h4, fun i i1 i2 => ?_, h6⟩
    rcases Nat.lt_or_ge i k with h7 | h7
    · exact hg i i1 h7 (by omega)
    · exact h5 i h7 i2

theorem within_none {cs : List (Nat × Nat)} {j i : Nat} (h : ∀ c ∈ cs, j ≤ c.1) (hi : i < j) : within cs i = false := by
  unfold within
  rw [List.any_eq_false]
  intro c hc
  have := h c hc
  simp
  omega

theorem take_agree {S T : List Nat} {j m : Nat} (hl : S.length = T.length) (h : ∀ i, j ≤ i → i < j + m → i < T.length → S.getD i 0 = T.getD i 0) : (S.drop j).take m = (T.drop j).take m := by
  refine List.ext_getElem? fun q => ?_
  rw [List.getElem?_take, List.getElem?_take]
  split
  · rename_i hq
    rw [List.getElem?_drop, List.getElem?_drop]
    rcases Nat.lt_or_ge (j + q) T.length with h1 | h1
    · have := h (j + q) (by omega) (by omega) h1
      rw [List.getD_eq_getElem?_getD, List.getD_eq_getElem?_getD, List.getElem?_eq_getElem h1, List.getElem?_eq_getElem (by omega)] at this
      rw [List.getElem?_eq_getElem h1, List.getElem?_eq_getElem (by omega)]
      exact congrArg some this
    · rw [List.getElem?_eq_none h1, List.getElem?_eq_none (by omega)]
  · rfl

theorem cut_at {l : List Nat} {m : Nat} : l = l.take m ++ l.drop m := (List.take_append_drop m l).symm

/-- Blank from one place to another. -/
theorem sc_blank (S : List Nat) : ∀ (k j : Nat), (∀ i, j ≤ i → i < j + k → i < S.length → space (S.getD i 0) = true) → j + k ≤ S.length → sc S j = sc S (j + k)
  | 0, _, _, _ => rfl
  | k + 1, j, h, hl => by
    rw [sc_step (by omega), if_pos (h j (Nat.le_refl _) (by omega) (by omega)), sc_blank S k (j + 1) (fun i h1 h2 h3 => h i (by omega) (by omega) h3) (by omega)]
    congr 1
    omega

theorem token_39 {l : List Nat} {k m : Nat} {v : Int} (h : token l = .tok k v m) (h39 : l.getD 0 0 = 39) : 2 ≤ m ∧ small (l.getD 1 0) = true := by
  cases l with
  | nil => cases h
  | cons c t =>
    have hc : c = 39 := h39
    subst hc
    unfold token at h
    simp only [] at h
    rw [if_neg (by decide), if_neg (by decide), if_neg (by decide)] at h
    split at h
    · rename_i hs
      have h1 := made_ok h
      have hp : small (head0 t) = true := hs.2
      cases t with
      | nil => exact absurd hp (by decide)
      | cons a t =>
        refine ⟨?_, hp⟩
        have := run_pos (t := t) (part_small (show small a = true from hp))
        omega
    · rw [if_neg (by omega), if_neg (by decide)] at h
      cases h

theorem digit_small {x : Nat} (h : small x = true) : digit x = false := by
  cases hd : digit x with
  | false => rfl
  | true =>
    simp [small] at h
    simp [digit] at hd
    omega

theorem getD_drop' {l : List Nat} {j q : Nat} : (l.drop j).getD q 0 = l.getD (j + q) 0 := by
  rw [List.getD_eq_getElem?_getD, List.getElem?_drop, List.getD_eq_getElem?_getD]

/-- Behind a token: the end, a blank, or the beginning of another token. -/
theorem token_kept {S T : List Nat} {j k m : Nat} {v : Int} (hl : S.length = T.length) (h : token (T.drop j) = .tok k v m)
    (hag : ∀ i, j ≤ i → i < j + m → i < T.length → S.getD i 0 = T.getD i 0)
    (hnx : j + m < T.length → space (S.getD (j + m) 0) = true ∨ (S.getD (j + m) 0 = T.getD (j + m) 0 ∧ (T.getD (j + m) 0 = 39 → digit (S.getD (j + m + 1) 0) = false))) : token (S.drop j) = .tok k v m := by
  have h0 := token_len h
  rw [List.length_drop] at h0
  have htk := take_agree hl hag
  rcases Nat.lt_or_ge (j + m) T.length with h1 | h1
  · rcases hnx h1 with hs | ⟨he, hd⟩
    · have e : S.drop j = (T.drop j).take m ++ S.getD (j + m) 0 :: S.drop (j + m + 1) := by
        rw [← htk, ← drop_get (by omega), ← List.drop_drop]
        exact cut_at
      rw [e, token_sep hs _ (fun e2 => by have := congrArg List.length e2; simp only [List.length_take, List.length_drop, List.length_nil] at this; omega)]
      exact token_take h (Nat.le_refl _)
    · have hag2 : (S.drop j).take (m + 1) = (T.drop j).take (m + 1) := take_agree hl fun i i1 i2 i3 => by
        rcases Nat.lt_or_ge i (j + m) with i4 | i4
        · exact hag i i1 i4 i3
        · obtain rfl : i = j + m := by omega
          exact he
      have e : S.drop j = (T.drop j).take (m + 1) ++ S.drop (j + m + 1) := by
        rw [← hag2, show j + m + 1 = j + (m + 1) from by omega, ← List.drop_drop]
        exact cut_at
      rw [e]
      refine token_more _ (token_take h (by omega)) (by rw [List.length_take, List.length_drop]; omega) fun _ h39 => ?_
      have h3 : T.getD (j + m) 0 = 39 := by
        rw [List.getD_eq_getElem?_getD, List.getElem?_take, if_pos (by omega), List.getElem?_drop] at h39
        rw [List.getD_eq_getElem?_getD]; exact h39
      have h4 := hd h3
      rcases Nat.lt_or_ge (j + m + 1) S.length with h5 | h5
      · rw [drop_get h5]; exact h4
      · rw [List.drop_of_length_le h5]; rfl
  · have e : S.drop j = T.drop j := by
      have h2 : (S.drop j).take m = S.drop j := List.take_of_length_le (by rw [List.length_drop]; omega)
      have h3 : (T.drop j).take m = T.drop j := List.take_of_length_le (by rw [List.length_drop]; omega)
      rw [← h2, htk, h3]
    rw [e]; exact h

theorem opens_false {l : List Nat} {k m : Nat} {v : Int} (h : token l = .tok k v m) (hm : m < l.length → True) : True := trivial

theorem opens_two {l : List Nat} (h : opens l = true) : l.getD 0 0 = 40 ∧ l.getD 1 0 = 42 := by
  unfold opens at h
  split at h
  · exact ⟨rfl, rfl⟩
  · cases h

theorem opens_of {l : List Nat} (h0 : l.getD 0 0 = 40) (h1 : l.getD 1 0 = 42) : opens l = true := by
  match l with
  | [] => cases h0
  | [c] => cases h1
  | a :: b :: t =>
    have e0 : a = 40 := h0
    have e1 : b = 42 := h1
    subst e0 e1
    rfl

/-- What stands at a place from which on a text has tokens: if no blank and no comment, then a token. -/
theorem sc_next {T : List Nat} {j : Nat} {ts : List Tok} {cs : List (Nat × Nat)} (h : sc T j = .ok ts cs) (hj : j < T.length) :
    space (T.getD j 0) = true ∨ (opens (T.drop j) = true ∧ ∃ n c2, cmt (T.drop j) 0 0 = .fin n ∧ cs = (j, j + n) :: c2) ∨ (opens (T.drop j) = false ∧ ∃ k v m, token (T.drop j) = .tok k v m ∧ ∃ t2, sc T (j + m) = .ok t2 cs) := by
  rw [sc_step hj] at h
  split at h
  · rename_i hs; exact .inl hs
  · split at h
    · rename_i ho
      refine .inr (.inl ⟨ho, ?_⟩)
      cases hc : cmt (T.drop j) 0 0 with
      | fin m =>
        rw [hc] at h
        simp only [] at h
        cases hq : sc T (j + m) with
        | ok t2 c2 =>
          rw [hq] at h
          simp only [Res.app, Res.ok.injEq, List.cons_append, List.nil_append] at h
          exact ⟨m, c2, rfl, h.2.symm⟩
        | bad p e => rw [hq] at h; cases h
      | deep m => rw [hc] at h; cases h
      | never => rw [hc] at h; cases h
    · rename_i ho
      refine .inr (.inr ⟨by simpa using ho, ?_⟩)
      cases hc : token (T.drop j) with
      | tok k v m =>
        rw [hc] at h
        simp only [] at h
        cases hq : sc T (j + m) with
        | ok t2 c2 =>
          rw [hq] at h
          simp only [Res.app, Res.ok.injEq, List.cons_append, List.nil_append] at h
          exact ⟨k, v, m, rfl, t2, by rw [← h.2]; exact hq⟩
        | bad p e => rw [hq] at h; cases h
      | bad e => rw [hc] at h; cases h

theorem opens_first {S T : List Nat} {j : Nat} (h : S.getD j 0 = T.getD j 0) (ho : opens (T.drop j) = false) (h1 : S.getD (j + 1) 0 = T.getD (j + 1) 0 ∨ space (S.getD (j + 1) 0) = true) : opens (S.drop j) = false := by
  cases hs : opens (S.drop j) with
  | false => rfl
  | true =>
    obtain ⟨a, b⟩ := opens_two hs
    rw [getD_drop', Nat.add_zero] at a
    rw [getD_drop'] at b
    rcases h1 with h1 | h1
    · have := opens_of (l := T.drop j) (by rw [getD_drop', Nat.add_zero, ← h]; exact a) (by rw [getD_drop', ← h1]; exact b)
      rw [ho] at this; cases this
    · rw [b] at h1; exact absurd h1 (by decide)

theorem sc_strip (S T : List Nat) (hl : S.length = T.length) : ∀ (n j : Nat), T.length - j = n → j ≤ T.length → ∀ ts cs, sc T j = .ok ts cs → Bl S T cs j →
    sc S j = .ok ts [] ∧ Lies S T j ts := by
  intro n
  induction n using Nat.strongRecOn with
  | ind n ih =>
    intro j hn hjl ts cs h hb
    rcases Nat.lt_or_ge j T.length with hj | hj
    · have hcs := sc_cmts T _ j rfl ts cs h
      have hs := sc_step hj
      rw [h] at hs
      have hbj := hb j (Nat.le_refl _) hj
      split at hs
      · rename_i hsp
        have hge := sc_cmts T _ (j + 1) rfl ts cs hs.symm
        rw [within_none (fun c hc => (hge c hc).1) (Nat.lt_succ_self j), if_neg (by simp)] at hbj
        obtain ⟨i1, i2⟩ := ih _ (by omega) (j + 1) rfl hj ts cs hs.symm (fun i i1 i2 => hb i (by omega) i2)
        refine ⟨?_, i2.back (Nat.le_succ j) fun i h1 h2 h3 => ?_⟩
        · rw [sc_step (by omega), hbj, if_pos hsp]; exact i1
        · obtain rfl : i = j := by omega
          exact ⟨by rw [hbj]; exact hsp, by rw [hbj]⟩
      · rename_i hsp
        split at hs
        · cases hc : cmt (T.drop j) 0 0 with
          | fin m =>
            rw [hc] at hs
            simp only [] at hs
            have h0 := cmt_fin hc
            have h9 := cmt_le _ _ _ _ hc
            rw [List.length_drop] at h9
            cases hq : sc T (j + m) with
            | ok t2 c2 =>
              rw [hq] at hs
              simp only [Res.app, Res.ok.injEq, List.cons_append, List.nil_append] at hs
              obtain ⟨rfl, rfl⟩ := hs
              have hge := sc_cmts T _ (j + m) rfl ts c2 hq
              have hgap : ∀ i, j ≤ i → i < j + m → i < T.length → gap S T i := fun i i1 i2 i3 => by
                have hbi := hb i i1 i3
                have hw : within ((j, j + m) :: c2) i = true := by simp [within, i1, i2]
                rw [hw] at hbi
                by_cases h10 : T.getD i 0 = 10
                · rw [if_neg (fun e => e.2 h10)] at hbi
                  exact ⟨by rw [hbi, h10]; rfl, by rw [hbi]⟩
                · rw [if_pos ⟨rfl, h10⟩] at hbi
                  exact ⟨by rw [hbi]; rfl, by rw [hbi]; exact ⟨fun e => absurd e (by decide), fun e => absurd e h10⟩⟩
              obtain ⟨i1, i2⟩ := ih _ (by omega) (j + m) rfl (by omega) ts c2 hq (fun i i1 i2 => by
                rw [hb i (by omega) i2]
                have hw : within ((j, j + m) :: c2) i = within c2 i := by
                  show ((decide (j ≤ i) && decide (i < j + m)) || within c2 i) = _
                  rw [show decide (i < j + m) = false from by simp; omega]
                  simp
                rw [hw])
              refine ⟨?_, i2.back (by omega) hgap⟩
              rw [sc_blank S m j (fun i i1 i2 i3 => (hgap i i1 i2 (by omega)).1) (by omega)]
              exact i1
            | bad p e => rw [hq] at hs; cases hs
          | deep m => rw [hc] at hs; cases hs
          | never => rw [hc] at hs; cases hs
        · rename_i hop
          have hop' : opens (T.drop j) = false := by simpa using hop
          cases hc : token (T.drop j) with
          | tok k v m =>
            rw [hc] at hs
            simp only [] at hs
            have h0 := token_len hc
            rw [List.length_drop] at h0
            cases hq : sc T (j + m) with
            | ok t2 c2 =>
              rw [hq] at hs
              simp only [Res.app, Res.ok.injEq, List.cons_append, List.nil_append] at hs
              obtain ⟨rfl, rfl⟩ := hs
              have hge := sc_cmts T _ (j + m) rfl t2 cs hq
              have hag : ∀ i, j ≤ i → i < j + m → i < T.length → S.getD i 0 = T.getD i 0 := fun i i1 i2 i3 => by
                rw [hb i i1 i3, within_none (fun c hc => (hge c hc).1) i2, if_neg (by simp)]
              have hnx : j + m < T.length → space (S.getD (j + m) 0) = true ∨ (S.getD (j + m) 0 = T.getD (j + m) 0 ∧ (T.getD (j + m) 0 = 39 → digit (S.getD (j + m + 1) 0) = false)) := fun hlt => by
                have hbm := hb (j + m) (by omega) hlt
                rcases sc_next hq hlt with h1 | ⟨h1, n2, c3, h2, rfl⟩ | ⟨h1, k2, v2, m2, h2, t3, h3⟩
                · refine .inl ?_
                  rw [hbm]
                  split
                  · rfl
                  · exact h1
                · refine .inl ?_
                  have hn2 := cmt_fin h2
                  have hw : within ((j + m, j + m + n2) :: c3) (j + m) = true := by
                    show ((decide (j + m ≤ j + m) && decide (j + m < j + m + n2)) || _) = true
                    rw [show decide (j + m ≤ j + m) = true from by simp, show decide (j + m < j + m + n2) = true from by simp; omega]
                    rfl
                  have h40 := (opens_two h1).1
                  rw [getD_drop', Nat.add_zero] at h40
                  rw [hbm, hw, h40, if_pos ⟨rfl, by decide⟩]
                  rfl
                · have h4 := token_len h2
                  rw [List.length_drop] at h4
                  have hge2 := sc_cmts T _ (j + m + m2) rfl t3 cs h3
                  refine .inr ⟨?_, fun h39 => ?_⟩
                  · rw [hbm, within_none (fun c hc => (hge2 c hc).1) (by omega), if_neg (by simp)]
                  · obtain ⟨h5, h6⟩ := token_39 h2 (by rw [getD_drop', Nat.add_zero]; exact h39)
                    rw [getD_drop'] at h6
                    rw [hb (j + m + 1) (by omega) (by omega), within_none (fun c hc => (hge2 c hc).1) (by omega), if_neg (by simp)]
                    exact digit_small h6
              have htok := token_kept hl hc hag hnx
              have hSj : S.getD j 0 = T.getD j 0 := hag j (Nat.le_refl _) (by omega) hj
              have hop2 : opens (S.drop j) = false := by
                refine opens_first hSj hop' ?_
                rcases Nat.lt_or_ge (j + 1) (j + m) with h1 | h1
                · exact .inl (hag (j + 1) (by omega) h1 (by omega))
                · obtain rfl : m = 1 := by omega
                  rcases Nat.lt_or_ge (j + 1) T.length with h2 | h2
                  · rcases hnx h2 with h3 | h3
                    · exact .inr h3
                    · exact .inl h3.1
                  · left
                    rw [List.getD_eq_getElem?_getD, List.getD_eq_getElem?_getD, List.getElem?_eq_none h2, List.getElem?_eq_none (by omega)]
              obtain ⟨i1, i2⟩ := ih _ (by omega) (j + m) rfl (by omega) t2 cs hq (fun i i1 i2 => hb i (by omega) i2)
              have htx := take_agree hl hag
              have htl : ((T.drop j).take m).length = m := by rw [List.length_take, List.length_drop]; omega
              refine ⟨?_, Nat.le_refl _, by simp only [htl]; omega, by simp only [htl]; exact htx, by simp only [htl], fun i h1 h2 => by simp only [] at h2; omega, by simp only [htl]; exact i2⟩
              rw [sc_step (by omega), hSj, if_neg hsp, hop2, if_neg (by decide), htok]
              simp only []
              rw [i1, htx]
              rfl
            | bad p e => rw [hq] at hs; cases hs
          | bad e => rw [hc] at hs; cases hs
    · rw [sc_end hj] at h
      simp only [Res.ok.injEq] at h
      obtain ⟨rfl, rfl⟩ := h
      exact ⟨sc_end (by omega), fun i h1 h2 => by omega⟩

theorem scan_strip {T : List Nat} {ts : List Tok} {cs : List (Nat × Nat)} (h : scan T = .ok ts cs) : scan (blankAll cs T) = .ok ts [] ∧ Lies (blankAll cs T) T 0 ts :=
  sc_strip _ T (blankAll_length cs T) _ 0 rfl (Nat.zero_le _) ts cs h (bl_all cs T)
end LX
end Go.Proofs.YtfoijbcmjciihaaGreatDoor
