/- Plain laws of the text without comments. -/
import Derived.Test.YtfoijbcmjciihaaGreatDoorN
set_option linter.unusedSimpArgs false
set_option linter.unusedVariables false
namespace Go.Proofs.YtfoijbcmjciihaaGreatDoor
namespace LX
/-- A part of a text, blank but for line feeds. -/
def blank1 (p q : Nat) (l : List Nat) : List Nat := l.zipIdx.map fun x => if p ≤ x.2 ∧ x.2 < q ∧ x.1 ≠ 10 then 32 else x.1

theorem blank1_length (p q : Nat) (l : List Nat) : (blank1 p q l).length = l.length := by simp [blank1]

theorem blank1_get (p q : Nat) (l : List Nat) (i : Nat) : (blank1 p q l)[i]? = (l[i]?).map fun c => if p ≤ i ∧ i < q ∧ c ≠ 10 then 32 else c := by
  unfold blank1
  rw [List.getElem?_map, List.getElem?_zipIdx]
  cases l[i]? <;> simp

theorem blank1_self (p : Nat) (l : List Nat) : blank1 p p l = l := by
  refine List.ext_getElem? fun i => ?_
  rw [blank1_get]
  cases l[i]? with
  | none => rfl
  | some c => simp only [Option.map_some]; rw [if_neg (by omega)]

theorem blank1_step {p i : Nat} {l : List Nat} (hp : p ≤ i) (hi : i < l.length) : blank1 p (i + 1) l = if l.getD i 0 = 10 then blank1 p i l else (blank1 p i l).set i 32 := by
  have e : l.getD i 0 = l[i] := by rw [List.getD_eq_getElem?_getD, List.getElem?_eq_getElem hi]; rfl
  rw [e]
  split
  · rename_i hc
    refine List.ext_getElem? fun j => ?_
    rw [blank1_get, blank1_get]
    by_cases h : j = i
    · subst h
      rw [List.getElem?_eq_getElem hi]
      simp [hc]
    · cases l[j]? with
      | none => rfl
      | some c =>
        simp only [Option.map_some]
        by_cases h1 : p ≤ j ∧ j < i ∧ c ≠ 10
        · rw [if_pos h1, if_pos ⟨h1.1, by omega, h1.2.2⟩]
        · rw [if_neg h1, if_neg (fun h2 => h1 ⟨h2.1, by omega, h2.2.2⟩)]
  · rename_i hc
    refine List.ext_getElem? fun j => ?_
    by_cases h : j = i
    · subst h
      rw [List.getElem?_set_self (by rw [blank1_length]; exact hi), blank1_get, List.getElem?_eq_getElem hi]
      simp only [Option.map_some]
      rw [if_pos ⟨hp, Nat.lt_succ_self _, hc⟩]
    · rw [List.getElem?_set_ne (Ne.symm h), blank1_get, blank1_get]
      cases l[j]? with
      | none => rfl
      | some c =>
        simp only [Option.map_some]
        by_cases h1 : p ≤ j ∧ j < i ∧ c ≠ 10
        · rw [if_pos h1, if_pos ⟨h1.1, by omega, h1.2.2⟩]
        · rw [if_neg h1, if_neg (fun h2 => h1 ⟨h2.1, by omega, h2.2.2⟩)]

theorem blank1_at (p i : Nat) (l : List Nat) : (blank1 p i l).getD i 0 = l.getD i 0 := by
  rw [List.getD_eq_getElem?_getD, blank1_get, List.getD_eq_getElem?_getD]
  cases l[i]? with
  | none => rfl
  | some c => simp only [Option.map_some]; rw [if_neg (by omega)]

def blankAll (cs : List (Nat × Nat)) (l : List Nat) : List Nat := cs.foldl (fun l c => blank1 c.1 c.2 l) l

theorem blankAll_length (cs : List (Nat × Nat)) : ∀ l : List Nat, (blankAll cs l).length = l.length := by
  induction cs with
  | nil => intro l; rfl
  | cons c cs ih => intro l; show (blankAll cs (blank1 c.1 c.2 l)).length = _; rw [ih, blank1_length]

theorem blankAll_snoc (cs : List (Nat × Nat)) (c : Nat × Nat) (l : List Nat) : blankAll (cs ++ [c]) l = blank1 c.1 c.2 (blankAll cs l) := by
  unfold blankAll
  rw [List.foldl_append]
  rfl

/-- The text without its comments. -/
def stripT (l : List Nat) : List Nat := match up 20000 l with
  | .ok _ cs => blankAll cs l
  | .bad _ _ => []

theorem sc_cmts (T : List Nat) : ∀ (n j : Nat), T.length - j = n → ∀ ts cs, sc T j = .ok ts cs → ∀ c ∈ cs, j ≤ c.1 ∧ c.1 ≤ c.2 ∧ c.2 ≤ T.length := by
  intro n
  induction n using Nat.strongRecOn with
  | ind n ih =>
    intro j hn ts cs h
    rcases Nat.lt_or_ge j T.length with hj | hj
    · rw [sc_step hj] at h
      split at h
      · intro c hc
        have := ih _ (by omega) (j + 1) rfl ts cs h c hc
        exact ⟨by omega, this.2⟩
      · split at h
        · cases hc : cmt (T.drop j) 0 0 with
          | fin m =>
            rw [hc] at h
            simp only [] at h
            have h0 := cmt_fin hc
            have h9 := cmt_le _ _ _ _ hc
            rw [List.length_drop] at h9
            cases hs : sc T (j + m) with
            | ok t2 c2 =>
              rw [hs] at h
              simp only [Res.app, Res.ok.injEq, List.cons_append, List.nil_append] at h
              rw [← h.2]
              intro c hc
              rcases List.mem_cons.1 hc with rfl | hc
              · exact ⟨Nat.le_refl _, by simp, by simp only []; omega⟩
              · have := ih _ (by omega) (j + m) rfl t2 c2 hs c hc
                exact ⟨by omega, this.2⟩
            | bad p e => rw [hs] at h; cases h
          | deep m => rw [hc] at h; cases h
          | never => rw [hc] at h; cases h
        · cases hc : token (T.drop j) with
          | tok k v m =>
            rw [hc] at h
            simp only [] at h
            have h0 := token_len hc
            cases hs : sc T (j + m) with
            | ok t2 c2 =>
              rw [hs] at h
              simp only [Res.app, Res.ok.injEq, List.nil_append] at h
              rw [← h.2]
              intro c hc
              have := ih _ (by omega) (j + m) rfl t2 c2 hs c hc
              exact ⟨by omega, this.2⟩
            | bad p e => rw [hs] at h; cases h
          | bad e => rw [hc] at h; cases h
    · rw [sc_end hj] at h
      cases h
      intro c hc
      cases hc

theorem sc_len (T : List Nat) : ∀ (n j : Nat), j ≤ T.length → T.length - j = n → ∀ ts cs, sc T j = .ok ts cs → cs.length + j ≤ T.length ∧ ts.length + j ≤ T.length := by
  intro n
  induction n using Nat.strongRecOn with
  | ind n ih =>
    intro j hjl hn ts cs h
    rcases Nat.lt_or_ge j T.length with hj | hj
    · rw [sc_step hj] at h
      split at h
      · have := ih _ (by omega) (j + 1) hj rfl ts cs h
        omega
      · split at h
        · cases hc : cmt (T.drop j) 0 0 with
          | fin m =>
            rw [hc] at h
            simp only [] at h
            have h0 := cmt_fin hc
            have h9 := cmt_le _ _ _ _ hc
            rw [List.length_drop] at h9
            cases hs : sc T (j + m) with
            | ok t2 c2 =>
              rw [hs] at h
              simp only [Res.app, Res.ok.injEq, List.cons_append, List.nil_append] at h
              have := ih _ (by omega) (j + m) (by omega) rfl t2 c2 hs
              rw [← h.1, ← h.2, List.length_cons]
              omega
            | bad p e => rw [hs] at h; cases h
          | deep m => rw [hc] at h; cases h
          | never => rw [hc] at h; cases h
        · cases hc : token (T.drop j) with
          | tok k v m =>
            rw [hc] at h
            simp only [] at h
            have h0 := token_len hc
            rw [List.length_drop] at h0
            cases hs : sc T (j + m) with
            | ok t2 c2 =>
              rw [hs] at h
              simp only [Res.app, Res.ok.injEq, List.cons_append, List.nil_append] at h
              have := ih _ (by omega) (j + m) (by omega) rfl t2 c2 hs
              rw [← h.1, ← h.2, List.length_cons]
              omega
            | bad p e => rw [hs] at h; cases h
          | bad e => rw [hc] at h; cases h
    · rw [sc_end hj] at h
      cases h
      simp; omega

theorem scan_len {T : List Nat} {ts : List Tok} {cs : List (Nat × Nat)} (h : scan T = .ok ts cs) : cs.length ≤ T.length ∧ ts.length ≤ T.length := by
  have := sc_len T _ 0 (Nat.zero_le _) rfl ts cs h
  omega

theorem scan_cmts {T : List Nat} {ts : List Tok} {cs : List (Nat × Nat)} (h : scan T = .ok ts cs) : ∀ c ∈ cs, c.1 ≤ c.2 ∧ c.2 ≤ T.length :=
  fun c hc => (sc_cmts T _ 0 rfl ts cs h c hc).2

theorem blank1_small {p q : Nat} {l : List Nat} (h : ∀ c ∈ l, c < 256) : ∀ c ∈ blank1 p q l, c < 256 := by
  intro c hc
  unfold blank1 at hc
  obtain ⟨x, hx, rfl⟩ := List.mem_map.1 hc
  split
  · decide
  · have := List.fst_mem_of_mem_zipIdx hx
    exact h _ this

theorem blankAll_small (cs : List (Nat × Nat)) : ∀ l : List Nat, (∀ c ∈ l, c < 256) → ∀ c ∈ blankAll cs l, c < 256 := by
  induction cs with
  | nil => intro l h; exact h
  | cons c cs ih => intro l h; exact ih _ (blank1_small h)
end LX
end Go.Proofs.YtfoijbcmjciihaaGreatDoor
