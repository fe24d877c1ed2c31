/- The law of a binary heap in a list. No program in sight. -/
set_option linter.unusedSimpArgs false
set_option linter.unusedVariables false
namespace Go.Proofs.Ytfjgokbclgdfjaa.HM

def swapL (l : List Int) (i j : Nat) : List Int := (l.set i (l.getD j 0)).set j (l.getD i 0)

theorem swapL_length (l : List Int) (i j : Nat) : (swapL l i j).length = l.length := by simp [swapL]

theorem swapL_at (l : List Int) (i j k : Nat) (hi : i < l.length) (hj : j < l.length) : (swapL l i j).getD k 0 = if k = j then l.getD i 0 else if k = i then l.getD j 0 else l.getD k 0 := by
  unfold swapL
  simp only [List.getD_eq_getElem?_getD, List.getElem?_set]
  by_cases h1 : k = j
  · subst h1; simp [hj]
  · by_cases h2 : k = i
    · subst h2; simp [h1, hi, Ne.symm h1]
    · simp [h1, h2, Ne.symm h1, Ne.symm h2]

theorem perm_set (l : List Int) : ∀ (i : Nat) (x : Int), i < l.length → (l.getD i 0 :: l.set i x).Perm (x :: l) := by
  induction l with
  | nil => intro i x h; simp at h
  | cons a r ih =>
    intro i x h
    cases i with
    | zero => simpa [List.getD] using List.Perm.swap x a r
    | succ i =>
      have := ih i x (by simpa using h)
      have e : (a :: r).getD (i + 1) 0 = r.getD i 0 := by simp [List.getD]
      rw [e, List.set_cons_succ]
      exact (List.Perm.swap a _ _).trans ((this.cons a).trans (List.Perm.swap x a r))

theorem swapL_perm (l : List Int) (i j : Nat) (hi : i < l.length) (hj : j < l.length) : (swapL l i j).Perm l := by
  have h1 := perm_set l i (l.getD j 0) hi
  have h2 := perm_set (l.set i (l.getD j 0)) j (l.getD i 0) (by simpa using hj)
  have e : (l.set i (l.getD j 0)).getD j 0 = l.getD j 0 := by
    simp only [List.getD_eq_getElem?_getD, List.getElem?_set]
    by_cases h : i = j
    · subst h; simp [hi]
    · simp [h]
  rw [e] at h2
  exact List.Perm.cons_inv (h2.trans h1)

def Hp (l : List Int) (n : Nat) : Prop := ∀ k, 0 < k → k < n → l.getD ((k - 1) / 2) 0 ≤ l.getD k 0

structure UpI (l : List Int) (n j : Nat) : Prop where
  a : ∀ k, 0 < k → k < n → k ≠ j → l.getD ((k - 1) / 2) 0 ≤ l.getD k 0
  b : ∀ k, 0 < k → k < n → (k - 1) / 2 = j → 0 < j → l.getD ((j - 1) / 2) 0 ≤ l.getD k 0

theorem UpI.stop {l : List Int} {n j : Nat} (h : UpI l n j) (hs : j = 0 ∨ l.getD ((j - 1) / 2) 0 ≤ l.getD j 0) : Hp l n := by
  intro k hk hn
  by_cases e : k = j
  · subst e
    rcases hs with h0 | h0
    · omega
    · exact h0
  · exact h.a k hk hn e

theorem UpI.go {l : List Int} {n j : Nat} (h : UpI l n j) (hn : n ≤ l.length) (hj : 0 < j) (hjn : j < n) (hlt : l.getD j 0 < l.getD ((j - 1) / 2) 0) : UpI (swapL l ((j - 1) / 2) j) n ((j - 1) / 2) := by
  have at' := fun k => swapL_at l ((j - 1) / 2) j k (by omega) (by omega)
  generalize hi : (j - 1) / 2 = i at *
  refine ⟨fun k hk hkn hki => ?_, fun k hk hkn hp hi0 => ?_⟩
  · rw [at', at']
    by_cases hkj : k = j
    · subst hkj
      rw [hi, if_neg (by omega), if_pos rfl, if_pos rfl]
      omega
    · rw [if_neg hkj, if_neg hki]
      have h1 := h.a k hk hkn hkj
      by_cases hp1 : (k - 1) / 2 = j
      · rw [if_pos hp1]
        exact h.b k hk hkn hp1 hj |> fun x => by rw [hi] at x; exact x
      · rw [if_neg hp1]
        by_cases hp2 : (k - 1) / 2 = i
        · rw [if_pos hp2]; rw [hp2] at h1; omega
        · rw [if_neg hp2]; exact h1
  · rw [at', at', if_neg (by omega), if_neg (by omega)]
    have h2 := h.a i hi0 (by omega) (by omega)
    by_cases hkj : k = j
    · rw [if_pos hkj]; exact h2
    · rw [if_neg hkj, if_neg (by omega)]
      have h1 := h.a k hk hkn hkj
      rw [hp] at h1
      omega

structure DnI (l : List Int) (n i : Nat) : Prop where
  a : ∀ k, 0 < k → k < n → (k - 1) / 2 ≠ i → l.getD ((k - 1) / 2) 0 ≤ l.getD k 0
  b : ∀ k, 0 < k → k < n → (k - 1) / 2 = i → 0 < i → l.getD ((i - 1) / 2) 0 ≤ l.getD k 0

theorem DnI.stop {l : List Int} {n i : Nat} (h : DnI l n i) (hs : ∀ k, 0 < k → k < n → (k - 1) / 2 = i → l.getD i 0 ≤ l.getD k 0) : Hp l n := by
  intro k hk hn
  by_cases e : (k - 1) / 2 = i
  · rw [e]; exact hs k hk hn e
  · exact h.a k hk hn e

theorem DnI.go {l : List Int} {n i j : Nat} (h : DnI l n i) (hn : n ≤ l.length) (hjn : j < n) (hji : (j - 1) / 2 = i) (hj0 : 0 < j) (hlt : l.getD j 0 < l.getD i 0)
    (hm : ∀ k, 0 < k → k < n → (k - 1) / 2 = i → l.getD j 0 ≤ l.getD k 0) : DnI (swapL l i j) n j := by
  have at' := fun k => swapL_at l i j k (by omega) (by omega)
  refine ⟨fun k hk hkn hp => ?_, fun k hk hkn hp _ => ?_⟩
  · rw [at', at', if_neg hp]
    by_cases hpi : (k - 1) / 2 = i
    · rw [if_pos hpi]
      by_cases hkj : k = j
      · rw [if_pos hkj]; omega
      · rw [if_neg hkj, if_neg (by omega)]
        exact hm k hk hkn hpi
    · rw [if_neg hpi, if_neg (by rintro rfl; exact hpi hji)]
      by_cases hki : k = i
      · rw [if_pos hki]; subst hki
        exact h.b j hj0 hjn hji hk
      · rw [if_neg hki]; exact h.a k hk hkn hpi
  · rw [at', at', hji, if_neg (by omega), if_pos rfl, if_neg (by omega), if_neg (by omega)]
    have := h.a k hk hkn (by omega)
    rw [hp] at this
    exact this

end Go.Proofs.Ytfjgokbclgdfjaa.HM
