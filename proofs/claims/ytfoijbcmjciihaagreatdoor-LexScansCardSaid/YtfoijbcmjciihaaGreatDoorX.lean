/- Plain laws of lines and columns. -/
import Derived.Test.YtfoijbcmjciihaaGreatDoorQ
import Derived.Lib.IndexLaws
import Derived.Lib.LastIndexByte
set_option linter.unusedSimpArgs false
set_option linter.unusedVariables false
namespace Go.Proofs.YtfoijbcmjciihaaGreatDoor
namespace LX
def stepP (p : Nat × Nat) (c : Nat) : Nat × Nat := if c = 10 then (p.1 + 1, 1) else (p.1, p.2 + 1)
/-- The line and the column of an index. -/
def posP (l : List Nat) (i : Nat) : Nat × Nat := (l.take i).foldl stepP (1, 1)

theorem posP_zero (l : List Nat) : posP l 0 = (1, 1) := rfl
theorem posP_succ {l : List Nat} {i : Nat} (h : i < l.length) : posP l (i + 1) = stepP (posP l i) (l.getD i 0) := by
  unfold posP
  rw [List.take_succ_eq_append_getElem h, List.foldl_append, List.getD_eq_getElem?_getD, List.getElem?_eq_getElem h]
  rfl

theorem posP_ge (l : List Nat) : ∀ i, i ≤ l.length → 1 ≤ (posP l i).1 ∧ 1 ≤ (posP l i).2
  | 0, _ => ⟨Nat.le_refl _, Nat.le_refl _⟩
  | i + 1, h => by
    have ih := posP_ge l i (by omega)
    rw [posP_succ h]
    unfold stepP
    split <;> simp <;> omega

theorem posP_line (l : List Nat) : ∀ i, i ≤ l.length → (posP l i).1 = (l.take i).count 10 + 1
  | 0, _ => rfl
  | i + 1, h => by
    rw [posP_succ h, List.take_succ_eq_append_getElem h, List.count_append]
    have e : l.getD i 0 = l[i] := by rw [List.getD_eq_getElem?_getD, List.getElem?_eq_getElem h]; rfl
    rw [e]
    have ih := posP_line l i (by omega)
    unfold stepP
    by_cases hc : l[i] = 10
    · rw [if_pos hc, hc]; simp [ih]
    · rw [if_neg hc, List.count_singleton]
      rw [if_neg (by simpa using hc)]
      exact ih

/-- Along a line. -/
theorem posP_run (l : List Nat) (f : Nat) : ∀ j, f + j ≤ l.length → (∀ q, q < j → l.getD (f + q) 0 ≠ 10) → posP l (f + j) = ((posP l f).1, (posP l f).2 + j)
  | 0, _, _ => rfl
  | j + 1, h, hn => by
    have ih := posP_run l f j (by omega) (fun q hq => hn q (by omega))
    rw [← Nat.add_assoc, posP_succ (by omega), ih]
    unfold stepP
    rw [if_neg (hn j (by omega))]
    rfl

theorem posP_next {l : List Nat} {i : Nat} (h : i < l.length) (hc : l.getD i 0 = 10) : posP l (i + 1) = ((posP l i).1 + 1, 1) := by
  rw [posP_succ h, hc]; rfl

/-- A later index is further on. -/
theorem posP_lt (l : List Nat) (i : Nat) : ∀ j, i < j → j ≤ l.length → (posP l i).1 < (posP l j).1 ∨ ((posP l i).1 = (posP l j).1 ∧ (posP l i).2 < (posP l j).2)
  | 0, h, _ => by omega
  | j + 1, h, hj => by
    have hs : (posP l j).1 < (posP l (j + 1)).1 ∨ ((posP l j).1 = (posP l (j + 1)).1 ∧ (posP l j).2 < (posP l (j + 1)).2) := by
      rw [posP_succ hj]
      unfold stepP
      split
      · exact .inl (Nat.lt_succ_self _)
      · exact .inr ⟨rfl, Nat.lt_succ_self _⟩
    rcases Nat.lt_succ_iff_lt_or_eq.1 h with h | rfl
    · have := posP_lt l i j h (by omega)
      omega
    · exact hs

theorem posP_inj {l : List Nat} {i j : Nat} (hi : i ≤ l.length) (hj : j ≤ l.length) (h : posP l i = posP l j) : i = j := by
  rcases Nat.lt_trichotomy i j with h2 | h2 | h2
  · have := posP_lt l i j h2 hj
    rw [h] at this; omega
  · exact h2
  · have := posP_lt l j i h2 hi
    rw [h] at this; omega

/-- The index with a line and a column. -/
def atP (l : List Nat) (a b : Int) : Option Nat := (List.range (l.length + 1)).find? fun i => ((posP l i).1 : Int) == a && ((posP l i).2 : Int) == b

theorem atP_some {l : List Nat} {a b : Int} {i : Nat} (hi : i ≤ l.length) (h1 : ((posP l i).1 : Int) = a) (h2 : ((posP l i).2 : Int) = b) : atP l a b = some i := by
  cases h : atP l a b with
  | some j =>
    have hp := List.find?_some h
    have hm := List.mem_of_find?_eq_some h
    simp only [Bool.and_eq_true, beq_iff_eq] at hp
    rw [List.mem_range] at hm
    congr 1
    exact posP_inj (by omega) hi (Prod.ext (by omega) (by omega))
  | none =>
    have := List.find?_eq_none.1 h i (List.mem_range.2 (by omega))
    simp [h1, h2] at this

theorem atP_none {l : List Nat} {a b : Int} (h : ∀ i, i ≤ l.length → ¬ (((posP l i).1 : Int) = a ∧ ((posP l i).2 : Int) = b)) : atP l a b = none := by
  refine List.find?_eq_none.2 fun i hi => ?_
  rw [List.mem_range] at hi
  have := h i (by omega)
  simpa using this

theorem atP_spec {l : List Nat} {a b : Int} {i : Nat} (h : atP l a b = some i) : i ≤ l.length ∧ ((posP l i).1 : Int) = a ∧ ((posP l i).2 : Int) = b := by
  have hp := List.find?_some h
  have hm := List.mem_of_find?_eq_some h
  simp only [Bool.and_eq_true, beq_iff_eq] at hp
  rw [List.mem_range] at hm
  exact ⟨by omega, hp⟩

/-- No further line. -/
theorem atP_last {l : List Nat} {k f : Nat} {a b : Int} (hf : f ≤ l.length) (hp : posP l f = (k, 1)) (hn : ∀ q, f + q < l.length → l.getD (f + q) 0 ≠ 10) (ha : (k : Int) < a) : atP l a b = none := by
  refine atP_none fun i hi h => ?_
  rcases Nat.lt_or_ge i f with h1 | h1
  · have := posP_lt l i f h1 hf
    rw [hp] at this
    simp only [] at this
    omega
  · obtain ⟨j, rfl⟩ : ∃ j, i = f + j := ⟨i - f, by omega⟩
    have := posP_run l f j hi (fun q hq => hn q (by omega))
    rw [this, hp] at h
    simp only [] at h
    omega

/-- On the line. -/
theorem atP_line {l : List Nat} {k f room : Nat} {a b : Int} (hf : f + room ≤ l.length) (hp : posP l f = (k, 1)) (hn : ∀ q, q < room → l.getD (f + q) 0 ≠ 10) (hend : f + room = l.length ∨ l.getD (f + room) 0 = 10) (ha : a = k) :
    atP l a b = if 1 ≤ b ∧ b - 1 ≤ room then some (f + (b - 1).toNat) else none := by
  have hrun : ∀ j, j ≤ room → posP l (f + j) = (k, 1 + j) := fun j hj => by
    rw [posP_run l f j (by omega) (fun q hq => hn q (by omega)), hp]
  split
  · rename_i hb
    refine atP_some (by omega) ?_ ?_
    · rw [hrun _ (by omega), ha]
    · rw [hrun _ (by omega)]; simp only []; omega
  · rename_i hb
    refine atP_none fun i hi h => ?_
    have hg := posP_ge l i hi
    rcases Nat.lt_or_ge i f with h1 | h1
    · have := posP_lt l i f h1 (by omega)
      rw [hp] at this
      simp only [] at this
      omega
    · obtain ⟨j, rfl⟩ : ∃ j, i = f + j := ⟨i - f, by omega⟩
      rcases Nat.lt_or_ge room j with h2 | h2
      · rcases hend with he | he
        · omega
        · have h3 := posP_next (l := l) (i := f + room) (by omega) he
          rw [hrun room (Nat.le_refl _)] at h3
          rcases Nat.lt_or_eq_of_le (show f + room + 1 ≤ f + j by omega) with h4 | h4
          · have := posP_lt l (f + room + 1) (f + j) h4 hi
            rw [h3] at this
            simp only [] at this
            omega
          · rw [← h4, h3] at h
            simp only [] at h
            omega
      · rw [hrun j h2] at h
        simp only [] at h
        omega

theorem atP_low {l : List Nat} {a b : Int} (h : a < 1 ∨ b < 1) : atP l a b = none := by
  refine atP_none fun i hi h2 => ?_
  have := posP_ge l i hi
  omega

theorem atP_posP {l : List Nat} {i : Nat} (hi : i ≤ l.length) : atP l (posP l i).1 (posP l i).2 = some i := atP_some hi rfl rfl
end LX

theorem getD_byte (s : ByteArray) {i : Nat} (h : i < s.size) : (bts s).getD i 0 = (s.data[i]!).toNat := by
  rw [List.getD_eq_getElem?_getD, bts_get s h]
  show (s[i]'h).toNat = _
  congr 1
  show s.data[i] = _
  rw [getElem!_pos s.data i h]

/-- The column. -/
theorem col_eq (s : ByteArray) (i : Nat) (hi : i ≤ s.size) : ((LX.posP (bts s) i).2 : Int) = (i : Int) - Lib.lastIdx s 10 i := by
  have hl : i ≤ (bts s).length := by rw [bts_length]; exact hi
  rcases Lib.lastIdx_spec s 10 i with ⟨e, hn⟩ | ⟨q, hq, e, hc, hn⟩
  · have := LX.posP_run (bts s) 0 i (by omega) (fun j hj => by
      rw [Nat.zero_add, getD_byte s (by omega)]
      have := hn j hj
      omega)
    rw [Nat.zero_add] at this
    rw [this, e, LX.posP_zero]
    simp only []
    omega
  · have h1 := LX.posP_next (l := bts s) (i := q) (by omega) (by rw [getD_byte s (by omega)]; omega)
    have h2 := LX.posP_run (bts s) (q + 1) (i - (q + 1)) (by omega) (fun j hj => by
      rw [getD_byte s (by omega)]
      have := hn (q + 1 + j) (by omega) (by omega)
      omega)
    rw [show q + 1 + (i - (q + 1)) = i from by omega, h1] at h2
    rw [h2, e]
    simp only []
    omega

theorem lastIdx_extract (s : ByteArray) (i : Nat) (hi : i ≤ s.size) : ∀ k, k ≤ i → Lib.lastIdx (s.extract 0 i) 10 k = Lib.lastIdx s 10 k
  | 0, _ => rfl
  | k + 1, hk => by
    have ih := lastIdx_extract s i hi k (by omega)
    unfold Lib.lastIdx
    have e : ((s.extract 0 i).data[k]!) = s.data[k]! := by
      have h1 : k < (s.extract 0 i).data.size := by
        show k < (s.extract 0 i).size
        rw [ByteArray.size_extract]; omega
      have h2 : k < s.data.size := by show k < s.size; omega
      rw [getElem!_pos _ k h1, getElem!_pos _ k h2]
      simp only [ByteArray.data_extract, Array.getElem_extract, Nat.zero_add]
    rw [e, ih]

theorem last_extract (s : ByteArray) (i : Nat) (hi : i ≤ s.size) : Lib.lastIndexByte (s.extract 0 i) 10 = Lib.lastIdx s 10 i := by
  unfold Lib.lastIndexByte
  rw [ByteArray.size_extract, Nat.min_eq_left hi, Nat.sub_zero]
  exact lastIdx_extract s i hi i (Nat.le_refl _)

theorem count_extract (s : ByteArray) (i : Nat) (hi : i ≤ s.size) : (Lib.countByte (s.extract 0 i).data.toList 10 : Int) + 1 = ((LX.posP (bts s) i).1 : Int) := by
  rw [LX.posP_line (bts s) i (by rw [bts_length]; exact hi), extract_bytes]
  unfold Lib.countByte bts
  rw [List.drop_zero, Nat.sub_zero, ← List.map_take]
  have : ∀ l : List UInt8, l.count 10 = (l.map UInt8.toNat).count 10 := fun l => by
    induction l with
    | nil => rfl
    | cons a l ih =>
      rw [List.map_cons, List.count_cons, List.count_cons, ih]
      congr 1
      by_cases h : a = 10
      · subst h; rfl
      · rw [if_neg (by simpa using h), if_neg (by simpa using fun e : a.toNat = 10 => h (UInt8.toNat_inj.1 e))]
  rw [this]
  push_cast
  rfl
end Go.Proofs.YtfoijbcmjciihaaGreatDoor
