/- Plain laws: the reference's Number and Digits are the program's. -/
import Derived.Test.YtfoijbcmjciihaaGreatDoorNum
set_option linter.unusedSimpArgs false
set_option linter.unusedVariables false
namespace Go.Proofs.YtfoijbcmjciihaaGreatDoor
namespace LX

/-- From the number so far (not above 0) on. -/
def rfold : List Nat → Int → Option Int
  | [], n => some n
  | c :: t, n => if digit c = false then none else if 10 * n - ((c : Int) - 48) < -9223372036854775808 then none else rfold t (10 * n - ((c : Int) - 48))

def refNum (l : List Nat) : Option Int :=
  let i := if l.headD 0 = 126 then 1 else 0
  if l.length = i ∨ 30 < l.length ∨ (l.getD i 0 = 48 ∧ 1 < l.length) then none
  else match rfold (l.drop i) 0 with
    | none => none
    | some n => if i = 1 then some n else if n = -9223372036854775808 then none else some (-n)

def allDig (l : List Nat) : Prop := ∀ c ∈ l, 48 ≤ c ∧ c ≤ 57

theorem digit_iff {c : Nat} : digit c = true ↔ 48 ≤ c ∧ c ≤ 57 := by simp [digit]

theorem foldl_mag (t : List Nat) : ∀ a : Nat, t.foldl (fun a c => 10 * a + (c - 48)) a = a * 10 ^ t.length + mag t := by
  induction t with
  | nil => intro a; simp [mag]
  | cons c t ih =>
    intro a
    have h1 : mag (c :: t) = t.foldl (fun a c => 10 * a + (c - 48)) (10 * 0 + (c - 48)) := rfl
    rw [h1, List.foldl_cons, ih, ih, List.length_cons, Nat.pow_succ]
    rw [Nat.mul_zero, Nat.zero_add, Nat.add_mul, ← Nat.add_assoc]
    congr 2
    rw [Nat.mul_comm 10 a, Nat.mul_assoc, Nat.mul_comm 10]

theorem mag_cons (c : Nat) (t : List Nat) : mag (c :: t) = (c - 48) * 10 ^ t.length + mag t := by
  have h1 : mag (c :: t) = t.foldl (fun a c => 10 * a + (c - 48)) (10 * 0 + (c - 48)) := rfl
  rw [h1, foldl_mag, Nat.mul_zero, Nat.zero_add]

theorem rfold_dig : ∀ (t : List Nat) (m : Nat), allDig t → m ≤ 9223372036854775808 → rfold t (-(m : Int)) = if m * 10 ^ t.length + mag t ≤ 9223372036854775808 then some (-((m * 10 ^ t.length + mag t : Nat) : Int)) else none
  | [], m, _, hm => by simp [rfold, mag, hm]
  | c :: t, m, h, hm => by
    have hc := h c List.mem_cons_self
    have ht : allDig t := fun x hx => h x (List.mem_cons_of_mem _ hx)
    rw [rfold, if_neg (by simp [digit_iff.2 hc])]
    have e : (10 : Int) * (-(m : Int)) - ((c : Int) - 48) = -((10 * m + (c - 48) : Nat) : Int) := by omega
    have e2 : m * 10 ^ (c :: t).length + mag (c :: t) = (10 * m + (c - 48)) * 10 ^ t.length + mag t := by
      rw [mag_cons, List.length_cons, Nat.pow_succ, Nat.add_mul, ← Nat.add_assoc, Nat.mul_comm 10 m, Nat.mul_assoc, Nat.mul_comm 10]
    rw [e, e2]
    have hp : 1 ≤ 10 ^ t.length := Nat.one_le_pow _ _ (by decide)
    have hle : 10 * m + (c - 48) ≤ (10 * m + (c - 48)) * 10 ^ t.length := Nat.le_mul_of_pos_right _ hp
    by_cases h2 : 10 * m + (c - 48) ≤ 9223372036854775808
    · rw [if_neg (by omega)]
      exact rfold_dig t _ ht h2
    · rw [if_pos (by omega), if_neg (by omega)]

theorem rfold_some : ∀ (t : List Nat) (n v : Int), rfold t n = some v → allDig t
  | [], _, _, _ => fun c hc => by cases hc
  | c :: t, n, v, h => by
    rw [rfold] at h
    by_cases hc : digit c = false
    · rw [if_pos hc] at h; cases h
    · rw [if_neg hc] at h
      split at h
      · cases h
      · intro x hx
        rcases List.mem_cons.1 hx with rfl | hx
        · exact digit_iff.1 (by simpa using hc)
        · exact rfold_some t _ _ h x hx

/-- Digits without a zero ahead are how their number is written. -/
theorem nat10_mag : ∀ (f : Nat) (t : List Nat), allDig t → t ≠ [] → (t.headD 0 = 48 → t.length = 1) → mag t < 10 ^ f → 1 ≤ f → nat10 f (mag t) = t
  | 0, _, _, _, _, _, h => by omega
  | f + 1, t, hd, hne, hz, hm, _ => by
    obtain ⟨r, c, rfl⟩ : ∃ r c, t = r ++ [c] := ⟨t.dropLast, t.getLast hne, (List.dropLast_concat_getLast hne).symm⟩
    have hc := hd c (by simp)
    rw [mag_append] at hm ⊢
    rw [nat10]
    by_cases hr : r = []
    · subst hr
      have : mag [] = 0 := rfl
      rw [this, if_pos (by omega)]
      simp
      omega
    · have hr0 : (r ++ [c]).headD 0 = r.headD 0 := by cases r with
        | nil => exact absurd rfl hr
        | cons a r => rfl
      have hlen : (r ++ [c]).length ≠ 1 := by
        cases r with
        | nil => exact absurd rfl hr
        | cons a r => simp
      have hz' : r.headD 0 ≠ 48 := fun e => hlen (hz (hr0.trans e))
      have hdr : allDig r := fun x hx => hd x (by simp [hx])
      have hpos : 1 ≤ mag r := by
        cases r with
        | nil => exact absurd rfl hr
        | cons a r =>
          rw [mag_cons]
          have ha := hdr a List.mem_cons_self
          have hz2 : a ≠ 48 := hz'
          have hp : 1 ≤ 10 ^ r.length := Nat.one_le_pow _ _ (by decide)
          have h3 : 1 * 1 ≤ (a - 48) * 10 ^ r.length := Nat.mul_le_mul (by omega) hp
          omega
      have hf : 1 ≤ f := by
        rcases Nat.eq_zero_or_pos f with rfl | h0
        · simp at hm; omega
        · exact h0
      rw [if_neg (by omega), show (10 * mag r + (c - 48)) / 10 = mag r from by omega, nat10_mag f r hdr hr (fun e => absurd e hz') (by rw [Nat.pow_succ] at hm; omega) hf]
      congr 2
      omega

theorem nat10_ne (f u : Nat) (h : 1 ≤ f) : nat10 f u ≠ [] := by
  obtain ⟨g, rfl⟩ : ∃ g, f = g + 1 := ⟨f - 1, by omega⟩
  rw [nat10]
  split <;> simp

theorem nat10_head : ∀ (f u : Nat), 1 ≤ f → 10 ≤ u → u < 10 ^ f → (nat10 f u).headD 0 ≠ 48
  | 0, _, h, _, _ => by omega
  | f + 1, u, _, h10, hu => by
    have hf : 1 ≤ f := by
      rcases Nat.eq_zero_or_pos f with rfl | h0
      · simp at hu; omega
      · exact h0
    rw [nat10, if_neg (by omega)]
    have hne := nat10_ne f (u / 10) hf
    have e : (nat10 f (u / 10) ++ [48 + u % 10]).headD 0 = (nat10 f (u / 10)).headD 0 := by
      cases hq : nat10 f (u / 10) with
      | nil => exact absurd hq hne
      | cons a r => rfl
    rw [e]
    by_cases h100 : 10 ≤ u / 10
    · exact nat10_head f (u / 10) hf h100 (by rw [Nat.pow_succ] at hu; omega)
    · obtain ⟨g, rfl⟩ : ∃ g, f = g + 1 := ⟨f - 1, by omega⟩
      rw [nat10, if_pos (by omega)]
      show 48 + u / 10 ≠ 48
      omega

theorem nat10_zero (f u : Nat) (h : 1 ≤ f) (hu : u < 10 ^ f) : (nat10 f u).headD 0 = 48 → (nat10 f u).length = 1 := by
  intro e
  rcases Nat.lt_or_ge u 10 with h1 | h1
  · obtain ⟨g, rfl⟩ : ∃ g, f = g + 1 := ⟨f - 1, by omega⟩
    rw [nat10, if_pos h1]; rfl
  · exact absurd e (nat10_head f u h h1 hu)

theorem nat10_length : ∀ (f u : Nat), (nat10 f u).length ≤ f
  | 0, _ => Nat.le_refl _
  | f + 1, u => by
    rw [nat10]
    split
    · simp
    · have := nat10_length f (u / 10); simp; omega

theorem nat10_fuel : ∀ (f g u : Nat), 1 ≤ f → 1 ≤ g → u < 10 ^ f → u < 10 ^ g → nat10 f u = nat10 g u
  | 0, _, _, h, _, _, _ => by omega
  | _ + 1, 0, _, _, h, _, _ => by omega
  | f + 1, g + 1, u, _, _, hf, hg => by
    rw [nat10, nat10]
    by_cases h10 : u < 10
    · rw [if_pos h10, if_pos h10]
    · rw [if_neg h10, if_neg h10]
      have hf1 : 1 ≤ f := by
        rcases Nat.eq_zero_or_pos f with rfl | h0
        · simp at hf; omega
        · exact h0
      have hg1 : 1 ≤ g := by
        rcases Nat.eq_zero_or_pos g with rfl | h0
        · simp at hg; omega
        · exact h0
      rw [nat10_fuel f g (u / 10) hf1 hg1 (by rw [Nat.pow_succ] at hf; omega) (by rw [Nat.pow_succ] at hg; omega)]

theorem pow30 : (10 : Nat) ^ 30 = 1000000000000000000000000000000 := by decide
theorem pow19 : (10 : Nat) ^ 19 = 10000000000000000000 := by decide

theorem nat10_short {u : Nat} (h : u ≤ 9223372036854775808) : (nat10 30 u).length ≤ 19 := by
  rw [nat10_fuel 30 19 u (by decide) (by decide) (by rw [pow30]; omega) (by rw [pow19]; omega)]
  exact nat10_length 19 u

theorem ref_some {l : List Nat} {v : Int} (h : refNum l = some v) : num l = some v := by
  unfold refNum at h
  simp only [] at h
  by_cases h126 : l.headD 0 = 126
  · rw [if_pos h126] at h
    by_cases hb : l.length = 1 ∨ 30 < l.length ∨ (l.getD 1 0 = 48 ∧ 1 < l.length)
    · rw [if_pos hb] at h; cases h
    · rw [if_neg hb] at h
      obtain ⟨t, rfl⟩ : ∃ t, l = 126 :: t := by
        cases l with
        | nil => cases h126
        | cons a t => exact ⟨t, by rw [show a = 126 from h126]⟩
      simp only [List.drop_succ_cons, List.drop_zero] at h
      cases hq : rfold t 0 with
      | none => rw [hq] at h; cases h
      | some n =>
        rw [hq] at h
        simp only [if_true, Option.some.injEq] at h
        subst h
        have hd := rfold_some _ _ _ hq
        have hr := rfold_dig t 0 hd (by decide)
        rw [show (-((0 : Nat) : Int)) = 0 from rfl, hq, Nat.zero_mul, Nat.zero_add] at hr
        by_cases hm : mag t ≤ 9223372036854775808
        · rw [if_pos hm] at hr
          simp only [Option.some.injEq] at hr
          subst hr
          have hne : t ≠ [] := fun e => hb (.inl (by rw [e]; rfl))
          have hz : t.headD 0 = 48 → t.length = 1 := fun e => by
            exfalso
            refine hb (.inr (.inr ⟨?_, ?_⟩))
            · cases t with
              | nil => exact absurd rfl hne
              | cons a t => exact e
            · cases t with
              | nil => exact absurd rfl hne
              | cons a t => simp
          have h1 := nat10_mag 30 t hd hne hz (by rw [pow30]; omega) (by decide)
          have hpos : 1 ≤ mag t := by
            rcases Nat.eq_zero_or_pos (mag t) with h0 | h0
            · rw [h0] at h1
              have : t = [48] := by rw [← h1]; rfl
              exfalso
              rw [this] at hb
              exact hb (.inr (.inr ⟨rfl, by decide⟩))
            · exact h0
          have h2 : digs (-(mag t : Int)) = 126 :: t := by
            unfold digs
            rw [if_pos (by omega), show (-(mag t : Int)).natAbs = mag t from by omega, h1]
          rw [← h2]
          exact num_digs _ (by omega) (by omega)
        · rw [if_neg hm] at hr; cases hr
  · rw [if_neg h126] at h
    by_cases hb : l.length = 0 ∨ 30 < l.length ∨ (l.getD 0 0 = 48 ∧ 1 < l.length)
    · rw [if_pos hb] at h; cases h
    · rw [if_neg hb] at h
      simp only [List.drop_zero] at h
      cases hq : rfold l 0 with
      | none => rw [hq] at h; cases h
      | some n =>
        rw [hq] at h
        simp only [show ¬ (0 : Nat) = 1 from by decide, if_false] at h
        have hd := rfold_some _ _ _ hq
        have hr := rfold_dig l 0 hd (by decide)
        rw [show (-((0 : Nat) : Int)) = 0 from rfl, hq, Nat.zero_mul, Nat.zero_add] at hr
        by_cases hm : mag l ≤ 9223372036854775808
        · rw [if_pos hm] at hr
          simp only [Option.some.injEq] at hr
          subst hr
          by_cases hl : -(mag l : Int) = -9223372036854775808
          · rw [if_pos hl] at h; cases h
          · rw [if_neg hl] at h
            simp only [Option.some.injEq] at h
            subst h
            have hne : l ≠ [] := fun e => hb (.inl (by rw [e]; rfl))
            have hz : l.headD 0 = 48 → l.length = 1 := fun e => by
              rcases Nat.lt_or_ge 1 l.length with h3 | h3
              · exfalso
                refine hb (.inr (.inr ⟨?_, h3⟩))
                cases l with
                | nil => exact absurd rfl hne
                | cons a t => exact e
              · cases l with
                | nil => exact absurd rfl hne
                | cons a t => simp at h3 ⊢; exact h3
            have h1 := nat10_mag 30 l hd hne hz (by rw [pow30]; omega) (by decide)
            have h2 : digs (mag l : Int) = l := by
              unfold digs
              rw [if_neg (by omega), show ((mag l : Int)).natAbs = mag l from by omega, h1]
            conv => lhs; rw [← h2]
            rw [show (- -(mag l : Int)) = (mag l : Int) from by omega]
            exact num_digs _ (by omega) (by omega)
        · rw [if_neg hm] at hr; cases hr

theorem ref_digs (v : Int) (h0 : -9223372036854775808 ≤ v) (h1 : v ≤ 9223372036854775807) : refNum (digs v) = some v := by
  have hn : v.natAbs < 10 ^ 30 := by rw [pow30]; omega
  have hm := mag_nat10 30 v.natAbs (by decide) hn
  have hd : allDig (nat10 30 v.natAbs) := nat10_digit 30 v.natAbs
  have hs := nat10_short (u := v.natAbs) (by omega)
  have hne := nat10_ne 30 v.natAbs (by decide)
  have hz := nat10_zero 30 v.natAbs (by decide) hn
  have hr := rfold_dig (nat10 30 v.natAbs) 0 hd (by decide)
  rw [Nat.zero_mul, Nat.zero_add, hm, if_pos (by omega)] at hr
  unfold digs
  generalize hg : nat10 30 v.natAbs = t at *
  have hlen : 0 < t.length := List.length_pos_iff.2 hne
  by_cases hv : v < 0
  · rw [if_pos hv]
    unfold refNum
    have h48 : ¬ (t.headD 0 = 48) := fun e => by
      have e1 := hz e
      match t, e1, e with
      | [a], _, e =>
        have e' : a = 48 := e
        subst e'
        have : mag [48] = 0 := rfl
        omega
    have hg2 : (126 :: t).getD 1 0 = t.headD 0 := by cases t <;> rfl
    simp only [List.headD_cons, if_true, List.length_cons, List.drop_succ_cons, List.drop_zero, hg2]
    rw [if_neg (by intro e; rcases e with e | e | ⟨e, _⟩; · omega
                   · omega
                   · exact h48 e)]
    rw [show rfold t 0 = rfold t (-((0 : Nat) : Int)) from rfl, hr]
    simp only [Option.some.injEq]
    omega
  · rw [if_neg hv]
    have h126 : ¬ t.headD 0 = 126 := by
      cases t with
      | nil => exact absurd rfl hne
      | cons a t => have := hd a List.mem_cons_self; show ¬ a = 126; omega
    have hg2 : t.getD 0 0 = t.headD 0 := by cases t <;> rfl
    unfold refNum
    simp only [if_neg h126, List.drop_zero, hg2]
    rw [if_neg (by intro e; rcases e with e | e | ⟨e, e2⟩; · omega
                   · omega
                   · have := hz e; omega)]
    rw [show rfold t 0 = rfold t (-((0 : Nat) : Int)) from rfl, hr]
    simp only [show ¬ (0 : Nat) = 1 from by decide, if_false]
    rw [if_neg (by omega)]
    simp only [Option.some.injEq]
    omega

theorem refNum_eq (l : List Nat) : refNum l = num l := by
  cases h : num l with
  | some v =>
    obtain ⟨h0, h1, h2⟩ := num_some h
    rw [← h2]; exact ref_digs v h0 h1
  | none =>
    cases h2 : refNum l with
    | none => rfl
    | some v => rw [ref_some h2] at h; cases h

/-- The digits of a number, none for 0. -/
def dd (m : Nat) : List Nat := if h : m = 0 then [] else dd (m / 10) ++ [48 + m % 10]
decreasing_by omega

theorem dd_nat10 : ∀ (f m : Nat), 0 < m → m < 10 ^ f → nat10 f m = dd m
  | 0, m, h, h2 => by simp at h2; omega
  | f + 1, m, h, h2 => by
    rw [nat10, dd, dif_neg (by omega)]
    by_cases h10 : m < 10
    · rw [if_pos h10, show m / 10 = 0 from by omega, dd, dif_pos rfl, List.nil_append, Nat.mod_eq_of_lt h10]
    · rw [if_neg h10, dd_nat10 f (m / 10) (by omega) (by rw [Nat.pow_succ] at h2; omega)]

theorem dd_zero : dd 0 = [] := by rw [dd, dif_pos rfl]
theorem dd_step {m : Nat} (h : 0 < m) : dd m = dd (m / 10) ++ [48 + m % 10] := by rw [dd, dif_neg (by omega)]
end LX
end Go.Proofs.YtfoijbcmjciihaaGreatDoor
