/- How integers are written, in plain Lean: the library's functions on bytes, and the plain ones. -/
import Derived.Test.YtnkahlloahgifaaGreatDoorLxD
import Derived.Lib.AtoiAll
import Derived.Lib.ItoaNum
import Derived.Lib.Replace
import Derived.Lib.CountLaws
set_option linter.unusedSimpArgs false
set_option linter.unusedVariables false
namespace Go.Proofs.YtnkahlloahgifaaGreatDoor.Lx
open Go.RowKit

theorem index_not {a : UInt8} : ∀ {l : List UInt8}, a ∉ l → Lib.index l [a] = -1
  | [], _ => rfl
  | b :: l, h => by
    have h1 : ¬ a = b := fun e => h (by rw [e]; exact List.mem_cons_self)
    have h2 : a ∉ l := fun e => h (List.mem_cons_of_mem _ e)
    unfold Lib.index
    rw [index_not h2, if_neg (by simp [List.isPrefixOf, h1])]
    rfl

theorem replace_not {a b : UInt8} {l : List UInt8} (h : a ∉ l) : Lib.replace l [a] [b] 1 = l := by
  unfold Lib.replace
  split
  · rfl
  · generalize Lib.replaceNum l [a] 1 = k
    cases k with
    | zero => rfl
    | succ k => unfold Lib.replaceK; rw [index_not h]; rfl

theorem replace_head {a b : UInt8} (hab : a ≠ b) (l : List UInt8) : Lib.replace (a :: l) [a] [b] 1 = b :: l := by
  have hi : Lib.index (a :: l) [a] = (0 : Nat) := by
    unfold Lib.index
    rw [if_pos (by simp [List.isPrefixOf])]
    rfl
  have hc := Lib.count_hit (sub := [a]) (by simp) hi
  unfold Lib.replace
  rw [if_neg (by simpa using hab)]
  unfold Lib.replaceNum
  rw [if_neg (by omega)]
  show Lib.replaceK [a] [b] 1 (a :: l) = _
  rw [Lib.replaceK_hit [a] [b] 0 (a :: l) 0 hi]
  rfl

theorem dec_nat10 : ∀ (f u : Nat), 1 ≤ f → u < 10 ^ f → (Lib.decDigits u).map UInt8.toNat = LX.nat10 f u
  | 0, _, h, _ => absurd h (by decide)
  | f + 1, u, _, h => by
    rw [Lib.decDigits, LX.nat10]
    by_cases h10 : u < 10
    · rw [dif_pos h10, if_pos h10]
      simp only [List.map_cons, List.map_nil, UInt8.toNat_ofNat']
      rw [Nat.mod_eq_of_lt (by omega)]
    · rw [dif_neg h10, if_neg h10, List.map_append]
      have hf : 1 ≤ f := by
        rcases Nat.eq_zero_or_pos f with rfl | h0
        · simp at h; omega
        · exact h0
      rw [dec_nat10 f (u / 10) hf (by rw [Nat.pow_succ] at h; omega)]
      simp only [List.map_cons, List.map_nil, UInt8.toNat_ofNat']
      rw [Nat.mod_eq_of_lt (by omega)]

theorem dec_digit : ∀ (u : Nat), ∀ c ∈ Lib.decDigits u, 48 ≤ c.toNat ∧ c.toNat ≤ 57 := fun u => by
  induction u using Nat.strongRecOn with
  | ind u ih =>
    intro c hc
    rw [Lib.decDigits] at hc
    by_cases h10 : u < 10
    · rw [dif_pos h10] at hc
      simp only [List.mem_singleton] at hc
      subst hc
      rw [UInt8.toNat_ofNat', Nat.mod_eq_of_lt (by omega)]
      omega
    · rw [dif_neg h10, List.mem_append] at hc
      rcases hc with hc | hc
      · exact ih (u / 10) (by omega) c hc
      · simp only [List.mem_singleton] at hc
        subst hc
        rw [UInt8.toNat_ofNat', Nat.mod_eq_of_lt (by omega)]
        omega

theorem dec_ne (u : Nat) : Lib.decDigits u ≠ [] := by
  rw [Lib.decDigits]
  split <;> simp

theorem not_mem_dec {a : UInt8} (ha : ¬ (48 ≤ a.toNat ∧ a.toNat ≤ 57)) (u : Nat) : a ∉ Lib.decDigits u := fun h => ha (dec_digit u a h)

/-- An integer as the program writes it. -/
def digL (n : Int) : List UInt8 := if n < 0 then 126 :: Lib.decDigits n.natAbs else Lib.decDigits n.natAbs

theorem replace_itoa (n : Int) : Lib.replace (Lib.itoa n) [45] [126] 1 = digL n := by
  unfold Lib.itoa digL
  by_cases h : n < 0
  · rw [if_pos h, if_pos h]; exact replace_head (by decide) _
  · rw [if_neg h, if_neg h, replace_not (not_mem_dec (by decide) _)]
    congr 1
    omega

theorem replace_digL (n : Int) : Lib.replace (digL n) [126] [45] 1 = Lib.itoa n := by
  unfold Lib.itoa digL
  by_cases h : n < 0
  · rw [if_pos h, if_pos h]; exact replace_head (by decide) _
  · rw [if_neg h, if_neg h, replace_not (not_mem_dec (by decide) _)]
    congr 1
    omega

theorem digL_digs (n : Int) (h : n.natAbs < 10 ^ 30) : (digL n).map UInt8.toNat = LX.digs n := by
  unfold digL LX.digs
  split
  · rw [List.map_cons, dec_nat10 30 _ (by decide) h]; rfl
  · exact dec_nat10 30 _ (by decide) h

theorem parse_append (acc : Nat) : ∀ (l : List UInt8) (c : UInt8) (u : Nat), Lib.parseUint10 acc l = .ok u → 48 ≤ c.toNat ∧ c.toNat ≤ 57 → u * 10 + (c.toNat - 48) < 18446744073709551616 →
    Lib.parseUint10 acc (l ++ [c]) = .ok (u * 10 + (c.toNat - 48)) := by
  intro l
  induction l generalizing acc with
  | nil =>
    intro c u h hc hu
    simp only [Lib.parseUint10] at h
    injection h with h
    subst h
    simp only [List.nil_append, Lib.parseUint10]
    rw [if_pos hc, if_neg (by omega), if_neg (by omega)]
  | cons x l ih =>
    intro c u h hc hu
    simp only [Lib.parseUint10, List.cons_append] at h ⊢
    split at h
    · rename_i h1
      rw [if_pos h1]
      split at h
      · cases h
      · rename_i h2
        rw [if_neg h2]
        split at h
        · cases h
        · rename_i h3
          rw [if_neg h3]
          exact ih _ c u h hc hu
    · cases h

theorem parse_dec : ∀ (u : Nat), u < 18446744073709551616 → Lib.parseUint10 0 (Lib.decDigits u) = .ok u := fun u => by
  induction u using Nat.strongRecOn with
  | ind u ih =>
    intro hu
    rw [Lib.decDigits]
    by_cases h10 : u < 10
    · rw [dif_pos h10]
      have e : (UInt8.ofNat (48 + u)).toNat = 48 + u := by rw [UInt8.toNat_ofNat', Nat.mod_eq_of_lt (by omega)]
      simp only [Lib.parseUint10, e]
      rw [if_pos (by omega), if_neg (by omega), if_neg (by omega)]
      congr 1
      omega
    · rw [dif_neg h10]
      have e : (UInt8.ofNat (48 + u % 10)).toNat = 48 + u % 10 := by rw [UInt8.toNat_ofNat', Nat.mod_eq_of_lt (by omega)]
      rw [parse_append 0 _ _ (u / 10) (ih (u / 10) (by omega) (by omega)) (by rw [e]; omega) (by rw [e]; omega), e]
      congr 1
      omega

theorem atoi_itoa (n : Int) (h0 : -9223372036854775808 ≤ n) (h1 : n ≤ 9223372036854775807) : Lib.atoiAll (Lib.itoa n) = .ok n := by
  unfold Lib.itoa
  by_cases h : n < 0
  · rw [if_pos h]
    unfold Lib.atoiAll
    have hp : Lib.parseMag (Lib.decDigits n.natAbs) = .ok n.natAbs := by
      unfold Lib.parseMag
      rw [if_neg (dec_ne _)]
      exact parse_dec _ (by omega)
    simp only [show ((45 : UInt8).toNat = 45) = True from by decide, or_true, if_true, hp, not_true, false_and, if_false, true_and]
    rw [if_neg (by omega)]
    congr 1
    omega
  · rw [if_neg h]
    have hp : Lib.parseMag (Lib.decDigits n.toNat) = .ok n.toNat := by
      unfold Lib.parseMag
      rw [if_neg (dec_ne _)]
      exact parse_dec _ (by omega)
    have hd := dec_digit n.toNat
    unfold Lib.atoiAll
    generalize Lib.decDigits n.toNat = l at hp hd
    cases l with
    | nil => unfold Lib.parseMag at hp; rw [if_pos rfl] at hp; cases hp
    | cons c r =>
      have hc := hd c List.mem_cons_self
      have h45 : ¬ c.toNat = 45 := by omega
      have h2 : ¬ 9223372036854775808 ≤ n.toNat := by omega
      have e : ((n.toNat : Nat) : Int) = n := by omega
      have h43' : ¬ c.toNat = 43 := by omega
      simp [h43', hp, h45, h2, e]

theorem mag_append (l : List Nat) (c : Nat) : LX.mag (l ++ [c]) = 10 * LX.mag l + (c - 48) := by
  unfold LX.mag
  rw [List.foldl_append]
  rfl

theorem mag_nat10 : ∀ (f u : Nat), 1 ≤ f → u < 10 ^ f → LX.mag (LX.nat10 f u) = u
  | 0, _, h, _ => absurd h (by decide)
  | f + 1, u, _, h => by
    rw [LX.nat10]
    by_cases h10 : u < 10
    · rw [if_pos h10]; simp [LX.mag]
    · rw [if_neg h10, mag_append]
      have hf : 1 ≤ f := by
        rcases Nat.eq_zero_or_pos f with rfl | h0
        · simp at h; omega
        · exact h0
      rw [mag_nat10 f (u / 10) hf (by rw [Nat.pow_succ] at h; omega)]
      omega

theorem nat10_digit : ∀ (f u : Nat), ∀ c ∈ LX.nat10 f u, 48 ≤ c ∧ c ≤ 57
  | 0, _, c, h => by simp [LX.nat10] at h
  | f + 1, u, c, h => by
    rw [LX.nat10] at h
    by_cases h10 : u < 10
    · rw [if_pos h10] at h
      simp only [List.mem_singleton] at h
      omega
    · rw [if_neg h10, List.mem_append] at h
      rcases h with h | h
      · exact nat10_digit f _ c h
      · simp only [List.mem_singleton] at h
        omega

/-- The number that a text would be. -/
def numv (l : List Nat) : Int := match l with | 126 :: t => - (LX.mag t : Int) | _ => (LX.mag l : Int)

theorem num_numv (l : List Nat) : LX.num l = if -9223372036854775808 ≤ numv l ∧ numv l ≤ 9223372036854775807 ∧ LX.digs (numv l) = l then some (numv l) else none := rfl

theorem numv_neg (t : List Nat) : numv (126 :: t) = - (LX.mag t : Int) := rfl

theorem numv_pos {l : List Nat} (h : ∀ c ∈ l, 48 ≤ c ∧ c ≤ 57) : numv l = (LX.mag l : Int) := by
  unfold numv
  split
  · exact absurd (h 126 List.mem_cons_self) (by decide)
  · rfl

theorem num_digs (n : Int) (h0 : -9223372036854775808 ≤ n) (h1 : n ≤ 9223372036854775807) : LX.num (LX.digs n) = some n := by
  have hn : n.natAbs < 10 ^ 30 := by have : (10 : Nat) ^ 30 = 1000000000000000000000000000000 := by decide
                                     omega
  have hm := mag_nat10 30 n.natAbs (by decide) hn
  have hv : numv (LX.digs n) = n := by
    unfold LX.digs
    by_cases h : n < 0
    · rw [if_pos h, numv_neg, hm]
      omega
    · rw [if_neg h, numv_pos (nat10_digit 30 n.natAbs), hm]
      omega
  rw [num_numv, hv, if_pos ⟨h0, h1, rfl⟩]

theorem num_some {l : List Nat} {v : Int} (h : LX.num l = some v) : -9223372036854775808 ≤ v ∧ v ≤ 9223372036854775807 ∧ LX.digs v = l := by
  rw [num_numv] at h
  by_cases hc : -9223372036854775808 ≤ numv l ∧ numv l ≤ 9223372036854775807 ∧ LX.digs (numv l) = l
  · rw [if_pos hc] at h
    injection h with h
    rw [h] at hc
    exact hc
  · rw [if_neg hc] at h
    cases h

theorem bts_inj {s t : ByteArray} (h : bts s = bts t) : s = t := by
  have e : s.data.toList = t.data.toList := List.map_inj_right (fun a b => UInt8.toNat_inj.1) |>.1 h
  cases s with | mk a => cases t with | mk b => exact congrArg ByteArray.mk (Array.toList_inj.1 e)

/-- The text of an integer. -/
def digS (n : Int) : ByteArray := ⟨(digL n).toArray⟩

theorem bts_digS (n : Int) (h0 : -9223372036854775808 ≤ n) (h1 : n ≤ 9223372036854775807) : bts (digS n) = LX.digs n := by
  have hn : n.natAbs < 10 ^ 30 := by have : (10 : Nat) ^ 30 = 1000000000000000000000000000000 := by decide
                                     omega
  exact digL_digs n hn

/-- A text that is an integer is its text; and the library reads it. -/
theorem atoi_of_num {t : ByteArray} {v : Int} (h : LX.num (bts t) = some v) : t = digS v ∧ Lib.atoiAll (Lib.replace t.data.toList [126] [45] 1) = .ok v := by
  obtain ⟨h0, h1, h2⟩ := num_some h
  have e : t = digS v := bts_inj (by rw [bts_digS v h0 h1, h2])
  refine ⟨e, ?_⟩
  rw [e]
  show Lib.atoiAll (Lib.replace (digL v) [126] [45] 1) = _
  rw [replace_digL, atoi_itoa v h0 h1]

/-- A text that is none is no integer's text. -/
theorem ne_of_num {t : ByteArray} (h : LX.num (bts t) = none) (v : Int) (h0 : -9223372036854775808 ≤ v) (h1 : v ≤ 9223372036854775807) : digS v ≠ t := fun e => by
  rw [← e, bts_digS v h0 h1, num_digs v h0 h1] at h
  cases h

theorem atoi_range {l : List UInt8} {v : Int} (h : Lib.atoiAll l = .ok v) : -9223372036854775808 ≤ v ∧ v ≤ 9223372036854775807 := by
  unfold Lib.atoiAll at h
  cases l with
  | nil => cases h
  | cons c r =>
    dsimp only at h
    split at h
    · cases h
    · cases h
    · rename_i u hu
      split at h
      · cases h
      · split at h
        · cases h
        · injection h with h
          subst h
          split <;> constructor <;> omega
end Go.Proofs.YtnkahlloahgifaaGreatDoor.Lx
