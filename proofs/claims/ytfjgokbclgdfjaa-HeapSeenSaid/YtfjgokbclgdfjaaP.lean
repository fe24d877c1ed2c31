/- The map of handles is written; a new handle as plain data. -/
import Derived.Test.YtfjgokbclgdfjaaO
set_option linter.unusedSimpArgs false
set_option linter.unusedVariables false
namespace Go.Proofs.Ytfjgokbclgdfjaa
open Go.RowKit HM

namespace HM
/-- The number of a new handle: the least one that is not there. -/
def slotOf (hs : List (Option Nat)) : Nat := hs.findIdx Option.isNone

def handIn (hs : List (Option Nat)) (i : Nat) : List (Option Nat) := if slotOf hs < hs.length then hs.set (slotOf hs) (some i) else hs ++ [some i]

def S.give (s : S) (i : Nat) : S := { s.shade i with handles := handIn s.handles i }

theorem slotOf_le (hs : List (Option Nat)) : slotOf hs ≤ hs.length := List.findIdx_le_length

theorem slotOf_none {hs : List (Option Nat)} (h : slotOf hs < hs.length) : hs[slotOf hs]? = some none := by
  have h0 : hs[slotOf hs].isNone = true := List.findIdx_getElem (w := h)
  rw [List.getElem?_eq_getElem h]
  simpa using h0

theorem slotOf_some {hs : List (Option Nat)} {j : Nat} (h : j < slotOf hs) : ∃ i, hs[j]? = some (some i) := by
  have h1 := slotOf_le hs
  have := List.not_of_lt_findIdx h
  rw [List.getElem?_eq_getElem (by omega)]
  cases hq : hs[j]'(by omega) with
  | none => rw [hq] at this; simp at this
  | some i => exact ⟨i, rfl⟩

theorem handIn_at (hs : List (Option Nat)) (i j : Nat) : (handIn hs i)[j]? = if j = slotOf hs then some (some i) else hs[j]? := by
  have h1 := slotOf_le hs
  unfold handIn
  by_cases h : slotOf hs < hs.length
  · rw [if_pos h, List.getElem?_set]
    by_cases e : j = slotOf hs
    · subst e; simp [h]
    · rw [if_neg (Ne.symm e), if_neg e]
  · rw [if_neg h]
    have e1 : slotOf hs = hs.length := by omega
    rw [e1]
    by_cases e : j = hs.length
    · subst e; simp
    · rw [if_neg e, List.getElem?_append]
      by_cases h2 : j < hs.length
      · rw [if_pos h2]
      · rw [if_neg h2, List.getElem?_eq_none (l := hs) (by omega), List.getElem?_eq_none (by simp only [List.length_cons, List.length_nil]; omega)]

theorem filter_set_some : ∀ (hs : List (Option Nat)) (n i : Nat), hs[n]? = some none → ((hs.set n (some i)).filter Option.isSome).length = (hs.filter Option.isSome).length + 1 := by
  intro hs
  induction hs with
  | nil => intro n i h; simp at h
  | cons a r ih =>
    intro n i h
    cases n with
    | zero => simp at h; subst h; simp
    | succ n =>
      have := ih n i (by simpa using h)
      cases a <;> simp [this]

theorem filter_set_none : ∀ (hs : List (Option Nat)) (n i : Nat), hs[n]? = some (some i) → ((hs.set n none).filter Option.isSome).length + 1 = (hs.filter Option.isSome).length := by
  intro hs
  induction hs with
  | nil => intro n i h; simp at h
  | cons a r ih =>
    intro n i h
    cases n with
    | zero => simp at h; subst h; simp
    | succ n =>
      have := ih n i (by simpa using h)
      cases a <;> simp [this]

theorem handIn_count (hs : List (Option Nat)) (i : Nat) : ((handIn hs i).filter Option.isSome).length = (hs.filter Option.isSome).length + 1 := by
  unfold handIn
  by_cases h : slotOf hs < hs.length
  · rw [if_pos h]; exact filter_set_some _ _ _ (slotOf_none h)
  · rw [if_neg h]; simp

theorem handIn_free (hs : List (Option Nat)) (i : Nat) : hs[slotOf hs]? ≠ some (some i) := by
  by_cases h : slotOf hs < hs.length
  · rw [slotOf_none h]; simp
  · rw [List.getElem?_eq_none (by omega)]; simp

theorem handIn_length (hs : List (Option Nat)) (i : Nat) : (handIn hs i).length = if slotOf hs < hs.length then hs.length else hs.length + 1 := by
  unfold handIn
  split <;> simp
end HM

theorem MapAt.store {w w' : World} {b : Nat} {blk : Nat → Nat} {hs : List (Option Nat)} {n : Nat} {D : DataW Unit} (i : Nat) (hl : hs.length < 1000000000)
    (hsz : Maps.size D = (hs.filter Option.isSome).length)
    (h1 : ∀ k : Int, Maps.has D (.int .i64 k) = true → ∃ (j i : Nat), k = j ∧ hs[j]? = some (some i))
    (h2 : ∀ (j i : Nat), hs[j]? = some (some i) → Maps.has D (.int .i64 j) = true ∧ ∀ z, D.atKey (.int .i64 j) z = .lit (.int .i64 (blk i)))
    (hown : w.ownsMap Try.prog 3 ptrR b (Maps.size D) D) (hown' : w'.ownsMap Try.prog 3 ptrR b n (D.put (.int .i64 (slotOf hs)) (.lit (.int .i64 (blk i))))) : MapAt w' b blk (handIn hs i) := by
  have hK : WideAt.IsKeyLit (.int .i64 (slotOf hs)) := trivial
  have hT := hown.tidy keyed3
  have hI := hown.isMap
  have hno : Maps.has D (.int .i64 (slotOf hs)) = false := by
    cases hq : Maps.has D (.int .i64 (slotOf hs)) with
    | false => rfl
    | true =>
      obtain ⟨j, i', e, hj⟩ := h1 _ hq
      have : j = slotOf hs := by omega
      subst this
      exact absurd hj (handIn_free hs i')
  refine ⟨D.put (.int .i64 (slotOf hs)) (.lit (.int .i64 (blk i))), ?_, ?_, fun k hk => ?_, fun j i' hj => ?_⟩
  · obtain ⟨es, clock, g1, g2, g3, g4⟩ := hown'
    exact ⟨es, clock, g1, g2, by rw [g4, Maps.size_eq, length_read]; exact Nat.le_refl _, g4⟩
  · rw [Maps.size_put hT, hno, hsz, handIn_count]; simp
  · by_cases e : k = slotOf hs
    · subst e
      exact ⟨slotOf hs, i, rfl, by rw [handIn_at, if_pos rfl]⟩
    · rw [Maps.has_put_other (by simpa using e)] at hk
      obtain ⟨j, i', e', hj⟩ := h1 k hk
      exact ⟨j, i', e', by rw [handIn_at, if_neg (by omega)]; exact hj⟩
  · rw [handIn_at] at hj
    by_cases e : j = slotOf hs
    · subst e
      rw [if_pos rfl] at hj
      simp only [Option.some.injEq] at hj
      subst hj
      exact ⟨Maps.has_put_same hI hK _, fun z => Maps.atKey_put_same hI hK _ z⟩
    · rw [if_neg e] at hj
      obtain ⟨g1, g2⟩ := h2 j i' hj
      have hne : (Lit.int .i64 (j : Int)) ≠ Lit.int .i64 (slotOf hs) := by simp; omega
      exact ⟨by rw [Maps.has_put_other hne]; exact g1, fun z => by rw [Maps.atKey_put_other hne]; exact g2 z⟩

theorem MapAt.drop {w w' : World} {b : Nat} {blk : Nat → Nat} {hs : List (Option Nat)} {n : Nat} {D : DataW Unit} (k0 i : Nat) (hk0 : hs[k0]? = some (some i))
    (hsz : Maps.size D = (hs.filter Option.isSome).length)
    (h1 : ∀ k : Int, Maps.has D (.int .i64 k) = true → ∃ (j i : Nat), k = j ∧ hs[j]? = some (some i))
    (h2 : ∀ (j i : Nat), hs[j]? = some (some i) → Maps.has D (.int .i64 j) = true ∧ ∀ z, D.atKey (.int .i64 j) z = .lit (.int .i64 (blk i)))
    (hown : w.ownsMap Try.prog 3 ptrR b (Maps.size D) D) (hown' : w'.ownsMap Try.prog 3 ptrR b n (D.del (.int .i64 k0))) : MapAt w' b blk (hs.set k0 none) := by
  have hT := hown.tidy keyed3
  obtain ⟨g1, _⟩ := h2 k0 i hk0
  refine ⟨D.del (.int .i64 k0), ?_, ?_, fun k hk => ?_, fun j i' hj => ?_⟩
  · obtain ⟨es, clock, g1, g2, g3, g4⟩ := hown'
    exact ⟨es, clock, g1, g2, by rw [g4, Maps.size_eq, length_read]; exact Nat.le_refl _, g4⟩
  · have := Maps.size_del hT (k := .int .i64 k0)
    rw [g1] at this
    have := filter_set_none hs k0 i hk0
    simp at *
    omega
  · by_cases e : k = k0
    · subst e
      rw [Maps.has_del_same] at hk
      simp at hk
    · rw [Maps.has_del_other (by simpa using e)] at hk
      obtain ⟨j, i', e', hj⟩ := h1 k hk
      exact ⟨j, i', e', by rw [List.getElem?_set, if_neg (by omega)]; exact hj⟩
  · rw [List.getElem?_set] at hj
    by_cases e : k0 = j
    · subst e
      rw [if_pos rfl] at hj
      split at hj <;> simp at hj
    · rw [if_neg e] at hj
      obtain ⟨g1, g2⟩ := h2 j i' hj
      have hne : (Lit.int .i64 (j : Int)) ≠ Lit.int .i64 k0 := by simp; omega
      exact ⟨by rw [Maps.has_del_other hne]; exact g1, fun z => by rw [Maps.atKey_del_other hne]; exact g2 z⟩

theorem turned_other {w w' : World} {b k : Nat} (h : w.mapTurned w' b) (hk : k ≠ b) : w'.heap[k]? = w.heap[k]? := by
  obtain ⟨es, clock, es', clock', hb, rfl⟩ := h
  exact ChangeMaps.heap_setBlock_other hb _ hk

theorem turned_ch {w w' : World} {b : Nat} {ρ : Nat → Nat} (h : w.mapTurned w' b) (hρ : ∀ k, w.heap.size ≤ k → ρ k = 0) (hb : ρ b = 4) : Ch (· = 4) ρ ρ w w' := by
  have hg := h.grown
  have ho := fun k hk => turned_other (k := k) h hk
  obtain ⟨es, clock, es', clock', hbb, rfl⟩ := h
  have hs : (ChangeMaps.setBlock w b (.map es' clock')).heap.size = w.heap.size := by simp [ChangeMaps.setBlock]
  exact ⟨rfl, rfl, rfl, by omega, fun k hk hn => ho k (by rintro rfl; exact hn hb), fun _ _ => rfl, fun k hk => hρ k (by omega)⟩

end Go.Proofs.Ytfjgokbclgdfjaa
