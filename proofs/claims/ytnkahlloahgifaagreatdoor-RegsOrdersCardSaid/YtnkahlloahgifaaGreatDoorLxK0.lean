/- The map of the words: what a store and a look-up do there. -/
import Derived.Test.YtnkahlloahgifaaGreatDoorLxA
import Derived.RangeFuncRecord
import Derived.MapKept
set_option linter.unusedSimpArgs false
set_option linter.unusedVariables false
namespace Go.Proofs.YtnkahlloahgifaaGreatDoor.Lx
open Go.RowKit

def wordBs : List ByteArray := [⟨#[97, 110, 100]⟩, ⟨#[99, 97, 115, 101]⟩, ⟨#[100, 97, 116, 97]⟩, ⟨#[101, 108, 115, 101]⟩, ⟨#[101, 110, 100]⟩, ⟨#[102, 110]⟩, ⟨#[102, 117, 110]⟩, ⟨#[105, 102]⟩, ⟨#[105, 110]⟩, ⟨#[105, 110, 112, 117, 116]⟩, ⟨#[108, 101, 116]⟩, ⟨#[111, 102]⟩, ⟨#[111, 117, 116, 112, 117, 116]⟩, ⟨#[116, 104, 101, 110]⟩, ⟨#[118, 97, 108]⟩]

def entsFrom : List ByteArray → Nat → List MapEntry
  | [], _ => []
  | s :: t, i => { key := .string s, val := .int .i64 5, born := i } :: entsFrom t (i + 1)

def wordEs (k : Nat) : Array MapEntry := (entsFrom (wordBs.take k) 0).toArray

theorem find_ents (t : ByteArray) : ∀ (l : List ByteArray) (i n : Nat), ∃ j, Instr.findNow .string (.string t) (entsFrom l i) n = some (if l.contains t then some (j, .int .i64 5) else none)
  | [], i, n => ⟨0, rfl⟩
  | s :: l, i, n => by
    by_cases h : t = s
    · subst h
      refine ⟨n, ?_⟩
      have hb : (t == t) = true := (Go.MapKept.bytes_beq t t).2 rfl
      simp only [entsFrom, Instr.findNow, Instr.sameNow, List.contains_cons, hb, Bool.true_or, if_true]
    · obtain ⟨j, hj⟩ := find_ents t l (i + 1) (n + 1)
      refine ⟨j, ?_⟩
      have hb : (t == s) = false := by
        cases hq : (t == s) with
        | false => rfl
        | true => exact absurd ((Go.MapKept.bytes_beq t s).1 hq) h
      simp only [entsFrom, Instr.findNow, Instr.sameNow, hb, hj]
      rw [List.contains_cons, hb, Bool.false_or]

theorem check_string (W : World) (t : ByteArray) (b : Bool) : (Instr.checkKey b 10000 9 (.string t)).run Tryz.prog W = .ok () W := by
  unfold Instr.checkKey
  simp only [Sem.run_bind, run_underlying Tryz.underlying9, Result.andThen_ok, Sem.run_pure]

theorem find_words (W : World) (t : ByteArray) (l : List ByteArray) : ∃ j, (Instr.findKey 9 (.string t) (entsFrom l 0)).run Tryz.prog W = .ok (if l.contains t then some (j, .int .i64 5) else none) W := by
  obtain ⟨j, hj⟩ := find_ents t l 0 0
  refine ⟨j, ?_⟩
  simp [Instr.findKey, go_sem, hj]

theorem zero3 (W : World) : (zeroValue 3).run Tryz.prog W = .ok (.int .i64 0) W := by kernel_rfl

theorem look_words (W : World) (mb k : Nat) (t : ByteArray) (h : W.heap[mb]? = some (.map (wordEs k) k)) :
    (Instr.lookup 116 (.map (some mb)) (.string t) true).run Tryz.prog W = .ok (.tuple #[.int .i64 (if (wordBs.take k).contains t then 5 else 0), .bool ((wordBs.take k).contains t)]) W := by
  obtain ⟨j, hj⟩ := find_words W t (wordBs.take k)
  have hg : (getObj mb).run Tryz.prog W = .ok (.map (wordEs k) k) W := by simp [getObj, Sem.run, h]
  have hc := check_string W t (wordEs k).isEmpty
  have hz := zero3 W
  have hl : (wordEs k).toList = entsFrom (wordBs.take k) 0 := rfl
  cases hcon : (wordBs.take k).contains t with
  | true =>
    rw [hcon] at hj
    simp [Instr.lookup, go_sem, hg, hc, hl, hj, Result.andThen]
  | false =>
    rw [hcon] at hj
    simp [Instr.lookup, go_sem, hg, hc, hl, hj, hz, Result.andThen]

theorem entsFrom_append (a : List ByteArray) (x : ByteArray) (i : Nat) : entsFrom (a ++ [x]) i = entsFrom a i ++ [{ key := .string x, val := .int .i64 5, born := i + a.length }] := by
  induction a generalizing i with
  | nil => rfl
  | cons s a ih =>
    simp only [List.cons_append, entsFrom, ih, List.length_cons]
    rw [show i + 1 + a.length = i + (a.length + 1) from by omega]

theorem store_word (W : World) (mb k : Nat) (x : ByteArray) (h : W.heap[mb]? = some (.map (wordEs k) k)) (hk : k < 15) (hx : wordBs[k]? = some x) :
    (Instr.mapUpdate 116 (.map (some mb)) (.string x) (.int .i64 5)).run Tryz.prog W = .ok () (W.putObj mb (.map (wordEs (k + 1)) (k + 1))) := by
  obtain ⟨j, hj⟩ := find_words W x (wordBs.take k)
  have hn : (wordBs.take k).contains x = false := by
    have h15 : ∀ i : Fin 15, (wordBs.take i.1).contains (wordBs.getD i.1 default) = false := by decide +kernel
    have := h15 ⟨k, hk⟩
    rw [List.getD_eq_getElem?_getD, hx] at this
    exact this
  rw [hn] at hj
  have hg : (getObj mb).run Tryz.prog W = .ok (.map (wordEs k) k) W := by simp [getObj, Sem.run, h]
  have hc := check_string W x false
  have hl : (wordEs k).toList = entsFrom (wordBs.take k) 0 := rfl
  have hs : (setObj mb (.map (wordEs (k + 1)) (k + 1))).run Tryz.prog W = .ok () (W.putObj mb (.map (wordEs (k + 1)) (k + 1))) := by simp [setObj, Sem.run, h, World.putObj]
  have hp : (wordEs k).push { key := .string x, val := .int .i64 5, born := k } = wordEs (k + 1) := by
    have ht : wordBs.take (k + 1) = wordBs.take k ++ [x] := by
      rw [List.take_add_one, hx]; rfl
    unfold wordEs
    rw [ht, entsFrom_append, List.push_toArray]
    have hlen : (wordBs.take k).length = k := by
      rw [List.length_take]; exact Nat.min_eq_left (Nat.le_of_lt (by simpa [wordBs] using hk))
    rw [hlen, Nat.zero_add]
  simp [Instr.mapUpdate, go_sem, hg, hc, hl, hj, Result.andThen, hp, hs]

theorem word_at (W : World) (k : Nat) (x : ByteArray) (hx : wordBs[k]? = some x) : (Instr.index 223 (.agg (wordBs.map Value.string).toArray) (.int .i64 k)).run Tryz.prog W = .ok (.string x) W := by
  have hk : k < 15 := by
    rcases Nat.lt_or_ge k 15 with h | h
    · exact h
    · rw [List.getElem?_eq_none (by simpa [wordBs] using h)] at hx; cases hx
  have e : x = wordBs.getD k default := by rw [List.getD_eq_getElem?_getD, hx]; rfl
  rw [e]
  clear e hx
  obtain h | h : k = 0 ∨ k ≠ 0 := Decidable.em _
  · subst h; refine Eq.trans ?_ rfl; kernel_rfl
  obtain h | h : k = 1 ∨ k ≠ 1 := Decidable.em _
  · subst h; refine Eq.trans ?_ rfl; kernel_rfl
  obtain h | h : k = 2 ∨ k ≠ 2 := Decidable.em _
  · subst h; refine Eq.trans ?_ rfl; kernel_rfl
  obtain h | h : k = 3 ∨ k ≠ 3 := Decidable.em _
  · subst h; refine Eq.trans ?_ rfl; kernel_rfl
  obtain h | h : k = 4 ∨ k ≠ 4 := Decidable.em _
  · subst h; refine Eq.trans ?_ rfl; kernel_rfl
  obtain h | h : k = 5 ∨ k ≠ 5 := Decidable.em _
  · subst h; refine Eq.trans ?_ rfl; kernel_rfl
  obtain h | h : k = 6 ∨ k ≠ 6 := Decidable.em _
  · subst h; refine Eq.trans ?_ rfl; kernel_rfl
  obtain h | h : k = 7 ∨ k ≠ 7 := Decidable.em _
  · subst h; refine Eq.trans ?_ rfl; kernel_rfl
  obtain h | h : k = 8 ∨ k ≠ 8 := Decidable.em _
  · subst h; refine Eq.trans ?_ rfl; kernel_rfl
  obtain h | h : k = 9 ∨ k ≠ 9 := Decidable.em _
  · subst h; refine Eq.trans ?_ rfl; kernel_rfl
  obtain h | h : k = 10 ∨ k ≠ 10 := Decidable.em _
  · subst h; refine Eq.trans ?_ rfl; kernel_rfl
  obtain h | h : k = 11 ∨ k ≠ 11 := Decidable.em _
  · subst h; refine Eq.trans ?_ rfl; kernel_rfl
  obtain h | h : k = 12 ∨ k ≠ 12 := Decidable.em _
  · subst h; refine Eq.trans ?_ rfl; kernel_rfl
  obtain h | h : k = 13 ∨ k ≠ 13 := Decidable.em _
  · subst h; refine Eq.trans ?_ rfl; kernel_rfl
  obtain h | h : k = 14 ∨ k ≠ 14 := Decidable.em _
  · subst h; refine Eq.trans ?_ rfl; kernel_rfl
  omega
end Go.Proofs.YtnkahlloahgifaaGreatDoor.Lx
