/- Same: walked. -/
import Derived.Test.YtfoijbcmjciihaaDoorTk
set_option linter.unusedSimpArgs false
set_option linter.unusedVariables false
namespace Go.Proofs.YtfoijbcmjciihaaDoor
open Go.RowKit

def eqT (a b : Tkv) : Bool := decide (a.k = b.k ∧ a.v = b.v ∧ a.tx = b.tx)

def sameT : List Tkv → List Tkv → Bool
  | [], [] => true
  | a :: xs, b :: bs => eqT a b && sameT xs bs
  | _, _ => false

theorem sameT_length : ∀ {xs bs : List Tkv}, sameT xs bs = true → xs.length = bs.length
  | [], [], _ => rfl
  | a :: xs, b :: bs, h => by
    rw [sameT, Bool.and_eq_true] at h
    rw [List.length_cons, List.length_cons, sameT_length h.2]
  | [], _ :: _, h => by cases h
  | _ :: _, [], h => by cases h

theorem bytes_ne {s t : ByteArray} (h : ¬ s = t) : (s.toList == t.toList) = false := beq_false_of_ne fun e => h (by
  rw [ByteArray.toList_eq, ByteArray.toList_eq] at e
  exact bts_inj (by unfold bts; rw [e]))

set_option maxHeartbeats 1000000 in
theorem same1_any (w : World) (k v p k' v' p' : Int) (tx tx' : ByteArray) :
    Calls Tryd.prog 43 #[.agg #[.int .i64 k, .int .i64 v, .string tx, .int .i64 p], .agg #[.int .i64 k', .int .i64 v', .string tx', .int .i64 p']] w fun e w' => e = .returned (.bool (decide (k = k' ∧ v = v' ∧ tx = tx'))) ∧ Below w.heap.size w w' := by
  by_cases h1 : k = k'
  · subst h1
    by_cases h2 : v = v'
    · subst h2
      by_cases h3 : tx = tx'
      · subst h3
        rw [show decide (k = k ∧ v = v ∧ tx = tx) = true from by simp]
        go_enter Tryd.func43, Tryd.ntmps43
        go_wp2_with fail
        go_ret
        exact ⟨rfl, ((Below.refl _ _).alloc (Nat.le_refl _) _).alloc (by simp) _⟩
      · rw [show decide (k = k ∧ v = v ∧ tx = tx') = false from by simp [h3]]
        have e3 := bytes_ne h3
        clear h3
        go_enter Tryd.func43, Tryd.ntmps43
        go_wp2_with fail
        go_ret
        exact ⟨rfl, ((Below.refl _ _).alloc (Nat.le_refl _) _).alloc (by simp) _⟩
    · rw [show decide (k = k ∧ v = v' ∧ tx = tx') = false from by simp [h2]]
      have e2 : (v == v') = false := by simpa using h2
      clear h2
      go_enter Tryd.func43, Tryd.ntmps43
      go_wp2_with fail
      go_ret
      exact ⟨rfl, ((Below.refl _ _).alloc (Nat.le_refl _) _).alloc (by simp) _⟩
  · rw [show decide (k = k' ∧ v = v' ∧ tx = tx') = false from by simp [h1]]
    have e1 : (k == k') = false := by simpa using h1
    clear h1
    go_enter Tryd.func43, Tryd.ntmps43
    go_wp2_with fail
    go_ret
    exact ⟨rfl, ((Below.refl _ _).alloc (Nat.le_refl _) _).alloc (by simp) _⟩

theorem tkS_cell {W : World} {ad : Option Addr} {n c : Nat} {ts : List Tkv} (h : TkS W (.slice ad n c) ts) {i : Nat} {t : Tkv} (ht : ts[i]? = some t) : ∃ g off, ad = some ⟨g, off, none⟩ ∧ g < W.heap.size ∧
    W.cell? ⟨g, off + i * 4, none⟩ = some (.int .i64 t.k) ∧ W.cell? ⟨g, off + i * 4 + 1, none⟩ = some (.int .i64 t.v) ∧ W.cell? ⟨g, off + i * 4 + 2, none⟩ = some (.string t.tx) ∧ W.cell? ⟨g, off + i * 4 + 3, none⟩ = some (.int .i64 t.p) := by
  obtain ⟨a, c', he, _, h2⟩ := h.shape
  simp only [Value.slice.injEq] at he
  obtain ⟨rfl, _, _⟩ := he
  obtain ⟨g, off, rfl, hg, h3⟩ := h2 (fun e => by rw [e] at ht; cases ht)
  exact ⟨g, off, rfl, hg, h3 i t ht⟩

theorem TkS.len {W : World} {ad : Option Addr} {n c : Nat} {ts : List Tkv} (h : TkS W (.slice ad n c) ts) : n = ts.length ∧ n ≤ c := by
  obtain ⟨a, c', he, hc, _⟩ := h.shape
  simp only [Value.slice.injEq] at he
  omega

def SamePost (w : World) (xs bs : List Tkv) (e : Ending) (w' : World) : Prop := e = .returned (.bool (sameT xs bs)) ∧ Below w.heap.size w w'
end Go.Proofs.YtfoijbcmjciihaaDoor
