/- Order: laws for its walk. -/
import Derived.Test.YtnkahlloahgifaaGreatDoorCn
set_option linter.unusedSimpArgs false
set_option linter.unusedVariables false
namespace RM

theorem ord_nil (spare : Int) (out : List Mv) : ordN spare (mu [] + 1) [] out = out := rfl
theorem ord_free {spare : Int} {rest out : List Mv} {i : Nat} {m : Mv} (hF : Fit spare rest) (hi : rest.findIdx (free rest) = i) (hm : rest[i]? = some m) :
    ordN spare (mu rest + 1) rest out = ordN spare (mu (rest.eraseIdx i) + 1) (rest.eraseIdx i) (out ++ [m]) ∧ mu (rest.eraseIdx i) < mu rest ∧ Fit spare (rest.eraseIdx i) := by
  have hl := (List.getElem?_eq_some_iff.1 hm).1
  have ha : anyFree rest = true := (findIdx_lt_iff rest).1 (by rw [hi]; exact hl)
  have hmu := mu_erase hl
  refine ⟨?_, hmu, hF.erase i⟩
  cases rest with
  | nil => simp at hl
  | cons x r =>
    rw [ordN_free spare ha, hi]
    have e : (x :: r).getD i (0, 0) = m := by rw [List.getD_eq_getElem?_getD, hm]; rfl
    rw [e]
    exact ordN_fuel _ _ _ _ (hF.erase i) hmu (Nat.lt_succ_self _)
theorem ord_turn {spare : Int} {m : Mv} {r out : List Mv} (hF : Fit spare (m :: r)) (h : ¬ (m :: r).findIdx (free (m :: r)) < (m :: r).length) :
    ordN spare (mu (m :: r) + 1) (m :: r) out = ordN spare (mu (turn spare m.1 (m :: r)) + 1) (turn spare m.1 (m :: r)) (out ++ [(spare, m.1)]) ∧ mu (turn spare m.1 (m :: r)) < mu (m :: r) ∧ Fit spare (turn spare m.1 (m :: r)) := by
  have ha : anyFree (m :: r) = false := by
    cases hq : anyFree (m :: r) with
    | false => rfl
    | true => exact absurd ((findIdx_lt_iff _).2 hq) h
  have hmu := mu_turn hF ha
  refine ⟨?_, hmu, hF.turn _⟩
  rw [ordN_turn spare ha]
  exact ordN_fuel _ _ _ _ (hF.turn _) hmu (Nat.lt_succ_self _)

/-- The turning of a cycle, under way. -/
def part (spare kept : Int) (k : Nat) (rest : List Mv) : List Mv := (rest.take k).map (fun o => if o.2 = kept then (o.1, spare) else o) ++ rest.drop k
theorem part_zero (spare kept : Int) (rest : List Mv) : part spare kept 0 rest = rest := rfl
theorem part_all (spare kept : Int) (rest : List Mv) : part spare kept rest.length rest = turn spare kept rest := by unfold part turn; simp
theorem part_length (spare kept : Int) (k : Nat) (rest : List Mv) : (part spare kept k rest).length = rest.length := by unfold part; simp; omega
theorem part_at {spare kept : Int} {k : Nat} {rest : List Mv} {m : Mv} (h : rest[k]? = some m) : (part spare kept k rest)[k]? = some m := by
  have hk := (List.getElem?_eq_some_iff.1 h).1
  unfold part
  rw [List.getElem?_append_right (by simp; omega)]
  simp only [List.length_map, List.length_take, List.getElem?_drop]
  rw [show k + (k - min k rest.length) = k from by omega]; exact h
theorem part_succ {spare kept : Int} {k : Nat} {rest : List Mv} {m : Mv} (h : rest[k]? = some m) : part spare kept (k + 1) rest = if m.2 = kept then (part spare kept k rest).set k (m.1, spare) else part spare kept k rest := by
  have hk := (List.getElem?_eq_some_iff.1 h).1
  have e : rest.drop k = m :: rest.drop (k + 1) := by
    rw [List.drop_eq_getElem_cons hk]; congr 1; exact (List.getElem?_eq_some_iff.1 h).2
  have hl : ((rest.take k).map fun o => if o.2 = kept then (o.1, spare) else o).length = k := by simp; omega
  unfold part
  rw [List.take_add_one, h, e]
  simp only [Option.toList_some, List.map_append, List.map_cons, List.map_nil, List.append_assoc, List.singleton_append]
  split
  · rw [List.set_append_right _ _ (by omega), hl, Nat.sub_self]; rfl
  · rfl
end RM
namespace Go.Proofs.YtnkahlloahgifaaGreatDoor
open Go.RowKit RG Go.Maps

theorem mvCells_set : ∀ (l : List RM.Mv) (i : Nat) (m : RM.Mv) (c : Int), l[i]? = some m → mvCells (l.set i (m.1, c)) = (mvCells l).set (i * 2 + 1) (.int .i64 c)
  | [], i, m, c, h => by simp at h
  | a :: l, 0, m, c, h => by
    simp at h
    subst h
    rfl
  | a :: l, i + 1, m, c, h => by
    have e : ∀ l : List RM.Mv, mvCells (a :: l) = .int .i64 a.1 :: .int .i64 a.2 :: mvCells l := fun _ => rfl
    rw [List.set_cons_succ, e, e, mvCells_set l i m c (by simpa using h), show (i + 1) * 2 + 1 = i * 2 + 1 + 1 + 1 from by omega, List.set_cons_succ, List.set_cons_succ]

theorem RestAt.setFrom {w : World} {g : Nat} {v : Value} {l : List RM.Mv} {i : Nat} {m : RM.Mv} {c : Int} (h : RestAt w g v l) (hm : l[i]? = some m) : RestAt (w.setCell ⟨g, i * 2 + 1, none⟩ (.int .i64 c)) g v (l.set i (m.1, c)) := by
  have hi := (List.getElem?_eq_some_iff.1 hm).1
  rcases h with ⟨rfl, _⟩ | ⟨cp, f, rfl, h1, h2, h3, h4⟩
  · simp at hi
  · refine .inr ⟨cp, _, by rw [List.length_set], by rw [List.length_set]; exact h1, h2, h3.set (i * 2 + 1) _, fun j u hu => ?_⟩
    rw [mvCells_set l i m c hm] at hu
    show (if j = i * 2 + 1 then _ else f j) = u
    by_cases e : j = i * 2 + 1
    · subst e
      rw [if_pos rfl]
      rw [List.getElem?_set_self (by rw [mvCells_length]; omega)] at hu
      exact Option.some.inj hu
    · rw [if_neg e]
      rw [List.getElem?_set_ne (fun h => e h.symm)] at hu
      exact h4 j u hu

theorem MvOwn.keep {w w' : World} {B : Nat} {v : Value} {l : List RM.Mv} (h : MvOwn w B v l) (hk : ∀ k, B ≤ k → k < w.heap.size → w'.heap[k]? = w.heap[k]?) : MvOwn w' B v l := by
  obtain ⟨h1, h2⟩ := h
  refine ⟨h1, ?_⟩
  rcases h2 with h2 | ⟨g, cap, cur, rfl, hb, hg, rest⟩
  · exact .inl h2
  · exact .inr ⟨g, cap, cur, rfl, hb, (hk g hb (Array.getElem?_eq_some_iff.1 hg).1).trans hg, rest⟩

theorem MvOwn.shape {w : World} {B : Nat} {v : Value} {l : List RM.Mv} (h : MvOwn w B v l) : ∃ a c, v = .slice a l.length c := by
  rcases h.2 with ⟨rfl, h0⟩ | ⟨g, cap, cur, rfl, _⟩
  · exact ⟨none, 0, by rw [h0]⟩
  · exact ⟨_, _, rfl⟩
theorem RestAt.shape {w : World} {g : Nat} {v : Value} {l : List RM.Mv} (h : RestAt w g v l) : ∃ a c, v = .slice a l.length c := by
  rcases h with ⟨rfl, rfl⟩ | ⟨cp, f, rfl, _⟩
  · exact ⟨none, 0, rfl⟩
  · exact ⟨_, _, rfl⟩
theorem RestAt.full {w : World} {g : Nat} {v : Value} {l : List RM.Mv} (h : RestAt w g v l) (h0 : 0 < l.length) : ∃ cp, v = .slice (some ⟨g, 0, none⟩) l.length cp ∧ (∀ (i : Nat) m, l[i]? = some m → w.cell? ⟨g, i * 2, none⟩ = some (.int .i64 m.1) ∧ w.cell? ⟨g, i * 2 + 1, none⟩ = some (.int .i64 m.2)) ∧ ∀ i, w.frozen? ⟨g, i, none⟩ = false := by
  rcases h with ⟨rfl, rfl⟩ | ⟨cp, f, rfl, h1, h2, h3, h4⟩
  · simp at h0
  · refine ⟨cp, rfl, fun i m hm => ?_, fun i => h3.frozen i⟩
    have hi := (List.getElem?_eq_some_iff.1 hm).1
    obtain ⟨a, b⟩ := mvCells_at l i m hm
    exact ⟨by rw [h3.cell (by omega), h4 _ _ a], by rw [h3.cell (by omega), h4 _ _ b]⟩
end Go.Proofs.YtnkahlloahgifaaGreatDoor
