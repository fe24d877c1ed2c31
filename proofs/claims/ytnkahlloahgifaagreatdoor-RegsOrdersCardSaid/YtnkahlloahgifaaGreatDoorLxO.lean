/- Append of one element onto a row of one's own: the old block, or the next new one. -/
import Derived.Deep.DeepAppendWide
import Derived.WalkKit
set_option linter.unusedSimpArgs false
set_option linter.unusedVariables false
namespace Go.Proofs.YtnkahlloahgifaaGreatDoor.Lx
open Go.RowKit

theorem append_one {P : Program} (w : World) (base : Nat) (t ty e : TypeId) (i : TypeInfo) (z : Value) (size bytes : Nat) (ht : P.underlying t = some (.slice e)) (hi : P.info? e = some i) (hz : i.zero = some z)
    (hsize : i.size = size) (hby : i.bytes = bytes) (hzs : z.cells.size = size) (hsz : 0 < size)
    (v : Value) (n : Nat) (xs : List Value) (hown : w.ownsRow base e size v n xs)
    (a : Addr) (c : Nat) (news : List Value) (hl : news.length = size) (hnews : ∀ j u, news[j]? = some u → w.cell? (a.add j) = some u) (h1 : ∀ u ∈ news, u.oneCell' = true)
    (hn : n < 1000000000) (hbt : bytes ≤ 1000) (hbase : base ≤ w.heap.size) :
    ∃ v' w', (Builtin.append_ #[t, t] ty #[v, .slice (some a) 1 c]).run P w = .ok v' w' ∧ w'.ownsRow base e size v' (n + 1) (xs ++ news) ∧ w.grownBy w' v.ownBlock ∧
      (v'.ownBlock = some w.heap.size ∨ (v'.ownBlock = v.ownBlock ∧ v.ownBlock.isSome = true)) := by
  have hb2 : ((n + 1) + (n + 1) / 4 + 192) * bytes ≤ 281474976710656 := by
    have h : ((n + 1) + (n + 1) / 4 + 192) * bytes ≤ 2000000000 * 1000 := Nat.mul_le_mul (by omega) hbt
    omega
  obtain ⟨v', w', hr, h2, h3, h4⟩ := run_append_own_wide (P := P) w base t ty e i z size bytes ht hi hz hsize hby hzs hsz v n xs hown a 1 c news (by omega) hnews h1 (by simp only [maxLen]; omega) hb2 hbase
  refine ⟨v', w', hr, h2, h3, ?_⟩
  subst hsize
  subst hby
  rcases hown.2 with ⟨rfl, rfl⟩ | ⟨g, cap, cur, rfl, hbg, hg, hnc, hcm, hcs, htake⟩
  · have hrun := run_append_nil (P := P) w t ty e i z ht hi hz a 1 c news (by omega) hnews (by omega) (by omega) (by omega)
    rw [hr] at hrun
    cases hrun
    exact .inl rfl
  · by_cases hroom : n + 1 ≤ cap
    · have hrun := run_append_room (P := P) w t ty e i ht hi g n cap cur hg a 1 c news (by omega) hnews h1 hroom (by
        rw [hcs, hl]
        have : (n + 1) * i.size ≤ cap * i.size := Nat.mul_le_mul_right _ hroom
        rw [Nat.add_mul] at this
        omega)
      rw [hr] at hrun
      cases hrun
      exact .inr ⟨rfl, rfl⟩
    · have holds : ∀ j u, xs[j]? = some u → w.cell? ((⟨g, 0, none⟩ : Addr).add j) = some u := by
        intro j u hu
        have hj : j < n * i.size := by rw [← hown.1]; exact (List.getElem?_eq_some_iff.1 hu).1
        rw [Addr.add_lit, cell_of_row w g (0 + j) cur e (0, 0) hg, Nat.zero_add, ← Array.getElem?_toList]
        rw [← htake, List.getElem?_take, if_pos hj] at hu
        exact hu
      have hrun := run_append_grow (P := P) w t ty e i z ht hi hz ⟨g, 0, none⟩ n cap xs hown.1 holds a 1 c news (by omega) hnews (by omega) (by omega)
        (growslice_fits_wide (by omega) hb2)
      rw [hr] at hrun
      cases hrun
      exact .inl rfl
end Go.Proofs.YtnkahlloahgifaaGreatDoor.Lx
