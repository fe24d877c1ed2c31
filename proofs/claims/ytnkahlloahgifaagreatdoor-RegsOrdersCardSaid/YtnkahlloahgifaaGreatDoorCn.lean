/- Delete of one move: walked. -/
import Derived.Test.YtnkahlloahgifaaGreatDoorCm
import Derived.Shelf.RegionOpenPlain
set_option linter.unusedSimpArgs false
set_option linter.unusedVariables false
namespace Go.Proofs.YtnkahlloahgifaaGreatDoor
open Go.RowKit RG Go.Maps

theorem mvCells_drop : ∀ (l : List RM.Mv) (i : Nat), mvCells (l.drop i) = (mvCells l).drop (i * 2)
  | [], i => by simp [mvCells]
  | a :: l, 0 => rfl
  | a :: l, i + 1 => by
    have e : mvCells (a :: l) = .int .i64 a.1 :: .int .i64 a.2 :: mvCells l := rfl
    rw [List.drop_succ_cons, mvCells_drop l i, e, show (i + 1) * 2 = i * 2 + 1 + 1 from by omega, List.drop_succ_cons, List.drop_succ_cons]
theorem eraseIdx_eq (l : List RM.Mv) (i : Nat) : l.eraseIdx i = l.take i ++ l.drop (i + 1) := List.eraseIdx_eq_take_drop_succ l i

set_option maxHeartbeats 4000000 in
set_option maxRecDepth 20000 in
theorem delete_any {w : World} {g : Nat} {v : Value} {l : List RM.Mv} {i j : Nat} (hj : j = i + 1) (h : RestAt w g v l) (hi : i < l.length) (hl : l.length ≤ 1000000) :
    Calls Tryz.prog 76 #[v, .int .i64 (i : Int), .int .i64 (j : Int)] w (DfP w g (l.eraseIdx i)) := by
  rcases h with ⟨rfl, _⟩ | ⟨cp, f, rfl, h1, h2, h3, h4⟩
  · simp at hi
  obtain ⟨i1, hi1, hz0, hz1, hz2⟩ := info_parts Tryz.info81
  obtain ⟨n, hn⟩ : ∃ n, n = l.length := ⟨_, rfl⟩
  rw [← hn] at hi hl h1 ⊢
  have HN := Lib.hid hn
  have hiz : (i : Int) < n := by omega
  have hi1z : (j : Int) ≤ n := by omega
  have hij : (i : Int) ≤ j := by omega
  have hj0 : (0 : Int) ≤ j := by omega
  have hjcz : (j : Int) ≤ cp := by omega
  have hicz : (i : Int) ≤ cp := by omega
  have hnz : (n : Int) ≤ 1000000 := by omega
  have hi0 : (0 : Int) ≤ i := by omega
  have hnc : (n : Int) ≤ cp := by omega
  have hne : ((i : Int) == j) = false := by rw [beq_eq_false_iff_ne]; omega
  obtain ⟨news, hnews⟩ : ∃ news, news = mvCells (l.drop j) := ⟨_, rfl⟩
  have hlen : news.length = (n - j) * 2 := by rw [hnews, mvCells_length, List.length_drop, hn]
  have hcell : ∀ c u, (mvCells l)[c]? = some u → w.cell? ⟨g, c, none⟩ = some u := fun c u hu => by
    have hc := (List.getElem?_eq_some_iff.1 hu).1
    rw [mvCells_length] at hc
    rw [h3.cell (by omega), h4 c u hu]
  obtain ⟨A, hA, hsrc⟩ : ∃ A : Addr, (if cp = j then some (⟨g, 0, none⟩ : Addr) else some ⟨g, j * 2, none⟩) = some A ∧ Hid (∀ t u, news[t]? = some u → w.drew.cell? (A.add t) = some u) := by
    by_cases hc : cp = j
    · refine ⟨_, if_pos hc, fun t u hu => ?_⟩
      have := (List.getElem?_eq_some_iff.1 hu).1
      omega
    · refine ⟨_, if_neg hc, fun t u hu => ?_⟩
      rw [Addr.add_lit]
      refine hcell _ u ?_
      rw [hnews, mvCells_drop, List.getElem?_drop] at hu
      exact hu
  have s2 : Hid (∀ u ∈ news, u.oneCell' = true) := fun u hu => by rw [hnews] at hu; exact mvCells_one hu
  have s1 := Lib.hid hlen
  have s3 : Hid (∀ t, t < news.length → (w.drew.cell? ⟨g, 0 + i * 2 + t, none⟩).isSome = true ∧ w.drew.frozen? ⟨g, 0 + i * 2 + t, none⟩ = false) := fun t ht => by
    rw [hlen] at ht
    refine ⟨?_, h3.frozen _⟩
    show (w.cell? _).isSome = true
    rw [h3.cell (by omega)]; rfl
  obtain ⟨W1, hW1⟩ : ∃ W1, W1 = w.drew.setCells g (0 + i * 2) news := ⟨_, rfl⟩
  obtain ⟨f1, hR1, hf1⟩ : ∃ f1, W1.rowIs g 81 (cp * 2) f1 ∧ ∀ j, f1 j = if 0 + i * 2 ≤ j ∧ j < 0 + i * 2 + news.length then news[j - (0 + i * 2)]?.getD default else f j := ⟨_, by rw [hW1]; exact rowIs_setCells news (0 + i * 2) w.drew f h3.drew, fun j => rfl⟩
  obtain ⟨q, hq⟩ : ∃ q, i + (n - j) = q := ⟨_, rfl⟩
  have HQ := Lib.hid hq
  have hqn : q < n := by omega
  have hqj : n - q = j - i := by omega
  have hcl : ∀ ty, (Builtin.clear_ #[74] ty #[.slice (some ⟨g, q * 2, none⟩) (n - q) (cp - q)]).run Tryz.prog W1 = .ok (.tuple #[]) (W1.setCells g (q * 2) (List.replicate ((n - q) * 2) (.int .i64 0))) := fun ty =>
    run_clear2 W1 74 ty Tryz.underlying74 g _ _ _ (by omega) (fun c hc => by rw [Nat.zero_add] at *; rw [hR1.cell (by omega)]; rfl) (fun c hc => hR1.frozen _)
  have hqc : q < cp := by omega
  have hqz : (q : Int) ≤ n := by omega
  have hq0 : (0 : Int) ≤ q := by omega
  have G1 : Hid (w.grownBy W1 (some g)) := by
    show w.grownBy W1 (some g)
    have h := grown_setCells g news (0 + i * 2) w.drew
    rw [hW1]
    exact ⟨h.os, h.tape, h.output, h.size, h.block⟩
  have hW : Hid (W1 = w.drew.setCells g (0 + i * 2) news) := hW1
  have R1 := Lib.hid hR1
  have F1 := Lib.hid hf1
  have HNW := Lib.hid hnews
  have HI := Lib.hid (And.intro hi1 (And.intro hz0 (And.intro hz1 hz2)))
  clear hi1 hz0 hz1 hz2 hW1 hR1 hf1 hcell hlen hnews hq hqj
  have H4 := Lib.hid h4
  have H3 := Lib.hid h3
  have H2 := Lib.hid h2
  have H1 : Hid (i < j ∧ j ≤ n ∧ n ≤ cp) := by show _ ∧ _; omega
  have HJ := Lib.hid hj
  have mixed : Tryz.prog.follows .mixedOrders = true := by kernel_rfl
  clear h2 h3 h4 h1 hj hn
  go_enter Tryz.func76, Tryz.ntmps76
  go_wp2_with fail
  go_region_law_o (refine step_append_room rfl (.tmp 22) (.tmp 25) 74 rfl 81 i1 2 Tryz.underlying74 HI.out.1 HI.out.2.2.1 g 0 i cp (by simp [Act.eval, Act.put]) A (n - j) (cp - j) news (by simp [Act.eval, Act.put]) s1.out hsrc.out s2.out (by have := H1.out; omega) s3.out ?_; rw [← hW.out, HQ.out])
  go_wp2_with fail
  go_ret
  have hn2 : (l.eraseIdx i).length = q := by
    have h1 := H1.out; have h2 := HN.out; have h3 := HJ.out; have h4 := HQ.out
    rw [List.length_eraseIdx_of_lt (by omega)]; omega
  refine ⟨_, rfl, .inr ⟨cp, _, by rw [hn2]; rfl, by rw [hn2]; omega, H2.out, rowIs_setCells _ (q * 2) W1 f1 R1.out, fun c u hu => ?_⟩, grown_trans G1.out (grown_setCells g _ (q * 2) W1) (fun r e => by simp at e; exact .inl e.symm)⟩
  have hc := (List.getElem?_eq_some_iff.1 hu).1
  rw [mvCells_length, hn2] at hc
  show (if q * 2 ≤ c ∧ _ then _ else f1 c) = u
  rw [if_neg (by omega), F1.out]
  rw [eraseIdx_eq, mvCells_append] at hu
  have htl : (mvCells (l.take i)).length = i * 2 := by rw [mvCells_length, List.length_take]; have := HN.out; omega
  by_cases hci : c < i * 2
  · rw [if_neg (by omega)]
    rw [List.getElem?_append_left (by omega)] at hu
    refine H4.out c u ?_
    have : mvCells l = mvCells (l.take i) ++ mvCells (l.drop i) := by rw [← mvCells_append, List.take_append_drop]
    rw [this, List.getElem?_append_left (by omega)]
    exact hu
  · have hnl : news.length = (n - j) * 2 := s1.out
    have := HQ.out
    rw [if_pos (by omega), Nat.zero_add]
    rw [List.getElem?_append_right (by omega), htl, ← HJ.out, ← HNW.out] at hu
    rw [hu]; rfl
end Go.Proofs.YtnkahlloahgifaaGreatDoor
