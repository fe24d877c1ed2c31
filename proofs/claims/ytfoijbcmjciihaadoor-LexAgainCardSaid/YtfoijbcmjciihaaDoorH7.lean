/- LexLines: walked. -/
import Derived.Test.YtfoijbcmjciihaaDoorSb
set_option linter.unusedSimpArgs false
set_option linter.unusedVariables false
namespace Go.Proofs.YtfoijbcmjciihaaDoor
open Go.RowKit

theorem mod_any (w : World) (n m : Int) (hn : -9223372036854775808 ≤ n ∧ n ≤ 9223372036854775807) (h0 : 0 < m) (hm : m < 4000000000000000000) :
    Calls Tryd.prog 22 #[.int .i64 n, .int .i64 m] w fun e w' => e = .returned (.int .i64 (n % m)) ∧ w' = w := by
  have hb : -m < n.tmod m ∧ n.tmod m < m := by
    have h1 := Int.tmod_lt_of_pos n h0
    have h2 := Int.lt_tmod_of_pos n h0
    omega
  have e1 : n % m = if n.tmod m < 0 then n.tmod m + m else n.tmod m := by
    have h1 := Int.emod_eq_tmod (a := n) (b := m)
    have h2 := Int.emod_nonneg n (show m ≠ 0 by omega)
    have h3 := Int.emod_lt_of_pos n h0
    have h4 : (m.natAbs : Int) = m := by omega
    by_cases hneg : n.tmod m < 0
    · rw [if_pos hneg]
      split at h1 <;> omega
    · rw [if_neg hneg]
      split at h1 <;> omega
  by_cases hneg : n.tmod m < 0
  · rw [e1, if_pos hneg]
    go_enter Tryd.func22, Tryd.ntmps22
    go_wp2
    go_ret
    exact ⟨rfl, rfl⟩
  · rw [e1, if_neg hneg]
    go_enter Tryd.func22, Tryd.ntmps22
    go_wp2
    go_ret
    exact ⟨rfl, rfl⟩
theorem fits64 {n : Int} (h : (Lit.int .i64 n).wf = true) : -9223372036854775808 ≤ n ∧ n ≤ 9223372036854775807 := by
  simpa [Lit.wf, IntKind.min, IntKind.max, IntKind.signed, IntKind.bits] using h


/-- True, and what lay there lies there. -/
def TrueP (w : World) (e : Ending) (w' : World) : Prop := e = .returned (.bool true) ∧ Below w.heap.size w w'

set_option maxHeartbeats 1000000 in
set_option maxRecDepth 20000 in
theorem lines_walk {w : World} (henv : Env w) (s : ByteArray) (hmax : s.size ≤ 9223372036854775807) (i j : Int) (hi : -9223372036854775808 ≤ i ∧ i ≤ 9223372036854775807) (hj : -9223372036854775808 ≤ j ∧ j ≤ 9223372036854775807) :
    Calls Tryd.prog 7 #[.string s, .int .i64 i, .int .i64 j] w (TrueP w) := by
  have SA := Lib.hid (sane_any henv)
  clear henv
  by_cases hs : 5000 < s.size
  · have hz : (5000 : Int) < (s.size : Int) := by omega
    clear hs
    go_enter Tryd.func7, Tryd.ntmps7
    go_wp2_with fail
    refine SA.out.mono ?_
    rintro e w1 ⟨rfl, hb⟩
    have HB := Lib.hid hb
    clear hb
    go_wp2_with fail
    go_ret
    exact ⟨rfl, HB.out⟩
  · have hz : (s.size : Int) ≤ 5000 := by omega
    obtain ⟨a, ha, has⟩ : ∃ a : Nat, i % ((s.size : Int) + 1) = (a : Int) ∧ a ≤ s.size := by
      have h1 := Int.emod_nonneg i (show ((s.size : Int) + 1) ≠ 0 by omega)
      have h2 := Int.emod_lt_of_pos i (show 0 < ((s.size : Int) + 1) by omega)
      exact ⟨(i % ((s.size : Int) + 1)).toNat, by omega, by omega⟩
    obtain ⟨b, hb, hbs⟩ : ∃ a : Nat, j % ((s.size : Int) + 1) = (a : Int) ∧ a ≤ s.size := by
      have h1 := Int.emod_nonneg j (show ((s.size : Int) + 1) ≠ 0 by omega)
      have h2 := Int.emod_lt_of_pos j (show 0 < ((s.size : Int) + 1) by omega)
      exact ⟨(j % ((s.size : Int) + 1)).toNat, by omega, by omega⟩
    have MA : Hid (∀ W, Calls Tryd.prog 22 #[.int .i64 i, .int .i64 ((s.size : Int) + 1)] W fun e w' => e = .returned (.int .i64 a) ∧ w' = W) := fun W => by
      have := mod_any W i ((s.size : Int) + 1) hi (by omega) (by omega)
      rw [ha] at this
      exact this
    have MB : Hid (∀ W, Calls Tryd.prog 22 #[.int .i64 j, .int .i64 ((s.size : Int) + 1)] W fun e w' => e = .returned (.int .i64 b) ∧ w' = W) := fun W => by
      have := mod_any W j ((s.size : Int) + 1) hj (by omega) (by omega)
      rw [hb] at this
      exact this
    obtain ⟨l, hl⟩ : ∃ l, l = (LX.posP (bts s) a).1 := ⟨_, rfl⟩
    obtain ⟨c, hc⟩ : ∃ l, l = (LX.posP (bts s) a).2 := ⟨_, rfl⟩
    obtain ⟨m, hm⟩ : ∃ l, l = (LX.posP (bts s) b).1 := ⟨_, rfl⟩
    obtain ⟨d, hd⟩ : ∃ l, l = (LX.posP (bts s) b).2 := ⟨_, rfl⟩
    have LA : Hid (∀ W, Calls Tryd.prog 16 #[.string s, .int .i64 a] W fun e w' => e = .returned (.tuple #[.int .i64 l, .int .i64 c, .int .i64 0]) ∧ w' = W) := fun W => by
      rw [hl, hc]; exact line_in W s a has (by omega)
    have LB : Hid (∀ W, Calls Tryd.prog 16 #[.string s, .int .i64 b] W fun e w' => e = .returned (.tuple #[.int .i64 m, .int .i64 d, .int .i64 0]) ∧ w' = W) := fun W => by
      rw [hm, hd]; exact line_in W s b hbs (by omega)
    have hcb : c ≤ 5001 := by
      rw [hc]
      have := col_eq s a has
      rcases Lib.lastIdx_spec s 10 a with ⟨e, _⟩ | ⟨q, _, e, _⟩ <;> omega
    have AA : Hid (∀ W, Calls Tryd.prog 18 #[.string s, .int .i64 l, .int .i64 c] W fun e w' => e = .returned (.tuple #[.int .i64 a, .int .i64 0]) ∧ w' = W) := fun W => by
      have := at_any W s (by omega) l c (by omega)
      rw [hl, hc, LX.atP_posP (by rw [bts_length]; exact has)] at this
      rw [hl, hc]
      exact this
    have ORD : Hid (b ≤ a ∨ l < m ∨ (l = m ∧ c < d)) := by
      show _ ∨ _
      rcases Nat.lt_or_ge a b with h | h
      · have := LX.posP_lt (bts s) a b h (by rw [bts_length]; exact hbs)
        rw [hl, hc, hm, hd]
        exact .inr this
      · exact .inl h
    clear ha has hb hbs hl hc hm hd hcb hi hj hs hmax
    by_cases h1 : b ≤ a
    · have h1z : (b : Int) ≤ (a : Int) := by omega
      clear h1 ORD
      go_enter Tryd.func7, Tryd.ntmps7
      go_wp2_with fail
      refine SA.out.mono ?_
      rintro e w1 ⟨rfl, hb⟩
      have HB := Lib.hid hb
      clear hb
      go_wp2_with fail
      refine (MA.out _).mono ?_
      rintro e w2 ⟨rfl, rfl⟩
      go_wp2_with fail
      refine (MB.out _).mono ?_
      rintro e w3 ⟨rfl, rfl⟩
      go_wp2_with fail
      refine (LA.out _).mono ?_
      rintro e w4 ⟨rfl, rfl⟩
      go_wp2_with fail
      refine (LB.out _).mono ?_
      rintro e w5 ⟨rfl, rfl⟩
      go_wp2_with fail
      refine (AA.out _).mono ?_
      rintro e w6 ⟨rfl, rfl⟩
      go_wp2_with fail
      go_ret
      exact ⟨rfl, HB.out⟩
    · have h1z : (a : Int) < (b : Int) := by omega
      have ORD2 : Hid (l < m ∨ (l = m ∧ c < d)) := by
        show _ ∨ _
        have := ORD.out
        omega
      clear h1 ORD
      by_cases h2 : l < m
      · have h2z : (l : Int) < (m : Int) := by omega
        clear h2 ORD2
        go_enter Tryd.func7, Tryd.ntmps7
        go_wp2_with fail
        refine SA.out.mono ?_
        rintro e w1 ⟨rfl, hb⟩
        have HB := Lib.hid hb
        clear hb
        go_wp2_with fail
        refine (MA.out _).mono ?_
        rintro e w2 ⟨rfl, rfl⟩
        go_wp2_with fail
        refine (MB.out _).mono ?_
        rintro e w3 ⟨rfl, rfl⟩
        go_wp2_with fail
        refine (LA.out _).mono ?_
        rintro e w4 ⟨rfl, rfl⟩
        go_wp2_with fail
        refine (LB.out _).mono ?_
        rintro e w5 ⟨rfl, rfl⟩
        go_wp2_with fail
        refine (AA.out _).mono ?_
        rintro e w6 ⟨rfl, rfl⟩
        go_wp2_with fail
        go_ret
        exact ⟨rfl, HB.out⟩
      · obtain ⟨rfl, h3⟩ : l = m ∧ c < d := by have := ORD2.out; omega
        have h3z : (c : Int) < (d : Int) := by omega
        clear h2 h3 ORD2
        go_enter Tryd.func7, Tryd.ntmps7
        go_wp2_with fail
        refine SA.out.mono ?_
        rintro e w1 ⟨rfl, hb⟩
        have HB := Lib.hid hb
        clear hb
        go_wp2_with fail
        refine (MA.out _).mono ?_
        rintro e w2 ⟨rfl, rfl⟩
        go_wp2_with fail
        refine (MB.out _).mono ?_
        rintro e w3 ⟨rfl, rfl⟩
        go_wp2_with fail
        refine (LA.out _).mono ?_
        rintro e w4 ⟨rfl, rfl⟩
        go_wp2_with fail
        refine (LB.out _).mono ?_
        rintro e w5 ⟨rfl, rfl⟩
        go_wp2_with fail
        refine (AA.out _).mono ?_
        rintro e w6 ⟨rfl, rfl⟩
        go_wp2_with fail
        go_ret
        exact ⟨rfl, HB.out⟩
end Go.Proofs.YtfoijbcmjciihaaDoor
