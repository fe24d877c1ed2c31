/- The reference's Line and At: walked. -/
import Derived.Test.YtfoijbcmjciihaaDoorY
import Derived.Test.YtfoijbcmjciihaaDoorF
set_option linter.unusedSimpArgs false
set_option linter.unusedVariables false
namespace Go.Proofs.YtfoijbcmjciihaaDoor
open Go.RowKit

def placedV (a b e : Int) : Value := .agg #[.int .i64 a, .int .i64 b, .int .i64 e]

theorem load31 {w : World} {b : Nat} {x y e : Int} (h : w.heap[b]? = some (.cells #[.int .i64 x, .int .i64 y, .int .i64 e] 31 (0, 0))) : (loadVar 31 ⟨b, 0, none⟩).run Tryd.prog w = .ok (placedV x y e) w := by
  have h0 : w.cell? ⟨b, 0, none⟩ = some (.int .i64 x) := by rw [cell_of_row _ _ 0 _ _ _ h]; rfl
  have h1 : w.cell? ⟨b, 1, none⟩ = some (.int .i64 y) := by rw [cell_of_row _ _ 1 _ _ _ h]; rfl
  have h2 : w.cell? ⟨b, 2, none⟩ = some (.int .i64 e) := by rw [cell_of_row _ _ 2 _ _ _ h]; rfl
  simp [loadVar, go_sem, h0, h1, h2, placedV]

theorem three_set {w : World} {b : Nat} {x0 x1 x2 : Value} {T : TypeId} (h : w.heap[b]? = some (.cells #[x0, x1, x2] T (0, 0))) (u0 u1 u2 : Value) :
    (((w.setCell ⟨b, 0, none⟩ u0).setCell ⟨b, 1, none⟩ u1).setCell ⟨b, 2, none⟩ u2).heap[b]? = some (.cells #[u0, u1, u2] T (0, 0)) := by
  have h1 := heap_setCell_same w b 0 _ _ u0 h
  have h2 := heap_setCell_same _ b 1 _ _ u1 h1
  have h3 := heap_setCell_same _ b 2 _ _ u2 h2
  exact h3

structure PW (w W : World) (z : Nat) (l c : Nat) : Prop where
  res : W.heap[z]? = some (.cells #[.int .i64 0, .int .i64 0, .int .i64 0] 31 (0, 0))
  out : W.heap[z + 1]? = some (.cells #[.int .i64 l, .int .i64 c, .int .i64 0] 31 (0, 0))
  below : Below z w W

theorem PW.col {w W : World} {z l c : Nat} (h : PW w W z l c) (c' : Nat) : PW w (W.setCell ⟨z + 1, 1, none⟩ (.int .i64 c')) z l c' :=
  ⟨(Below.heap_setCell _ _ _ _ (by show z ≠ z + 1; omega)).trans h.res, heap_setCell_same _ _ 1 _ _ _ h.out, h.below.setCell (p := ⟨z + 1, 1, none⟩) (Nat.le_succ _) _⟩

theorem PW.line {w W : World} {z l c : Nat} (h : PW w W z l c) (l' : Nat) : PW w (W.setCell ⟨z + 1, 0, none⟩ (.int .i64 l')) z l' c :=
  ⟨(Below.heap_setCell _ _ _ _ (by show z ≠ z + 1; omega)).trans h.res, heap_setCell_same _ _ 0 _ _ _ h.out, h.below.setCell (p := ⟨z + 1, 0, none⟩) (Nat.le_succ _) _⟩

def LPost (w : World) (r : Value) (e : Ending) (w' : World) : Prop := e = .returned r ∧ Below w.heap.size w w'

theorem load31_new (w : World) (x y e : Int) : (loadVar 31 ⟨w.heap.size, 0, none⟩).run Tryd.prog (w.alloc (.cells #[.int .i64 x, .int .i64 y, .int .i64 e] 31)) = .ok (placedV x y e) (w.alloc (.cells #[.int .i64 x, .int .i64 y, .int .i64 e] 31)) :=
  load31 (heap_alloc_new w _)

set_option maxHeartbeats 400000 in
set_option maxRecDepth 20000 in
theorem refLine_out (w : World) (s : ByteArray) (i : Int) (hi : i < 0 ∨ (s.size : Int) < i) :
    Calls Tryd.prog 17 #[.string s, .int .i64 i] w (LPost w (placedV 0 0 1)) := by
  have hfin : Hid (LPost w (placedV 0 0 1) (.returned (placedV 0 0 1)) (w.alloc (.cells #[.int .i64 0, .int .i64 0, .int .i64 1] 31))) := ⟨rfl, (Below.refl _ _).alloc (Nat.le_refl _) _⟩
  by_cases h0 : i < 0
  · clear hi
    go_enter Tryd.func17, Tryd.ntmps17
    go_wp2_with fail
    exact bodyPost_ret (v := placedV 0 0 1) (by rw [results_one_cell rfl]; simp [asAddr, load31_new]) rfl hfin.out
  · have h1 : (s.size : Int) < i := by omega
    have h2 : 0 ≤ i := by omega
    clear hi h0
    go_enter Tryd.func17, Tryd.ntmps17
    go_wp2_with fail
    exact bodyPost_ret (v := placedV 0 0 1) (by rw [results_one_cell rfl]; simp [asAddr, load31_new]) rfl hfin.out

set_option maxHeartbeats 400000 in
set_option maxRecDepth 20000 in
theorem refLine_in (w : World) (s : ByteArray) (i : Nat) (hi : i ≤ s.size) (hs : s.size ≤ 400000) :
    Calls Tryd.prog 17 #[.string s, .int .i64 i] w (LPost w (placedV (LX.posP (bts s) i).1 (LX.posP (bts s) i).2 0)) := by
  have h0 : (0 : Int) ≤ (i : Int) := by omega
  have h1 : (i : Int) ≤ (s.size : Int) := by omega
  have h4 : (s.size : Int) ≤ 400000 := by omega
  have HI := Lib.hid hi
  clear hi hs
  go_enter Tryd.func17, Tryd.ntmps17
  go_wp2_with fail
  obtain ⟨z, hz⟩ : ∃ z, z = w.heap.size := ⟨_, rfl⟩
  generalize hW0 : (w.alloc (.cells #[.int .i64 0, .int .i64 0, .int .i64 0] 31)).alloc (.cells #[.int .i64 1, .int .i64 1, .int .i64 0] 31) = W0
  have N0 : Hid (PW w W0 z 1 1) := by
    rw [← hW0, hz]
    refine ⟨?_, ?_, ((Below.refl _ _).alloc (Nat.le_refl _) _).alloc (by simp) _⟩
    · rw [Below.heap_alloc _ _ _ (by simp)]; exact heap_alloc_new w _
    · have := heap_alloc_new (w.alloc (.cells #[.int .i64 0, .int .i64 0, .int .i64 0] 31)) (.cells #[.int .i64 1, .int .i64 1, .int .i64 0] 31)
      rwa [World.size_alloc] at this
  rw [← hz]
  have HZ := Lib.hid hz
  clear hz hW0
  go_loopw [6] (fun v wr => ∃ k l c : Nat, k ≤ i ∧ v = .int .i64 k ∧ PW w wr z l c ∧ LX.posP (bts s) k = (l, c) ∧ l ≤ k + 1 ∧ c ≤ k + 1) (fun v _ => i - (intOf v).toNat)
  case atStart => exact ⟨0, 1, 1, Nat.zero_le _, rfl, N0.out, rfl, by decide, by decide⟩
  case round =>
    obtain ⟨k, l, c, hk, rfl, hN, hp, hl, hc⟩ := hrel
    have H1 := Lib.hid hN
    have H2 := Lib.hid hp
    have H3 := Lib.hid (And.intro hk (And.intro hl hc))
    have c0 : wr.cell? ⟨z + 1, 0, none⟩ = some (.int .i64 l) := by rw [cell_of_row _ _ 0 _ _ _ hN.out]; rfl
    have c1 : wr.cell? ⟨z + 1, 1, none⟩ = some (.int .i64 c) := by rw [cell_of_row _ _ 1 _ _ _ hN.out]; rfl
    have fr : ∀ q, wr.frozen? ⟨z + 1, q, none⟩ = false := fun q => frozen_of_row wr (z + 1) q _ _ hN.out
    have fz : ∀ q, wr.frozen? ⟨z, q, none⟩ = false := fun q => frozen_of_row wr z q _ _ hN.res
    by_cases hlt : k < i
    · have hkz : (k : Int) < (i : Int) := by omega
      have hl4 : (l : Int) ≤ (k : Int) + 1 := by omega
      have hc4 : (c : Int) ≤ (k : Int) + 1 := by omega
      have hks : k < s.size := by have := HI.out; omega
      have hix := fun m => run_byte s (k : Int) k rfl hks m
      have hnx := LX.posP_succ (l := bts s) (i := k) (by rw [bts_length]; exact hks)
      rw [hp] at hnx
      obtain ⟨x, hx⟩ : ∃ x, x = (bts s).getD k 0 := ⟨_, rfl⟩
      rw [← hx] at hix hnx
      unfold LX.stepP at hnx
      have HNX := Lib.hid hnx
      have HL := Lib.hid hlt
      clear hN hp hk hl hc hnx hx hks hlt
      by_cases h10 : x = 10
      · subst h10
        have HN2 : Hid (PW w ((wr.setCell ⟨z + 1, 1, none⟩ (.int .i64 ((c : Int) + 1))).setCell ⟨z + 1, 0, none⟩ (.int .i64 ((l : Int) + 1))) z (l + 1) (c + 1)) := (H1.out.col (c + 1)).line (l + 1)
        go_wp2_with fail
        go_roundw
        case rel =>
          have hn := HNX.out
          rw [if_pos rfl] at hn
          exact ⟨k + 1, l + 1, 1, HL.out, by go_num, ((H1.out.col (c + 1)).line (l + 1)).col 1, hn, by have := H3.out; omega, by have := H3.out; omega⟩
        case measure => have := HL.out; simp [intOf]; omega
      · have hne : ((x : Int) == 10) = false := by simp; omega
        go_wp2_with fail
        go_roundw
        case rel =>
          have hn := HNX.out
          rw [if_neg h10] at hn
          exact ⟨k + 1, l, c + 1, HL.out, by go_num, H1.out.col (c + 1), hn, by have := H3.out; omega, by have := H3.out; omega⟩
        case measure => have := HL.out; simp [intOf]; omega
    · have hkz : (i : Int) ≤ (k : Int) := by omega
      obtain rfl : k = i := by omega
      have c2 : wr.cell? ⟨z + 1, 2, none⟩ = some (.int .i64 0) := by rw [cell_of_row _ _ 2 _ _ _ hN.out]; rfl
      have d0 : wr.cell? ⟨z, 0, none⟩ = some (.int .i64 0) := by rw [cell_of_row _ _ 0 _ _ _ hN.res]; rfl
      have d1 : wr.cell? ⟨z, 1, none⟩ = some (.int .i64 0) := by rw [cell_of_row _ _ 1 _ _ _ hN.res]; rfl
      have d2 : wr.cell? ⟨z, 2, none⟩ = some (.int .i64 0) := by rw [cell_of_row _ _ 2 _ _ _ hN.res]; rfl
      rw [hp]
      clear hN hp hk hl hc hlt
      go_wp2_with fail
      have hf := three_set H1.out.res (.int .i64 l) (.int .i64 c) (.int .i64 0)
      have hzb : w.heap.size ≤ z := Nat.le_of_eq HZ.out.symm
      have hb := H1.out.below
      rw [HZ.out] at hb hf hzb
      refine bodyPost_ret (v := placedV l c 0) (by rw [results_one_cell rfl]; simp [asAddr, HZ.out, load31 hf]) rfl ?_
      rw [HZ.out]
      exact ⟨by rw [H2.out], ((hb.setCell (p := ⟨w.heap.size, 0, none⟩) (Nat.le_refl _) _).setCell (p := ⟨w.heap.size, 1, none⟩) (Nat.le_refl _) _).setCell (p := ⟨w.heap.size, 2, none⟩) (Nat.le_refl _) _⟩

set_option maxHeartbeats 400000 in
set_option maxRecDepth 20000 in
theorem refAt_any (w : World) (s : ByteArray) (hs : s.size ≤ 400000) (a b : Int) :
    Calls Tryd.prog 19 #[.string s, .int .i64 a, .int .i64 b] w fun e w' => e = .returned (atV (LX.atP (bts s) a b)) ∧ w' = w := by
  have hz : (s.size : Int) ≤ 400000 := by omega
  have HN : Hid ((∀ i, i ≤ s.size → ¬ (((LX.posP (bts s) i).1 : Int) = a ∧ ((LX.posP (bts s) i).2 : Int) = b)) → LX.atP (bts s) a b = none) := fun h => LX.atP_none fun i hi => h i (by rwa [bts_length] at hi)
  have HS : Hid (∀ i, i ≤ s.size → ((LX.posP (bts s) i).1 : Int) = a → ((LX.posP (bts s) i).2 : Int) = b → LX.atP (bts s) a b = some i) := fun i hi => LX.atP_some (by rwa [bts_length])
  obtain ⟨r, hr⟩ : ∃ r, r = LX.atP (bts s) a b := ⟨_, rfl⟩
  rw [← hr] at HN HS ⊢
  clear hr hs
  go_enter Tryd.func19, Tryd.ntmps19
  go_wp2_with fail
  go_loop [8, 9, 10] (fun lv cv iv => ∃ i l c : Nat, i ≤ s.size + 1 ∧ iv = .int .i64 i ∧ lv = .int .i64 l ∧ cv = .int .i64 c ∧ l ≤ i + 1 ∧ c ≤ i + 1 ∧ (i ≤ s.size → LX.posP (bts s) i = (l, c)) ∧ ∀ q, q < i → ¬ (((LX.posP (bts s) q).1 : Int) = a ∧ ((LX.posP (bts s) q).2 : Int) = b)) (fun _ _ iv => s.size + 1 - (intOf iv).toNat)
  case atStart => exact ⟨0, 1, 1, Nat.zero_le _, rfl, rfl, rfl, by decide, by decide, fun _ => rfl, fun q h => by omega⟩
  case round =>
    obtain ⟨i, l, c, hi, rfl, rfl, rfl, hl, hc, hp, hq⟩ := hrel
    by_cases hin : i ≤ s.size
    · have hiz : (i : Int) ≤ (s.size : Int) := by omega
      have hl4 : (l : Int) ≤ (i : Int) + 1 := by omega
      have hc4 : (c : Int) ≤ (i : Int) + 1 := by omega
      have hps := hp hin
      by_cases hla : (l : Int) = a
      · by_cases hcb : (c : Int) = b
        · have hr : r = some i := HS.out i hin (by rw [hps]; exact hla) (by rw [hps]; exact hcb)
          subst hr
          have e1 : ((l : Int) == a) = true := by simp [hla]
          have e2 : ((c : Int) == b) = true := by simp [hcb]
          clear hp hq hps hla hcb HS HN hl hc hi hin
          go_wp2_with fail
          go_ret2
          exact ⟨rfl, rfl⟩
        · have hnot : ¬ (((LX.posP (bts s) i).1 : Int) = a ∧ ((LX.posP (bts s) i).2 : Int) = b) := by rw [hps]; exact fun e => hcb e.2
          have HNOT : Hid (∀ q, q < i + 1 → ¬ (((LX.posP (bts s) q).1 : Int) = a ∧ ((LX.posP (bts s) q).2 : Int) = b)) := fun q h => by
            rcases Nat.lt_succ_iff_lt_or_eq.1 h with h | rfl
            · exact hq q h
            · exact hnot
          have e1 : ((l : Int) == a) = true := by simp [hla]
          have e2 : ((c : Int) == b) = false := by simp [hcb]
          have H3 := Lib.hid (And.intro hin (And.intro hl hc))
          by_cases hend : i = s.size
          · have hiz2 : (s.size : Int) ≤ (i : Int) := by omega
            have HE := Lib.hid hend
            clear hp hq hps hnot hla hcb hl hc hi hin hend
            go_wp2_with fail
            go_round
            case rel => exact ⟨i + 1, l, c + 1, by have := HE.out; omega, by go_num, rfl, by go_num, by have := H3.out; omega, by have := H3.out; omega, fun h => by have := HE.out; omega, HNOT.out⟩
            case measure => have := H3.out; simp [intOf]; omega
          · have hlt : i < s.size := by omega
            have hlz : (i : Int) < (s.size : Int) := by omega
            have hix := fun m => run_byte s (i : Int) i rfl hlt m
            have hnx := LX.posP_succ (l := bts s) (i := i) (by rw [bts_length]; exact hlt)
            rw [hps] at hnx
            obtain ⟨x, hx⟩ : ∃ x, x = (bts s).getD i 0 := ⟨_, rfl⟩
            rw [← hx] at hix hnx
            unfold LX.stepP at hnx
            have HNX := Lib.hid hnx
            have HL := Lib.hid hlt
            clear hp hq hps hnot hla hcb hl hc hi hin hnx hx hlt hend
            by_cases h10 : x = 10
            · subst h10
              go_wp2_with fail
              go_round
              case rel => exact ⟨i + 1, l + 1, 1, by have := HL.out; omega, by go_num, by go_num, rfl, by have := H3.out; omega, by have := H3.out; omega, fun h => by have := HNX.out; rw [if_pos rfl] at this; exact this, HNOT.out⟩
              case measure => have := HL.out; simp [intOf]; omega
            · have hne : ((x : Int) == 10) = false := by simp; omega
              have H10 := Lib.hid h10
              go_wp2_with fail
              go_round
              case rel => exact ⟨i + 1, l, c + 1, by have := HL.out; omega, by go_num, rfl, by go_num, by have := H3.out; omega, by have := H3.out; omega, fun h => by have := HNX.out; rw [if_neg H10.out] at this; exact this, HNOT.out⟩
              case measure => have := HL.out; simp [intOf]; omega
      · have hnot : ¬ (((LX.posP (bts s) i).1 : Int) = a ∧ ((LX.posP (bts s) i).2 : Int) = b) := by rw [hps]; exact fun e => hla e.1
        have HNOT : Hid (∀ q, q < i + 1 → ¬ (((LX.posP (bts s) q).1 : Int) = a ∧ ((LX.posP (bts s) q).2 : Int) = b)) := fun q h => by
          rcases Nat.lt_succ_iff_lt_or_eq.1 h with h | rfl
          · exact hq q h
          · exact hnot
        have e1 : ((l : Int) == a) = false := by simp [hla]
        have H3 := Lib.hid (And.intro hin (And.intro hl hc))
        by_cases hend : i = s.size
        · have hiz2 : (s.size : Int) ≤ (i : Int) := by omega
          have HE := Lib.hid hend
          clear hp hq hps hnot hla hl hc hi hin hend
          go_wp2_with fail
          go_round
          case rel => exact ⟨i + 1, l, c + 1, by have := HE.out; omega, by go_num, rfl, by go_num, by have := H3.out; omega, by have := H3.out; omega, fun h => by have := HE.out; omega, HNOT.out⟩
          case measure => have := H3.out; simp [intOf]; omega
        · have hlt : i < s.size := by omega
          have hlz : (i : Int) < (s.size : Int) := by omega
          have hix := fun m => run_byte s (i : Int) i rfl hlt m
          have hnx := LX.posP_succ (l := bts s) (i := i) (by rw [bts_length]; exact hlt)
          rw [hps] at hnx
          obtain ⟨x, hx⟩ : ∃ x, x = (bts s).getD i 0 := ⟨_, rfl⟩
          rw [← hx] at hix hnx
          unfold LX.stepP at hnx
          have HNX := Lib.hid hnx
          have HL := Lib.hid hlt
          clear hp hq hps hnot hla hl hc hi hin hnx hx hlt hend
          by_cases h10 : x = 10
          · subst h10
            go_wp2_with fail
            go_round
            case rel => exact ⟨i + 1, l + 1, 1, by have := HL.out; omega, by go_num, by go_num, rfl, by have := H3.out; omega, by have := H3.out; omega, fun h => by have := HNX.out; rw [if_pos rfl] at this; exact this, HNOT.out⟩
            case measure => have := HL.out; simp [intOf]; omega
          · have hne : ((x : Int) == 10) = false := by simp; omega
            have H10 := Lib.hid h10
            go_wp2_with fail
            go_round
            case rel => exact ⟨i + 1, l, c + 1, by have := HL.out; omega, by go_num, rfl, by go_num, by have := H3.out; omega, by have := H3.out; omega, fun h => by have := HNX.out; rw [if_neg H10.out] at this; exact this, HNOT.out⟩
            case measure => have := HL.out; simp [intOf]; omega
    · have hr : r = none := HN.out fun q hqs => hq q (by omega)
      subst hr
      have hiz : (s.size : Int) < (i : Int) := by omega
      clear hp hq HS HN hl hc hi hin
      go_wp2_with fail
      go_ret2
      exact ⟨rfl, rfl⟩
end Go.Proofs.YtfoijbcmjciihaaDoor
