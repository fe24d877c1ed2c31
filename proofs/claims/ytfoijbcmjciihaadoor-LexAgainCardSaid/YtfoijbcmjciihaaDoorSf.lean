/- Same: walked. -/
import Derived.Test.YtfoijbcmjciihaaDoorSe
set_option linter.unusedSimpArgs false
set_option linter.unusedVariables false
namespace Go.Proofs.YtfoijbcmjciihaaDoor
open Go.RowKit

theorem sameT_diff : ∀ {xs ys : List Tkv}, ¬ xs.length = ys.length → sameT xs ys = false := fun {xs ys} h => by
  cases hs : sameT xs ys with
  | false => rfl
  | true => exact absurd (sameT_length hs) h

theorem sameT_drop {xs ys : List Tkv} {k : Nat} {a b : Tkv} (ha : xs[k]? = some a) (hb : ys[k]? = some b) : sameT (xs.drop k) (ys.drop k) = (eqT a b && sameT (xs.drop (k + 1)) (ys.drop (k + 1))) := by
  obtain ⟨h1, h2⟩ := List.getElem?_eq_some_iff.1 ha
  obtain ⟨h3, h4⟩ := List.getElem?_eq_some_iff.1 hb
  rw [List.drop_eq_getElem_cons h1, List.drop_eq_getElem_cons h3, h2, h4, sameT]

set_option maxHeartbeats 2000000 in
set_option maxRecDepth 20000 in
theorem eqFunc_any {w : World} {va vb : Value} {xs ys : List Tkv} (ha : TkS w va xs) (hb : TkS w vb ys) (hna : xs.length * 40 ≤ 140737488355328) (hnb : ys.length * 40 ≤ 140737488355328) :
    Calls Tryd.prog 42 #[va, vb, .func (.func 43) #[] #[]] w (SamePost w xs ys) := by
  obtain ⟨aa, ca, rfl, hca, -⟩ := ha.shape
  obtain ⟨ab, cb, rfl, hcb, -⟩ := hb.shape
  by_cases hl : xs.length = ys.length
  · obtain ⟨n, hn⟩ : ∃ n, n = xs.length := ⟨_, rfl⟩
    have hn2 : n = ys.length := hn.trans hl
    rw [← hn] at ha hca hna ⊢
    rw [← hn2] at hb hcb ⊢
    have HA := Lib.hid ha
    have HB := Lib.hid hb
    have HN := Lib.hid hn
    have HN2 := Lib.hid hn2
    have hnz : (n : Int) ≤ 140737488355328 := by omega
    clear ha hb hn hn2 hna hnb hl hca hcb
    go_enter Tryd.func42, Tryd.ntmps42
    go_wp2_with fail
    go_loopw [17] (fun i wr => ∃ k : Nat, k ≤ n ∧ i = .int .i64 k ∧ sameT xs ys = sameT (xs.drop k) (ys.drop k) ∧ Below w.heap.size w wr) (fun i _ => n - (intOf i).toNat)
    case atStart => exact ⟨0, Nat.zero_le _, rfl, rfl, Below.refl _ _⟩
    case round =>
      obtain ⟨k, hk, rfl, hs, hbl⟩ := hrel
      have HBL := Lib.hid hbl
      have HS := Lib.hid hs
      clear hbl hs
      by_cases hlt : k < n
      · have hltz : (k : Int) < (n : Int) := by omega
        obtain ⟨a, hxa⟩ : ∃ t, xs[k]? = some t := ⟨_, List.getElem?_eq_getElem (by have := HN.out; omega)⟩
        obtain ⟨b, hyb⟩ : ∃ t, ys[k]? = some t := ⟨_, List.getElem?_eq_getElem (by have := HN2.out; omega)⟩
        obtain ⟨ga, oa, rfl, hga, c0, c1, c2, c3⟩ := tkS_cell (HA.out.keep HBL.out) hxa
        obtain ⟨gb, ob, rfl, hgb, d0, d1, d2, d3⟩ := tkS_cell (HB.out.keep HBL.out) hyb
        have HD := Lib.hid (sameT_drop hxa hyb)
        have HLT := Lib.hid hlt
        obtain ⟨ak, av, ax, ap⟩ := a
        obtain ⟨bk, bv, bx, bp⟩ := b
        simp only [] at c0 c1 c2 c3 d0 d1 d2 d3
        have CA : Hid (∀ W, Calls Tryd.prog 43 #[.agg #[.int .i64 ak, .int .i64 av, .string ax, .int .i64 ap], .agg #[.int .i64 bk, .int .i64 bv, .string bx, .int .i64 bp]] W fun e w' => e = .returned (.bool (eqT ⟨ak, av, ax, ap⟩ ⟨bk, bv, bx, bp⟩)) ∧ Below W.heap.size W w') := fun W => same1_any W _ _ _ _ _ _ _ _
        clear hxa hyb hlt hk
        go_wp2_with fail
        refine (CA.out _).mono ?_
        rintro e w1 ⟨rfl, hb⟩
        have HB1 : Hid (Below w.heap.size w w1) := ((HBL.out.alloc HBL.out.size _).alloc (by have := HBL.out.size; simp; omega) _).trans (hb.mono (by have := HBL.out.size; simp; omega))
        clear hb c0 c1 c2 c3 d0 d1 d2 d3
        cases he : eqT ⟨ak, av, ax, ap⟩ ⟨bk, bv, bx, bp⟩ with
        | true =>
          have HE := Lib.hid he
          clear he
          go_wp2_with fail
          go_roundw
          case rel => exact ⟨k + 1, HLT.out, by go_num, by rw [HS.out, HD.out, HE.out]; rfl, HB1.out⟩
          case measure => have := HLT.out; simp [intOf]; omega
        | false =>
          have HE := Lib.hid he
          clear he
          go_wp2_with fail
          go_ret
          refine ⟨?_, HB1.out⟩
          rw [HS.out, HD.out, HE.out]
          rfl
      · have hge : (n : Int) ≤ (k : Int) := by omega
        have HK : Hid (k = n) := by show k = n; omega
        clear hlt hk
        go_wp2_with fail
        go_ret
        refine ⟨?_, HBL.out⟩
        rw [HS.out, List.drop_of_length_le (by have := HN.out; have := HK.out; omega), List.drop_of_length_le (by have := HN2.out; have := HK.out; omega)]
        rfl
  · have hne : ((xs.length : Int) != (ys.length : Int)) = true := by simp; omega
    have HD := Lib.hid (sameT_diff hl)
    clear hl ha hb hca hcb hna hnb
    go_enter Tryd.func42, Tryd.ntmps42
    go_wp2_with fail
    go_ret
    refine ⟨?_, Below.refl _ _⟩
    rw [HD.out]
    rfl

theorem same_any {w : World} {va vb : Value} {xs ys : List Tkv} (ha : TkS w va xs) (hb : TkS w vb ys) (hna : xs.length * 40 ≤ 140737488355328) (hnb : ys.length * 40 ≤ 140737488355328) :
    Calls Tryd.prog 25 #[va, vb] w (SamePost w xs ys) := by
  have E := Lib.hid (eqFunc_any ha hb hna hnb)
  obtain ⟨aa, ca, rfl, hca, -⟩ := ha.shape
  obtain ⟨ab, cb, rfl, hcb, -⟩ := hb.shape
  clear ha hb hca hcb hna hnb
  go_enter Tryd.func25, Tryd.ntmps25
  go_wp2_with fail
  refine E.out.mono ?_
  rintro e w1 ⟨rfl, hb⟩
  go_wp2_with fail
  go_ret
  exact ⟨rfl, hb⟩
end Go.Proofs.YtfoijbcmjciihaaDoor
