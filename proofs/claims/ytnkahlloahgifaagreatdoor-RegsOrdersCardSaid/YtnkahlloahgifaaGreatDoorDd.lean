/- The reference's MovesRight, Spare, of: walked. The reference's CheckOrder: walked. RegsOrders: walked. -/
import Derived.Test.YtnkahlloahgifaaGreatDoorDa
import Derived.Test.YtnkahlloahgifaaGreatDoorPo
import Derived.Test.YtnkahlloahgifaaGreatDoorCw
set_option linter.unusedSimpArgs false
set_option linter.unusedVariables false
namespace Go.Proofs.YtnkahlloahgifaaGreatDoor
open Go.RowKit RG Go.Maps

theorem isReg_iff {r : Int} : RM.isReg r = true ↔ 0 ≤ r ∧ r ≤ 20000 := by unfold RM.isReg; simp

set_option maxHeartbeats 4000000 in
set_option maxRecDepth 20000 in
theorem movesRight_any {w : World} {v : Value} {l : List RM.Mv} (h : MvsAt w v l) : Calls Tryz.prog 79 #[v] w (AmP w (RM.movesR l)) := by
  have HV := Lib.hid h
  obtain ⟨ad, c, rfl, -⟩ := id h
  obtain ⟨n, hn⟩ : ∃ n, n = l.length := ⟨_, rfl⟩
  rw [← hn] at HV ⊢
  have HN := Lib.hid hn
  obtain ⟨ans, hans⟩ : ∃ a, a = RM.movesR l := ⟨_, rfl⟩
  rw [← hans]
  have HA := Lib.hid hans
  clear h hn hans
  by_cases h16 : n ≤ 16
  · have d16 : decide (16 < (n : Int)) = false := by simp; omega
    have hnz : (n : Int) ≤ 16 := by omega
    have H16 := Lib.hid h16
    clear h16
    go_enter Tryz.func79, Tryz.ntmps79
    go_wp2_with fail
    go_loopw [3] (fun iv wr => ∃ i : Nat, i ≤ n ∧ iv = .int .i64 i ∧ Below w.heap.size w wr ∧ (∀ (i' : Nat) (a : RM.Mv), i' < i → l[i']? = some a → RM.isReg a.1 = true ∧ RM.isReg a.2 = true) ∧ ∀ (i' k : Nat) (a b : RM.Mv), i' < i → k < i' → l[i']? = some a → l[k]? = some b → b.1 ≠ a.1) (fun iv _ => n - (intOf iv).toNat)
    case atStart => exact ⟨0, Nat.zero_le _, rfl, Below.refl _ _, fun i' a h => absurd h (Nat.not_lt_zero _), fun i' k a b h => absurd h (Nat.not_lt_zero _)⟩
    case round =>
      rename World => wo
      obtain ⟨i, hi, rfl, hbw, hrg, hno⟩ := hrel
      have KI := Lib.hid hi
      have KB := Lib.hid hbw
      have RG1 := Lib.hid hrg
      have NO := Lib.hid hno
      clear hi hbw hrg hno
      by_cases hlt : i < n
      · have hlz : (i : Int) < n := by omega
        have hi0 : (0 : Int) ≤ i := by omega
        have HLT := Lib.hid hlt
        obtain ⟨g, o, a, b, rfl, hx, y0, y1⟩ := (HV.out.kept (kept_below KB.out)).read HN.out hlt
        have HX := Lib.hid hx
        clear hlt hx
        have bad : Hid (¬(RM.isReg a = true ∧ RM.isReg b = true) → ans = false) := fun h => by rw [HA.out]; exact RM.movesR_bad HX.out h
        by_cases a0 : a < 0
        · have d1 : decide (a < 0) = true := by simpa using a0
          have E := Lib.hid (bad.out fun h => by have := isReg_iff.1 h.1; omega)
          clear a0
          go_wp2_with fail
          go_ret
          exact ⟨by rw [E.out]; rfl, KB.out⟩
        · have d1 : decide (a < 0) = false := by simpa using a0
          by_cases b0 : b < 0
          · have d2 : decide (b < 0) = true := by simpa using b0
            have E := Lib.hid (bad.out fun h => by have := isReg_iff.1 h.2; omega)
            clear a0 b0
            go_wp2_with fail
            go_ret
            exact ⟨by rw [E.out]; rfl, KB.out⟩
          · have d2 : decide (b < 0) = false := by simpa using b0
            by_cases a1 : 20000 < a
            · have d3 : decide (20000 < a) = true := by simpa using a1
              have E := Lib.hid (bad.out fun h => by have := isReg_iff.1 h.1; omega)
              clear a0 b0 a1
              go_wp2_with fail
              go_ret
              exact ⟨by rw [E.out]; rfl, KB.out⟩
            · have d3 : decide (20000 < a) = false := by simpa using a1
              by_cases b1 : 20000 < b
              · have d4 : decide (20000 < b) = true := by simpa using b1
                have E := Lib.hid (bad.out fun h => by have := isReg_iff.1 h.2; omega)
                clear a0 b0 a1 b1
                go_wp2_with fail
                go_ret
                exact ⟨by rw [E.out]; rfl, KB.out⟩
              · have d4 : decide (20000 < b) = false := by simpa using b1
                have OKR : Hid (RM.isReg a = true ∧ RM.isReg b = true) := ⟨isReg_iff.2 (by omega), isReg_iff.2 (by omega)⟩
                clear a0 b0 a1 b1
                go_wp2_with fail
                go_loopw [4] (fun kv wr => ∃ k : Nat, k ≤ i ∧ kv = .int .i64 k ∧ Below w.heap.size w wr ∧ ∀ (k' : Nat) (b' : RM.Mv), k' < k → l[k']? = some b' → b'.1 ≠ a) (fun kv _ => i - (intOf kv).toNat)
                case atStart => exact ⟨0, Nat.zero_le _, rfl, KB.out, fun k' b' h => absurd h (Nat.not_lt_zero _)⟩
                case round =>
                  obtain ⟨k, hk, rfl, hbw, hno⟩ := hrel
                  have KK := Lib.hid hk
                  have KB2 := Lib.hid hbw
                  have NK := Lib.hid hno
                  clear hk hbw hno y0 y1
                  by_cases hki : k < i
                  · have hkz : (k : Int) < i := by omega
                    have hk0 : (0 : Int) ≤ k := by omega
                    have hkn : (k : Int) < n := by omega
                    obtain ⟨g1, o1, a1, b1, hg1, hx1, y0, y1⟩ := (HV.out.kept (kept_below KB2.out)).read HN.out HLT.out
                    rw [HX.out] at hx1
                    simp only [Option.some.injEq, Prod.mk.injEq] at hx1 hg1
                    obtain ⟨rfl, rfl⟩ := hx1
                    rw [Addr.mk.injEq] at hg1
                    obtain ⟨rfl, rfl, -⟩ := hg1
                    obtain ⟨g2, o2, a2, b2, hg2, hx2, z0, z1⟩ := (HV.out.kept (kept_below KB2.out)).read HN.out (show k < n by have := HLT.out; omega)
                    simp only [Option.some.injEq] at hg2
                    rw [Addr.mk.injEq] at hg2
                    obtain ⟨rfl, rfl, -⟩ := hg2
                    have HX2 := Lib.hid hx2
                    have HKI := Lib.hid hki
                    clear hki hx2 y1 z1
                    by_cases hab : a2 = a
                    · have d5 : (a2 == a) = true := by simp [hab]
                      have E : Hid (ans = false) := by show _ = _; rw [HA.out]; exact RM.movesR_dup HKI.out HX.out HX2.out hab
                      clear hab
                      go_wp2_with fail
                      go_quiet (fail)
                      go_wp2_with fail
                      go_ret
                      exact ⟨by rw [E.out]; rfl, KB2.out.trans (below_drewN _ _ _)⟩
                    · have d5 : (a2 == a) = false := by simp [hab]
                      have NX : Hid (∀ (k' : Nat) (b' : RM.Mv), k' < k + 1 → l[k']? = some b' → b'.1 ≠ a) := fun k' b' h1 h2 => by
                        by_cases e : k' = k
                        · subst e
                          rw [HX2.out, Option.some.injEq] at h2
                          rw [← h2]; exact hab
                        · exact NK.out k' b' (by omega) h2
                      clear hab
                      go_wp2_with fail
                      go_quiet (fail)
                      go_wp2_with fail
                      go_roundw
                      case rel => exact ⟨k + 1, HKI.out, by go_num, KB2.out.trans (below_drewN _ _ _), NX.out⟩
                      case measure => have := HKI.out; simp [intOf]; omega
                  · have hke : k = i := by have := KK.out; omega
                    have hkz : (i : Int) ≤ k := by omega
                    have hdk : decide (k < i) = false := by simp; omega
                    have NI : Hid (∀ (i' k : Nat) (a b : RM.Mv), i' < i + 1 → k < i' → l[i']? = some a → l[k]? = some b → b.1 ≠ a.1) := fun i' k' a' b' h1 h2 h3 h4 => by
                      by_cases e : i' = i
                      · subst e
                        rw [HX.out, Option.some.injEq] at h3
                        subst h3
                        exact NK.out k' b' (by omega) h4
                      · exact NO.out i' k' a' b' (by omega) h2 h3 h4
                    have RI : Hid (∀ (i' : Nat) (a : RM.Mv), i' < i + 1 → l[i']? = some a → RM.isReg a.1 = true ∧ RM.isReg a.2 = true) := fun i' a' h1 h2 => by
                      by_cases e : i' = i
                      · subst e
                        rw [HX.out, Option.some.injEq] at h2
                        subst h2
                        exact OKR.out
                      · exact RG1.out i' a' (by omega) h2
                    clear hki hke
                    go_wp2_with fail
                    go_roundw
                    case rel => exact ⟨i + 1, HLT.out, by go_num, KB2.out, RI.out, NI.out⟩
                    case measure => have := HLT.out; simp [intOf]; omega
      · have hlz : (n : Int) ≤ i := by omega
        have E : Hid (ans = true) := by
          show _ = _
          rw [HA.out]
          exact RM.movesR_done (by have := HN.out; have := H16.out; omega) (fun i' a h => RG1.out i' a (by have := (List.getElem?_eq_some_iff.1 h).1; have := HN.out; omega) h)
            (fun i' k a b h1 h2 h3 => NO.out i' k a b (by have := (List.getElem?_eq_some_iff.1 h2).1; have := HN.out; omega) h1 h2 h3)
        clear hlt
        go_wp2_with fail
        go_ret
        exact ⟨by rw [E.out]; rfl, KB.out⟩
  · have d16 : decide (16 < (n : Int)) = true := by simp; omega
    have E : Hid (ans = false) := by show _ = _; rw [HA.out]; unfold RM.movesR; rw [← HN.out]; simp [h16]
    clear h16
    go_enter Tryz.func79, Tryz.ntmps79
    go_wp2_with fail
    go_ret
    exact ⟨by rw [E.out]; rfl, Below.refl _ _⟩

set_option maxHeartbeats 4000000 in
set_option maxRecDepth 20000 in
theorem spare_any {w : World} {v : Value} {l : List RM.Mv} {spare : Int} (h : MvsAt w v l) : Calls Tryz.prog 43 #[v, .int .i64 spare] w (AmP w (RM.areMoves l spare)) := by
  have MR := Lib.hid (movesRight_any h)
  have HV := Lib.hid h
  obtain ⟨ad, c, rfl, -⟩ := id h
  obtain ⟨n, hn⟩ : ∃ n, n = l.length := ⟨_, rfl⟩
  rw [← hn] at HV MR ⊢
  have HN := Lib.hid hn
  obtain ⟨ans, hans⟩ : ∃ a, a = RM.areMoves l spare := ⟨_, rfl⟩
  rw [← hans]
  have HA := Lib.hid hans
  clear h hn hans
  cases hm : RM.movesR l with
  | false =>
    rw [hm] at MR
    have E : Hid (ans = false) := by show _ = _; rw [HA.out]; exact RM.areMoves_no hm
    clear hm
    go_enter Tryz.func43, Tryz.ntmps43
    go_wp2_with (go_at_call 79; refine (MR.out).mono ?_; rintro e w1 ⟨rfl, hb⟩)
    go_ret
    exact ⟨by rw [E.out]; rfl, hb⟩
  | true =>
    rw [hm] at MR
    have HM := Lib.hid hm
    have hn16 := (RM.movesR_iff.1 hm).1
    have hnz : (n : Int) ≤ 16 := by have := HN.out; omega
    clear hm hn16
    by_cases s0 : spare < 0
    · have d1 : decide (spare < 0) = true := by simpa using s0
      have E : Hid (ans = false) := by show _ = _; rw [HA.out]; refine RM.areMoves_noSpare ?_; unfold RM.isReg; simp; omega
      clear s0
      go_enter Tryz.func43, Tryz.ntmps43
      go_wp2_with (go_at_call 79; refine (MR.out).mono ?_; rintro e w1 ⟨rfl, hb⟩)
      go_ret
      exact ⟨by rw [E.out]; rfl, hb⟩
    · have d1 : decide (spare < 0) = false := by simpa using s0
      by_cases s1 : 20000 < spare
      · have d2 : decide (20000 < spare) = true := by simpa using s1
        have E : Hid (ans = false) := by show _ = _; rw [HA.out]; refine RM.areMoves_noSpare ?_; unfold RM.isReg; simp; omega
        clear s0 s1
        go_enter Tryz.func43, Tryz.ntmps43
        go_wp2_with (go_at_call 79; refine (MR.out).mono ?_; rintro e w1 ⟨rfl, hb⟩)
        go_ret
        exact ⟨by rw [E.out]; rfl, hb⟩
      · have d2 : decide (20000 < spare) = false := by simpa using s1
        have SR : Hid (RM.isReg spare = true) := isReg_iff.2 (by omega)
        clear s0 s1
        go_enter Tryz.func43, Tryz.ntmps43
        go_wp2_with (go_at_call 79; refine (MR.out).mono ?_; rintro e w1 ⟨rfl, hb⟩)
        have HB := Lib.hid hb
        clear hb
        go_loopw [5] (fun iv wr => ∃ i : Nat, i ≤ n ∧ iv = .int .i64 i ∧ Below w.heap.size w wr ∧ ∀ (i' : Nat) (a : RM.Mv), i' < i → l[i']? = some a → a.1 ≠ spare ∧ a.2 ≠ spare) (fun iv _ => n - (intOf iv).toNat)
        case atStart => exact ⟨0, Nat.zero_le _, rfl, HB.out, fun i' a h => absurd h (Nat.not_lt_zero _)⟩
        case round =>
          obtain ⟨i, hi, rfl, hbw, hno⟩ := hrel
          have KI := Lib.hid hi
          have KB := Lib.hid hbw
          have NO := Lib.hid hno
          clear hi hbw hno
          by_cases hlt : i < n
          · have hlz : (i : Int) < n := by omega
            have hi0 : (0 : Int) ≤ i := by omega
            have HLT := Lib.hid hlt
            obtain ⟨g, o, a, b, rfl, hx, y0, y1⟩ := (HV.out.kept (kept_below KB.out)).read HN.out hlt
            have HX := Lib.hid hx
            clear hlt hx
            by_cases ha : a = spare
            · have d3 : (a == spare) = true := by simp [ha]
              have E : Hid (ans = false) := by show _ = _; rw [HA.out]; exact RM.areMoves_hit HX.out (.inl ha)
              clear ha
              go_wp2_with fail
              go_ret
              exact ⟨by rw [E.out]; rfl, KB.out⟩
            · have d3 : (a == spare) = false := by simp [ha]
              by_cases hb : b = spare
              · have d4 : (b == spare) = true := by simp [hb]
                have E : Hid (ans = false) := by show _ = _; rw [HA.out]; exact RM.areMoves_hit HX.out (.inr hb)
                clear ha hb
                go_wp2_with fail
                go_ret
                exact ⟨by rw [E.out]; rfl, KB.out⟩
              · have d4 : (b == spare) = false := by simp [hb]
                have NI : Hid (∀ (i' : Nat) (a : RM.Mv), i' < i + 1 → l[i']? = some a → a.1 ≠ spare ∧ a.2 ≠ spare) := fun i' a' h1 h2 => by
                  by_cases e : i' = i
                  · subst e
                    rw [HX.out, Option.some.injEq] at h2
                    subst h2
                    exact ⟨ha, hb⟩
                  · exact NO.out i' a' (by omega) h2
                clear ha hb
                go_wp2_with fail
                go_roundw
                case rel => exact ⟨i + 1, HLT.out, by go_num, KB.out, NI.out⟩
                case measure => have := HLT.out; simp [intOf]; omega
          · have hlz : (n : Int) ≤ i := by omega
            have E : Hid (ans = true) := by
              show _ = _
              rw [HA.out]
              exact RM.areMoves_done HM.out SR.out (fun i' a h => NO.out i' a (by have := (List.getElem?_eq_some_iff.1 h).1; have := HN.out; omega) h)
            clear hlt
            go_wp2_with fail
            go_ret
            exact ⟨by rw [E.out]; rfl, KB.out⟩

/-- What a look among registers leaves. -/
def OfP (w : World) (rs : List Int) (x : Int) (e : Ending) (w' : World) : Prop := e = .returned (.int .i64 (RM.ofZ rs x)) ∧ w = w'

set_option maxHeartbeats 4000000 in
set_option maxRecDepth 20000 in
theorem of_any {w : World} {v : Value} {rs : List Int} {x : Int} (h : IsAt w v rs) (hs : rs.length ≤ 1000000000000) : Calls Tryz.prog 78 #[v, .int .i64 x] w (OfP w rs x) := by
  have HV := Lib.hid h
  obtain ⟨ad, c, rfl⟩ := h.shape
  obtain ⟨n, hn⟩ : ∃ n, n = rs.length := ⟨_, rfl⟩
  rw [← hn] at HV hs ⊢
  have HN := Lib.hid hn
  obtain ⟨ans, hans⟩ : ∃ a, a = RM.ofZ rs x := ⟨_, rfl⟩
  have HA := Lib.hid hans
  unfold OfP
  rw [← hans]
  have hnz : (n : Int) ≤ 1000000000000 := by omega
  clear h hn hans
  go_enter Tryz.func78, Tryz.ntmps78
  go_wp2_with fail
  go_loopw [5] (fun iv wr => ∃ i : Nat, i ≤ n ∧ iv = .int .i64 i ∧ wr = w ∧ ∀ (j : Nat) (a : Int), j < i → rs[j]? = some a → a ≠ x) (fun iv _ => n - (intOf iv).toNat)
  case atStart => exact ⟨0, Nat.zero_le _, rfl, rfl, fun j a h => absurd h (Nat.not_lt_zero _)⟩
  case round =>
    obtain ⟨i, hi, rfl, rfl, hno⟩ := hrel
    have KI := Lib.hid hi
    have NO := Lib.hid hno
    clear hi hno
    by_cases hlt : i < n
    · have hlz : (i : Int) < n := by omega
      have hi0 : (0 : Int) ≤ i := by omega
      have HLT := Lib.hid hlt
      obtain ⟨g, o, a, rfl, hx, y0⟩ := HV.out.read HN.out hlt
      have HX := Lib.hid hx
      clear hlt hx
      by_cases ha : a = x
      · have d3 : (a == x) = true := by simp [ha]
        have E : Hid (ans = (i : Int)) := by show _ = _; rw [HA.out]; exact RM.ofZ_at (by rw [HX.out, ha]) NO.out
        clear ha
        go_wp2_with fail
        go_ret
        exact ⟨by rw [E.out]; rfl, rfl⟩
      · have d3 : (a == x) = false := by simp [ha]
        have NI : Hid (∀ (j : Nat) (a : Int), j < i + 1 → rs[j]? = some a → a ≠ x) := fun j a' h1 h2 => by
          by_cases e : j = i
          · subst e
            rw [HX.out, Option.some.injEq] at h2
            rw [← h2]; exact ha
          · exact NO.out j a' (by omega) h2
        clear ha
        go_wp2_with fail
        go_roundw
        case rel => exact ⟨i + 1, HLT.out, by go_num, by first | rfl | trivial, NI.out⟩
        case measure => have := HLT.out; simp [intOf]; omega
    · have hlz : (n : Int) ≤ i := by omega
      have E : Hid (ans = -1) := by
        show _ = _
        rw [HA.out]
        exact RM.ofZ_none (fun j a h => NO.out j a (by have := (List.getElem?_eq_some_iff.1 h).1; have := HN.out; omega) h)
      clear hlt
      go_wp2_with fail
      go_ret
      exact ⟨by rw [E.out]; rfl, rfl⟩
end Go.Proofs.YtnkahlloahgifaaGreatDoor

namespace Go.Proofs.YtnkahlloahgifaaGreatDoor
open Go.RowKit RG Go.Maps

theorem of_miss {w : World} {v : Value} {rs : List Int} {x : Int} (h : IsAt w v rs) (hs : rs.length ≤ 1000000000000) (hx : x ∉ rs) : Calls Tryz.prog 78 #[v, .int .i64 x] w (fun e w' => e = .returned (.int .i64 (-1)) ∧ w = w') :=
  (of_any h hs).mono fun e w' ⟨h1, h2⟩ => ⟨by rw [h1]; unfold RM.ofZ; rw [if_neg hx], h2⟩
theorem of_hit {w : World} {v : Value} {rs : List Int} {x : Int} (h : IsAt w v rs) (hs : rs.length ≤ 1000000000000) (hx : x ∈ rs) : ∃ i : Nat, rs[i]? = some x ∧ Calls Tryz.prog 78 #[v, .int .i64 x] w (fun e w' => e = .returned (.int .i64 i) ∧ w = w') := by
  obtain ⟨i, h1, h2⟩ := RM.ofZ_mem hx
  exact ⟨i, h2, (of_any h hs).mono fun e w' ⟨h3, h4⟩ => ⟨by rw [h3, h1], h4⟩⟩

/-- A row grows by one. -/
theorem IOwn.more {w' : World} {B : Nat} {v' : Value} {l : List Int} {x : Int} (hown : World.ownsRow w' B 3 1 v' (l.length + 1) (ints l ++ [.int .i64 x])) : IOwn w' B v' (l ++ [x]) := by
  unfold IOwn
  rw [List.length_append, List.length_singleton, ints_append]; exact hown

set_option maxHeartbeats 8000000 in
set_option maxRecDepth 20000 in
theorem refCheck_any {w : World} {v u : Value} {l m : List RM.Mv} {spare : Int} (h : MvsAt w v l) (hm : MvsAt w u m) (hml : m.length ≤ maxLen) : Calls Tryz.prog 42 #[v, .int .i64 spare, u] w (CoP w (coCode l m spare)) := by
  have AM := Lib.hid (spare_any (spare := spare) h)
  have HV := Lib.hid h
  have HU := Lib.hid hm
  obtain ⟨ad, c, rfl, -⟩ := id h
  obtain ⟨am, cm, rfl, -⟩ := id hm
  obtain ⟨n, hn⟩ : ∃ n, n = l.length := ⟨_, rfl⟩
  obtain ⟨nm, hnm⟩ : ∃ n, n = m.length := ⟨_, rfl⟩
  rw [← hn] at AM HV ⊢
  rw [← hnm] at HU hml ⊢
  have HN := Lib.hid hn
  have HNM := Lib.hid hnm
  have hnmz : (nm : Int) ≤ 9223372036854775807 := by simp only [maxLen] at hml; omega
  clear h hn hm hnm
  cases ham : RM.areMoves l spare with
  | false =>
    rw [ham] at AM
    have E : Hid (coCode l m spare = 1) := by show _ = _; unfold coCode; rw [ham]; rfl
    clear ham
    go_enter Tryz.func42, Tryz.ntmps42
    go_wp2_with (go_at_call 43; refine (AM.out).mono ?_; rintro e w1 ⟨rfl, hb⟩)
    go_ret
    exact ⟨by rw [E.out]; rfl, hb⟩
  | true =>
    rw [ham] at AM
    have E : Hid (coCode l m spare = if RM.good l spare m = true then 0 else 161) := by show _ = _; unfold coCode; rw [ham]; rfl
    obtain ⟨code, hcode⟩ : ∃ c, c = coCode l m spare := ⟨_, rfl⟩
    rw [← hcode] at E ⊢
    have HAM := Lib.hid ham
    have HL : Hid (n ≤ 16) := by show _ ≤ _; rw [HN.out]; exact (RM.areMoves_iff.1 ham).1
    have hnz : (n : Int) ≤ 16 := by have := HL.out; omega
    obtain ⟨i0, hi1, hz0, hz1, hz2⟩ := info_parts Tryz.info3u
    have HI := Lib.hid (And.intro hi1 (And.intro hz0 (And.intro hz1 hz2)))
    clear ham hcode hi1 hz0 hz1 hz2
    go_enter Tryz.func42, Tryz.ntmps42
    go_wp2_with (go_at_call 43; refine (AM.out).mono ?_; rintro e w1 ⟨rfl, hb⟩)
    have HB1 := Lib.hid hb
    clear hb
    have R1 : Hid (IOwn (w1.alloc (.cells #[.int .i64 spare] 3)) w1.heap.size (.slice (some ⟨w1.heap.size, 0, none⟩) 1 1) (RM.regsS spare (l.take 0))) := IOwn.lit (Nat.le_refl _) spare
    have B1 : Hid (Below w1.heap.size w1 (w1.alloc (.cells #[.int .i64 spare] 3))) := (Below.refl _ _).alloc (Nat.le_refl _) _
    go_loopw [7, 8] (fun vr iv wr => ∃ i : Nat, i ≤ n ∧ iv = .int .i64 i ∧ IOwn wr w1.heap.size vr (RM.regsS spare (l.take i)) ∧ Below w1.heap.size w1 wr) (fun _ iv _ => n - (intOf iv).toNat)
    case atStart => exact ⟨0, Nat.zero_le _, rfl, R1.out, B1.out⟩
    case round =>
      obtain ⟨i, hi, rfl, hown, hbw⟩ := hrel
      have KI := Lib.hid hi
      have KO := Lib.hid hown
      have KB := Lib.hid hbw
      have BW : Hid (Below w.heap.size w wr) := HB1.out.trans (hbw.mono HB1.out.size)
      obtain ⟨ra, rc, hvo⟩ := hown.shape
      obtain ⟨rs, hrs⟩ : ∃ q, q = RM.regsS spare (l.take i) := ⟨_, rfl⟩
      rw [← hrs] at hvo KO
      have HRS := Lib.hid hrs
      obtain ⟨nr, hnr⟩ : ∃ q, q = rs.length := ⟨_, rfl⟩
      rw [← hnr] at hvo
      have HNR := Lib.hid hnr
      subst hvo
      have hnrz : nr ≤ 33 := by
        have h1 := (RM.regsS_ok (l.take i) spare).2.2
        have := List.length_take_le i l
        have := HL.out
        have := HN.out
        rw [hnr, hrs]; omega
      have hnrz' : (nr : Int) ≤ 33 := by omega
      clear hi hown hbw hnr hrs R1 B1
      by_cases hlt : i < n
      · have hlz : (i : Int) < n := by omega
        have hi0 : (0 : Int) ≤ i := by omega
        have HLT := Lib.hid hlt
        obtain ⟨g, o, a, b, rfl, hx, y0, y1⟩ := (HV.out.kept (kept_below BW.out)).read HN.out hlt
        have HX := Lib.hid hx
        have RT : Hid (RM.regsS spare (l.take (i + 1)) = RM.addR (RM.addR rs a) b) := by show _ = _; rw [HRS.out]; exact RM.regsS_take spare hx
        clear hlt hx
        by_cases ha : a ∈ rs
        · obtain ⟨pa, hpa, ofa⟩ := of_hit KO.out.at' (by rw [← HNR.out]; omega) ha
          have OFa := Lib.hid ofa
          have hza : decide ((pa : Int) < 0) = false := by first | (simp; done) | (simp; omega)
          have RAa : Hid (RM.addR rs a = rs) := if_pos ha
          clear ha hpa ofa
          by_cases hb : b ∈ rs
          · obtain ⟨pb, hpb, ofb⟩ := of_hit KO.out.at' (by rw [← HNR.out]; omega) hb
            have OFb := Lib.hid ofb
            have hzb : decide ((pb : Int) < 0) = false := by first | (simp; done) | (simp; omega)
            have RAb : Hid (RM.addR rs b = rs) := if_pos hb
            clear hb hpb ofb
            go_wp2_with (go_at_call 78; (first | ((with_reducible refine (OFa.out).mono ?_); rintro e w' ⟨rfl, rfl⟩) | ((with_reducible refine (OFb.out).mono ?_); rintro e w' ⟨rfl, rfl⟩)))
            go_roundw
            case rel => exact ⟨i + 1, HLT.out, by go_num, by rw [RT.out, RAa.out, RAb.out]; exact KO.out, KB.out⟩
            case measure => have := HLT.out; simp [intOf]; omega
          · have OFb := Lib.hid (of_miss KO.out.at' (by rw [← HNR.out]; omega) hb)
            have RAb : Hid (RM.addR rs b = rs ++ [b]) := if_neg hb
            clear hb
            have Ob : Hid (World.ownsRow (wr.alloc (.cells #[.int .i64 b] 3)) w1.heap.size 3 1 (.slice ra nr rc) nr (ints rs)) := by
              have : IOwn (wr.alloc (.cells #[.int .i64 b] 3)) w1.heap.size (.slice ra nr rc) rs := KO.out.keep fun q _ hq => Below.heap_alloc _ _ _ hq
              unfold IOwn at this; rw [← HNR.out] at this; exact this
            have NBb : Hid (nr + 1 ≤ maxLen ∧ (nr + 1) * 8 ≤ 140737488355328) := by show _ ∧ _; simp only [maxLen]; omega
            have BAb : Hid (Below w1.heap.size w1 (wr.alloc (.cells #[.int .i64 b] 3))) := KB.out.alloc KB.out.size _
            go_wp2_with (first | (go_at_call 78; (first | ((with_reducible refine (OFa.out).mono ?_); rintro e w' ⟨rfl, rfl⟩) | ((with_reducible refine (OFb.out).mono ?_); rintro e w' ⟨rfl, rfl⟩))) | (at_builtin; refine wpList_append_own _ rfl _ _ 40 rfl w1.heap.size 3 i0 (.int .i64 0) 1 8 Tryz.underlying40 HI.out.1 HI.out.2.1 HI.out.2.2.1 HI.out.2.2.2 rfl (by decide) (.slice ra nr rc) nr (ints rs) rfl Ob.out ⟨wr.heap.size, 0, none⟩ 1 1 [.int .i64 b] rfl rfl (news1 _ _ _) (fun u hu => by simp at hu; rw [hu]; rfl) NBb.out.1 NBb.out.2 BAb.out.size ?_))
            intro vo w6 hown hg _
            have Bb : Hid (Below w1.heap.size w1 w6) := BAb.out.grown hg BAb.out.size (fun q e => (Ob.out.lt q e).1)
            have Mb : Hid (IOwn w6 w1.heap.size vo (rs ++ [b])) := by
              show IOwn _ _ _ _
              rw [HNR.out] at hown; exact IOwn.more hown
            clear hown hg
            go_wp2_with (go_at_call 78; (first | ((with_reducible refine (OFa.out).mono ?_); rintro e w' ⟨rfl, rfl⟩) | ((with_reducible refine (OFb.out).mono ?_); rintro e w' ⟨rfl, rfl⟩)))
            go_roundw
            case rel => exact ⟨i + 1, HLT.out, by go_num, by rw [RT.out, RAa.out, RAb.out]; exact Mb.out, Bb.out⟩
            case measure => have := HLT.out; simp [intOf]; omega
        · have OFa := Lib.hid (of_miss KO.out.at' (by rw [← HNR.out]; omega) ha)
          have RAa : Hid (RM.addR rs a = rs ++ [a]) := if_neg ha
          clear ha
          have OFb := OFa
          have Oa : Hid (World.ownsRow (wr.alloc (.cells #[.int .i64 a] 3)) w1.heap.size 3 1 (.slice ra nr rc) nr (ints rs)) := by
            have : IOwn (wr.alloc (.cells #[.int .i64 a] 3)) w1.heap.size (.slice ra nr rc) rs := KO.out.keep fun q _ hq => Below.heap_alloc _ _ _ hq
            unfold IOwn at this; rw [← HNR.out] at this; exact this
          have NBa : Hid (nr + 1 ≤ maxLen ∧ (nr + 1) * 8 ≤ 140737488355328) := by show _ ∧ _; simp only [maxLen]; omega
          have BAa : Hid (Below w1.heap.size w1 (wr.alloc (.cells #[.int .i64 a] 3))) := KB.out.alloc KB.out.size _
          go_wp2_with (first | (go_at_call 78; (first | ((with_reducible refine (OFa.out).mono ?_); rintro e w' ⟨rfl, rfl⟩) | ((with_reducible refine (OFb.out).mono ?_); rintro e w' ⟨rfl, rfl⟩))) | (at_builtin; refine wpList_append_own _ rfl _ _ 40 rfl w1.heap.size 3 i0 (.int .i64 0) 1 8 Tryz.underlying40 HI.out.1 HI.out.2.1 HI.out.2.2.1 HI.out.2.2.2 rfl (by decide) (.slice ra nr rc) nr (ints rs) rfl Oa.out ⟨wr.heap.size, 0, none⟩ 1 1 [.int .i64 a] rfl rfl (news1 _ _ _) (fun u hu => by simp at hu; rw [hu]; rfl) NBa.out.1 NBa.out.2 BAa.out.size ?_))
          intro vo w6 hown hg _
          have Ba : Hid (Below w1.heap.size w1 w6) := BAa.out.grown hg BAa.out.size (fun q e => (Oa.out.lt q e).1)
          have Ma : Hid (IOwn w6 w1.heap.size vo (rs ++ [a])) := by
            show IOwn _ _ _ _
            rw [HNR.out] at hown; exact IOwn.more hown
          clear hown hg
          clear OFb
          obtain ⟨rb, rd, hvo⟩ := Ma.out.shape
          have HNS : Hid (nr + 1 = (rs ++ [a]).length) := by show _ = _; rw [List.length_append, List.length_singleton, HNR.out]
          rw [← HNS.out] at hvo
          subst hvo
          have BW2 : Hid (Below w.heap.size w w6) := HB1.out.trans (Ba.out.mono HB1.out.size)
          clear y0 y1
          obtain ⟨g1, o1, a1, b1, hg1, hx1, y0, y1⟩ := (HV.out.kept (kept_below BW2.out)).read HN.out HLT.out
          rw [HX.out] at hx1
          simp only [Option.some.injEq, Prod.mk.injEq] at hx1 hg1
          obtain ⟨rfl, rfl⟩ := hx1
          rw [Addr.mk.injEq] at hg1
          obtain ⟨rfl, rfl, -⟩ := hg1
          by_cases hb : b ∈ rs ++ [a]
          · obtain ⟨pb, hpb, ofb⟩ := of_hit Ma.out.at' (by rw [← HNS.out]; omega) hb
            have OFb := Lib.hid ofb
            have hzb : decide ((pb : Int) < 0) = false := by first | (simp; done) | (simp; omega)
            have RAb : Hid (RM.addR (rs ++ [a]) b = (rs ++ [a])) := if_pos hb
            clear hb hpb ofb
            go_wp2_with (go_at_call 78; (first | ((with_reducible refine (OFa.out).mono ?_); rintro e w' ⟨rfl, rfl⟩) | ((with_reducible refine (OFb.out).mono ?_); rintro e w' ⟨rfl, rfl⟩)))
            go_roundw
            case rel => exact ⟨i + 1, HLT.out, by go_num, by rw [RT.out, RAa.out, RAb.out]; exact Ma.out, Ba.out⟩
            case measure => have := HLT.out; simp [intOf]; omega
          · have OFb := Lib.hid (of_miss Ma.out.at' (by rw [← HNS.out]; omega) hb)
            have RAb : Hid (RM.addR (rs ++ [a]) b = (rs ++ [a]) ++ [b]) := if_neg hb
            clear hb
            have Ob : Hid (World.ownsRow (w6.alloc (.cells #[.int .i64 b] 3)) w1.heap.size 3 1 (.slice rb (nr + 1) rd) (nr + 1) (ints (rs ++ [a]))) := by
              have : IOwn (w6.alloc (.cells #[.int .i64 b] 3)) w1.heap.size (.slice rb (nr + 1) rd) (rs ++ [a]) := Ma.out.keep fun q _ hq => Below.heap_alloc _ _ _ hq
              unfold IOwn at this; rw [← HNS.out] at this; exact this
            have NBb : Hid ((nr + 1) + 1 ≤ maxLen ∧ ((nr + 1) + 1) * 8 ≤ 140737488355328) := by show _ ∧ _; simp only [maxLen]; omega
            have BAb : Hid (Below w1.heap.size w1 (w6.alloc (.cells #[.int .i64 b] 3))) := Ba.out.alloc Ba.out.size _
            go_wp2_with (first | (go_at_call 78; (first | ((with_reducible refine (OFa.out).mono ?_); rintro e w' ⟨rfl, rfl⟩) | ((with_reducible refine (OFb.out).mono ?_); rintro e w' ⟨rfl, rfl⟩))) | (at_builtin; refine wpList_append_own _ rfl _ _ 40 rfl w1.heap.size 3 i0 (.int .i64 0) 1 8 Tryz.underlying40 HI.out.1 HI.out.2.1 HI.out.2.2.1 HI.out.2.2.2 rfl (by decide) (.slice rb (nr + 1) rd) (nr + 1) (ints (rs ++ [a])) rfl Ob.out ⟨w6.heap.size, 0, none⟩ 1 1 [.int .i64 b] rfl rfl (news1 _ _ _) (fun u hu => by simp at hu; rw [hu]; rfl) NBb.out.1 NBb.out.2 BAb.out.size ?_))
            intro vo w7 hown hg _
            have Bb : Hid (Below w1.heap.size w1 w7) := BAb.out.grown hg BAb.out.size (fun q e => (Ob.out.lt q e).1)
            have Mb : Hid (IOwn w7 w1.heap.size vo ((rs ++ [a]) ++ [b])) := by
              show IOwn _ _ _ _
              rw [HNS.out] at hown; exact IOwn.more hown
            clear hown hg
            go_wp2_with (go_at_call 78; (first | ((with_reducible refine (OFa.out).mono ?_); rintro e w' ⟨rfl, rfl⟩) | ((with_reducible refine (OFb.out).mono ?_); rintro e w' ⟨rfl, rfl⟩)))
            go_roundw
            case rel => exact ⟨i + 1, HLT.out, by go_num, by rw [RT.out, RAa.out, RAb.out]; exact Mb.out, Bb.out⟩
            case measure => have := HLT.out; simp [intOf]; omega
      · have hlz : (n : Int) ≤ i := by omega
        have hdi : decide (i < n) = false := by simp; omega
        have etk : l.take i = l := List.take_of_length_le (by have := HN.out; omega)
        have RS : Hid (rs = RM.regsS spare l) := by show _ = _; rw [HRS.out, etk]
        have hok := RM.regsS_ok l spare
        rw [← RS.out] at hok
        have RN := Lib.hid hok.1
        have RE : Hid (∀ r, r ∈ rs ↔ RM.isOf l spare r = true) := fun r => by rw [RS.out]; exact RM.mem_regsS
        have RO : Hid (∀ (j : Nat) (r : Int), 1 ≤ j → rs[j]? = some r → r ≠ spare) := fun j r hj hr => RM.regs_other (l := l) (i := j) hj (by rw [← RS.out]; exact hr)
        have hnr1 : 1 ≤ nr := by have := (List.getElem?_eq_some_iff.1 hok.2.1).1; have := HNR.out; omega
        have RI : Hid (IsAt wr (.slice ra nr rc) rs) := KO.out.at'
        clear etk hok KO KB hlt
        rename World => wA
        by_cases hm32 : nm ≤ 32
        · have d32 : decide (32 < (nm : Int)) = false := by simp; omega
          have HM32 := Lib.hid hm32
          have hnm32 : (nm : Int) ≤ 32 := by omega
          clear hm32
          go_wp2_with fail
          go_loopw [9, 10] (fun vh jv wl => ∃ j : Nat, j ≤ nr ∧ jv = .int .i64 j ∧ IOwn wl wA.heap.size vh (rs.take j) ∧ Below wA.heap.size wA wl) (fun _ jv _ => nr - (intOf jv).toNat)
          case atStart => exact ⟨0, Nat.zero_le _, rfl, IOwn.nil _ _, Below.refl _ _⟩
          case round =>
            rename World => wB
            obtain ⟨j, hj, rfl, hown, hbw⟩ := hrel
            have KJ := Lib.hid hj
            have HO := Lib.hid hown
            have HB2 := Lib.hid hbw
            have hjl : (rs.take j).length = j := by rw [List.length_take]; have := HNR.out; omega
            obtain ⟨va, vc, hvh⟩ := hown.shape
            rw [hjl] at hvh
            subst hvh
            have HJL := Lib.hid hjl
            clear hj hown hbw hjl
            by_cases hlt : j < nr
            · have hjz : (j : Int) < nr := by omega
              have hj0 : (0 : Int) ≤ j := by omega
              have HLT := Lib.hid hlt
              obtain ⟨g, o, x, rfl, hx, y0⟩ := (RI.out.kept (kept_below HB2.out)).read HNR.out hlt
              have HX : Hid (rs.take (j + 1) = rs.take j ++ [x]) := by show _ = _; rw [List.take_add_one, hx]; rfl
              have OX : Hid (World.ownsRow (wB.alloc (.cells #[.int .i64 x] 3)) wA.heap.size 3 1 (.slice va j vc) j (ints (rs.take j))) := by
                have : IOwn (wB.alloc (.cells #[.int .i64 x] 3)) wA.heap.size (.slice va j vc) (rs.take j) := HO.out.keep fun q _ hq => Below.heap_alloc _ _ _ hq
                unfold IOwn at this; rw [HJL.out] at this; exact this
              have NB : Hid (j + 1 ≤ maxLen ∧ (j + 1) * 8 ≤ 140737488355328) := by show _ ∧ _; simp only [maxLen]; omega
              have BA : Hid (Below wA.heap.size wA (wB.alloc (.cells #[.int .i64 x] 3))) := HB2.out.alloc HB2.out.size _
              clear hlt hx
              go_wp2_with (at_builtin; refine wpList_append_own _ rfl _ _ 40 rfl wA.heap.size 3 i0 (.int .i64 0) 1 8 Tryz.underlying40 HI.out.1 HI.out.2.1 HI.out.2.2.1 HI.out.2.2.2 rfl (by decide) (.slice va j vc) j (ints (rs.take j)) rfl OX.out ⟨wB.heap.size, 0, none⟩ 1 1 [.int .i64 x] rfl rfl (news1 _ _ _) (fun u hu => by simp at hu; rw [hu]; rfl) NB.out.1 NB.out.2 BA.out.size ?_)
              intro vo w6 hown hg _
              have B6 : Hid (Below wA.heap.size wA w6) := BA.out.grown hg BA.out.size (fun q e => (OX.out.lt q e).1)
              have M6 : Hid (IOwn w6 wA.heap.size vo (rs.take (j + 1))) := by
                show IOwn _ _ _ _
                rw [HX.out]
                refine IOwn.more ?_
                rw [HJL.out]; exact hown
              clear hown hg
              go_wp2_with fail
              go_roundw
              case rel => exact ⟨j + 1, HLT.out, by go_num, M6.out, B6.out⟩
              case measure => have := HLT.out; simp [intOf]; omega
            · obtain rfl : j = nr := by have := KJ.out; omega
              have hdj : decide (j < j) = false := by simp
              have OWH : Hid (IOwn wB wA.heap.size (.slice va j vc) (RM.hadS rs (m.take 0))) := by
                show IOwn _ _ _ _
                rw [List.take_zero, RM.hadS_nil]
                have := HO.out
                rw [List.take_of_length_le (by have := HNR.out; omega)] at this
                exact this
              obtain ⟨gh, ch, hvh, hgb, -⟩ := OWH.out.full (by rw [List.take_zero, RM.hadS_nil]; have := HNR.out; omega)
              simp only [Value.slice.injEq] at hvh
              obtain ⟨rfl, -, rfl⟩ := hvh
              have HGB := Lib.hid hgb
              clear hlt HO hgb KJ HJL
              go_wp2_with fail
              go_loopw [11] (fun iv wl => ∃ k : Nat, k ≤ nm ∧ iv = .int .i64 k ∧ IOwn wl wA.heap.size (.slice (some ⟨gh, 0, none⟩) j vc) (RM.hadS rs (m.take k)) ∧ Below wA.heap.size wA wl ∧ ∀ x ∈ m.take k, RM.isOf l spare x.1 = true ∧ RM.isOf l spare x.2 = true) (fun iv _ => nm - (intOf iv).toNat)
              case atStart => exact ⟨0, Nat.zero_le _, rfl, OWH.out, HB2.out, fun x hx => by simp at hx⟩
              case round =>
                rename World => wC
                obtain ⟨k, hk, rfl, hown, hbw, hall⟩ := hrel
                have KK := Lib.hid hk
                have HO := Lib.hid hown
                have HB3 := Lib.hid hbw
                have HA := Lib.hid hall
                have RI3 : Hid (IsAt wC (.slice ra j rc) rs) := RI.out.kept (kept_below hbw)
                have BW3 : Hid (Below w.heap.size w wC) := BW.out.trans (hbw.mono BW.out.size)
                have hrl : Hid (rs.length ≤ 1000000000000) := by show _ ≤ _; have := HNR.out; omega
                clear hk hown hbw hall OWH HB2
                by_cases hlt : k < nm
                · have hkz : (k : Int) < nm := by omega
                  have hk0 : (0 : Int) ≤ k := by omega
                  have HLT := Lib.hid hlt
                  obtain ⟨g, o, a, b, rfl, hx, y0, y1⟩ := (HU.out.kept (kept_below BW3.out)).read HNM.out hlt
                  have HX := Lib.hid hx
                  clear hlt hx
                  have bad : Hid (¬(a ∈ rs ∧ b ∈ rs) → code = 161) := fun hn => by
                    rw [E.out, if_neg]
                    intro hg
                    have := ((RM.good_rows HAM.out).1 hg).2.1 (a, b) (List.mem_of_getElem? HX.out)
                    exact hn ⟨(RE.out a).2 this.1, (RE.out b).2 this.2⟩
                  by_cases ha : a ∈ rs
                  · obtain ⟨pa, hpa, ofa⟩ := of_hit RI3.out hrl.out ha
                    have OFa := Lib.hid ofa
                    have PA := Lib.hid hpa
                    have hza : decide ((pa : Int) < 0) = false := by first | (simp; done) | (simp; omega)
                    have hpj : (pa : Int) < j := by have := (List.getElem?_eq_some_iff.1 hpa).1; have := HNR.out; omega
                    have hpa0 : (0 : Int) ≤ pa := by omega
                    have MA := Lib.hid ha
                    clear ha hpa ofa
                    by_cases hb : b ∈ rs
                    · obtain ⟨pb, hpb, ofb⟩ := of_hit RI3.out hrl.out hb
                      have OFb := Lib.hid ofb
                      have PB := Lib.hid hpb
                      have hzb : decide ((pb : Int) < 0) = false := by first | (simp; done) | (simp; omega)
                      have hpbj : (pb : Int) < j := by have := (List.getElem?_eq_some_iff.1 hpb).1; have := HNR.out; omega
                      have hpb0 : (0 : Int) ≤ pb := by omega
                      have MB := Lib.hid hb
                      obtain ⟨gh2, ch2, hvh, _, _, hat, hfr⟩ := HO.out.full (by have := (List.getElem?_eq_some_iff.1 (RM.hadS_at (ms := m.take k) hpb)).1; omega)
                      simp only [Value.slice.injEq, Option.some.injEq, Addr.mk.injEq, and_true] at hvh
                      obtain ⟨rfl, -, rfl⟩ := hvh
                      have x0 := hat pa _ (RM.hadS_at PA.out)
                      have x1 := hat pb _ (RM.hadS_at PB.out)
                      have f0 := hfr pa
                      obtain ⟨y, hy⟩ : ∃ y, y = RM.run id (m.take k) b := ⟨_, rfl⟩
                      obtain ⟨ya, hya⟩ : ∃ y, y = RM.run id (m.take k) a := ⟨_, rfl⟩
                      rw [← hy] at x1
                      rw [← hya] at x0
                      have HY := Lib.hid hy
                      have ST : Hid (RM.hadS rs (m.take (k + 1)) = (RM.hadS rs (m.take k)).set pa y) := by
                        show _ = _
                        rw [List.take_add_one, HX.out, HY.out]
                        exact RM.hadS_step RN.out PA.out PB.out
                      have O4 : Hid (IOwn (wC.setCell ⟨gh, pa, none⟩ (.int .i64 y)) wA.heap.size (.slice (some ⟨gh, 0, none⟩) j vc) (RM.hadS rs (m.take (k + 1)))) := by
                        show IOwn _ _ _ _
                        rw [ST.out]; exact HO.out.stored pa y
                      have B4 : Hid (Below wA.heap.size wA (wC.setCell ⟨gh, pa, none⟩ (.int .i64 y))) := HB3.out.setCell (by have := HGB.out; exact this) _
                      have A4 : Hid (∀ x ∈ m.take (k + 1), RM.isOf l spare x.1 = true ∧ RM.isOf l spare x.2 = true) := fun x hx => by
                        rw [List.take_add_one, HX.out] at hx
                        rcases List.mem_append.1 hx with hx | hx
                        · exact HA.out x hx
                        · simp at hx; rw [hx]; exact ⟨(RE.out a).1 MA.out, (RE.out b).1 MB.out⟩
                      clear hb hpb ofb hat hfr hy hya
                      go_wp2_with (go_at_call 78; (first | ((with_reducible refine (OFa.out).mono ?_); rintro e w' ⟨rfl, rfl⟩) | ((with_reducible refine (OFb.out).mono ?_); rintro e w' ⟨rfl, rfl⟩)))
                      go_roundw
                      case rel => exact ⟨k + 1, HLT.out, by go_num, O4.out, B4.out, A4.out⟩
                      case measure => have := HLT.out; simp [intOf]; omega
                    · have OFb := Lib.hid (of_miss RI3.out hrl.out hb)
                      have C1 := Lib.hid (bad.out fun h => hb h.2)
                      clear hb
                      go_wp2_with (go_at_call 78; (first | ((with_reducible refine (OFa.out).mono ?_); rintro e w' ⟨rfl, rfl⟩) | ((with_reducible refine (OFb.out).mono ?_); rintro e w' ⟨rfl, rfl⟩)))
                      go_ret
                      exact ⟨by rw [C1.out]; rfl, BW3.out⟩
                  · have OFa := Lib.hid (of_miss RI3.out hrl.out ha)
                    have OFb := Lib.hid (of_any (x := b) RI3.out hrl.out)
                    unfold OfP at OFb
                    obtain ⟨z, hz⟩ : ∃ z, z = RM.ofZ rs b := ⟨_, rfl⟩
                    rw [← hz] at OFb
                    have C1 := Lib.hid (bad.out fun h => ha h.1)
                    clear ha hz
                    go_wp2_with (go_at_call 78; (first | ((with_reducible refine (OFa.out).mono ?_); rintro e w' ⟨rfl, rfl⟩) | ((with_reducible refine (OFb.out).mono ?_); rintro e w' ⟨rfl, rfl⟩)))
                    go_ret
                    exact ⟨by rw [C1.out]; rfl, BW3.out⟩
                · have hkz : (nm : Int) ≤ k := by omega
                  have hdk : decide (k < nm) = false := by simp; omega
                  have etk : m.take k = m := List.take_of_length_le (by have := HNM.out; omega)
                  have HH : Hid (IsAt wC (.slice (some ⟨gh, 0, none⟩) j vc) (RM.hadS rs m)) := by have := HO.out.at'; rw [etk] at this; exact this
                  have HA1 : Hid (∀ x ∈ m, RM.isOf l spare x.1 = true ∧ RM.isOf l spare x.2 = true) := by have := HA.out; rw [etk] at this; exact this
                  have HHL : Hid (j = (RM.hadS rs m).length) := by show _ = _; unfold RM.hadS; rw [List.length_map]; exact HNR.out
                  clear etk HO HA hlt KK
                  go_wp2_with fail
                  go_loopw [14] (fun iv wl => ∃ i : Nat, 1 ≤ i ∧ i ≤ j ∧ iv = .int .i64 i ∧ Below wC.heap.size wC wl ∧ ∀ (q : Nat) (r : Int), 1 ≤ q → q < i → rs[q]? = some r → RM.run id m r = RM.wantS spare l r) (fun iv _ => j - (intOf iv).toNat)
                  case atStart => exact ⟨1, Nat.le_refl _, hnr1, rfl, Below.refl _ _, fun q r h1 h2 => absurd h2 (by omega)⟩
                  case round =>
                    rename World => wD
                    obtain ⟨i, hi1, hi, rfl, hbw, hno⟩ := hrel
                    have KI1 := Lib.hid hi1
                    have KI := Lib.hid hi
                    have KB := Lib.hid hbw
                    have NO := Lib.hid hno
                    clear hi1 hi hbw hno
                    by_cases hlt : i < j
                    · have hlz : (i : Int) < j := by omega
                      have hi0 : (0 : Int) ≤ i := by omega
                      have HLT := Lib.hid hlt
                      obtain ⟨g0, o0, r, rfl, hx, y0⟩ := (RI3.out.kept (kept_below KB.out)).read HNR.out hlt
                      have HX := Lib.hid hx
                      have RSP := Lib.hid (RO.out i r KI1.out hx)
                      clear hlt hx
                      go_wp2_with fail
                      go_loopw [15, 16] (fun wv kv wl => ∃ k : Nat, k ≤ n ∧ wv = .int .i64 (RM.wantS spare (l.take k) r) ∧ kv = .int .i64 k ∧ Below wC.heap.size wC wl) (fun _ kv _ => n - (intOf kv).toNat)
                      case atStart => exact ⟨0, Nat.zero_le _, by show _ = Value.int .i64 (RM.sp spare r); unfold RM.sp; rw [if_neg RSP.out], rfl, KB.out⟩
                      case round =>
                        obtain ⟨k2, hk2, rfl, rfl, hbw⟩ := hrel
                        have KK2 := Lib.hid hk2
                        have KB2 := Lib.hid hbw
                        have BW4 : Hid (Below w.heap.size w wr) := BW3.out.trans (hbw.mono BW3.out.size)
                        obtain ⟨want, hwant⟩ : ∃ z, z = RM.wantS spare (l.take k2) r := ⟨_, rfl⟩
                        rw [← hwant]
                        have HW := Lib.hid hwant
                        clear hk2 hbw y0 hwant
                        by_cases hlt2 : k2 < n
                        · have hkz2 : (k2 : Int) < n := by omega
                          have hk02 : (0 : Int) ≤ k2 := by omega
                          have HLT2 := Lib.hid hlt2
                          obtain ⟨g, o, a, b, rfl, hx2, y0, y1⟩ := (HV.out.kept (kept_below BW4.out)).read HN.out hlt2
                          obtain ⟨g1, o1, r1, hg1, hx1, z0⟩ := (RI3.out.kept (kept_below KB2.out)).read HNR.out HLT.out
                          rw [HX.out, Option.some.injEq] at hx1
                          subst hx1
                          simp only [Option.some.injEq] at hg1
                          rw [Addr.mk.injEq] at hg1
                          obtain ⟨rfl, rfl, -⟩ := hg1
                          have HX2 := Lib.hid hx2
                          clear hlt2 hx2
                          by_cases har : a = r
                          · have d1 : (a == r) = true := by simp [har]
                            have WX : Hid (RM.wantS spare (l.take (k2 + 1)) r = b) := by show _ = _; rw [RM.wantS_take spare HX2.out, if_pos har.symm]
                            clear har
                            go_wp2_with fail
                            go_quiet (fail)
                            go_wp2_with fail
                            go_roundw
                            case rel => exact ⟨k2 + 1, HLT2.out, by rw [WX.out], by go_num, KB2.out.trans (below_drewN _ _ _)⟩
                            case measure => have := HLT2.out; simp [intOf]; omega
                          · have d1 : (a == r) = false := by simp [har]
                            have WX : Hid (RM.wantS spare (l.take (k2 + 1)) r = want) := by show _ = _; rw [RM.wantS_take spare HX2.out, if_neg (fun e => har e.symm), HW.out]
                            clear har
                            go_wp2_with fail
                            go_quiet (fail)
                            go_wp2_with fail
                            go_roundw
                            case rel => exact ⟨k2 + 1, HLT2.out, by rw [WX.out], by go_num, KB2.out.trans (below_drewN _ _ _)⟩
                            case measure => have := HLT2.out; simp [intOf]; omega
                        · have hkz2 : (n : Int) ≤ k2 := by omega
                          have hdk2 : decide (k2 < n) = false := by simp; omega
                          have WL : Hid (want = RM.wantS spare l r) := by show _ = _; rw [HW.out, List.take_of_length_le (by have := HN.out; omega)]
                          obtain ⟨g1, o1, z, hg1, hx1, z0⟩ := (HH.out.kept (kept_below KB2.out)).read HHL.out HLT.out
                          rw [RM.hadS_at HX.out, Option.some.injEq] at hx1
                          simp only [Option.some.injEq] at hg1
                          rw [Addr.mk.injEq] at hg1
                          obtain ⟨rfl, rfl, -⟩ := hg1
                          rw [Nat.zero_add] at z0
                          have HZ := Lib.hid hx1
                          clear hlt2 hx1
                          by_cases hzw : z = want
                          · have d1 : (z != want) = false := by simp [hzw]
                            have NX : Hid (∀ (q : Nat) (r : Int), 1 ≤ q → q < i + 1 → rs[q]? = some r → RM.run id m r = RM.wantS spare l r) := fun q r' h1 h2 h3 => by
                              by_cases e : q = i
                              · subst e
                                rw [HX.out, Option.some.injEq] at h3
                                subst h3
                                rw [HZ.out, hzw, WL.out]
                              · exact NO.out q r' h1 (by omega) h3
                            clear hzw
                            go_wp2_with fail
                            go_roundw
                            case rel => exact ⟨i + 1, Nat.le_succ_of_le KI1.out, HLT.out, by go_num, KB2.out, NX.out⟩
                            case measure => have := HLT.out; simp [intOf]; omega
                          · have d1 : (z != want) = true := by simp [hzw]
                            have C1 : Hid (code = 161) := by
                              show _ = _
                              rw [E.out, if_neg]
                              intro hg
                              have := ((RM.good_rows HAM.out).1 hg).2.2 r ((RE.out r).1 (List.mem_of_getElem? HX.out)) RSP.out
                              exact hzw (by rw [← HZ.out, this, WL.out])
                            clear hzw
                            go_wp2_with fail
                            go_ret
                            exact ⟨by rw [C1.out]; rfl, BW4.out⟩
                    · have hlz : (j : Int) ≤ i := by omega
                      have hdi2 : decide (i < j) = false := by simp; omega
                      have C0 : Hid (code = 0) := by
                        show _ = _
                        rw [E.out, if_pos ((RM.good_rows HAM.out).2 ⟨by have := HM32.out; have := HNM.out; omega, HA1.out, fun r hr hs => ?_⟩)]
                        obtain ⟨q, hq⟩ := List.mem_iff_getElem?.1 ((RE.out r).2 hr)
                        have hql := (List.getElem?_eq_some_iff.1 hq).1
                        refine NO.out q r ?_ (by have := HNR.out; omega) hq
                        apply Nat.pos_of_ne_zero
                        rintro rfl
                        have h0 := (RM.regsS_ok l spare).2.1
                        rw [← RS.out, hq, Option.some.injEq] at h0
                        exact hs h0
                      clear hlt
                      go_wp2_with fail
                      go_ret
                      exact ⟨by rw [C0.out]; rfl, BW3.out.trans (KB.out.mono BW3.out.size)⟩
        · have d32 : decide (32 < (nm : Int)) = true := by simp; omega
          have C1 : Hid (code = 161) := by
            show _ = _
            rw [E.out, if_neg]
            intro hg
            have := ((RM.good_rows HAM.out).1 hg).1
            have := HNM.out
            omega
          clear hm32
          go_wp2_with fail
          go_ret
          exact ⟨by rw [C1.out]; rfl, BW.out⟩
end Go.Proofs.YtnkahlloahgifaaGreatDoor

namespace Go.Proofs.YtnkahlloahgifaaGreatDoor
open Go.RowKit RG Go.Maps

set_option maxHeartbeats 4000000 in
set_option maxRecDepth 20000 in
theorem orders_walk {w : World} (hE : Lx.Env w) {v u : Value} {l m : List RM.Mv} {spare : Int} (h : MvsAt w v l) (hm : MvsAt w u m) (hwf : MvWf m) (hml : m.length ≤ maxLen) : Calls Tryz.prog 8 #[v, .int .i64 spare, u] w (SnP w) := by
  have SN := Lib.hid (sane_any hE)
  have HV := Lib.hid h
  have HU := Lib.hid hm
  have HWF := Lib.hid hwf
  have HML := Lib.hid hml
  obtain ⟨ad, c, rfl, -⟩ := id h
  obtain ⟨am, cm, rfl, -⟩ := id hm
  obtain ⟨n, hn⟩ : ∃ n, n = l.length := ⟨_, rfl⟩
  obtain ⟨nm, hnm⟩ : ∃ n, n = m.length := ⟨_, rfl⟩
  rw [← hn] at HV ⊢
  rw [← hnm] at HU ⊢
  have HN := Lib.hid hn
  clear h hn hm hnm hwf hml hE
  go_enter Tryz.func8, Tryz.ntmps8
  go_wp2_with fail
  refine SN.out.mono ?_
  rintro en w1 ⟨rfl, hb1⟩
  have B1 := Lib.hid hb1
  have OR := Lib.hid (order_any (spare := spare) (HV.out.kept (kept_below hb1)))
  clear hb1
  go_wp2_with fail
  refine OR.out.mono ?_
  rintro en w2 ⟨hb2, hor⟩
  have B2 : Hid (Below w.heap.size w w2) := B1.out.trans (hb2.mono B1.out.size)
  have CA := Lib.hid (checkOrder_any (spare := spare) (HV.out.kept (kept_below B2.out)) (HU.out.kept (kept_below B2.out)) HWF.out HML.out)
  obtain ⟨cd, hcd⟩ : ∃ c, c = coCode l m spare := ⟨_, rfl⟩
  rw [← hcd] at CA
  have HCD := Lib.hid hcd
  have dcd : (cd != cd) = false := by simp
  clear hb2 hcd
  rcases hor with ⟨ham, o, ho, rfl⟩ | ⟨ham, rfl⟩
  · have AM := Lib.hid ham
    have HO := Lib.hid ho
    obtain ⟨oa, oc, hoa, -⟩ := id ho
    obtain ⟨no, hno⟩ : ∃ n, n = (RM.order l spare).length := ⟨_, rfl⟩
    rw [← hno] at hoa
    subst hoa
    have h16 := (RM.areMoves_iff.1 ham).1
    have hnz : (n : Int) ≤ 16 := by have := HN.out; omega
    have hn0 : (0 : Int) ≤ n := by omega
    have hlen : no ≤ n + n / 2 := by rw [hno, HN.out]; exact (RM.order_good ham).2
    have hq : (n : Int).tdiv 2 = ((n / 2 : Nat) : Int) := by rw [Int.tdiv_eq_ediv_of_nonneg hn0]; omega
    have hq16 : ((n / 2 : Nat) : Int) ≤ 16 := by omega
    have hw : IntKind.i64.wrap ((n : Int) + ((n / 2 : Nat) : Int)) = (n : Int) + ((n / 2 : Nat) : Int) := Lx.wrap_in _ (by omega)
    have hd : decide ((no : Int) ≤ (n : Int) + ((n / 2 : Nat) : Int)) = true := by simp; omega
    clear ham ho hno h16
    go_wp2_with fail
    refine CA.out.mono ?_
    rintro en w3 ⟨rfl, hb3⟩
    have B3 : Hid (Below w.heap.size w w3) := B2.out.trans (hb3.mono B2.out.size)
    have K3 := Lib.hid (HO.out.kept (kept_below hb3))
    have CB := Lib.hid (refCheck_any (spare := spare) (HV.out.kept (kept_below B3.out)) (HU.out.kept (kept_below B3.out)) HML.out)
    rw [← HCD.out] at CB
    clear hb3
    go_wp2_with fail
    refine CB.out.mono ?_
    rintro en w4 ⟨rfl, hb4⟩
    have B4 : Hid (Below w.heap.size w w4) := B3.out.trans (hb4.mono B3.out.size)
    have K4 := Lib.hid (K3.out.kept (kept_below hb4))
    have SP := Lib.hid (spare_any (spare := spare) (HV.out.kept (kept_below B4.out)))
    rw [AM.out] at SP
    clear hb4
    go_wp2_with fail
    refine SP.out.mono ?_
    rintro en w5 ⟨rfl, hb5⟩
    have B5 : Hid (Below w.heap.size w w5) := B4.out.trans (hb5.mono B4.out.size)
    have CC := Lib.hid (refCheck_any (spare := spare) (HV.out.kept (kept_below B5.out)) (K4.out.kept (kept_below hb5)) (by have h1 := (RM.order_good AM.out).2; have h2 := (RM.areMoves_iff.1 AM.out).1; simp only [maxLen]; omega))
    have E0 : coCode l (RM.order l spare) spare = 0 := by unfold coCode; rw [if_pos AM.out, if_pos (RM.order_good AM.out).1]
    rw [E0] at CC
    clear hb5 E0
    go_wp2_with fail
    refine CC.out.mono ?_
    rintro en w6 ⟨rfl, hb6⟩
    have B6 : Hid (Below w.heap.size w w6) := B5.out.trans (hb6.mono B5.out.size)
    clear hb6
    go_wp2_with fail
    go_ret
    exact ⟨by first | rfl | (simp [hd]; omega), B6.out⟩
  · have AM := Lib.hid ham
    clear ham
    go_wp2_with fail
    refine CA.out.mono ?_
    rintro en w3 ⟨rfl, hb3⟩
    have B3 : Hid (Below w.heap.size w w3) := B2.out.trans (hb3.mono B2.out.size)
    have CB := Lib.hid (refCheck_any (spare := spare) (HV.out.kept (kept_below B3.out)) (HU.out.kept (kept_below B3.out)) HML.out)
    rw [← HCD.out] at CB
    clear hb3
    go_wp2_with fail
    refine CB.out.mono ?_
    rintro en w4 ⟨rfl, hb4⟩
    have B4 : Hid (Below w.heap.size w w4) := B3.out.trans (hb4.mono B3.out.size)
    have SP := Lib.hid (spare_any (spare := spare) (HV.out.kept (kept_below B4.out)))
    rw [AM.out] at SP
    clear hb4
    go_wp2_with fail
    refine SP.out.mono ?_
    rintro en w5 ⟨rfl, hb5⟩
    have B5 : Hid (Below w.heap.size w w5) := B4.out.trans (hb5.mono B4.out.size)
    clear hb5
    go_wp2_with fail
    go_ret
    exact ⟨rfl, B5.out⟩
end Go.Proofs.YtnkahlloahgifaaGreatDoor

