/- The register of a name; two lists of texts: walked. -/
import Derived.Test.YtnkahlloahgifaaGreatDoorCb
set_option linter.unusedSimpArgs false
set_option linter.unusedVariables false
namespace Go.Proofs.YtnkahlloahgifaaGreatDoor
open Go.RowKit RG Go.Maps

/-- The variables of an allocation, in memory. -/
def VarsAt (w : World) (v : Value) (l : List (Nm × Int)) : Prop :=
  ∃ (ad : Option Addr) (c : Nat), v = .slice ad l.length c ∧ (0 < l.length → ∃ g o, ad = some ⟨g, o, none⟩ ∧ ∀ (i : Nat) m, l[i]? = some m → w.cell? ⟨g, o + i * 2, none⟩ = some (.string m.1) ∧ w.cell? ⟨g, o + i * 2 + 1, none⟩ = some (.int .i64 m.2))

theorem VarsAt.kept {w w' : World} {v : Value} {l : List (Nm × Int)} (h : VarsAt w v l) (hk : Kept w w') : VarsAt w' v l := by
  obtain ⟨ad, c, e, h1⟩ := h
  exact ⟨ad, c, e, fun h0 => by obtain ⟨g, o, e2, hat⟩ := h1 h0; exact ⟨g, o, e2, fun i m hi => ⟨hk _ _ (hat i m hi).1, hk _ _ (hat i m hi).2⟩⟩⟩

/-- The register of a name. -/
def regFind (l : List (Nm × Int)) (x : Nm) : Option Int := (l.find? fun p => decide (p.1 = x)).map (·.2)

def RgP (w : World) (r : Option Int) (e : Ending) (w' : World) : Prop := Below w.heap.size w w' ∧ e = .returned (.tuple #[.int .i64 (r.getD 0), .bool r.isSome])

theorem bytes_beq (a b : Nm) : (a.toList == b.toList) = decide (a = b) := by
  rw [Bool.eq_iff_iff, beq_iff_eq, decide_eq_true_eq]
  exact ⟨fun h => WideShapes.bytes_inj (by rw [Lib.toList_data, Lib.toList_data] at h; exact h), fun h => by rw [h]⟩

set_option maxHeartbeats 1000000 in
set_option maxRecDepth 20000 in
theorem reg_any {w : World} {n0 : Int} {v : Value} {l : List (Nm × Int)} (x : Nm) (h : VarsAt w v l) (hl : l.length ≤ 1000000000000) : Calls Tryz.prog 44 #[.agg #[.int .i64 n0, v], .string x] w (RgP w (regFind l x)) := by
  obtain ⟨ad, c, rfl, hat⟩ := h
  have HAT := Lib.hid hat
  obtain ⟨n, hn⟩ : ∃ n, n = l.length := ⟨_, rfl⟩
  rw [← hn] at hl ⊢
  have HN := Lib.hid hn
  have hnz : (n : Int) ≤ 1000000000000 := by omega
  obtain ⟨r, hr⟩ : ∃ r, r = regFind l x := ⟨_, rfl⟩
  rw [← hr]
  have HR := Lib.hid hr
  clear hat hn hl hr
  go_enter Tryz.func44, Tryz.ntmps44
  go_wp2_with fail
  go_loopw [11] (fun iv wr => ∃ k : Nat, k ≤ n ∧ iv = .int .i64 k ∧ Below w.heap.size w wr ∧ w.heap.size < wr.heap.size ∧ r = regFind (l.drop k) x) (fun iv _ => n - (intOf iv).toNat)
  case atStart => exact ⟨0, Nat.zero_le _, rfl, (Below.refl _ _).alloc (Nat.le_refl _) _, by simp, HR.out⟩
  case round =>
    obtain ⟨k, hk, rfl, hb, hs, hq⟩ := hrel
    have HK := Lib.hid hk
    have HB := Lib.hid hb
    have HQ := Lib.hid hq
    have HS := Lib.hid hs
    clear hk hb hq hs
    by_cases hlt : k < n
    · obtain ⟨g, o, rfl, hat⟩ := HAT.out (by have := HN.out; omega)
      obtain ⟨⟨y, rg⟩, hx⟩ : ∃ m, l[k]? = some m := ⟨_, List.getElem?_eq_getElem (by have := HN.out; omega)⟩
      obtain ⟨y0, y1⟩ := hat k _ hx
      have y0 := kept_below HB.out _ _ y0
      have y1 := kept_below HB.out _ _ y1
      simp only [] at y0 y1
      have HX := Lib.hid hx
      have HLT := Lib.hid hlt
      have hlz : (k : Int) < n := by omega
      have VB : Hid (∀ o, Below w.heap.size w (wr.alloc o) ∧ w.heap.size < (wr.alloc o).heap.size) := fun o => ⟨HB.out.alloc HB.out.size _, by have := HS.out; rw [World.size_alloc]; omega⟩
      have DR : Hid (l.drop k = (y, rg) :: l.drop (k + 1)) := by
        show _ = _
        have hk := (List.getElem?_eq_some_iff.1 hx).1
        rw [List.getElem?_eq_getElem hk, Option.some.injEq] at hx
        rw [List.drop_eq_getElem_cons hk, hx]
      clear hat hx hlt
      by_cases hy : y = x
      · have E2 : Hid (r = some rg) := by show _ = _; rw [HQ.out, DR.out]; unfold regFind; rw [List.find?_cons_of_pos (by simp [hy])]; rfl
        have d1 : (y.toList == x.toList) = true := by rw [bytes_beq]; simp [hy]
        clear hy
        go_wp2_with fail
        go_ret2
        exact ⟨(VB.out _).1, by rw [E2.out]; rfl⟩
      · have E2 : Hid (r = regFind (l.drop (k + 1)) x) := by show _ = _; rw [HQ.out, DR.out]; unfold regFind; rw [List.find?_cons_of_neg (by simp [hy])]
        have d1 : (y.toList == x.toList) = false := by rw [bytes_beq]; simp [hy]
        clear hy
        go_wp2_with fail
        go_roundw
        case rel => exact ⟨k + 1, HLT.out, by go_num, (VB.out _).1, (VB.out _).2, E2.out⟩
        case measure => have := HLT.out; simp [intOf]; omega
    · have hlz : (n : Int) ≤ k := by omega
      have E2 : Hid (r = none) := by
        show _ = _
        have hkl : l.length ≤ k := by have := HN.out; omega
        rw [HQ.out, List.drop_of_length_le hkl]
        rfl
      clear hlt
      go_wp2_with fail
      go_ret2
      exact ⟨HB.out, by rw [E2.out]; rfl⟩

def StP (w : World) (b : Bool) (e : Ending) (w' : World) : Prop := Below w.heap.size w w' ∧ e = .returned (.bool b)

theorem StrsAt.cells {w : World} {v : Value} {ns : List Nm} (h : StrsAt w v ns) : ∃ ad c, v = .slice ad ns.length c ∧ (0 < ns.length → ∃ g o, ad = some ⟨g, o, none⟩ ∧ ∀ (i : Nat) x, ns[i]? = some x → w.cell? ⟨g, o + i, none⟩ = some (.string x)) := by
  obtain ⟨-, ad, c, rfl, hat⟩ := h
  exact ⟨ad, c, rfl, fun h0 => by obtain ⟨g, o, e, h1⟩ := hat h0; exact ⟨g, o, e, fun i x hi => h1 i _ (strs_at hi)⟩⟩

set_option maxHeartbeats 1000000 in
set_option maxRecDepth 20000 in
theorem sameTexts_any {w : World} {v u : Value} {a b : List Nm} (ha : StrsAt w v a) (hb : StrsAt w u b) (hl : a.length ≤ 1000000000000) : Calls Tryz.prog 18 #[v, u] w (StP w (decide (a = b))) := by
  obtain ⟨aa, ac, rfl, hat⟩ := ha.cells
  obtain ⟨ba, bc, rfl, hbt⟩ := hb.cells
  have HAT := Lib.hid hat
  have HBT := Lib.hid hbt
  obtain ⟨n, hn⟩ : ∃ n, n = a.length := ⟨_, rfl⟩
  obtain ⟨m, hm⟩ : ∃ m, m = b.length := ⟨_, rfl⟩
  obtain ⟨ans, hans⟩ : ∃ r, r = decide (a = b) := ⟨_, rfl⟩
  rw [← hn] at hl ⊢
  rw [← hm, ← hans]
  have HN := Lib.hid hn
  have HM := Lib.hid hm
  have HA := Lib.hid hans
  have hnz : (n : Int) ≤ 1000000000000 := by omega
  clear ha hb hat hbt hn hl hans hm
  by_cases hnm : n = m
  · subst hnm
    have dn : ((n : Int) != n) = false := by simp
    go_enter Tryz.func18, Tryz.ntmps18
    go_wp2_with fail
    go_loopw [5] (fun iv wr => ∃ k : Nat, k ≤ n ∧ iv = .int .i64 k ∧ Below w.heap.size w wr ∧ a.take k = b.take k) (fun iv _ => n - (intOf iv).toNat)
    case atStart => exact ⟨0, Nat.zero_le _, rfl, Below.refl _ _, rfl⟩
    case round =>
      obtain ⟨k, hk, rfl, hb, hq⟩ := hrel
      have HK := Lib.hid hk
      have HB := Lib.hid hb
      have HQ := Lib.hid hq
      clear hk hb hq
      by_cases hlt : k < n
      · obtain ⟨g, o, rfl, hat⟩ := HAT.out (by have := HN.out; omega)
        obtain ⟨g2, o2, rfl, hbt⟩ := HBT.out (by have := HM.out; omega)
        obtain ⟨x, hx⟩ : ∃ x, a[k]? = some x := ⟨_, List.getElem?_eq_getElem (by have := HN.out; omega)⟩
        obtain ⟨y, hy⟩ : ∃ y, b[k]? = some y := ⟨_, List.getElem?_eq_getElem (by have := HM.out; omega)⟩
        have y0 := kept_below HB.out _ _ (hat k x hx)
        have y1 := kept_below HB.out _ _ (hbt k y hy)
        have HX := Lib.hid hx
        have HY := Lib.hid hy
        have HLT := Lib.hid hlt
        have hlz : (k : Int) < n := by omega
        have hk0 : (0 : Int) ≤ k := by omega
        clear hat hbt hx hy hlt
        by_cases hxy : x = y
        · have d1 : (!x.toList == y.toList) = false := by rw [bytes_beq]; simp [hxy]
          have E2 : Hid (a.take (k + 1) = b.take (k + 1)) := by show _ = _; rw [List.take_add_one, List.take_add_one, HX.out, HY.out, HQ.out, hxy]
          clear hxy
          go_wp2_with fail
          go_quiet (fail)
          go_wp2_with fail
          go_roundw
          case rel => exact ⟨k + 1, HLT.out, by go_num, HB.out.trans (below_drewN _ _ _), E2.out⟩
          case measure => have := HLT.out; simp [intOf]; omega
        · have d1 : (!x.toList == y.toList) = true := by rw [bytes_beq]; simp [hxy]
          have E2 : Hid (ans = false) := by
            show _ = _
            rw [HA.out, decide_eq_false_iff_not]
            intro e
            have h1 := HX.out
            rw [e, HY.out, Option.some.injEq] at h1
            exact hxy h1.symm
          clear hxy
          go_wp2_with fail
          go_quiet (fail)
          go_wp2_with fail
          go_ret
          exact ⟨HB.out.trans (below_drewN _ _ _), by rw [E2.out]; rfl⟩
      · have hlz : (n : Int) ≤ k := by omega
        have E2 : Hid (ans = true) := by
          show _ = _
          rw [HA.out, decide_eq_true_eq]
          have h1 := HQ.out
          rwa [List.take_of_length_le (by have := HN.out; omega), List.take_of_length_le (by have := HM.out; omega)] at h1
        clear hlt
        go_wp2_with fail
        go_ret
        exact ⟨HB.out, by rw [E2.out]; rfl⟩
  · have dn : ((n : Int) != m) = true := by simp; omega
    have E2 : Hid (ans = false) := by
      show _ = _
      rw [HA.out, decide_eq_false_iff_not]
      intro e
      exact hnm (by rw [HN.out, HM.out, e])
    clear hnm
    go_enter Tryz.func18, Tryz.ntmps18
    go_wp2_with fail
    go_ret
    exact ⟨Below.refl _ _, by rw [E2.out]; rfl⟩
end Go.Proofs.YtnkahlloahgifaaGreatDoor
