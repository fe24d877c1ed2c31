/- Handles, at any heap: walked. -/
import Derived.Test.YtfjgokbclgdfjaaHk
import Derived.Test.YtfjgokbclgdfjaaNa
import Derived.Sort.OwnSorted
set_option linter.unusedSimpArgs false
set_option linter.unusedVariables false
namespace Go.Proofs.Ytfjgokbclgdfjaa
open Go.RowKit HM Go.Sort

def ints (ns : List Int) : List Value := ns.map (Value.int .i64)
theorem ints_length (ns : List Int) : (ints ns).length = ns.length := List.length_map _
theorem ints_append (a b : List Int) : ints (a ++ b) = ints a ++ ints b := List.map_append

/-- What the library's sort does. -/
def SortLaw : Prop := ∀ (blk cap : Nat) (zs : List Int) (w : World), Holds (Value.int .i64) w blk 0 zs.toArray → blk < w.heap.size → zs.length < 4611686018427387904 →
    Calls Try.prog 74 #[.slice (some ⟨blk, 0, none⟩) zs.length cap] w fun e w' =>
      e = .returned (.tuple #[]) ∧ ∃ n os, w' = grow (putRow (Value.int .i64) (Sort.ahead w n) blk 0 (zs.mergeSort fun x y => decide (x ≤ y)).toArray) os

theorem holds_ints {w : World} {g : Nat} {cur : Array Value} {e : TypeId} {ns : List Int} (hb : w.heap[g]? = some (.cells cur e (0, 0))) (ht : cur.toList.take ns.length = ints ns) : Holds (Value.int .i64) w g 0 ns.toArray := by
  intro j hj
  have hj' : j < ns.length := by simpa using hj
  refine ⟨?_, by simp [World.frozen?, hb]⟩
  have h1 : (cur.toList.take ns.length)[j]? = (ints ns)[j]? := by rw [ht]
  rw [List.getElem?_take_of_lt hj'] at h1
  simp only [World.cell?, hb, Nat.zero_add]
  simp only [Option.isSome_none, Bool.false_eq_true, if_false]
  rw [← Array.getElem?_toList, h1]
  simp [hj', ints]

theorem heap_sortedI {w : World} {g n : Nat} {os : Array Obj} {cur : Array Value} {e : TypeId} {fr : Nat × Nat} (d : Array Int) (hb : w.heap[g]? = some (.cells cur e fr)) :
    (grow (putRow (Value.int .i64) (Sort.ahead w n) g 0 d) os).heap[g]? = some (.cells (putCells (Value.int .i64) 0 d cur) e fr) := by
  have hg : g < w.heap.size := (Array.getElem?_eq_some_iff.1 hb).1
  rw [heap_grow_old _ _ (by simpa using hg)]
  simp [putRow, mapBlock, Sort.ahead, Array.getElem?_modify, hb, onCells]

theorem grownBy_sortedI {w : World} {g n : Nat} {os : Array Obj} (d : Array Int) : w.grownBy (grow (putRow (Value.int .i64) (Sort.ahead w n) g 0 d) os) (some g) := by
  refine ⟨rfl, rfl, rfl, by simp, fun k hk hne => ?_⟩
  rw [heap_grow_old _ _ (by simpa using hk)]
  have : g ≠ k := fun e => hne (by rw [e])
  simp [putRow, mapBlock, Sort.ahead, Array.getElem?_modify, this]

theorem take_putCellsI (cur : Array Value) (ts : List Int) (h : ts.length ≤ cur.size) : (putCells (Value.int .i64) 0 ts.toArray cur).toList.take ts.length = ints ts := by
  apply List.ext_getElem?
  intro j
  by_cases hj : j < ts.length
  · rw [List.getElem?_take_of_lt hj, Array.getElem?_toList]
    simp [putCells, hj, show j < cur.size by omega, ints]
  · rw [List.getElem?_take_eq_none (by omega), List.getElem?_eq_none (by simp [ints]; omega)]

theorem ownsRow_sortedI {w : World} {base g cap n : Nat} {e : TypeId} {os : Array Obj} {cur : Array Value} {ss ts : List Int} (hl : ts.length = ss.length) (hbase : base ≤ g) (hb : w.heap[g]? = some (.cells cur e (0, 0)))
    (h1 : ss.length ≤ cap) (h2 : cap ≤ maxLen) (h3 : cur.size = cap * 1) :
    (grow (putRow (Value.int .i64) (Sort.ahead w n) g 0 ts.toArray) os).ownsRow base e 1 (.slice (some ⟨g, 0, none⟩) ss.length cap) ss.length (ints ts) :=
  ⟨by simp [hl, ints], .inr ⟨g, cap, _, rfl, hbase, heap_sortedI _ hb, h1, h2, by simp [putCells, h3], by rw [Nat.mul_one, ← hl]; exact take_putCellsI cur ts (by omega)⟩⟩

theorem Try.info3u : (Try.prog.info? 3).map (fun i => (i.zero, i.size, i.bytes)) = some (some (.int .i64 0), 1, 8) := by kernel_rfl

/-- New blocks, and blocks that have come since, may change. -/
theorem Ch.grown {ρ : Nat → Nat} {w w1 w2 : World} (h : Ch (fun _ => False) ρ ρ w w1) {row : Option Nat} (g : w1.grownBy w2 row) (hr : ∀ k, row = some k → w.heap.size ≤ k) : Ch (fun _ => False) ρ ρ w w2 :=
  ⟨g.os.trans h.os, g.tape.trans h.tape, g.output.trans h.output, Nat.le_trans h.size g.size, fun k hk hn => (g.block k (Nat.lt_of_lt_of_le hk h.size) (fun e => by have := hr k e.symm; omega)).trans (h.block k hk hn),
   h.role, fun k hk => h.fresh k (Nat.le_trans g.size hk)⟩

theorem own_sliceI {W : World} {B e size n : Nat} {v : Value} {xs : List Value} (h : W.ownsRow B e size v n xs) : ∃ a c, v = .slice a n c := by
  rcases h.2 with ⟨rfl, rfl⟩ | ⟨g, cap, cur, e, _⟩
  · exact ⟨_, _, rfl⟩
  · exact ⟨_, _, e⟩

/-- What Handles leaves. -/
def HdP (w : World) (ρ : Nat → Nat) (hs : List (Option Nat)) (e : Ending) (w' : World) : Prop :=
  ∃ a c, e = .returned (.slice a (handsFrom 0 hs).length c) ∧ w'.ownsRow w.heap.size 3 1 (.slice a (handsFrom 0 hs).length c) (handsFrom 0 hs).length (ints (handsFrom 0 hs)) ∧ Ch (fun _ => False) ρ ρ w w'

set_option maxHeartbeats 1000000 in
set_option maxRecDepth 20000 in
theorem handles_rep (SORT : SortLaw) {w : World} {ρ : Nat → Nat} {A : Ad} {s : S} (h : Rep w ρ A s) (hlen : s.handles.length < 60000) :
    Calls Try.prog 41 #[.pointer (some ⟨A.hb, 0, none⟩)] w (HdP w ρ s.handles) := by
  obtain ⟨D, hown, hsz, hm1, hm2⟩ := h.map
  have c8 := h.c8
  have hblt := h.blt
  have HS := Lib.hid SORT
  have HR := Lib.hid h.rho
  have HO := Lib.hid hown
  have H1 := Lib.hid hm1
  have H2 := Lib.hid (fun j i e => (hm2 j i e).1)
  have HL := Lib.hid hlen
  have HMB := Lib.hid h.map.lt
  obtain ⟨i0, hi0, hz0, hz1, hz2⟩ := info_parts Try.info3u
  have HI := Lib.hid (And.intro hi0 (And.intro hz0 (And.intro hz1 hz2)))
  clear h hown hm1 hm2 hsz hlen hi0 hz0 hz1 hz2 SORT
  go_enter Try.func41, Try.ntmps41
  go_wp2_with (at_range; refine wpList_range_own _ rfl _ 41 rfl 3 83 keyed3 Try.underlying41 ptrR A.mb _ D rfl HO.out ?_; intro w0 hrg0 hg0 hs0)
  go_frame
  have R0 := Lib.hid hrg0
  have C0 : Hid (Ch (fun _ => False) ρ ρ w w0) := (Ch.refl HR.out).grown hg0 (by simp)
  have S0 := Lib.hid hs0
  clear hrg0 hg0 hs0
  go_loopw [3, 4] (fun o _ wr => ∃ (left : Lit → Bool) (cnt : Nat) (ns : List Int) (a : Option Addr) (n c : Nat), o = .slice a n c ∧ n = ns.length ∧ wr.ranges Try.prog 3 ptrR A.mb w.heap.size (Maps.size D) D left cnt ∧ ColI D left ns ∧ wr.ownsRow (w.heap.size + 1) 3 1 (.slice a n c) n (ints ns) ∧ Ch (fun _ => False) ρ ρ w wr ∧ w.heap.size + 1 ≤ wr.heap.size)
    (fun _ _ wr => wr.rangeLeft A.mb w.heap.size)
  case atStart => exact ⟨_, _, [], none, 0, 0, rfl, rfl, R0.out, ColI.start D, World.ownsRow_nil _ _ _ _, C0.out, Nat.le_of_eq S0.out.symm⟩
  case round =>
    obtain ⟨left, cnt, ns, a, n, c, rfl, hn, hrg, hcol, hrow, hch, hsz⟩ := hrel
    have HN := Lib.hid hn
    have HRG := Lib.hid hrg
    have HCO := Lib.hid hcol
    have HRO := Lib.hid hrow
    have HCH := Lib.hid hch
    have HSZ := Lib.hid hsz
    clear hn hrg hcol hrow hch hsz
    go_wp2_with (at_next; refine wpList_next_ranges (α := Int) (β := Value) _ rfl _ rfl 3 keyed3 ptrR (Value.int .i64) id (fun key kl hkey => by obtain ⟨x, rfl, _⟩ := Maps.keyOf_int_inv Try.underlying3 hkey; exact ⟨x, rfl⟩) (fun v y _ => ⟨v, rfl⟩) A.mb w.heap.size (Maps.size D) D left cnt rfl HRG.out ?_ ?_)
    · intro _ hl0
      have HSO := Lib.hid (HCO.out.sorted hl0 H1.out H2.out)
      clear hl0
      rcases HRO.out.2 with ⟨hnil, hn0⟩ | ⟨g, cap, cur, hv, hbase, hb, k1, k2, k3, k4⟩
      · have e0 : ns = [] := List.length_eq_zero_iff.1 (by rw [← HN.out]; exact hn0)
        have eh : handsFrom 0 s.handles = [] := by rw [← HSO.out, e0, List.mergeSort_nil]
        have EH := Lib.hid eh
        cases hnil
        clear e0 eh hn0
        go_wp2_with (go_at_call 74; refine (sort_none _).mono ?_; rintro e w' ⟨rfl, rfl⟩)
        go_ret
        unfold HdP
        rw [EH.out]
        exact ⟨none, 0, rfl, World.ownsRow_nil _ _ _ _, HCH.out⟩
      · simp only [Value.slice.injEq, true_and] at hv
        obtain ⟨rfl, rfl⟩ := hv
        have hlen : (handsFrom 0 s.handles).length = n := by rw [← HSO.out, List.length_mergeSort, HN.out]
        have SC := HS.out g c ns wr (holds_ints hb (by rw [← HN.out]; simpa using k4)) (Array.getElem?_eq_some_iff.1 hb).1 (by have := HCO.out.len H1.out; have := HL.out; omega)
        rw [← HN.out, HSO.out] at SC
        have SC2 := Lib.hid SC
        have FIN : Hid (∀ (q : Nat) (os : Array Obj) (w2 : World), w2 = grow (putRow (Value.int .i64) (Sort.ahead wr q) g 0 (handsFrom 0 s.handles).toArray) os → HdP w ρ s.handles (.returned (.slice (some ⟨g, 0, none⟩) n c)) w2) := fun q os w2 e => by
          unfold HdP
          rw [hlen]
          refine ⟨_, _, rfl, ?_, ?_⟩
          · rw [e]
            have := ownsRow_sortedI (w := wr) (base := w.heap.size) (n := q) (os := os) (ss := ns) (ts := handsFrom 0 s.handles) (by rw [hlen, HN.out]) (by omega) hb (by rw [← HN.out]; exact k1) k2 k3
            rw [← HN.out] at this
            exact this
          · rw [e]
            exact HCH.out.grown (grownBy_sortedI _) (by intro k ek; cases ek; omega)
        clear SC hlen hb k1 k2 k3 k4 hbase
        go_wp2_with (go_at_call 74; refine (SC2.out).mono ?_; rintro e w2 ⟨rfl, q, os, hw2⟩; have HW := Lib.hid hw2; clear hw2)
        go_ret
        exact FIN.out q os _ HW.out
    · intro x cc kl yd yp w1 cnt1 hkey hlk hv hat hrg1 hlt hg1 hs1 hen
      obtain ⟨x', ex, rfl, hwx⟩ := Maps.keyOf_int_inv Try.underlying3 hkey
      cases ex
      have hhas : Maps.has D (.int .i64 x) = true := Maps.has_true_of_atKey hat
      have HC2 := Lib.hid (HCO.out.step hhas hlk)
      have HRG1 := Lib.hid hrg1
      have hne : (Value.slice a n c).ownBlock = none ∨ (Value.slice a n c).ownBlock ≠ some w.heap.size := .inr fun e => by have := (HRO.out.lt _ e).1; omega
      have HRO2 := Lib.hid ((HRO.out.kept hg1 hne).alloc (.cells #[.int .i64 x] 3))
      have HCH1 := Lib.hid ((HCH.out.grown hg1 (by intro k e; cases e; exact Nat.le_refl _)).alloc (.cells #[.int .i64 x] 3))
      have HSZ1 : Hid (w.heap.size + 1 ≤ w1.heap.size) := by rw [hs1]; exact HSZ.out
      have HLT := Lib.hid hlt
      have HX := Lib.hid (heap_alloc_new w1 (.cells #[.int .i64 x] 3))
      have HB := Lib.hid (HCO.out.len H1.out)
      clear hkey hlk hv hat hrg1 hlt hg1 hs1 hhas hne hwx
      go_wp2_with (at_builtin; refine wpList_append_own _ rfl _ _ 29 rfl (w.heap.size + 1) 3 i0 (.int .i64 0) 1 8 Try.underlying29 HI.out.1 HI.out.2.1 HI.out.2.2.1 HI.out.2.2.2 rfl (by decide) (.slice a n c) n (ints ns) rfl HRO2.out ⟨w1.heap.size, 0, none⟩ 1 1 [.int .i64 x] rfl rfl ?_ ?_ ?_ ?_ ?_ ?_)
      · intro j u hu
        rw [Addr.add_lit, cell_of_row _ _ _ _ _ _ HX.out]
        match j, hu with
        | 0, hu => simpa using hu
        | j + 1, hu => simp at hu
      · intro u hu; simp at hu; subst hu; rfl
      · have := HB.out; have := HL.out; have := HN.out; simp only [maxLen]; omega
      · have := HB.out; have := HL.out; have := HN.out; omega
      · have := HSZ1.out; simp; omega
      · intro v' w4 h1 h2 _
        obtain ⟨a2, c2, rfl⟩ := own_sliceI h1
        have hrow : ∀ k, some k = (Value.slice a n c).ownBlock → w.heap.size + 1 ≤ k := fun k e => (HRO2.out.lt _ e.symm).1
        have HRG2 := Lib.hid ((HRG1.out.alloc (.cells #[.int .i64 x] 3)).kept h2 (fun e => by have := hrow _ e; have := HMB.out; omega) (fun e => by have := hrow _ e; omega))
        have HROW := Lib.hid h1
        have HCH2 := Lib.hid (HCH1.out.grown h2 (fun k e => by have := hrow k e.symm; omega))
        have HSZ2 : Hid (w.heap.size + 1 ≤ w4.heap.size) := Nat.le_trans HSZ1.out (Nat.le_trans (by simp) h2.size)
        clear h1 h2 hrow hen
        go_wp2_with fail
        go_roundw
        case rel => exact ⟨_, cnt1, ns ++ [x], a2, n + 1, c2, rfl, by rw [List.length_append, List.length_singleton, HN.out], HRG2.out, HC2.out, by rw [ints_append]; exact HROW.out, HCH2.out, HSZ2.out⟩
        case measure => rw [HRG2.out.left_eq, HRG.out.left_eq]; exact HLT.out
end Go.Proofs.Ytfjgokbclgdfjaa
