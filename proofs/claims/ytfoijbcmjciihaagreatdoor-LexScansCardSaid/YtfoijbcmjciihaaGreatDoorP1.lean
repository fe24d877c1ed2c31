/- 'LexScans' answers true at every input and leaves its arguments alone. -/
import Derived.Test.YtfoijbcmjciihaaGreatDoorCk
import Derived.Test.YtfoijbcmjciihaaGreatDoorJq
set_option linter.unusedSimpArgs false
set_option linter.unusedVariables false
namespace Go.Proofs.YtfoijbcmjciihaaGreatDoor
open Go.RowKit

theorem sameT_refl : ∀ xs : List Tkv, sameT xs xs = true
  | [] => rfl
  | a :: xs => by rw [sameT, sameT_refl xs]; simp [eqT]

set_option maxHeartbeats 4000000 in
set_option maxRecDepth 20000 in
theorem requal_any {w : World} {va vb : Value} {xs : List Tkv} (ha : TkS w va xs) (hb : TkS w vb xs) (hna : xs.length * 40 ≤ 140737488355328) :
    Calls Tryz.prog 13 #[va, vb] w (TrueP w) := by
  obtain ⟨aa, ca, rfl, hca, -⟩ := ha.shape
  obtain ⟨ab, cb, rfl, hcb, -⟩ := hb.shape
  have SM : Hid (∀ W va vb, TkS W va xs → TkS W vb xs → Calls Tryz.prog 27 #[va, vb] W fun e w' => e = .returned (.bool true) ∧ Below W.heap.size W w') := fun W va vb h1 h2 => by
    have := rsame_any h1 h2 hna hna
    unfold SamePost at this
    rw [sameT_refl] at this
    exact this
  obtain ⟨n, hn⟩ : ∃ n, n = xs.length := ⟨_, rfl⟩
  rw [← hn] at ha hb hna ⊢
  have HA := Lib.hid ha
  have HB := Lib.hid hb
  have HN := Lib.hid hn
  have hnz : (n : Int) ≤ 140737488355328 := by omega
  clear ha hb hn hna hca hcb
  go_enter Tryz.func13, Tryz.ntmps13
  go_wp2_with fail
  refine (SM.out _ _ _ HA.out HB.out).mono ?_
  rintro e w1 ⟨rfl, hb⟩
  have HW := Lib.hid hb
  clear hb SM
  go_wp2_with fail
  go_loopw [5] (fun i wr => ∃ k : Nat, k ≤ n ∧ i = .int .i64 k ∧ Below w.heap.size w wr) (fun i _ => n - (intOf i).toNat)
  case atStart => exact ⟨0, Nat.zero_le _, rfl, HW.out⟩
  case round =>
    obtain ⟨k, hk, rfl, hbl⟩ := hrel
    have HBL := Lib.hid hbl
    clear hbl
    by_cases hlt : k < n
    · have hltz : (k : Int) < (n : Int) := by omega
      obtain ⟨a, hxa⟩ : ∃ t, xs[k]? = some t := ⟨_, List.getElem?_eq_getElem (by have := HN.out; omega)⟩
      obtain ⟨ga, oa, rfl, hga, c0, c1, c2, c3⟩ := tkS_cell (HA.out.keep HBL.out) hxa
      obtain ⟨gb, ob, rfl, hgb, d0, d1, d2, d3⟩ := tkS_cell (HB.out.keep HBL.out) hxa
      have HLT := Lib.hid hlt
      obtain ⟨ak, av, ax, ap⟩ := a
      simp only [] at c0 c1 c2 c3 d0 d1 d2 d3
      clear hxa hlt hk
      go_wp2_with fail
      go_quiet (fail)
      go_wp2_with fail
      go_roundw
      case rel => exact ⟨k + 1, HLT.out, by go_num, below_drawn HBL.out _⟩
      case measure => have := HLT.out; simp [intOf]; omega
    · have hge : (n : Int) ≤ (k : Int) := by omega
      clear hlt hk
      go_wp2_with fail
      go_ret
      exact ⟨rfl, HBL.out⟩
end Go.Proofs.YtfoijbcmjciihaaGreatDoor

namespace Go.Proofs.YtfoijbcmjciihaaGreatDoor
open Go.RowKit

def upV (x y : Value) (a e : Int) : Value := .agg #[x, y, .int .i64 a, .int .i64 e]

theorem load29 {w : World} {b : Nat} {x y : Value} {a e : Int} {la lb : Option Addr} {na nb ca cb : Nat} (hx : x = .slice la na ca) (hy : y = .slice lb nb cb)
    (h : w.heap[b]? = some (.cells #[x, y, .int .i64 a, .int .i64 e] 29 (0, 0))) : (loadVar 29 ⟨b, 0, none⟩).run Tryz.prog w = .ok (upV x y a e) w := by
  subst hx
  subst hy
  have h0 : w.cell? ⟨b, 0, none⟩ = some (.slice la na ca) := by rw [cell_of_row _ _ 0 _ _ _ h]; rfl
  have h1 : w.cell? ⟨b, 1, none⟩ = some (.slice lb nb cb) := by rw [cell_of_row _ _ 1 _ _ _ h]; rfl
  have h2 : w.cell? ⟨b, 2, none⟩ = some (.int .i64 a) := by rw [cell_of_row _ _ 2 _ _ _ h]; rfl
  have h3 : w.cell? ⟨b, 3, none⟩ = some (.int .i64 e) := by rw [cell_of_row _ _ 3 _ _ _ h]; rfl
  simp [loadVar, go_sem, h0, h1, h2, h3, upV]

/-- What Scan and Upto leave. -/
def UpPost (w : World) : LX.Res → Ending → World → Prop
  | .bad p er, e, w' => e = .returned (upV (.slice none 0 0) (.slice none 0 0) p er) ∧ Below w.heap.size w w'
  | .ok ts cs, e, w' => ∃ la lc ca cc, e = .returned (upV (.slice la ts.length lc) (.slice ca (2 * cs.length) cc) 0 0) ∧ w'.ownsRow w.heap.size 42 4 (.slice la ts.length lc) ts.length (flatT ts) ∧
      w'.ownsRow w.heap.size 3 1 (.slice ca (2 * cs.length) cc) (2 * cs.length) (flatP cs) ∧ Below w.heap.size w w'

/-- The loop's state. -/
structure UpI (w wr : World) (lv cv : Value) (ts : List LX.Tok) (cs : List (Nat × Nat)) : Prop where
  below : Below w.heap.size w wr
  size : w.heap.size + 2 ≤ wr.heap.size
  zero : wr.heap[w.heap.size]? = some (.cells #[.slice none 0 0, .slice none 0 0, .int .i64 0, .int .i64 0] 29 (0, 0))
  out : wr.heap[w.heap.size + 1]? = some (.cells #[lv, cv, .int .i64 0, .int .i64 0] 29 (0, 0))
  lrow : wr.ownsRow (w.heap.size + 2) 42 4 lv ts.length (flatT ts)
  crow : wr.ownsRow (w.heap.size + 2) 3 1 cv (2 * cs.length) (flatP cs)

theorem UpI.keep {w wr w' : World} {lv cv : Value} {ts : List LX.Tok} {cs : List (Nat × Nat)} (h : UpI w wr lv cv ts cs) (hb : Below wr.heap.size wr w') : UpI w w' lv cv ts cs :=
  ⟨h.below.trans (hb.mono h.below.size), Nat.le_trans h.size hb.size, (hb.block _ (by have := h.size; omega)).trans h.zero, (hb.block _ (by have := h.size; omega)).trans h.out, own_call h.lrow hb, own_call h.crow hb⟩

/-- A text of too many bytes. -/
theorem rupto_long (w : World) (s : ByteArray) (m : Nat) (h : m < s.size) : Calls Tryz.prog 12 #[.string s, .int .i64 m] w (UpPost w (.bad 0 2)) := by
  have hz : (m : Int) < (s.size : Int) := by omega
  clear h
  go_enter Tryz.func12, Tryz.ntmps12
  go_wp2_with fail
  exact bodyPost_ret (v := upV (.slice none 0 0) (.slice none 0 0) 0 2) (by rw [results_one_cell rfl]; simp [asAddr, load29 rfl rfl (heap_alloc_new w _)]) rfl ⟨rfl, (Below.refl _ _).alloc (Nat.le_refl _) _⟩
theorem own_le {w : World} {b b' e size n : Nat} {v : Value} {xs : List Value} (h : w.ownsRow b e size v n xs) (hb : b' ≤ b) : w.ownsRow b' e size v n xs := by
  refine ⟨h.1, ?_⟩
  rcases h.2 with hn | ⟨g, cap, cur, e, hg, rest⟩
  · exact .inl hn
  · exact .inr ⟨g, cap, cur, e, Nat.le_trans hb hg, rest⟩

theorem grown_set4 (w : World) (b : Nat) (x0 x1 x2 x3 : Value) : w.grownBy ((((w.setCell ⟨b, 0, none⟩ x0).setCell ⟨b, 1, none⟩ x1).setCell ⟨b, 2, none⟩ x2).setCell ⟨b, 3, none⟩ x3) (some b) :=
  ⟨rfl, rfl, rfl, by simp, fun k hk hne => by
    have hk : k ≠ b := fun e => hne (by rw [e])
    rw [Below.heap_setCell _ _ _ k hk, Below.heap_setCell _ _ _ k hk, Below.heap_setCell _ _ _ k hk, Below.heap_setCell _ _ _ k hk]⟩

theorem own_set4 {w : World} {b e size n : Nat} {v : Value} {xs : List Value} (x0 x1 x2 x3 : Value) (h : w.ownsRow (b + 2) e size v n xs) : ((((w.setCell ⟨b, 0, none⟩ x0).setCell ⟨b, 1, none⟩ x1).setCell ⟨b, 2, none⟩ x2).setCell ⟨b, 3, none⟩ x3).ownsRow b e size v n xs :=
  own_le (h.kept (grown_set4 w b x0 x1 x2 x3) (.inr fun e => by have := (h.lt b e).1; omega)) (by omega)

theorem UpI.zcells {w wr : World} {lv cv : Value} {ts : List LX.Tok} {cs : List (Nat × Nat)} (h : UpI w wr lv cv ts cs) : (∀ q, wr.frozen? ⟨w.heap.size, q, none⟩ = false) ∧ wr.cell? ⟨w.heap.size, 0, none⟩ = some (.slice none 0 0) ∧ wr.cell? ⟨w.heap.size, 1, none⟩ = some (.slice none 0 0) ∧ wr.cell? ⟨w.heap.size, 2, none⟩ = some (.int .i64 0) ∧ wr.cell? ⟨w.heap.size, 3, none⟩ = some (.int .i64 0) := by
  refine ⟨fun q => frozen_of_row wr _ q _ _ h.zero, ?_, ?_, ?_, ?_⟩ <;> · rw [cell_of_row _ _ _ _ _ _ h.zero]; rfl

theorem UpI.bad {w wr : World} {lv cv : Value} {ts : List LX.Tok} {cs : List (Nat × Nat)} (h : UpI w wr lv cv ts cs) (x0 x1 x2 x3 : Value) : Below w.heap.size w ((((wr.setCell ⟨w.heap.size, 0, none⟩ x0).setCell ⟨w.heap.size, 1, none⟩ x1).setCell ⟨w.heap.size, 2, none⟩ x2).setCell ⟨w.heap.size, 3, none⟩ x3) :=
  h.below.trans ⟨rfl, rfl, rfl, by simp, fun k hk => (grown_set4 wr w.heap.size _ _ _ _).block k (by have := h.size; omega) (fun e => by simp at e; omega)⟩

theorem Tryz.info3u : (Tryz.prog.info? 3).map (fun i => (i.zero, i.size, i.bytes)) = some (some (.int .i64 0), 1, 8) := by kernel_rfl

theorem UpI.ocells {w wr : World} {lv cv : Value} {ts : List LX.Tok} {cs : List (Nat × Nat)} (h : UpI w wr lv cv ts cs) : (∀ q, wr.frozen? ⟨w.heap.size + 1, q, none⟩ = false) ∧ wr.cell? ⟨w.heap.size + 1, 0, none⟩ = some lv ∧ wr.cell? ⟨w.heap.size + 1, 1, none⟩ = some cv := by
  refine ⟨fun q => frozen_of_row wr _ q _ _ h.out, ?_, ?_⟩ <;> · rw [cell_of_row _ _ _ _ _ _ h.out]; rfl

/-- The list of comments has grown. -/
theorem UpI.comment {w wr w' : World} {lv cv cv' : Value} {ts : List LX.Tok} {cs : List (Nat × Nat)} {p q : Nat} (h : UpI w wr lv cv ts cs) (hg : wr.grownBy w' cv.ownBlock) (hlc : lv.ownBlock = none ∨ lv.ownBlock ≠ cv.ownBlock) (hr : w'.ownsRow (w.heap.size + 2) 3 1 cv' (2 * (cs ++ [(p, q)]).length) (flatP cs ++ [.int .i64 p, .int .i64 q])) :
    UpI w (w'.setCell ⟨w.heap.size + 1, 1, none⟩ cv') lv cv' ts (cs ++ [(p, q)]) := by
  have hne : ∀ k, k < w.heap.size + 2 → some k ≠ cv.ownBlock := fun k hk e => by have := (h.crow.lt k e.symm).1; omega
  have keep : ∀ k, k ≠ w.heap.size + 1 → (w'.setCell ⟨w.heap.size + 1, 1, none⟩ cv').heap[k]? = w'.heap[k]? := fun k hk => Below.heap_setCell w' _ _ k hk
  have hs := h.size
  have hgs : w'.grownBy (w'.setCell ⟨w.heap.size + 1, 1, none⟩ cv') (some (w.heap.size + 1)) := ⟨rfl, rfl, rfl, by simp, fun k _ hk => keep k fun e => hk (by rw [e])⟩
  refine ⟨h.below.trans ⟨hg.os, hg.tape, hg.output, by have := hg.size; simp; omega, fun k hk => ?_⟩, by have := hg.size; simp; omega, ?_, ?_, ?_, ?_⟩
  · rw [keep k (by omega)]; exact hg.block k (by omega) (hne k (by omega))
  · rw [keep _ (by omega), hg.block _ (by omega) (hne _ (by omega))]; exact h.zero
  · exact heap_setCell_same w' _ 1 _ _ cv' ((hg.block _ (by omega) (hne _ (by omega))).trans h.out)
  · exact (h.lrow.kept hg hlc).kept hgs (.inr fun e => by have := (h.lrow.lt _ e).1; omega)
  · rw [flatP_append]
    exact hr.kept hgs (.inr fun e => by have := (hr.lt _ e).1; omega)

theorem UpI.apart {w wr : World} {lv cv : Value} {ts : List LX.Tok} {cs : List (Nat × Nat)} (h : UpI w wr lv cv ts cs) : lv.ownBlock = none ∨ lv.ownBlock ≠ cv.ownBlock := by
  rcases h.lrow.2 with ⟨rfl, _⟩ | ⟨g, cap, cur, rfl, _, hg, _⟩
  · exact .inl rfl
  · right
    rcases h.crow.2 with ⟨rfl, _⟩ | ⟨g2, cap2, cur2, rfl, _, hg2, _⟩
    · simp [Value.ownBlock]
    · intro e
      simp [Value.ownBlock] at e
      subst e
      rw [hg] at hg2
      simp at hg2

/-- The list of tokens has grown. -/
theorem UpI.token {w wr w' : World} {lv lv' cv : Value} {ts : List LX.Tok} {cs : List (Nat × Nat)} {t : LX.Tok} (h : UpI w wr lv cv ts cs) (hg : wr.grownBy w' lv.ownBlock) (hlc : cv.ownBlock = none ∨ cv.ownBlock ≠ lv.ownBlock) (hr : w'.ownsRow (w.heap.size + 2) 42 4 lv' (ts ++ [t]).length (flatT ts ++ flatT [t])) :
    UpI w (w'.setCell ⟨w.heap.size + 1, 0, none⟩ lv') lv' cv (ts ++ [t]) cs := by
  have hne : ∀ k, k < w.heap.size + 2 → some k ≠ lv.ownBlock := fun k hk e => by have := (h.lrow.lt k e.symm).1; omega
  have keep : ∀ k, k ≠ w.heap.size + 1 → (w'.setCell ⟨w.heap.size + 1, 0, none⟩ lv').heap[k]? = w'.heap[k]? := fun k hk => Below.heap_setCell w' _ _ k hk
  have hs := h.size
  have hgs : w'.grownBy (w'.setCell ⟨w.heap.size + 1, 0, none⟩ lv') (some (w.heap.size + 1)) := ⟨rfl, rfl, rfl, by simp, fun k _ hk => keep k fun e => hk (by rw [e])⟩
  refine ⟨h.below.trans ⟨hg.os, hg.tape, hg.output, by have := hg.size; simp; omega, fun k hk => ?_⟩, by have := hg.size; simp; omega, ?_, ?_, ?_, ?_⟩
  · rw [keep k (by omega)]; exact hg.block k (by omega) (hne k (by omega))
  · rw [keep _ (by omega), hg.block _ (by omega) (hne _ (by omega))]; exact h.zero
  · exact heap_setCell_same w' _ 0 _ _ lv' ((hg.block _ (by omega) (hne _ (by omega))).trans h.out)
  · rw [flatT_append]
    exact hr.kept hgs (.inr fun e => by have := (hr.lt _ e).1; omega)
  · exact (h.crow.kept hg hlc).kept hgs (.inr fun e => by have := (h.crow.lt _ e).1; omega)

theorem UpI.apart2 {w wr : World} {lv cv : Value} {ts : List LX.Tok} {cs : List (Nat × Nat)} (h : UpI w wr lv cv ts cs) : cv.ownBlock = none ∨ cv.ownBlock ≠ lv.ownBlock := by
  rcases h.apart with h1 | h1
  · cases hc : cv.ownBlock with
    | none => exact .inl rfl
    | some k => right; rw [h1]; intro e; cases e
  · exact .inr (Ne.symm h1)

theorem two_opens (s : ByteArray) {j : Nat} (h : j + 1 < s.size) (ho : LX.opens ((bts s).drop j) = false) : ∃ x : ByteArray, (∀ m, (Instr.slice 9 (.string s) (some (.int .i64 j)) (some (.int .i64 ((j : Int) + 2))) none).run Tryz.prog m = .ok (.string x) m) ∧ (x.toList == ([40, 42] : List UInt8)) = false := by
  obtain ⟨x, hx, sl⟩ := two_at s h rfl rfl
  refine ⟨x, sl, ?_⟩
  have e1 := two_eq hx ⟨#[40, 42]⟩ (a := 40) (b := 42) rfl
  rw [lit4042] at e1
  rw [e1]
  cases hq : ((bts s).getD j 0 == 40 && (bts s).getD (j + 1) 0 == 42) with
  | false => rfl
  | true =>
    simp only [Bool.and_eq_true, beq_iff_eq] at hq
    rw [LX.opens_of (by rw [LX.getD_drop']; exact hq.1) (by rw [LX.getD_drop']; exact hq.2)] at ho
    cases ho

set_option maxHeartbeats 8000000 in
set_option maxRecDepth 20000 in
theorem rupto_fit (w : World) (s : ByteArray) (m : Nat) (h : s.size ≤ m) (hm : m ≤ 400000) : Calls Tryz.prog 12 #[.string s, .int .i64 m] w (UpPost w (LX.scan (bts s))) := by
  obtain ⟨R, hR⟩ : ∃ R, R = LX.scan (bts s) := ⟨_, rfl⟩
  rw [← hR]
  have dm : decide (m < s.size) = false := by simp; omega
  have hz : (s.size : Int) ≤ (m : Int) := by omega
  have hz4 : (s.size : Int) ≤ 400000 := by omega
  have HS := Lib.hid (show s.size ≤ 400000 by omega)
  have HR := Lib.hid (show R = (LX.sc (bts s) 0).app [] [] by rw [LX.Res.app_nil]; exact hR)
  clear h hm hR
  go_enter Tryz.func12, Tryz.ntmps12
  go_wp2_with fail
  go_loopw [6] (fun i wr => ∃ (j : Nat) (la ca : Option Addr) (lc cc : Nat) (ts : List LX.Tok) (cs : List (Nat × Nat)), i = .int .i64 j ∧ j ≤ s.size ∧ UpI w wr (.slice la ts.length lc) (.slice ca (2 * cs.length) cc) ts cs ∧ R = (LX.sc (bts s) j).app ts cs ∧ ts.length ≤ j ∧ cs.length ≤ j) (fun i _ => s.size - (intOf i).toNat)
  case atStart =>
    refine ⟨0, none, none, 0, 0, [], [], rfl, Nat.zero_le _, ⟨((Below.refl _ _).alloc (Nat.le_refl _) _).alloc (by simp) _, by simp, ?_, ?_, World.ownsRow_nil _ _ _ _, World.ownsRow_nil _ _ _ _⟩, HR.out, Nat.le_refl _, Nat.le_refl _⟩
    · exact (Below.heap_alloc _ _ _ (by simp)).trans (heap_alloc_new w _)
    · have := heap_alloc_new (w.alloc (.cells #[.slice none 0 0, .slice none 0 0, .int .i64 0, .int .i64 0] 29)) (.cells #[.slice none 0 0, .slice none 0 0, .int .i64 0, .int .i64 0] 29)
      simpa using this
  case round =>
    obtain ⟨j, la, ca, lc, cc, ts, cs, rfl, hj, hI, hRR, ht, hc⟩ := hrel
    have HI := Lib.hid hI
    have HRR := Lib.hid hRR
    have HTC := Lib.hid (And.intro ht hc)
    obtain ⟨nt, hnt⟩ : ∃ n, n = ts.length := ⟨_, rfl⟩
    obtain ⟨nc, hnc⟩ : ∃ n, n = 2 * cs.length := ⟨_, rfl⟩
    rw [← hnt, ← hnc] at HI
    have HNT := Lib.hid (And.intro hnt hnc)
    clear hI hRR ht hc hnt hnc
    by_cases hlt : j < s.size
    · have hltz : (j : Int) < (s.size : Int) := by omega
      have HLT := Lib.hid hlt
      obtain ⟨c, hcb⟩ : ∃ c, (bts s).getD j 0 = c := ⟨_, rfl⟩
      have b0 : ∀ m, (Instr.index 9 (.string s) (.int .i64 j)).run Tryz.prog m = .ok (.int .u8 c) m := byte_at s hlt hcb
      have STEP := Lib.hid (LX.sc_step (T := bts s) (j := j) (by rw [bts_length]; exact hlt))
      rw [hcb] at STEP
      have SP : Hid (∀ W, Calls Tryz.prog 33 #[.int .u8 c] W fun e w' => e = .returned (.bool (LX.space c)) ∧ w' = W) := fun W => rspace_any W c
      cases hsp : LX.space c with
      | true =>
        rw [hsp] at SP STEP
        clear hcb hsp hlt hj
        go_wp2_with fail
        refine (SP.out _).mono ?_
        rintro e w1 ⟨rfl, rfl⟩
        go_wp2_with fail
        go_roundw
        case rel => exact ⟨j + 1, la, ca, lc, cc, ts, cs, by go_num, HLT.out, by rw [← HNT.out.1, ← HNT.out.2]; exact HI.out, by have := STEP.out; rw [if_pos trivial] at this; rw [HRR.out, this], by have := HTC.out.1; omega, by have := HTC.out.2; omega⟩
        case measure => have := HLT.out; simp [intOf]; omega
      | false =>
        rw [hsp] at SP STEP
        have STEP2 := STEP.out
        simp only [Bool.false_eq_true, if_false] at STEP2
        clear STEP
        have W1 : IntKind.i64.wrap ((j : Int) + 1) = (j : Int) + 1 := wrap_in _ (by omega)
        cases ho : LX.opens ((bts s).drop j) with
        | true =>
          rw [ho] at STEP2
          simp only [if_true] at STEP2
          have ho2 := LX.opens_two ho
          rw [LX.getD_drop', LX.getD_drop', Nat.add_zero, hcb] at ho2
          have hj1 : j + 1 < s.size := by
            rcases Nat.lt_or_ge (j + 1) s.size with hq | hq
            · exact hq
            · have := ho2.2
              rw [List.getD_eq_getElem?_getD, List.getElem?_eq_none (by rw [bts_length]; omega)] at this
              cases this
          obtain ⟨x, hx, sl⟩ := two_at s hj1 hcb ho2.2
          have e1 := two_eq hx ⟨#[40, 42]⟩ (a := 40) (b := 42) rfl
          rw [lit4042, ho2.1] at e1
          have f1 : (x.toList == ([40, 42] : List UInt8)) = true := e1
          have hj1z : (j : Int) + 1 < (s.size : Int) := by omega
          have CM := Lib.hid (fun W => rcomment_any W s HS.out j ho)
          cases hcm : LX.cmt ((bts s).drop j) 0 0 with
          | fin n =>
            obtain ⟨q, hq⟩ : ∃ q, q = j + n := ⟨_, rfl⟩
            have hn := LX.cmt_fin hcm
            have hnl := LX.cmt_le _ _ _ _ hcm
            rw [List.length_drop, bts_length] at hnl
            rw [hcm] at STEP2 CM
            have HQ := Lib.hid (show j < q ∧ q ≤ s.size by omega)
            have hqz : (q : Int) ≤ 400000 := by omega
            have HRB := Lib.hid (show R = (LX.sc (bts s) q).app ts (cs ++ [(j, q)]) by rw [HRR.out, STEP2, hq]; show ((LX.sc (bts s) (j + n)).app [] [(j, j + n)]).app ts cs = _; rw [LX.Res.app_app, List.append_nil])
            unfold cmR cmV CmPost at CM
            simp only [← hq] at CM
            obtain ⟨i0, hi0, hz0, hz1, hz2⟩ := info_parts Tryz.info3u
            have HIN := Lib.hid (And.intro hi0 (And.intro hz0 (And.intro hz1 hz2)))
            clear STEP2 hcm e1 hx ho2 ho hcb hsp hlt hj hq hn hnl hi0 hz0 hz1 hz2
            go_wp2_with fail
            refine (SP.out _).mono ?_
            rintro e w1 ⟨rfl, rfl⟩
            go_wp2_with fail
            refine (CM.out _).mono ?_
            rintro e w2 ⟨rfl, hb⟩
            have HI2 := Lib.hid ((HI.out.keep hb).keep ((Below.refl _ w2).alloc (Nat.le_refl _) (.cells #[.int .i64 q, .int .i64 0, .int .i64 0] 66)))
            have HWZ := Lib.hid hb.size
            clear hb
            obtain ⟨f0, g0, g1⟩ := HI2.out.ocells
            have hx : ((w2.alloc (.cells #[.int .i64 q, .int .i64 0, .int .i64 0] 66)).alloc (.cells #[.int .i64 j, .int .i64 q] 3)).heap[w2.heap.size + 1]? = some (.cells #[.int .i64 j, .int .i64 q] 3 (0, 0)) := by have := heap_alloc_new (w2.alloc (.cells #[.int .i64 q, .int .i64 0, .int .i64 0] 66)) (.cells #[.int .i64 j, .int .i64 q] 3); simpa using this
            have HX := Lib.hid hx
            have HI3 := Lib.hid (HI2.out.keep ((Below.refl _ (w2.alloc (.cells #[.int .i64 q, .int .i64 0, .int .i64 0] 66))).alloc (Nat.le_refl _) (.cells #[.int .i64 j, .int .i64 q] 3)))
            clear hx
            go_wp2_with (at_builtin; refine wpList_append_own _ rfl _ _ 27 rfl (w.heap.size + 2) 3 i0 (.int .i64 0) 1 8 Tryz.underlying27 HIN.out.1 HIN.out.2.1 HIN.out.2.2.1 HIN.out.2.2.2 rfl (by decide) (.slice ca nc cc) nc (flatP cs) rfl ?own _ 2 2 [.int .i64 j, .int .i64 q] rfl rfl ?_ ?_ ?_ ?_ ?_ ?_)
            case own => have := HI3.out.crow; rw [← HNT.out.2] at this; exact this
            · intro y u hu
              rw [Addr.add_lit, cell_of_row _ _ _ _ _ _ HX.out]
              match y, hu with
              | 0, hu => simpa using hu
              | 1, hu => simpa using hu
              | y + 2, hu => simp at hu
            · intro u hu; simp at hu; rcases hu with rfl | rfl <;> rfl
            · have := HNT.out.2; have := HTC.out.2; have := HLT.out; have := HS.out; simp only [maxLen]; omega
            · have := HNT.out.2; have := HTC.out.2; have := HLT.out; have := HS.out; omega
            · exact HI3.out.size
            · intro v' w4 h1 h2 _
              obtain ⟨ca2, cc2, rfl⟩ := own_slice h1
              have ne : ∀ k, some k = (Value.slice ca nc cc).ownBlock → w.heap.size + 2 ≤ k ∧ k < w1.heap.size := fun k e => HI.out.crow.lt k e.symm
              have hO := (h2.block (w.heap.size + 1) (by have := HI3.out.size; omega) (fun e => by have := (ne _ e).1; omega)).trans HI3.out.out
              have hC : w4.heap[w2.heap.size]? = some (.cells #[.int .i64 q, .int .i64 0, .int .i64 0] 66 (0, 0)) :=
                (h2.block w2.heap.size (by simp; omega) (fun e => by have := (ne _ e).2; have := HWZ.out; omega)).trans ((Below.heap_alloc _ _ _ (by simp)).trans (heap_alloc_new w2 _))
              have o1 : w4.cell? ⟨w.heap.size + 1, 1, none⟩ = some (.slice ca nc cc) := by rw [cell_of_row _ _ 1 _ _ _ hO]; rfl
              have o2 : w4.frozen? ⟨w.heap.size + 1, 1, none⟩ = false := frozen_of_row w4 _ 1 _ _ hO
              have o3 : (w4.setCell ⟨w.heap.size + 1, 1, none⟩ (.slice ca2 (nc + 2) cc2)).cell? ⟨w2.heap.size, 0, none⟩ = some (.int .i64 q) := by
                rw [cell_of_row _ _ 0 _ _ _ ((Below.heap_setCell w4 _ _ _ (show w2.heap.size ≠ w.heap.size + 1 by have := HI.out.size; have := HWZ.out; omega)).trans hC)]; rfl
              have HI4 := Lib.hid (HI3.out.comment (p := j) (q := q) h2 HI3.out.apart (by rw [List.length_append, List.length_singleton, Nat.mul_add, ← HNT.out.2]; exact h1))
              clear h1 h2 ne hO hC
              go_wp2_with fail
              go_roundw
              case rel => exact ⟨q, la, ca2, lc, cc2, ts, cs ++ [(j, q)], rfl, HQ.out.2, by rw [List.length_append, List.length_singleton, Nat.mul_add, ← HNT.out.2, ← HNT.out.1]; exact HI4.out, HRB.out, by have := HTC.out.1; have := HQ.out.1; omega, by rw [List.length_append, List.length_singleton]; have := HTC.out.2; have := HQ.out.1; omega⟩
              case measure => have := HLT.out; have := HQ.out; simp [intOf]; omega
          | deep n =>
            rw [hcm] at STEP2 CM
            obtain ⟨q, hq⟩ : ∃ q, q = j + n := ⟨_, rfl⟩
            have HRB := Lib.hid (show R = .bad q 6 by rw [HRR.out, STEP2, hq]; rfl)
            unfold cmR cmV CmPost at CM
            simp only [← hq] at CM
            clear STEP2 hcm e1 hx ho2 ho hcb hsp hlt hj hq
            go_wp2_with fail
            refine (SP.out _).mono ?_
            rintro e w1 ⟨rfl, rfl⟩
            go_wp2_with fail
            refine (CM.out _).mono ?_
            rintro e w2 ⟨rfl, hb⟩
            have HI2 := Lib.hid ((HI.out.keep hb).keep ((Below.refl _ w2).alloc (Nat.le_refl _) (.cells #[.int .i64 0, .int .i64 q, .int .i64 6] 66)))
            clear hb
            obtain ⟨f0, g0, g1, g2, g3⟩ := HI2.out.zcells
            go_wp2_with fail
            have hf := four_set HI2.out.zero (.slice none 0 0) (.slice none 0 0) (.int .i64 q) (.int .i64 6)
            refine bodyPost_ret (v := upV (.slice none 0 0) (.slice none 0 0) q 6) (by rw [results_one_cell rfl]; simp [asAddr, load29 rfl rfl hf]) rfl ?_
            rw [HRB.out]
            exact ⟨rfl, HI2.out.bad _ _ _ _⟩
          | never =>
            rw [hcm] at STEP2 CM
            have HRB := Lib.hid (show R = .bad j 12 by rw [HRR.out, STEP2]; rfl)
            clear STEP2 hcm e1 hx ho2 ho hcb hsp hlt hj
            unfold cmR cmV CmPost at CM
            go_wp2_with fail
            refine (SP.out _).mono ?_
            rintro e w1 ⟨rfl, rfl⟩
            go_wp2_with fail
            refine (CM.out _).mono ?_
            rintro e w2 ⟨rfl, hb⟩
            have HI2 := Lib.hid ((HI.out.keep hb).keep ((Below.refl _ w2).alloc (Nat.le_refl _) (.cells #[.int .i64 0, .int .i64 j, .int .i64 12] 66)))
            clear hb
            obtain ⟨f0, g0, g1, g2, g3⟩ := HI2.out.zcells
            go_wp2_with fail
            have hf := four_set HI2.out.zero (.slice none 0 0) (.slice none 0 0) (.int .i64 j) (.int .i64 12)
            refine bodyPost_ret (v := upV (.slice none 0 0) (.slice none 0 0) j 12) (by rw [results_one_cell rfl]; simp [asAddr, load29 rfl rfl hf]) rfl ?_
            rw [HRB.out]
            exact ⟨rfl, HI2.out.bad _ _ _ _⟩
        | false =>
          rw [ho] at STEP2
          simp only [Bool.false_eq_true, if_false] at STEP2
          have RD := Lib.hid (fun W => rread_any W s j c ⟨HS.out, hlt, hcb⟩)
          cases htk : LX.token ((bts s).drop j) with
          | bad er =>
            rw [htk] at STEP2 RD
            have her := LX.token_bad htk
            have k0 : ((er : Int) == 0) = false := beq_false_of_ne (by omega)
            have k1 : ((er : Int) != 0) = true := by simp; omega
            have HRB := Lib.hid (show R = .bad j er by rw [HRR.out, STEP2]; rfl)
            unfold rdV RdPost tokV at RD
            simp only [] at RD
            by_cases hj1 : j + 1 < s.size
            · obtain ⟨x, sl, f1⟩ := two_opens s hj1 ho
              have hj1z : (j : Int) + 1 < (s.size : Int) := by omega
              clear STEP2 htk her ho hcb hsp hlt hj hj1
              go_wp2_with fail
              refine (SP.out _).mono ?_
              rintro e w1 ⟨rfl, rfl⟩
              go_wp2_with fail
              refine (RD.out _).mono ?_
              rintro e w2 ⟨rfl, hb⟩
              have HI2 := Lib.hid ((HI.out.keep hb).keep ((Below.refl _ w2).alloc (Nat.le_refl _) (.cells #[.int .i64 0, .int .i64 0, .string ⟨#[]⟩, .int .i64 0] 42)))
              clear hb
              obtain ⟨f0, g0, g1, g2, g3⟩ := HI2.out.zcells
              go_wp2_with fail
              have hf := four_set HI2.out.zero (.slice none 0 0) (.slice none 0 0) (.int .i64 j) (.int .i64 er)
              refine bodyPost_ret (v := upV (.slice none 0 0) (.slice none 0 0) j er) (by rw [results_one_cell rfl]; simp [asAddr, load29 rfl rfl hf]) rfl ?_
              rw [HRB.out]
              exact ⟨rfl, HI2.out.bad _ _ _ _⟩
            · have hj1z : (s.size : Int) ≤ (j : Int) + 1 := by omega
              clear STEP2 htk her ho hcb hsp hlt hj hj1
              go_wp2_with fail
              refine (SP.out _).mono ?_
              rintro e w1 ⟨rfl, rfl⟩
              go_wp2_with fail
              refine (RD.out _).mono ?_
              rintro e w2 ⟨rfl, hb⟩
              have HI2 := Lib.hid ((HI.out.keep hb).keep ((Below.refl _ w2).alloc (Nat.le_refl _) (.cells #[.int .i64 0, .int .i64 0, .string ⟨#[]⟩, .int .i64 0] 42)))
              clear hb
              obtain ⟨f0, g0, g1, g2, g3⟩ := HI2.out.zcells
              go_wp2_with fail
              have hf := four_set HI2.out.zero (.slice none 0 0) (.slice none 0 0) (.int .i64 j) (.int .i64 er)
              refine bodyPost_ret (v := upV (.slice none 0 0) (.slice none 0 0) j er) (by rw [results_one_cell rfl]; simp [asAddr, load29 rfl rfl hf]) rfl ?_
              rw [HRB.out]
              exact ⟨rfl, HI2.out.bad _ _ _ _⟩
          | tok k v n =>
            rw [htk] at STEP2 RD
            have htl := LX.token_len htk
            rw [List.length_drop, bts_length] at htl
            unfold rdV RdPost tokV at RD
            simp only [] at RD
            obtain ⟨tx, htx⟩ : ∃ t, t = s.extract j (j + n) := ⟨_, rfl⟩
            rw [← htx] at RD
            have hbt : bts tx = ((bts s).drop j).take n := by rw [htx, bts_extract, Nat.add_sub_cancel_left]
            have hts : tx.size = n := by
              have := congrArg List.length hbt
              rw [bts_length, List.length_take, List.length_drop, bts_length] at this
              omega
            obtain ⟨q, hq⟩ : ∃ q, q = j + n := ⟨_, rfl⟩
            have HRB := Lib.hid (show R = (LX.sc (bts s) q).app (ts ++ [⟨k, v, bts tx, j⟩]) cs by rw [HRR.out, STEP2, hq, hbt]; show ((LX.sc (bts s) (j + n)).app [_] []).app ts cs = _; rw [LX.Res.app_app, List.append_nil])
            have W2 : IntKind.i64.wrap ((j : Int) + (tx.size : Int)) = (q : Int) := by rw [wrap_in _ (by omega)]; omega
            have HQ := Lib.hid (show j < q ∧ q ≤ s.size by omega)
            obtain ⟨i0, hi0, hz0, hz1, hz2⟩ := info_parts Tryz.info42
            have HIN := Lib.hid (And.intro hi0 (And.intro hz0 (And.intro hz1 hz2)))
            by_cases hj1 : j + 1 < s.size
            · obtain ⟨x, sl, f1⟩ := two_opens s hj1 ho
              have hj1z : (j : Int) + 1 < (s.size : Int) := by omega
              clear STEP2 htk htl htx hbt hts hq hi0 hz0 hz1 hz2 ho hcb hsp hlt hj hj1
              go_wp2_with fail
              refine (SP.out _).mono ?_
              rintro e w1 ⟨rfl, rfl⟩
              go_wp2_with fail
              refine (RD.out _).mono ?_
              rintro e w2 ⟨rfl, hb⟩
              have HI2 := Lib.hid ((HI.out.keep hb).keep ((Below.refl _ w2).alloc (Nat.le_refl _) (.cells #[.int .i64 k, .int .i64 v, .string tx, .int .i64 j] 42)))
              have HI3 := Lib.hid (HI2.out.keep ((Below.refl _ (w2.alloc (.cells #[.int .i64 k, .int .i64 v, .string tx, .int .i64 j] 42))).alloc (Nat.le_refl _) (.cells #[.int .i64 k, .int .i64 v, .string tx, .int .i64 j] 42)))
              have HWZ := Lib.hid hb.size
              clear hb
              obtain ⟨f0, g0, g1⟩ := HI2.out.ocells
              have HX : Hid (((w2.alloc (.cells #[.int .i64 k, .int .i64 v, .string tx, .int .i64 j] 42)).alloc (.cells #[.int .i64 k, .int .i64 v, .string tx, .int .i64 j] 42)).heap[w2.heap.size + 1]? = some (.cells #[.int .i64 k, .int .i64 v, .string tx, .int .i64 j] 42 (0, 0))) := Lib.hid (by have := heap_alloc_new (w2.alloc (.cells #[.int .i64 k, .int .i64 v, .string tx, .int .i64 j] 42)) (.cells #[.int .i64 k, .int .i64 v, .string tx, .int .i64 j] 42); simpa using this)
              go_wp2_with (at_builtin; refine wpList_append_own _ rfl _ _ 23 rfl (w.heap.size + 2) 42 i0 _ 4 40 Tryz.underlying23 HIN.out.1 HIN.out.2.1 HIN.out.2.2.1 HIN.out.2.2.2 rfl (by decide) (.slice la nt lc) nt (flatT ts) rfl ?own _ 1 1 [.int .i64 k, .int .i64 v, .string tx, .int .i64 j] rfl rfl ?_ ?_ ?_ ?_ ?_ ?_)
              case own => have := HI3.out.lrow; rw [← HNT.out.1] at this; exact this
              · intro y u hu
                rw [Addr.add_lit, cell_of_row _ _ _ _ _ _ HX.out]
                match y, hu with
                | 0, hu => simpa using hu
                | 1, hu => simpa using hu
                | 2, hu => simpa using hu
                | 3, hu => simpa using hu
                | y + 4, hu => simp at hu
              · intro u hu; simp at hu; rcases hu with rfl | rfl | rfl | rfl <;> rfl
              · have := HNT.out.1; have := HTC.out.1; have := HLT.out; have := HS.out; simp only [maxLen]; omega
              · have := HNT.out.1; have := HTC.out.1; have := HLT.out; have := HS.out; omega
              · exact HI3.out.size
              · intro v' w4 h1 h2 _
                obtain ⟨la2, lc2, rfl⟩ := own_slice h1
                have ne : ∀ k, some k = (Value.slice la nt lc).ownBlock → w.heap.size + 2 ≤ k ∧ k < w1.heap.size := fun k e => HI.out.lrow.lt k e.symm
                have hO := (h2.block (w.heap.size + 1) (by have := HI3.out.size; omega) (fun e => by have := (ne _ e).1; omega)).trans HI3.out.out
                have o1 : w4.cell? ⟨w.heap.size + 1, 0, none⟩ = some (.slice la nt lc) := by rw [cell_of_row _ _ 0 _ _ _ hO]; rfl
                have o2 : w4.frozen? ⟨w.heap.size + 1, 0, none⟩ = false := frozen_of_row w4 _ 0 _ _ hO
                have hC : w4.heap[w2.heap.size]? = some (.cells #[.int .i64 k, .int .i64 v, .string tx, .int .i64 j] 42 (0, 0)) :=
                  (h2.block w2.heap.size (by simp; omega) (fun e => by have := (ne _ e).2; have := HWZ.out; omega)).trans ((Below.heap_alloc _ _ _ (by simp)).trans (heap_alloc_new w2 _))
                have o3 : (w4.setCell ⟨w.heap.size + 1, 0, none⟩ (.slice la2 (nt + 1) lc2)).cell? ⟨w2.heap.size, 2, none⟩ = some (.string tx) := by
                  rw [cell_of_row _ _ 2 _ _ _ ((Below.heap_setCell w4 _ _ _ (show w2.heap.size ≠ w.heap.size + 1 by have := HI.out.size; have := HWZ.out; omega)).trans hC)]; rfl
                have HI4 := Lib.hid (HI3.out.token (t := ⟨k, v, bts tx, j⟩) h2 HI3.out.apart2 (by rw [List.length_append, List.length_singleton, ← HNT.out.1]; simp only [flatT, ofB_bts]; exact h1))
                clear h1 h2 ne hO hC
                go_wp2_with fail
                go_roundw
                case rel => exact ⟨q, la2, ca, lc2, cc, ts ++ [⟨k, v, bts tx, j⟩], cs, rfl, HQ.out.2, by rw [List.length_append, List.length_singleton, ← HNT.out.2, ← HNT.out.1]; exact HI4.out, HRB.out, by rw [List.length_append, List.length_singleton]; have := HTC.out.1; have := HQ.out.1; omega, by have := HTC.out.2; have := HQ.out.1; omega⟩
                case measure => have := HLT.out; have := HQ.out; simp [intOf]; omega
            · have hj1z : (s.size : Int) ≤ (j : Int) + 1 := by omega
              clear STEP2 htk htl htx hbt hts hq hi0 hz0 hz1 hz2 ho hcb hsp hlt hj hj1
              go_wp2_with fail
              refine (SP.out _).mono ?_
              rintro e w1 ⟨rfl, rfl⟩
              go_wp2_with fail
              refine (RD.out _).mono ?_
              rintro e w2 ⟨rfl, hb⟩
              have HI2 := Lib.hid ((HI.out.keep hb).keep ((Below.refl _ w2).alloc (Nat.le_refl _) (.cells #[.int .i64 k, .int .i64 v, .string tx, .int .i64 j] 42)))
              have HI3 := Lib.hid (HI2.out.keep ((Below.refl _ (w2.alloc (.cells #[.int .i64 k, .int .i64 v, .string tx, .int .i64 j] 42))).alloc (Nat.le_refl _) (.cells #[.int .i64 k, .int .i64 v, .string tx, .int .i64 j] 42)))
              have HWZ := Lib.hid hb.size
              clear hb
              obtain ⟨f0, g0, g1⟩ := HI2.out.ocells
              have HX : Hid (((w2.alloc (.cells #[.int .i64 k, .int .i64 v, .string tx, .int .i64 j] 42)).alloc (.cells #[.int .i64 k, .int .i64 v, .string tx, .int .i64 j] 42)).heap[w2.heap.size + 1]? = some (.cells #[.int .i64 k, .int .i64 v, .string tx, .int .i64 j] 42 (0, 0))) := Lib.hid (by have := heap_alloc_new (w2.alloc (.cells #[.int .i64 k, .int .i64 v, .string tx, .int .i64 j] 42)) (.cells #[.int .i64 k, .int .i64 v, .string tx, .int .i64 j] 42); simpa using this)
              go_wp2_with (at_builtin; refine wpList_append_own _ rfl _ _ 23 rfl (w.heap.size + 2) 42 i0 _ 4 40 Tryz.underlying23 HIN.out.1 HIN.out.2.1 HIN.out.2.2.1 HIN.out.2.2.2 rfl (by decide) (.slice la nt lc) nt (flatT ts) rfl ?own _ 1 1 [.int .i64 k, .int .i64 v, .string tx, .int .i64 j] rfl rfl ?_ ?_ ?_ ?_ ?_ ?_)
              case own => have := HI3.out.lrow; rw [← HNT.out.1] at this; exact this
              · intro y u hu
                rw [Addr.add_lit, cell_of_row _ _ _ _ _ _ HX.out]
                match y, hu with
                | 0, hu => simpa using hu
                | 1, hu => simpa using hu
                | 2, hu => simpa using hu
                | 3, hu => simpa using hu
                | y + 4, hu => simp at hu
              · intro u hu; simp at hu; rcases hu with rfl | rfl | rfl | rfl <;> rfl
              · have := HNT.out.1; have := HTC.out.1; have := HLT.out; have := HS.out; simp only [maxLen]; omega
              · have := HNT.out.1; have := HTC.out.1; have := HLT.out; have := HS.out; omega
              · exact HI3.out.size
              · intro v' w4 h1 h2 _
                obtain ⟨la2, lc2, rfl⟩ := own_slice h1
                have ne : ∀ k, some k = (Value.slice la nt lc).ownBlock → w.heap.size + 2 ≤ k ∧ k < w1.heap.size := fun k e => HI.out.lrow.lt k e.symm
                have hO := (h2.block (w.heap.size + 1) (by have := HI3.out.size; omega) (fun e => by have := (ne _ e).1; omega)).trans HI3.out.out
                have o1 : w4.cell? ⟨w.heap.size + 1, 0, none⟩ = some (.slice la nt lc) := by rw [cell_of_row _ _ 0 _ _ _ hO]; rfl
                have o2 : w4.frozen? ⟨w.heap.size + 1, 0, none⟩ = false := frozen_of_row w4 _ 0 _ _ hO
                have hC : w4.heap[w2.heap.size]? = some (.cells #[.int .i64 k, .int .i64 v, .string tx, .int .i64 j] 42 (0, 0)) :=
                  (h2.block w2.heap.size (by simp; omega) (fun e => by have := (ne _ e).2; have := HWZ.out; omega)).trans ((Below.heap_alloc _ _ _ (by simp)).trans (heap_alloc_new w2 _))
                have o3 : (w4.setCell ⟨w.heap.size + 1, 0, none⟩ (.slice la2 (nt + 1) lc2)).cell? ⟨w2.heap.size, 2, none⟩ = some (.string tx) := by
                  rw [cell_of_row _ _ 2 _ _ _ ((Below.heap_setCell w4 _ _ _ (show w2.heap.size ≠ w.heap.size + 1 by have := HI.out.size; have := HWZ.out; omega)).trans hC)]; rfl
                have HI4 := Lib.hid (HI3.out.token (t := ⟨k, v, bts tx, j⟩) h2 HI3.out.apart2 (by rw [List.length_append, List.length_singleton, ← HNT.out.1]; simp only [flatT, ofB_bts]; exact h1))
                clear h1 h2 ne hO hC
                go_wp2_with fail
                go_roundw
                case rel => exact ⟨q, la2, ca, lc2, cc, ts ++ [⟨k, v, bts tx, j⟩], cs, rfl, HQ.out.2, by rw [List.length_append, List.length_singleton, ← HNT.out.2, ← HNT.out.1]; exact HI4.out, HRB.out, by rw [List.length_append, List.length_singleton]; have := HTC.out.1; have := HQ.out.1; omega, by have := HTC.out.2; have := HQ.out.1; omega⟩
                case measure => have := HLT.out; have := HQ.out; simp [intOf]; omega
    · have hge : (s.size : Int) ≤ (j : Int) := by omega
      have hjs : j = s.size := by omega
      have hsc : R = .ok ts cs := by
        rw [HRR.out, LX.sc_end (by rw [bts_length]; omega)]
        simp [LX.Res.app]
      have e0 : wr.cell? ⟨w.heap.size + 1, 0, none⟩ = some (.slice la nt lc) := by rw [cell_of_row _ _ 0 _ _ _ HI.out.out]; rfl
      have e1 : wr.cell? ⟨w.heap.size + 1, 1, none⟩ = some (.slice ca nc cc) := by rw [cell_of_row _ _ 1 _ _ _ HI.out.out]; rfl
      have e2 : wr.cell? ⟨w.heap.size + 1, 2, none⟩ = some (.int .i64 0) := by rw [cell_of_row _ _ 2 _ _ _ HI.out.out]; rfl
      have e3 : wr.cell? ⟨w.heap.size + 1, 3, none⟩ = some (.int .i64 0) := by rw [cell_of_row _ _ 3 _ _ _ HI.out.out]; rfl
      have f0 : ∀ q, wr.frozen? ⟨w.heap.size, q, none⟩ = false := fun q => frozen_of_row wr _ q _ _ HI.out.zero
      have g0 : wr.cell? ⟨w.heap.size, 0, none⟩ = some (.slice none 0 0) := by rw [cell_of_row _ _ 0 _ _ _ HI.out.zero]; rfl
      have g1 : wr.cell? ⟨w.heap.size, 1, none⟩ = some (.slice none 0 0) := by rw [cell_of_row _ _ 1 _ _ _ HI.out.zero]; rfl
      have g2 : wr.cell? ⟨w.heap.size, 2, none⟩ = some (.int .i64 0) := by rw [cell_of_row _ _ 2 _ _ _ HI.out.zero]; rfl
      have g3 : wr.cell? ⟨w.heap.size, 3, none⟩ = some (.int .i64 0) := by rw [cell_of_row _ _ 3 _ _ _ HI.out.zero]; rfl
      have HSC := Lib.hid hsc
      have hlt0 : w.heap.size < wr.heap.size := by have := HI.out.size; omega
      clear hlt hj hjs hsc
      go_wp2_with fail
      have hf := four_set HI.out.zero (.slice la nt lc) (.slice ca nc cc) (.int .i64 0) (.int .i64 0)
      refine bodyPost_ret (v := upV (.slice la nt lc) (.slice ca nc cc) 0 0) (by rw [results_one_cell rfl]; simp [asAddr, load29 rfl rfl hf]) rfl ?_
      rw [HSC.out]
      obtain ⟨hn1, hn2⟩ := HNT.out
      subst hn1
      subst hn2
      exact ⟨la, lc, ca, cc, rfl, own_set4 _ _ _ _ HI.out.lrow, own_set4 _ _ _ _ HI.out.crow, HI.out.below.trans ⟨rfl, rfl, rfl, by simp, fun k hk => (grown_set4 wr w.heap.size _ _ _ _).block k (by omega) (fun e => by simp at e; omega)⟩⟩
end Go.Proofs.YtfoijbcmjciihaaGreatDoor

namespace Go.Proofs.YtfoijbcmjciihaaGreatDoor
open Go.RowKit

def LX.Res.cms : LX.Res → List (Nat × Nat)
  | .ok _ cs => cs
  | .bad _ _ => []

/-- What Scan and Upto leave, in one form. -/
def UpF (w : World) (r : LX.Res) (e : Ending) (w' : World) : Prop :=
  ∃ la lc ca cc, e = .returned (upV (.slice la r.toks.length lc) (.slice ca (2 * r.cms.length) cc) r.spot r.err) ∧ w'.ownsRow w.heap.size 42 4 (.slice la r.toks.length lc) r.toks.length (flatT r.toks) ∧
    w'.ownsRow w.heap.size 3 1 (.slice ca (2 * r.cms.length) cc) (2 * r.cms.length) (flatP r.cms) ∧ Below w.heap.size w w'

theorem upF_of {w w' : World} {r : LX.Res} {e : Ending} (h : UpPost w r e w') : UpF w r e w' := by
  cases r with
  | bad p er => exact ⟨none, 0, none, 0, h.1, World.ownsRow_nil _ _ _ _, World.ownsRow_nil _ _ _ _, h.2⟩
  | ok ts cs => obtain ⟨la, lc, ca, cc, h1, h2, h3, h4⟩ := h; exact ⟨la, lc, ca, cc, h1, h2, h3, h4⟩

theorem rupto_any (w : World) (s : ByteArray) (m : Nat) (hm : m ≤ 400000) : Calls Tryz.prog 12 #[.string s, .int .i64 m] w (UpF w (LX.up m (bts s))) := by
  refine Calls.mono ?_ fun e w' h => upF_of h
  unfold LX.up
  rw [bts_length]
  by_cases h : m < s.size
  · rw [if_pos h]; exact rupto_long w s m h
  · rw [if_neg h]; exact rupto_fit w s m (by omega) hm

theorem own_set4' {w : World} {b e size n : Nat} {v : Value} {xs : List Value} (x0 x1 x2 x3 : Value) (h : w.ownsRow (b + 1) e size v n xs) : ((((w.setCell ⟨b, 0, none⟩ x0).setCell ⟨b, 1, none⟩ x1).setCell ⟨b, 2, none⟩ x2).setCell ⟨b, 3, none⟩ x3).ownsRow b e size v n xs :=
  own_le (h.kept (grown_set4 w b x0 x1 x2 x3) (.inr fun e => by have := (h.lt b e).1; omega)) (by omega)

set_option maxHeartbeats 2000000 in
set_option maxRecDepth 20000 in
theorem rscan_any (w : World) (s : ByteArray) : Calls Tryz.prog 8 #[.string s] w (UpF w (LX.up 20000 (bts s))) := by
  have UP : Hid (∀ W, Calls Tryz.prog 12 #[.string s, .int .i64 20000] W (UpF W (LX.up 20000 (bts s)))) := fun W => rupto_any W s 20000 (by omega)
  obtain ⟨r, hr⟩ : ∃ r, r = LX.up 20000 (bts s) := ⟨_, rfl⟩
  rw [← hr] at UP ⊢
  clear hr
  go_enter Tryz.func8, Tryz.ntmps8
  go_wp2_with fail
  refine (UP.out _).mono ?_
  intro e w1 hu
  obtain ⟨la, lc, ca, cc, rfl, hl, hc, hb⟩ := hu
  have HR : Hid (∀ (w' : World), w'.ownsRow w.heap.size 42 4 (.slice la r.toks.length lc) r.toks.length (flatT r.toks) → w'.ownsRow w.heap.size 3 1 (.slice ca (2 * r.cms.length) cc) (2 * r.cms.length) (flatP r.cms) → Below w.heap.size w w' → UpF w r (.returned (upV (.slice la r.toks.length lc) (.slice ca (2 * r.cms.length) cc) r.spot r.err)) w') := fun w' h1 h2 h3 => ⟨la, lc, ca, cc, rfl, h1, h2, h3⟩
  have hz : w1.heap[w.heap.size]? = some (.cells #[.slice none 0 0, .slice none 0 0, .int .i64 0, .int .i64 0] 29 (0, 0)) := (hb.block w.heap.size (by simp)).trans (heap_alloc_new w _)
  have HLR := Lib.hid hl
  have HCR := Lib.hid hc
  have HB := Lib.hid hb
  obtain ⟨nl, hnl⟩ : ∃ n, n = r.toks.length := ⟨_, rfl⟩
  obtain ⟨nc, hnc⟩ : ∃ n, n = 2 * r.cms.length := ⟨_, rfl⟩
  obtain ⟨p, hp⟩ : ∃ n, n = r.spot := ⟨_, rfl⟩
  obtain ⟨er, her⟩ : ∃ n, n = r.err := ⟨_, rfl⟩
  rw [← hnl, ← hnc, ← hp, ← her] at HR
  rw [← hnl] at HLR
  rw [← hnc] at HCR
  rw [← hnl, ← hnc, ← hp, ← her]
  clear hl hc hb hnl hnc hp her
  have f0 : ∀ q, w1.frozen? ⟨w.heap.size, q, none⟩ = false := fun q => frozen_of_row w1 _ q _ _ hz
  have g0 : w1.cell? ⟨w.heap.size, 0, none⟩ = some (.slice none 0 0) := by rw [cell_of_row _ _ 0 _ _ _ hz]; rfl
  have g1 : w1.cell? ⟨w.heap.size, 1, none⟩ = some (.slice none 0 0) := by rw [cell_of_row _ _ 1 _ _ _ hz]; rfl
  have g2 : w1.cell? ⟨w.heap.size, 2, none⟩ = some (.int .i64 0) := by rw [cell_of_row _ _ 2 _ _ _ hz]; rfl
  have g3 : w1.cell? ⟨w.heap.size, 3, none⟩ = some (.int .i64 0) := by rw [cell_of_row _ _ 3 _ _ _ hz]; rfl
  have HZ := Lib.hid hz
  clear hz
  unfold upV
  go_wp2_with fail
  have hf := four_set HZ.out (.slice la nl lc) (.slice ca nc cc) (.int .i64 p) (.int .i64 er)
  refine bodyPost_ret (v := upV (.slice la nl lc) (.slice ca nc cc) p er) (by rw [results_one_cell rfl]; simp [asAddr, load29 rfl rfl hf]) rfl ?_
  refine HR.out _ (own_set4' _ _ _ _ (by have := HLR.out; simpa using this)) (own_set4' _ _ _ _ (by have := HCR.out; simpa using this)) ?_
  exact (((Below.refl _ _).alloc (Nat.le_refl _) _).trans (HB.out.mono (by simp))).trans ⟨rfl, rfl, rfl, by simp, fun k hk => (grown_set4 w1 w.heap.size _ _ _ _).block k (by have := HB.out.size; simp at this; omega) (fun e => by simp at e; omega)⟩
end Go.Proofs.YtfoijbcmjciihaaGreatDoor

namespace Go.Proofs.YtfoijbcmjciihaaGreatDoor
open Go.RowKit

def stV (t : ByteArray) (a e : Int) : Value := .agg #[.string t, .int .i64 a, .int .i64 e]

theorem load34 {w : World} {b : Nat} {t : ByteArray} {a e : Int} (h : w.heap[b]? = some (.cells #[.string t, .int .i64 a, .int .i64 e] 34 (0, 0))) : (loadVar 34 ⟨b, 0, none⟩).run Tryz.prog w = .ok (stV t a e) w := by
  have h0 : w.cell? ⟨b, 0, none⟩ = some (.string t) := by rw [cell_of_row _ _ 0 _ _ _ h]; rfl
  have h1 : w.cell? ⟨b, 1, none⟩ = some (.int .i64 a) := by rw [cell_of_row _ _ 1 _ _ _ h]; rfl
  have h2 : w.cell? ⟨b, 2, none⟩ = some (.int .i64 e) := by rw [cell_of_row _ _ 2 _ _ _ h]; rfl
  simp [loadVar, go_sem, h0, h1, h2, stV]

theorem three_set {w : World} {b : Nat} {x0 x1 x2 : Value} {T : TypeId} (h : w.heap[b]? = some (.cells #[x0, x1, x2] T (0, 0))) (u0 u1 u2 : Value) :
    (((w.setCell ⟨b, 0, none⟩ u0).setCell ⟨b, 1, none⟩ u1).setCell ⟨b, 2, none⟩ u2).heap[b]? = some (.cells #[u0, u1, u2] T (0, 0)) := by
  have h1 := heap_setCell_same w b 0 _ _ u0 h
  have h2 := heap_setCell_same _ b 1 _ _ u1 h1
  have h3 := heap_setCell_same _ b 2 _ _ u2 h2
  exact h3

/-- What Strip leaves. -/
def StF (w : World) (s : ByteArray) (e : Ending) (w' : World) : Prop :=
  e = .returned (stV (ofB (LX.stripT (bts s))) (LX.up 20000 (bts s)).spot (LX.up 20000 (bts s)).err) ∧ Below w.heap.size w w'

theorem below_three {w w1 : World} {b : Nat} (h : Below b w w1) (u0 u1 u2 : Value) : Below b w (((w1.setCell ⟨b, 0, none⟩ u0).setCell ⟨b, 1, none⟩ u1).setCell ⟨b, 2, none⟩ u2) :=
  ((h.setCell (p := ⟨b, 0, none⟩) (Nat.le_refl _) _).setCell (p := ⟨b, 1, none⟩) (Nat.le_refl _) _).setCell (p := ⟨b, 2, none⟩) (Nat.le_refl _) _

theorem flatP_at : ∀ (cs : List (Nat × Nat)) (n p q : Nat), cs[n]? = some (p, q) → (flatP cs)[2 * n]? = some (.int .i64 p) ∧ (flatP cs)[2 * n + 1]? = some (.int .i64 q) := fun cs n p q h => by
  rw [Nat.mul_comm]
  exact flatP_get cs n p q h

set_option maxHeartbeats 4000000 in
set_option maxRecDepth 20000 in
theorem rstrip_any (w : World) (s : ByteArray) : Calls Tryz.prog 10 #[.string s] w (StF w s) := by
  have SC : Hid (∀ W, Calls Tryz.prog 8 #[.string s] W (UpF W (LX.up 20000 (bts s)))) := fun W => rscan_any W s
  unfold StF LX.stripT
  obtain ⟨r, hr⟩ : ∃ r, r = LX.up 20000 (bts s) := ⟨_, rfl⟩
  rw [← hr] at SC ⊢
  have HR := Lib.hid hr
  clear hr
  go_enter Tryz.func10, Tryz.ntmps10
  go_wp2_with fail
  refine (SC.out _).mono ?_
  intro e w1 hu
  obtain ⟨la, lc, ca, cc, rfl, hl, hc, hb⟩ := hu
  unfold upV
  have hz : w1.heap[w.heap.size]? = some (.cells #[.string ⟨#[]⟩, .int .i64 0, .int .i64 0] 34 (0, 0)) := (hb.block w.heap.size (by simp)).trans (heap_alloc_new w _)
  have HB : Hid (Below w.heap.size w w1 ∧ w.heap.size < w1.heap.size) := ⟨((Below.refl _ _).alloc (Nat.le_refl _) _).trans (hb.mono (by simp)), by have := hb.size; simp at this; omega⟩
  cases r with
  | bad p er =>
    have he : er ≠ 0 := by
      have := HR.out
      unfold LX.up at this
      split at this
      · cases this; decide
      · have := (LX.scan_bad this.symm).1; omega
    have e1 : ((er : Int) != 0) = true := by simp; omega
    have e2 : ((er : Int) == 0) = false := by simp; omega
    have HZ := Lib.hid ((Below.heap_alloc w1 (.cells #[.slice none 0 0, .slice none 0 0, .int .i64 p, .int .i64 er] 29) _ HB.out.2).trans hz)
    have hbb : Below w.heap.size w (w1.alloc (.cells #[.slice la 0 lc, .slice ca 0 cc, .int .i64 p, .int .i64 er] 29)) := HB.out.1.alloc (by have := HB.out.2; omega) _
    have hz2 : (w1.alloc (.cells #[.slice la 0 lc, .slice ca 0 cc, .int .i64 p, .int .i64 er] 29)).heap[w.heap.size]? = some (.cells #[.string ⟨#[]⟩, .int .i64 0, .int .i64 0] 34 (0, 0)) := (Below.heap_alloc w1 _ _ HB.out.2).trans hz
    have HBB := Lib.hid hbb
    have HZ := Lib.hid hz2
    have f0 : ∀ q, (w1.alloc (.cells #[.slice la 0 lc, .slice ca 0 cc, .int .i64 p, .int .i64 er] 29)).frozen? ⟨w.heap.size, q, none⟩ = false := fun q => frozen_of_row _ _ q _ _ hz2
    have g0 : (w1.alloc (.cells #[.slice la 0 lc, .slice ca 0 cc, .int .i64 p, .int .i64 er] 29)).cell? ⟨w.heap.size, 0, none⟩ = some (.string ⟨#[]⟩) := by rw [cell_of_row _ _ 0 _ _ _ hz2]; rfl
    have g1 : (w1.alloc (.cells #[.slice la 0 lc, .slice ca 0 cc, .int .i64 p, .int .i64 er] 29)).cell? ⟨w.heap.size, 1, none⟩ = some (.int .i64 0) := by rw [cell_of_row _ _ 1 _ _ _ hz2]; rfl
    have g2 : (w1.alloc (.cells #[.slice la 0 lc, .slice ca 0 cc, .int .i64 p, .int .i64 er] 29)).cell? ⟨w.heap.size, 2, none⟩ = some (.int .i64 0) := by rw [cell_of_row _ _ 2 _ _ _ hz2]; rfl
    clear hl hc hb hz he hbb hz2
    simp only [LX.Res.toks, LX.Res.cms, LX.Res.spot, LX.Res.err, List.length_nil, Nat.mul_zero]
    go_wp2_with fail
    have hf := three_set HZ.out (.string ⟨#[]⟩) (.int .i64 p) (.int .i64 er)
    refine bodyPost_ret (v := stV ⟨#[]⟩ p er) (by rw [results_one_cell rfl]; simp [asAddr, load34 hf]) rfl ?_
    exact ⟨rfl, below_three HBB.out _ _ _⟩
  | ok ts cs =>
    simp only [LX.Res.toks, LX.Res.cms, LX.Res.spot, LX.Res.err] at hl hc ⊢
    have HRR := HR.out
    have hsc : s.size ≤ 20000 ∧ LX.scan (bts s) = .ok ts cs := by
      unfold LX.up at HRR
      rw [bts_length] at HRR
      split at HRR
      · cases HRR
      · exact ⟨by omega, HRR.symm⟩
    have HCS := Lib.hid (LX.scan_cmts hsc.2)
    have hlen := (LX.scan_len hsc.2).1
    clear HRR
    obtain ⟨nl, hnl⟩ : ∃ n, n = ts.length := ⟨_, rfl⟩
    obtain ⟨cn, hcn⟩ : ∃ n, n = cs.length := ⟨_, rfl⟩
    rw [← hcn] at hc
    obtain ⟨m, hm⟩ : ∃ m, m = 2 * cn := ⟨_, rfl⟩
    rw [← hnl, ← hcn, ← hm]
    rw [← hm] at hc
    -- what holds from here on
    obtain ⟨V, hV⟩ : ∃ V, V = w1.alloc (.cells #[.slice la nl lc, .slice ca m cc, .int .i64 0, .int .i64 0] 29) := ⟨_, rfl⟩
    obtain ⟨X, hX⟩ : ∃ X, X = w1.heap.size := ⟨_, rfl⟩
    have hVX : V.heap[X]? = some (.cells #[.slice la nl lc, .slice ca m cc, .int .i64 0, .int .i64 0] 29 (0, 0)) := by rw [hV, hX]; exact heap_alloc_new w1 _
    have hVZ : V.heap[w.heap.size]? = some (.cells #[.string ⟨#[]⟩, .int .i64 0, .int .i64 0] 34 (0, 0)) := by rw [hV]; exact (Below.heap_alloc w1 _ _ HB.out.2).trans hz
    have hVB : Below w.heap.size w V := by rw [hV]; exact HB.out.1.alloc (by have := HB.out.2; omega) _
    have hVC : V.ownsRow w.heap.size 3 1 (.slice ca m cc) m (flatP cs) := by rw [hV]; exact (own_le hc (by simp)).alloc _
    have hVs : V.heap.size = X + 1 := by rw [hV, hX]; simp
    obtain ⟨cap, V2, hconv, hbw, hbl, hcap⟩ := conv_bytes V s
    rw [hVs] at hconv hbw hbl
    obtain ⟨g, hg⟩ : ∃ g, g = X + 1 := ⟨_, rfl⟩
    rw [← hg] at hconv hbw hbl hVs
    have hXg : X < g := by omega
    have hwX : w.heap.size ≤ X := by have := HB.out.2; omega
    have hVX2 := (hbl.block X (by omega)).trans hVX
    have hVZ2 := (hbl.block w.heap.size (by omega)).trans hVZ
    have hVC2 : V2.ownsRow w.heap.size 3 1 (.slice ca m cc) m (flatP cs) := own_call hVC (by rw [hVs]; exact hbl)
    have HCL : Hid (∀ k, ca = some ⟨k, 0, none⟩ → k < g) := fun k e => by have := (hVC.lt (k := k) (by rw [e]; rfl)).2; omega
    have XC : Hid (∀ W', Below g V2 W' → W'.cell? ⟨X, 1, none⟩ = some (.slice ca m cc)) := fun W' hw => by
      rw [cell_of_row _ _ 1 _ _ _ ((hw.block X hXg).trans hVX2)]; rfl
    have XZ : Hid (∀ W', Below g V2 W' → W'.heap[w.heap.size]? = some (.cells #[.string ⟨#[]⟩, .int .i64 0, .int .i64 0] 34 (0, 0))) := fun W' hw => (hw.block _ (by omega)).trans hVZ2
    have BB : Hid (∀ W', Below g V2 W' → Below w.heap.size w W') := fun W' hw => hVB.trans ((hbl.mono (by omega)).trans (hw.mono (by omega)))
    have HSL := Lib.hid hsc.1
    have hsz : (s.size : Int) ≤ 20000 := by omega
    have HM := Lib.hid hm
    have HN := Lib.hid hcn
    have HBW := Lib.hid hbw
    have HVC := Lib.hid hVC2
    have HG := Lib.hid (And.intro hXg hwX)
    have HCAP := Lib.hid hcap
    have hmz : (m : Int) ≤ 40000 := by rw [bts_length] at hlen; omega
    have hx3 : V.cell? ⟨X, 3, none⟩ = some (.int .i64 0) := by rw [cell_of_row _ _ 3 _ _ _ hVX]; rfl
    clear hl hc hb hz hsc hlen hnl hcn hm hVX hVZ hVB hVC hVs hbw hbl hcap hXg hwX hVX2 hVZ2 hVC2 hg
    go_upto_region 4 with (fail)
    rw [← hX, ← hV]
    clear hV hX
    go_wp2_with fail
    clear hx3
    go_loopw [5] (fun i wr => ∃ n : Nat, n ≤ cn ∧ i = .int .i64 ((2 * n : Nat) : Int) ∧ Bw wr g (LX.blankAll (cs.take n) (bts s)) ∧ Below g V2 wr) (fun i _ => m - (intOf i).toNat)
    case atStart => exact ⟨0, Nat.zero_le _, rfl, HBW.out, Below.refl _ _⟩
    case round =>
      obtain ⟨n, hn, rfl, hbw, hbl⟩ := hrel
      obtain ⟨a, ha⟩ : ∃ a, a = 2 * n := ⟨_, rfl⟩
      rw [← ha]
      have H1 := Lib.hid hbw
      have H2 := Lib.hid hbl
      have HA := Lib.hid ha
      have xc := XC.out wr hbl
      have W1 : IntKind.i64.wrap ((a : Int) + 1) = (a : Int) + 1 := wrap_in _ (by have := HM.out; omega)
      have W2 : IntKind.i64.wrap ((a : Int) + 2) = (a : Int) + 2 := wrap_in _ (by have := HM.out; omega)
      by_cases hlt : n < cn
      · obtain ⟨h, rfl, hh0, hhlt, hhc, hcells⟩ := owns_cells HVC.out (show 0 < m by have := HM.out; omega)
        obtain ⟨⟨p, q⟩, hpq⟩ : ∃ x, cs[n]? = some x := ⟨_, List.getElem?_eq_getElem (by have := HN.out; omega)⟩
        have hfl := flatP_at cs n p q hpq
        rw [← ha] at hfl
        have hcs := HCS.out (p, q) (List.mem_of_getElem? hpq)
        rw [bts_length] at hcs
        have hhg : h < g := HCL.out h rfl
        have X1 : Hid (∀ W', Below g V2 W' → W'.cell? ⟨h, a + 1, none⟩ = some (.int .i64 q)) := fun W' hw => (hw.cell (p := ⟨h, a + 1, none⟩) hhg).trans (hcells _ _ hfl.2)
        have x0 : wr.cell? ⟨h, a, none⟩ = some (.int .i64 p) := (hbl.cell (p := ⟨h, a, none⟩) hhg).trans (hcells _ _ hfl.1)
        have hltz : (a : Int) + 1 < (m : Int) := by have := HM.out; omega
        have hltz2 : (a : Int) < (m : Int) := by omega
        have hpz : (p : Int) ≤ 20000 := by have := hcs.1; have := hcs.2; have := HSL.out; omega
        have hqz : (q : Int) ≤ 20000 := by have := hcs.2; have := HSL.out; omega
        have HP := Lib.hid hcs
        have HL := Lib.hid hlt
        have HPQ := Lib.hid hpq
        clear hh0 hhlt hhc hcells hfl hcs hhg hlt hpq hbw hbl hn ha
        go_wp2_with fail
        obtain ⟨l, hl⟩ : ∃ l, l = LX.blankAll (cs.take n) (bts s) := ⟨_, rfl⟩
        have HLL := Lib.hid (show l.length = s.size from by rw [hl, LX.blankAll_length, bts_length])
        have U0 : Hid (Bw wr g (LX.blank1 p p l)) := by rw [hl, LX.blank1_self]; exact H1.out
        have HLD := Lib.hid hl
        clear hl x0 xc
        go_loopw [6] (fun v wi => ∃ i : Nat, p ≤ i ∧ i ≤ q ∧ v = .int .i64 i ∧ Bw wi g (LX.blank1 p i l) ∧ Below g V2 wi) (fun v _ => q - (intOf v).toNat)
        case atStart => exact ⟨p, Nat.le_refl _, HP.out.1, rfl, U0.out, H2.out⟩
        case round =>
          obtain ⟨i, hpi, hiq, rfl, ibw, ibl⟩ := hrel
          have z1 := X1.out _ ibl
          have zc := XC.out _ ibl
          have G1 := Lib.hid ibw
          have G2 := Lib.hid ibl
          have G5 := Lib.hid hpi
          by_cases hlt : i < q
          · have hiz : (i : Int) < (q : Int) := by omega
            have his : i < (LX.blank1 p i l).length := by rw [LX.blank1_length, HLL.out]; have := HP.out.2; omega
            have hisz : (i : Int) < (s.size : Int) := by have := HP.out.2; omega
            have y0 := ibw.cell his
            rw [LX.blank1_at] at y0
            have yf := ibw.frozen his
            have G6 := Lib.hid his
            have G7 := Lib.hid hlt
            have hst := @LX.blank1_step p i l hpi (by rw [LX.blank1_length] at his; exact his)
            obtain ⟨ch, hch⟩ : ∃ c, c = l.getD i 0 := ⟨_, rfl⟩
            rw [← hch] at y0 hst
            have HST := Lib.hid hst
            have hcap2 : (i : Int) < (cap : Int) := by have := HCAP.out; omega
            clear ibw ibl hpi his hlt hst hch hiq
            by_cases hten : ch = 10
            · have y0' : wr.cell? ⟨g, i, none⟩ = some (.int .u8 10) := by rw [y0, hten]; rfl
              have HT := Lib.hid hten
              clear y0 hten
              go_wp2_with fail
              go_roundw
              case measure => have := G7.out; simp [intOf]; omega
              case rel =>
                refine ⟨i + 1, by have := G5.out; omega, G7.out, by go_num, ?_, G2.out⟩
                rw [HST.out, if_pos HT.out]
                exact G1.out
            · have t1 : ((ch : Int) != 10) = true := by simp; omega
              have t2 : ((ch : Int) == 10) = false := by simp; omega
              have HT := Lib.hid hten
              clear hten
              go_wp2_with fail
              go_roundw
              case measure => have := G7.out; simp [intOf]; omega
              case rel =>
                refine ⟨i + 1, by have := G5.out; omega, G7.out, by go_num, ?_, G2.out.setCell (p := ⟨g, i, none⟩) (Nat.le_refl _) _⟩
                rw [HST.out, if_neg HT.out]
                exact G1.out.set G6.out 32
          · have hge : (q : Int) ≤ (i : Int) := by omega
            obtain rfl : i = q := by omega
            clear ibw ibl hpi hlt hiq
            go_wp2_with fail
            go_roundw
            case measure => have := HL.out; have := HM.out; have := HA.out; simp [intOf]; omega
            case rel =>
              have e : cs.take (n + 1) = cs.take n ++ [(p, i)] := by rw [List.take_add_one, HPQ.out]; rfl
              have hb2 : Bw wr g (LX.blankAll (cs.take (n + 1)) (bts s)) := by rw [e, LX.blankAll_snoc, ← HLD.out]; exact G1.out
              have ha2 : Value.int .i64 ((a : Int) + 2) = .int .i64 ((2 * (n + 1) : Nat) : Int) := by have := HA.out; congr 1; omega
              (repeat apply Exists.intro)
              exact ⟨⟨n + 1, HL.out, ha2, hb2, G2.out⟩, rfl⟩
      · have hge : (m : Int) ≤ (a : Int) + 1 := by have := HM.out; omega
        obtain rfl : n = cn := by omega
        have hL : (LX.blankAll (cs.take n) (bts s)) = LX.blankAll cs (bts s) := by rw [HN.out, List.take_of_length_le (Nat.le_refl _)]
        rw [hL] at hbw
        have hback := conv_back wr g cap s.size _ hbw (by rw [LX.blankAll_length, bts_length]) (LX.blankAll_small cs _ (bts_small s))
        obtain ⟨L, hLL⟩ : ∃ L, L = ofB (LX.blankAll cs (bts s)) := ⟨_, rfl⟩
        rw [← hLL] at hback
        have HLL := Lib.hid hLL
        have hz2 := XZ.out wr hbl
        have HZ := Lib.hid hz2
        have f0 : ∀ q, wr.frozen? ⟨w.heap.size, q, none⟩ = false := fun q => frozen_of_row _ _ q _ _ hz2
        have g0 : wr.cell? ⟨w.heap.size, 0, none⟩ = some (.string ⟨#[]⟩) := by rw [cell_of_row _ _ 0 _ _ _ hz2]; rfl
        have g1 : wr.cell? ⟨w.heap.size, 1, none⟩ = some (.int .i64 0) := by rw [cell_of_row _ _ 1 _ _ _ hz2]; rfl
        have g2 : wr.cell? ⟨w.heap.size, 2, none⟩ = some (.int .i64 0) := by rw [cell_of_row _ _ 2 _ _ _ hz2]; rfl
        clear hbw hbl hlt hn hL hLL hz2 ha
        go_wp2_with fail
        have hf := three_set HZ.out (.string L) (.int .i64 0) (.int .i64 0)
        refine bodyPost_ret (v := stV L 0 0) (by rw [results_one_cell rfl]; simp [asAddr, load34 hf]) rfl ?_
        refine ⟨?_, below_three (BB.out _ H2.out) _ _ _⟩
        rw [HLL.out]
        rfl
end Go.Proofs.YtfoijbcmjciihaaGreatDoor

namespace Go.Proofs.YtfoijbcmjciihaaGreatDoor
open Go.RowKit

theorem toks_small (r : LX.Res) {m : Nat} {l : List Nat} (h : r = LX.up m l) : r.toks.length ≤ m := by
  subst h
  unfold LX.up
  split
  · exact Nat.zero_le _
  · cases hs : LX.scan l with
    | bad p e => exact Nat.zero_le _
    | ok ts cs => have := (LX.scan_len hs).2; show ts.length ≤ m; omega

set_option maxHeartbeats 4000000 in
set_option maxRecDepth 20000 in
theorem scans_walk {w : World} (henv : Env w) (s : ByteArray) (hmax : s.size ≤ 9223372036854775807) : Calls Tryz.prog 3 #[.string s] w (TrueP w) := by
  have SA := Lib.hid (sane_any henv)
  have HE := Lib.hid henv
  have K1 : Hid (∀ W, Env W → Calls Tryz.prog 7 #[.string s] W (TkPost W (LX.up 20000 (bts s)))) := fun W hW => scan_any hW s hmax
  have K2 : Hid (∀ W, Calls Tryz.prog 8 #[.string s] W (UpF W (LX.up 20000 (bts s)))) := fun W => rscan_any W s
  have K3 : Hid (∀ W, Env W → Calls Tryz.prog 9 #[.string s] W (StPost W s)) := fun W hW => strip_any hW s hmax
  have K4 : Hid (∀ W, Calls Tryz.prog 10 #[.string s] W (StF W s)) := fun W => rstrip_any W s
  have K5 : Hid (∀ W, Env W → Calls Tryz.prog 11 #[.string s] W (TkPost W (LX.up 400000 (bts s)))) := fun W hW => long_any hW s hmax
  have K6 : Hid (∀ W, Calls Tryz.prog 12 #[.string s, .int .i64 400000] W (UpF W (LX.up 400000 (bts s)))) := fun W => rupto_any W s 400000 (by omega)
  unfold StPost at K3
  unfold StF at K4
  obtain ⟨T, hT⟩ : ∃ T, T = ofB (LX.stripT (bts s)) := ⟨_, rfl⟩
  obtain ⟨r, hr⟩ : ∃ r, r = LX.up 20000 (bts s) := ⟨_, rfl⟩
  obtain ⟨q, hq⟩ : ∃ r, r = LX.up 400000 (bts s) := ⟨_, rfl⟩
  have HL1 := Lib.hid (toks_small r hr)
  have HL2 := Lib.hid (toks_small q hq)
  have K7 : Hid (∀ (W : World) (va vb : Value) (ts : List LX.Tok), ts.length ≤ 400000 → TkS W va (ts.map tkv) → TkS W vb (ts.map tkv) → Calls Tryz.prog 13 #[va, vb] W (TrueP W)) := fun W va vb ts h h1 h2 => requal_any h1 h2 (by rw [List.length_map]; omega)
  rw [← hr] at K1 K2 K3 K4
  rw [← hq] at K5 K6
  rw [← hT] at K3 K4
  clear henv hmax hT hr hq
  obtain ⟨nr, hnr⟩ : ∃ n, n = r.toks.length := ⟨_, rfl⟩
  obtain ⟨nq, hnq⟩ : ∃ n, n = q.toks.length := ⟨_, rfl⟩
  obtain ⟨cr, hcr⟩ : ∃ n, n = 2 * r.cms.length := ⟨_, rfl⟩
  obtain ⟨cq, hcq⟩ : ∃ n, n = 2 * q.cms.length := ⟨_, rfl⟩
  obtain ⟨pr, hpr⟩ : ∃ n, n = r.spot := ⟨_, rfl⟩
  obtain ⟨pq, hpq⟩ : ∃ n, n = q.spot := ⟨_, rfl⟩
  obtain ⟨er, her⟩ : ∃ n, n = r.err := ⟨_, rfl⟩
  obtain ⟨eq, heq⟩ : ∃ n, n = q.err := ⟨_, rfl⟩
  have J1 : Hid (∀ W, Env W → Calls Tryz.prog 7 #[.string s] W fun e w' => ∃ a c, e = .returned (.tuple #[.slice a nr c, .int .i64 pr, .int .i64 er]) ∧ TkS w' (.slice a nr c) (r.toks.map tkv) ∧ Below W.heap.size W w') := fun W hW => (K1.out W hW).mono fun e w' ⟨a, c, h1, h2, h3⟩ => ⟨a, c, by rw [h1, hnr, hpr, her], by rw [hnr]; exact tks_of_owns h2, h3⟩
  have J5 : Hid (∀ W, Env W → Calls Tryz.prog 11 #[.string s] W fun e w' => ∃ a c, e = .returned (.tuple #[.slice a nq c, .int .i64 pq, .int .i64 eq]) ∧ TkS w' (.slice a nq c) (q.toks.map tkv) ∧ Below W.heap.size W w') := fun W hW => (K5.out W hW).mono fun e w' ⟨a, c, h1, h2, h3⟩ => ⟨a, c, by rw [h1, hnq, hpq, heq], by rw [hnq]; exact tks_of_owns h2, h3⟩
  have J2 : Hid (∀ W, Calls Tryz.prog 8 #[.string s] W fun e w' => ∃ a c b d, e = .returned (upV (.slice a nr c) (.slice b cr d) pr er) ∧ TkS w' (.slice a nr c) (r.toks.map tkv) ∧ Below W.heap.size W w') := fun W => (K2.out W).mono fun e w' ⟨a, c, b, d, h1, h2, _, h3⟩ => ⟨a, c, b, d, by rw [h1, hnr, hpr, her, hcr], by rw [hnr]; exact tks_of_owns h2, h3⟩
  have J6 : Hid (∀ W, Calls Tryz.prog 12 #[.string s, .int .i64 400000] W fun e w' => ∃ a c b d, e = .returned (upV (.slice a nq c) (.slice b cq d) pq eq) ∧ TkS w' (.slice a nq c) (q.toks.map tkv) ∧ Below W.heap.size W w') := fun W => (K6.out W).mono fun e w' ⟨a, c, b, d, h1, h2, _, h3⟩ => ⟨a, c, b, d, by rw [h1, hnq, hpq, heq, hcq], by rw [hnq]; exact tks_of_owns h2, h3⟩
  rw [← hpr, ← her] at K3 K4
  clear K1 K2 K5 K6 hnr hnq hcr hcq hpr hpq her heq
  unfold upV at J2 J6
  unfold stV at K4
  go_enter Tryz.func3, Tryz.ntmps3
  go_wp2_with fail
  refine SA.out.mono ?_
  rintro e w1 ⟨rfl, hb⟩
  have HB1 := Lib.hid hb
  clear hb
  go_wp2_with fail
  refine (J1.out _ (HE.out.on HB1.out)).mono ?_
  rintro e w2 ⟨a1, c1, rfl, h1, hb⟩
  have T1 := Lib.hid h1
  have HB2 : Hid (Below w.heap.size w w2) := HB1.out.trans (hb.mono HB1.out.size)
  clear hb h1
  go_wp2_with fail
  refine (J2.out _).mono ?_
  rintro e w3 ⟨a2, c2, b2, d2, rfl, h1, hb⟩
  have T1b := Lib.hid (T1.out.keep hb)
  have T2 := Lib.hid h1
  have HB3 : Hid (Below w.heap.size w w3) := HB2.out.trans (hb.mono HB2.out.size)
  clear hb h1 T1
  go_wp2_with fail
  obtain ⟨x, hx⟩ : ∃ x, x = w3.heap.size := ⟨_, rfl⟩
  obtain ⟨V, hV⟩ : ∃ V, V = w3.alloc (.cells #[.slice a2 nr c2, .slice b2 cr d2, .int .i64 pr, .int .i64 er] 29) := ⟨_, rfl⟩
  have VX : Hid (V.heap[x]? = some (.cells #[.slice a2 nr c2, .slice b2 cr d2, .int .i64 pr, .int .i64 er] 29 (0, 0))) := by rw [hV, hx]; exact heap_alloc_new w3 _
  have VB : Hid (Below w3.heap.size w3 V) := by rw [hV]; exact (Below.refl _ _).alloc (Nat.le_refl _) _
  have T1c := Lib.hid (T1b.out.keep VB.out)
  have T2c := Lib.hid (T2.out.keep VB.out)
  have HBV : Hid (Below w.heap.size w V) := HB3.out.trans (VB.out.mono HB3.out.size)
  rw [← hV, ← hx]
  clear hV hx T1b T2
  refine (K3.out _ (HE.out.on HBV.out)).mono ?_
  rintro e w4 ⟨rfl, hb⟩
  have T1d := Lib.hid (T1c.out.keep hb)
  have T2d := Lib.hid (T2c.out.keep hb)
  have X4 := Lib.hid ((hb.block x (Array.getElem?_eq_some_iff.1 VX.out).1).trans VX.out)
  have HB4 : Hid (Below w.heap.size w w4) := HBV.out.trans (hb.mono HBV.out.size)
  clear hb T1c T2c VX VB
  go_wp2_with fail
  refine (K4.out _).mono ?_
  rintro e w5 ⟨rfl, hb⟩
  have T1e := Lib.hid (T1d.out.keep hb)
  have T2e := Lib.hid (T2d.out.keep hb)
  have X5 := Lib.hid ((hb.block x (Array.getElem?_eq_some_iff.1 X4.out).1).trans X4.out)
  have HB5 : Hid (Below w.heap.size w w5) := HB4.out.trans (hb.mono HB4.out.size)
  clear hb T1d T2d X4
  go_wp2_with fail
  obtain ⟨y, hy⟩ : ∃ x, x = w5.heap.size := ⟨_, rfl⟩
  obtain ⟨U, hU⟩ : ∃ V, V = w5.alloc (.cells #[.string T, .int .i64 pr, .int .i64 er] 34) := ⟨_, rfl⟩
  have UY : Hid (U.heap[y]? = some (.cells #[.string T, .int .i64 pr, .int .i64 er] 34 (0, 0))) := by rw [hU, hy]; exact heap_alloc_new w5 _
  have UB : Hid (Below w5.heap.size w5 U) := by rw [hU]; exact (Below.refl _ _).alloc (Nat.le_refl _) _
  have T1f := Lib.hid (T1e.out.keep UB.out)
  have T2f := Lib.hid (T2e.out.keep UB.out)
  have X6 := Lib.hid ((UB.out.block x (Array.getElem?_eq_some_iff.1 X5.out).1).trans X5.out)
  have HBU : Hid (Below w.heap.size w U) := HB5.out.trans (UB.out.mono HB5.out.size)
  rw [← hU, ← hy]
  clear hU hy T1e T2e X5
  refine (J5.out _ (HE.out.on HBU.out)).mono ?_
  rintro e w6 ⟨a3, c3, rfl, h1, hb⟩
  have T1g := Lib.hid (T1f.out.keep hb)
  have T2g := Lib.hid (T2f.out.keep hb)
  have T3g := Lib.hid h1
  have X7 := Lib.hid ((hb.block x (Array.getElem?_eq_some_iff.1 X6.out).1).trans X6.out)
  have Y7 := Lib.hid ((hb.block y (Array.getElem?_eq_some_iff.1 UY.out).1).trans UY.out)
  have HB6 : Hid (Below w.heap.size w w6) := HBU.out.trans (hb.mono HBU.out.size)
  clear hb h1 T1f T2f X6 UY UB
  go_wp2_with fail
  refine (J6.out _).mono ?_
  rintro e w7 ⟨a4, c4, b4, d4, rfl, h1, hb⟩
  have T1h := Lib.hid (T1g.out.keep hb)
  have T2h := Lib.hid (T2g.out.keep hb)
  have T3h := Lib.hid (T3g.out.keep hb)
  have T4h := Lib.hid h1
  have X8 := Lib.hid ((hb.block x (Array.getElem?_eq_some_iff.1 X7.out).1).trans X7.out)
  have Y8 := Lib.hid ((hb.block y (Array.getElem?_eq_some_iff.1 Y7.out).1).trans Y7.out)
  have HB7 : Hid (Below w.heap.size w w7) := HB6.out.trans (hb.mono HB6.out.size)
  clear hb h1 T1g T2g T3g X7 Y7
  go_wp2_with fail
  obtain ⟨z, hz⟩ : ∃ x, x = w7.heap.size := ⟨_, rfl⟩
  obtain ⟨Q, hQ⟩ : ∃ V, V = w7.alloc (.cells #[.slice a4 nq c4, .slice b4 cq d4, .int .i64 pq, .int .i64 eq] 29) := ⟨_, rfl⟩
  have QZ : Hid (Q.heap[z]? = some (.cells #[.slice a4 nq c4, .slice b4 cq d4, .int .i64 pq, .int .i64 eq] 29 (0, 0))) := by rw [hQ, hz]; exact heap_alloc_new w7 _
  have QB : Hid (Below w7.heap.size w7 Q) := by rw [hQ]; exact (Below.refl _ _).alloc (Nat.le_refl _) _
  have T1 := Lib.hid (T1h.out.keep QB.out)
  have T2 := Lib.hid (T2h.out.keep QB.out)
  have T3 := Lib.hid (T3h.out.keep QB.out)
  have T4 := Lib.hid (T4h.out.keep QB.out)
  have QX := Lib.hid ((QB.out.block x (Array.getElem?_eq_some_iff.1 X8.out).1).trans X8.out)
  have QY := Lib.hid ((QB.out.block y (Array.getElem?_eq_some_iff.1 Y8.out).1).trans Y8.out)
  have HBQ : Hid (Below w.heap.size w Q) := HB7.out.trans (QB.out.mono HB7.out.size)
  rw [← hQ, ← hz]
  clear hQ hz T1h T2h T3h T4h X8 Y8
  refine (K7.out Q _ _ q.toks HL2.out T3.out T4.out).mono ?_
  rintro e w8 ⟨rfl, hb⟩
  have T1i := Lib.hid (T1.out.keep hb)
  have T2i := Lib.hid (T2.out.keep hb)
  have hx8 := (hb.block x (Array.getElem?_eq_some_iff.1 QX.out).1).trans QX.out
  have hy8 := (hb.block y (Array.getElem?_eq_some_iff.1 QY.out).1).trans QY.out
  have hz8 := (hb.block z (Array.getElem?_eq_some_iff.1 QZ.out).1).trans QZ.out
  have x0 : w8.cell? ⟨x, 0, none⟩ = some (.slice a2 nr c2) := by rw [cell_of_row _ _ 0 _ _ _ hx8]; rfl
  have z2 : w8.cell? ⟨z, 2, none⟩ = some (.int .i64 pq) := by rw [cell_of_row _ _ 2 _ _ _ hz8]; rfl
  have z3 : w8.cell? ⟨z, 3, none⟩ = some (.int .i64 eq) := by rw [cell_of_row _ _ 3 _ _ _ hz8]; rfl
  have HX8 := Lib.hid hx8
  have HY8 := Lib.hid hy8
  have HB8 : Hid (Below w.heap.size w w8) := HBQ.out.trans (hb.mono HBQ.out.size)
  clear hb hx8 hy8 hz8
  go_wp2_with fail
  refine (K7.out w8 _ _ r.toks (Nat.le_trans HL1.out (by omega)) T1i.out T2i.out).mono ?_
  rintro e w9 ⟨rfl, hb⟩
  have hx9 := (hb.block x (Array.getElem?_eq_some_iff.1 HX8.out).1).trans HX8.out
  have hy9 := (hb.block y (Array.getElem?_eq_some_iff.1 HY8.out).1).trans HY8.out
  have x2 : w9.cell? ⟨x, 2, none⟩ = some (.int .i64 pr) := by rw [cell_of_row _ _ 2 _ _ _ hx9]; rfl
  have x3 : w9.cell? ⟨x, 3, none⟩ = some (.int .i64 er) := by rw [cell_of_row _ _ 3 _ _ _ hx9]; rfl
  have y0 : w9.cell? ⟨y, 0, none⟩ = some (.string T) := by rw [cell_of_row _ _ 0 _ _ _ hy9]; rfl
  have y1 : w9.cell? ⟨y, 1, none⟩ = some (.int .i64 pr) := by rw [cell_of_row _ _ 1 _ _ _ hy9]; rfl
  have y2 : w9.cell? ⟨y, 2, none⟩ = some (.int .i64 er) := by rw [cell_of_row _ _ 2 _ _ _ hy9]; rfl
  have HB9 : Hid (Below w.heap.size w w9) := HB8.out.trans (hb.mono HB8.out.size)
  clear hb hx9 hy9 x0 z2 z3
  go_wp2_with fail
  go_ret
  exact ⟨rfl, HB9.out⟩
end Go.Proofs.YtfoijbcmjciihaaGreatDoor

namespace Go.Proofs.YtfoijbcmjciihaaGreatDoor.lexScans
open Go.Proofs.YtfoijbcmjciihaaGreatDoor
open Go.ChangeShapes Go.WideShapes Go.ChangeAt Go.RowKit
open Go.ChangeMaps (open_string shut_string)

set_option maxRecDepth 100000 in
theorem lifted (os : Os) (started : os.Started) (H : Type) (enc : TypeId × Value → H) :
    ReturnsInHanded {} Tryz.checked os 3 .any (fun w args => (Rows.lexScansSpec.pre enc Tryz.prog Tryz.f3 [] false w args ∧ laidMetH Tryz.prog laid7 w) ∧ sizedMet enc Tryz.prog Tryz.f3 (OpenSpec.ofChange Rows.lexScansSpec) false w args)
      (Rows.lexScansSpec.post enc Tryz.prog Tryz.f3 false true false false) := by
  refine returns_laid (C := Tryz.checked) (X := fun w _ => laidMetH Tryz.prog laid7 w) (fun _ _ _ hh h => h.of_heap hh) own started (by kernel_rfl) Tryz.func3
    (ChangeSpec.witness_shaped (enc := enc) (C := Tryz.checked) (os := os) (X := fun w _ => laidMetH Tryz.prog laid7 w) false (World.laidAll Tryz.prog os laid7) #[.string ⟨#[]⟩] 8 (World.laidAll_os _ _ _) (World.shaped_of_ZipB (by kernel_rfl) (by kernel_rfl)) (by kernel_rfl) (by kernel_rfl) (by kernel_rfl) (start_met os _)) ?_
  intro W base args ds gs before hval0 hW _ hL hsh
  have hval : ∀ (j : Nat) t v, Tryz.f3.params[j]? = some t → args[j]? = some v → Value.okWide Tryz.prog W .any base t v := hval0
  have hW' := hW
  obtain ⟨p, q, hA0, hV, rfl, hfz, hnd⟩ := hW
  have hA : DataW.TrodAll enc Tryz.prog W 0 (fun _ => true) true Tryz.f3.params.toList args.toList ds p := hA0
  rw [Tryz.params3] at hA hval
  obtain ⟨v0, vs0, d0, ds0, p0, q0, hargs, rfl, rfl, h0, r0⟩ := trodAll_cons hA
  obtain ⟨rfl, rfl, rfl⟩ := trodAll_nil r0
  obtain rfl : args = #[v0] := by cases args; simp_all
  obtain ⟨rfl, rfl⟩ := trodVars_none hV
  obtain ⟨a0, rfl, rfl, rfl, w0⟩ := open_string Tryz.underlying9 (hval 0 9 v0 rfl rfl) h0
  clear hA0 hval0
  simp only [List.append_nil] at hW'
  refine (scans_walk (env_of hL hsh) a0 w0).mono fun e W' ⟨he, hb⟩ => ?_
  subst he
  exact ⟨_, rfl, post_of_below (pa := []) (pv := []) hW' (fun _ _ _ => (trodAll_cons_mk (shut_bool Tryz.underlying4 _) trodAll_mk0)) (fun sp _ => (trodAll_cons_mk (shut_string Tryz.underlying9 w0) trodAll_mk0)) (fun _ _ => rfl) rfl hb
    (ok_one (by kernel_rfl) rfl (okWide_bool_mk Tryz.underlying4 _))⟩

theorem over : Rows.lexScansRow.holds Tryz.pinned (OpenSpec.ofChange Rows.lexScansSpec) :=
  OpenClaim.holds_of_wide 3 Tryz.f3 rfl rfl rfl rfl rfl rfl rfl ⟨rfl, rfl, rfl, rfl, rfl⟩ rfl rfl rfl rfl rfl (by kernel_rfl) Tryz.func3 (by kernel_rfl)
    (of_decide_eq_true (by kernel_rfl)) (by unfold Func.isWrapper; first | (rw [if_pos (by decide +kernel)]; kernel_rfl) | (rw [if_neg (by decide +kernel)]; exact ⟨rfl, rfl⟩))
    (fun os started H enc _ => lifted os started H enc)

theorem proved : Rows.LexScansCardSaid :=
  Claim7.holds_tied_plain_at .later [] [.data, .data, .data, .data, .sentinel, .sentinel, .pinned] true (true, "7e5d42f842a621709d98be802d3e8c118e49625bd1f7ac33c9fbb6d0546cc90f") true
    over (fun _ h => by cases h) (by kernel_rfl) (fun _ h => by cases h) lexScans_row_tie rfl ⟨rfl, rfl⟩ (by kernel_rfl) rfl
    (fun f fn hf hfn => by
      obtain rfl : f = 3 := Option.some.inj ((show Tryz.prog.funcNamed "restitch/restitchlaw01.LexScans" = some 3 by kernel_rfl).symm.trans hf) |>.symm
      obtain rfl : fn = Tryz.f3 := (Option.some.inj (Tryz.func3.symm.trans hfn)).symm
      exact ⟨by kernel_rfl, fun j t ht => by
        rw [Tryz.params3] at ht
        have hm : t ∈ [9] := by simpa using Array.mem_of_getElem? ht
        have hall : ([9].all fun u => !Tryz.prog.wantsStandIn u) = true := by kernel_rfl
        exact (show Tryz.prog.wantsStandIn t = false by simpa using List.all_eq_true.1 hall t hm)⟩)
    (by kernel_rfl)
#print axioms proved
end Go.Proofs.YtfoijbcmjciihaaGreatDoor.lexScans
