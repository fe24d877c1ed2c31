/- Cell. -/
import Derived.Test.YtfjgokbclgdfjaaFull
import Derived.Laws.MakeOwn
set_option linter.unusedSimpArgs false
set_option linter.unusedVariables false
namespace Go.Proofs.Ytfjgokbclgdfjaa
open Go.RowKit HM

/-- The fields, as slots, and the words that they are. -/
structure Fields (w : World) (s : S) (fs : List (Bool × Int)) (ws : List W) (g off n : Nat) : Prop where
  fn : fs.length = n
  wn : ws.length = n
  gl : 0 < n → g < w.heap.size
  cells : ∀ (j : Nat) (r : Bool) (m : Int), fs[j]? = some (r, m) → w.cell? ⟨g, off + j * 2, none⟩ = some (.bool r) ∧ w.cell? ⟨g, off + j * 2 + 1, none⟩ = some (.int .i64 m)
  words : ∀ (j : Nat) (r : Bool) (m : Int), fs[j]? = some (r, m) → (r = false ∧ ws[j]? = some (.num m)) ∨ (r = true ∧ ∃ i, atH s.handles m = some i ∧ ws[j]? = some (.obj i))

theorem made_words (n : Nat) (hn : n ≤ 16) : ∃ cz : Array Value, cz.size = n * 2 ∧ ∀ m : World, (Instr.makeSlice 39 (.int .i64 n) (.int .i64 n)).run Try.prog m = .ok (.slice (some ⟨m.heap.size, 0, none⟩) n n) (m.alloc (.cells cz 85)) := by
  obtain ⟨i, hi, hz, hs, hb⟩ := info_parts Try.info85
  refine ⟨madeCells #[.int .i64 0, .pointer none] (n * 2), size_madeCells _ _, fun m => ?_⟩
  have := run_make (P := Try.prog) m 39 85 i _ Try.underlying39 hi hz .i64 .i64 n n (by omega) (Int.le_refl _) (by rw [hb]; omega) (by omega)
  rw [hs] at this
  simpa [Value.cells] using this

set_option maxHeartbeats 800000 in
set_option maxRecDepth 20000 in
theorem cell_gen {w : World} {ρ : Nat → Nat} {A : Ad} {s : S} (h : Rep w ρ A s) (hw : WF s) (hb : Bd s) (hhl : s.handles.length < 60000) {fs : List (Bool × Int)} {ws : List W} {g off n : Nat} (hf : Fields w s fs ws g off n) (hn : n ≤ 16)
    (ad : Option Addr) (cap : Nat) (had : 0 < n → ad = some ⟨g, off, none⟩) (tag : Int) (htag : 0 ≤ tag) (a er : Int) (Post : World → Prop)
    (hmake : ∀ w1 g1, Pre w1 ρ A s ws g1 0 n → Ch (fun _ => False) ρ ρ w w1 → Calls Try.prog 49 #[.pointer (some ⟨A.hb, 0, none⟩), .int .i64 tag, .slice (some ⟨g1, 0, none⟩) n n] w1 fun e w' => e = .returned (.tuple #[.int .i64 a, .int .i64 er]) ∧ Post w') :
    Calls Try.prog 17 #[.pointer (some ⟨A.hb, 0, none⟩), .int .i64 tag, .slice ad n cap] w fun e w' => e = .returned (.tuple #[.int .i64 a, .int .i64 er]) ∧ Post w' := by
  obtain ⟨cz, hcz, hmk⟩ := made_words n hn
  have HR := Lib.hid h
  have HW := Lib.hid hw
  have HB := Lib.hid hb
  have HL := Lib.hid hhl
  have HF := Lib.hid hf
  have HA := Lib.hid had
  have HM := Lib.hid hmake
  have HC := Lib.hid hcz
  clear h hw hb hhl hf had hmake hcz
  go_enter Try.func17, Try.ntmps17
  go_wp2_with fail
  obtain ⟨g1, hg1⟩ : ∃ g1, g1 = w.heap.size := ⟨_, rfl⟩
  obtain ⟨wp, hwp⟩ : ∃ wp, wp = w.alloc (.cells cz 85) := ⟨_, rfl⟩
  rw [← hwp, ← hg1]
  have P1 : Hid (Ch (fun _ => False) ρ ρ w wp) := by rw [hwp]; exact (Ch.refl HR.out.rho).alloc _
  have P2 : Hid (wp.heap[g1]? = some (.cells cz 85 (0, 0))) := by rw [hwp, hg1]; exact heap_alloc_new w _
  have P3 : Hid (w.heap.size ≤ g1) := Nat.le_of_eq hg1.symm
  clear hg1 hwp hmk
  go_loopg [25] n (fun gk v wl => ∃ (j : Nat) (c : Array Value), j ≤ n ∧ gk = n - j ∧ v = .int .i64 j ∧ wl.heap[g1]? = some (.cells c 85 (0, 0)) ∧ c.size = n * 2 ∧
    (∀ (q : Nat) (x : W), q < j → ws[q]? = some x → c[q * 2]? = some (.int .i64 (wnum x)) ∧ c[q * 2 + 1]? = some (wptr A x)) ∧ Ch (fun _ => False) ρ ρ w wl)
  case atStart => exact ⟨0, cz, Nat.zero_le _, rfl, rfl, P2.out, HC.out, fun q x hq => absurd hq (by omega), P1.out⟩
  case round =>
    obtain ⟨j, c, hj, hgk, rfl, hh, hcs, hin, hch⟩ := hrel
    have H1 := Lib.hid hgk
    have H2 := Lib.hid hh
    have H3 := Lib.hid hcs
    have H4 := Lib.hid hin
    have H5 := Lib.hid hch
    clear hgk hh hcs hin hch
    by_cases hlt : j < n
    · have hltz : (j : Int) < (n : Int) := by omega
      obtain ⟨⟨r, m⟩, hfj⟩ : ∃ f, fs[j]? = some f := ⟨_, List.getElem?_eq_getElem (by rw [HF.out.fn]; exact hlt)⟩
      obtain ⟨k0, k1⟩ := HF.out.cells j r m hfj
      have hgl := HF.out.gl (by omega)
      have hgb : wr.heap[g]? = w.heap[g]? := H5.out.block _ hgl (by simp)
      have c0 : wr.cell? ⟨g, off + j * 2, none⟩ = some (.bool r) := by rw [World.cell?_of_block (w := w) hgb]; exact k0
      have c1 : wr.cell? ⟨g, off + j * 2 + 1, none⟩ = some (.int .i64 m) := by rw [World.cell?_of_block (w := w) hgb]; exact k1
      have hglw : g < wr.heap.size := Nat.lt_of_lt_of_le hgl H5.out.size
      have hads := HA.out (by omega)
      subst hads
      have hwd := HF.out.words j r m hfj
      have HD := Lib.hid hwd
      have HLT := Lib.hid hlt
      have hhbw : A.hb < wr.heap.size := Nat.lt_of_lt_of_le (HR.out.lt (by rw [HR.out.rh]; decide)) H5.out.size
      have hg1w : g1 < wr.heap.size := (Array.getElem?_eq_some_iff.1 H2.out).1
      obtain ⟨y0, e0⟩ : ∃ y, wr.cell? ⟨g1, j * 2, none⟩ = some y := by rw [cell_of_row _ _ _ _ _ _ H2.out]; exact ⟨_, Array.getElem?_eq_getElem (by rw [H3.out]; omega)⟩
      obtain ⟨y1, e1⟩ : ∃ y, wr.cell? ⟨g1, j * 2 + 1, none⟩ = some y := by rw [cell_of_row _ _ _ _ _ _ H2.out]; exact ⟨_, Array.getElem?_eq_getElem (by rw [H3.out]; omega)⟩
      have fz : ∀ q, wr.frozen? ⟨g1, q, none⟩ = false := fun q => frozen_of_row _ _ q _ _ H2.out
      clear k0 k1 hgb hwd hfj hgl
      go_wp2_with fail
      have hrho : ∀ o : Obj, ∀ k, (wr.alloc o).heap.size ≤ k → ρ k = 0 := fun o k hk => H5.out.fresh k (by simp at hk; omega)
      have HRH := Lib.hid hrho
      clear hrho
      rcases HD.out with ⟨rfl, hwx⟩ | ⟨rfl, i, hat, hwx⟩
      · have HWX := Lib.hid hwx
        clear hwx
        refine (word_num (HRH.out _) _ m).mono ?_
        rintro e w3 ⟨rfl, hc3⟩
        have hb3 : w3.heap[g1]? = wr.heap[g1]? := (hc3.block _ (by show g1 < (wr.alloc _).heap.size; simp; omega) (by simp)).trans (Below.heap_alloc wr _ _ hg1w)
        have e0' : w3.cell? ⟨g1, j * 2, none⟩ = some y0 := (World.cell?_of_block (w := wr) hb3).trans e0
        have e1' : w3.cell? ⟨g1, j * 2 + 1, none⟩ = some y1 := (World.cell?_of_block (w := wr) hb3).trans e1
        have fz' : ∀ q, w3.frozen? ⟨g1, q, none⟩ = false := fun q => (World.frozen?_of_block (w := wr) hb3).trans (fz q)
        have hg1w' : g1 < w3.heap.size := Nat.lt_of_lt_of_le hg1w (Nat.le_trans (by simp) hc3.size)
        have M1 := Lib.hid hb3
        have M2 := Lib.hid hc3
        clear hb3 hc3 e0 e1 fz c0 c1
        go_wp2_with fail
        go_roundg (n - (j + 1))
        case measure => have := H1.out; have := HLT.out; omega
        case rel =>
          refine ⟨j + 1, (c.set! (j * 2) (.int .i64 m)).set! (j * 2 + 1) (.pointer none), HLT.out, rfl, by go_num, ?_, by simp [H3.out], fun q x hq hx => ?_, ?_⟩
          · exact (Below.heap_alloc _ _ _ (by simpa using hg1w')).trans (heap_setCell_same _ g1 _ _ _ _ (heap_setCell_same w3 g1 _ _ _ _ (M1.out.trans H2.out)))
          · have hsz := H3.out
            have hjn := HLT.out
            simp only [Array.set!_eq_setIfInBounds, Array.getElem?_setIfInBounds, Array.size_setIfInBounds]
            by_cases hqj : q = j
            · subst hqj
              rw [HWX.out] at hx
              simp only [Option.some.injEq] at hx
              subst hx
              rw [if_neg (by omega), if_pos rfl, if_pos (by omega), if_pos rfl, if_pos (by omega)]
              exact ⟨rfl, rfl⟩
            · rw [if_neg (by omega), if_neg (by omega), if_neg (by omega), if_neg (by omega)]
              exact H4.out q x (by omega) hx
          · exact ((((((H5.out).alloc _).trans M2.out)).setCell ⟨g1, j * 2, none⟩ _ fun hb => absurd hb (by have := P3.out; show ¬ g1 < _; omega)).setCell ⟨g1, j * 2 + 1, none⟩ _ fun hb => absurd hb (by have := P3.out; show ¬ g1 < _; omega)).alloc _
      · have HWX := Lib.hid hwx
        have HAT := Lib.hid hat
        clear hwx hat
        have hmb : -9223372036854775808 ≤ m ∧ m ≤ 9223372036854775807 := by
          obtain ⟨kk, e, hk⟩ := atH_some HAT.out
          have h1 := (List.getElem?_eq_some_iff.1 hk).1
          have h2 := HL.out
          omega
        have hwr := word_ref ((HR.out.frame H5.out (fun _ h => h.elim)).alloc (.cells #[.bool true, .int .i64 m] 32)) m hmb
        rw [HAT.out] at hwr
        simp only [Ad.ptr] at hwr
        refine hwr.mono ?_
        rintro e w3 ⟨rfl, hc3⟩
        clear hwr
        have hb3 : w3.heap[g1]? = wr.heap[g1]? := (hc3.block _ (by show g1 < (wr.alloc _).heap.size; simp; omega) (by simp)).trans (Below.heap_alloc wr _ _ hg1w)
        have e0' : w3.cell? ⟨g1, j * 2, none⟩ = some y0 := (World.cell?_of_block (w := wr) hb3).trans e0
        have e1' : w3.cell? ⟨g1, j * 2 + 1, none⟩ = some y1 := (World.cell?_of_block (w := wr) hb3).trans e1
        have fz' : ∀ q, w3.frozen? ⟨g1, q, none⟩ = false := fun q => (World.frozen?_of_block (w := wr) hb3).trans (fz q)
        have hg1w' : g1 < w3.heap.size := Nat.lt_of_lt_of_le hg1w (Nat.le_trans (by simp) hc3.size)
        have M1 := Lib.hid hb3
        have M2 := Lib.hid hc3
        clear hb3 hc3 e0 e1 fz c0 c1
        go_wp2_with fail
        go_roundg (n - (j + 1))
        case measure => have := H1.out; have := HLT.out; omega
        case rel =>
          refine ⟨j + 1, (c.set! (j * 2) (.int .i64 0)).set! (j * 2 + 1) (.pointer (some ⟨A.obj i, 0, none⟩)), HLT.out, rfl, by go_num, ?_, by simp [H3.out], fun q x hq hx => ?_, ?_⟩
          · exact (Below.heap_alloc _ _ _ (by simpa using hg1w')).trans (heap_setCell_same _ g1 _ _ _ _ (heap_setCell_same w3 g1 _ _ _ _ (M1.out.trans H2.out)))
          · have hsz := H3.out
            have hjn := HLT.out
            simp only [Array.set!_eq_setIfInBounds, Array.getElem?_setIfInBounds, Array.size_setIfInBounds]
            by_cases hqj : q = j
            · subst hqj
              rw [HWX.out] at hx
              simp only [Option.some.injEq] at hx
              subst hx
              rw [if_neg (by omega), if_pos rfl, if_pos (by omega), if_pos rfl, if_pos (by omega)]
              exact ⟨rfl, rfl⟩
            · rw [if_neg (by omega), if_neg (by omega), if_neg (by omega), if_neg (by omega)]
              exact H4.out q x (by omega) hx
          · exact ((((((H5.out).alloc _).trans M2.out)).setCell ⟨g1, j * 2, none⟩ _ fun hb => absurd hb (by have := P3.out; show ¬ g1 < _; omega)).setCell ⟨g1, j * 2 + 1, none⟩ _ fun hb => absurd hb (by have := P3.out; show ¬ g1 < _; omega)).alloc _
    · have hge : decide ((j : Int) < (n : Int)) = false := by simp; omega
      obtain rfl : j = n := by omega
      have hpre : Pre wr ρ A s ws g1 0 j := by
        have hr := HR.out.frame H5.out (fun _ h => h.elim)
        refine ⟨hr, HW.out, HB.out, HL.out, HF.out.wn, hn, fun q x hx => ?_, HR.out.rho _ P3.out, (Array.getElem?_eq_some_iff.1 H2.out).1, fun q hq => ?_⟩
        · have hql : q < j := by rw [← HF.out.wn]; exact (List.getElem?_eq_some_iff.1 hx).1
          rw [Nat.zero_add, cell_of_row _ _ _ _ _ _ H2.out, cell_of_row _ _ _ _ _ _ H2.out]
          exact H4.out q x hql hx
        · obtain ⟨p, hp⟩ := List.getElem?_of_mem hq
          obtain ⟨⟨r, m⟩, hfj⟩ : ∃ f, fs[p]? = some f := ⟨_, List.getElem?_eq_getElem (by rw [HF.out.fn, ← HF.out.wn]; exact (List.getElem?_eq_some_iff.1 hp).1)⟩
          rcases HF.out.words p r m hfj with ⟨_, h2⟩ | ⟨_, i, h2, h3⟩
          · rw [hp] at h2; simp at h2
          · rw [hp] at h3
            simp only [Option.some.injEq, W.obj.injEq] at h3
            subst h3
            obtain ⟨kk, _, hk⟩ := atH_some h2
            exact ⟨kk, hk⟩
      have N1 := Lib.hid (HM.out wr g1 hpre H5.out)
      clear hpre
      go_wp2_with fail
      refine (N1.out).mono ?_
      rintro e w3 ⟨rfl, hpost⟩
      have N2 := Lib.hid hpost
      clear hpost
      go_wp2_with fail
      go_returns
      exact ⟨rfl, N2.out⟩
end Go.Proofs.Ytfjgokbclgdfjaa
