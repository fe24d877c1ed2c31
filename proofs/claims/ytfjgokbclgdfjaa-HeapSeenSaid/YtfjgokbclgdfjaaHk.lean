/- More error ways; Dup; the content of a modifiable, an integer; Mod where it is full. Each operation does what the plain heap does, errors included. The handles of a heap, as a list that rises: plain laws. -/
import Derived.Test.YtfjgokbclgdfjaaEr
import Derived.Test.YtfjgokbclgdfjaaRw
import Derived.Maps.RangeWalk
set_option linter.unusedSimpArgs false
set_option linter.unusedVariables false
namespace Go.Proofs.Ytfjgokbclgdfjaa
open Go.RowKit HM

set_option maxRecDepth 20000 in
theorem dup_none {w : World} {ρ : Nat → Nat} {A : Ad} {s : S} (h : Rep w ρ A s) {n : Int} (hn : InI n) (ha : atH s.handles n = none) :
    Calls Try.prog 76 #[.pointer (some ⟨A.hb, 0, none⟩), .int .i64 n] w fun e w' => e = .returned (.tuple #[.int .i64 0, .int .i64 190]) ∧ Ch (fun _ => False) ρ ρ w w' := by
  have hlk := look_none h hn ha
  have c8 := h.c8
  have hblt := h.blt
  have HR := Lib.hid h.rho
  clear h ha hn
  go_enter Try.func76, Try.ntmps76
  go_wp2
  go_ret2
  exact ⟨rfl, Ch.refl HR.out⟩

set_option maxRecDepth 20000 in
theorem dup_some {w0 w : World} {ρ : Nat → Nat} {A : Ad} {s : S} (h : Gm w0 w ρ A s) (hhl : s.handles.length < 60000) {n : Int} (hn : InI n) {i : Nat} (ha : atH s.handles n = some i) :
    Calls Try.prog 76 #[.pointer (some ⟨A.hb, 0, none⟩), .int .i64 n] w fun e w' => e = .returned (.tuple #[.int .i64 (slotOf s.handles), .int .i64 0]) ∧ ∃ ρ', Gm w0 w' ρ' A (s.give i) ∧ Ch Mine ρ ρ' w w' := by
  have hlk := look_some h.rep hn ha
  have c8 := h.rep.c8
  have hblt := h.rep.blt
  obtain ⟨o, ho, hd⟩ := atH_alive h.wf ha
  have HG := Lib.hid h
  have HO := Lib.hid ho
  have HD := Lib.hid hd
  have HL := Lib.hid hhl
  clear h ha hn ho hd hhl
  go_enter Try.func76, Try.ntmps76
  go_wp2_with fail
  refine (full_rep HG.out.rep HL.out).mono ?_
  rintro e w1 ⟨rfl, rfl⟩
  go_wp2_with fail
  refine (handle_rep HG.out.rep HO.out HD.out (by have := grey_bound HG.out.wf; have := HG.out.bd.os; omega) (by have := HL.out; omega)).mono ?_
  rintro e w2 ⟨rfl, ρ2, hr2, hc2⟩
  have H1 := Lib.hid hr2
  have H2 := Lib.hid hc2
  clear hr2 hc2
  go_wp2_with fail
  go_ret2
  exact ⟨rfl, ρ2, HG.out.given HL.out ⟨o, HO.out, HD.out⟩ H1.out H2.out, H2.out⟩

/-- The content of a modifiable, an integer. -/
theorem gm_get_num {w0 w : World} {ρ : Nat → Nat} {A : Ad} {s : S} (h : Gm w0 w ρ A s) (hhl : s.handles.length < 60000) {k i : Nat} (hk : s.handles[k]? = some (some i)) {o : O} (ho : s.objs[i]? = some o) (ht : o.tag = -1) {m : Int} (hx : o.ws[1]? = some (.num m)) :
    Calls Try.prog 45 #[.pointer (some ⟨A.hb, 0, none⟩), .int .i64 k] w fun e w' => e = .returned (.tuple #[slotV false m, .int .i64 0]) ∧ ∃ ρ', Gm w0 w' ρ' A s ∧ Ch Mine ρ ρ' w w' := by
  obtain ⟨o', ho', hd⟩ := h.wf.hand k i hk
  rw [ho] at ho'
  obtain rfl := Option.some.inj ho'
  obtain ⟨p1, p2, p3⟩ := h.place ho hd
  refine (get_gen (s' := s) h.rep hk (by omega) ho hd ht p3 p1 p2 h.bd.room hx m none rfl rfl false m (fun w1 hc => ?_)).mono ?_
  · refine (slot_num hc.fresh _ m).mono ?_
    rintro e w' ⟨rfl, hc2⟩
    exact ⟨rfl, ρ, h.rep.frame (hc.trans hc2) (fun _ h => h.elim), hc2.mono fun _ h => h.elim⟩
  · rintro e w' ⟨rfl, ρ', hr, hc⟩
    exact ⟨rfl, ρ', ⟨hr, h.wf, h.bd, h.ph, h.ch.trans hc⟩, hc⟩

set_option maxRecDepth 20000 in
theorem mod_none {w : World} {ρ : Nat → Nat} {A : Ad} {s : S} (h : Rep w ρ A s) {n : Int} (hn : InI n) (ha : atH s.handles n = none) :
    Calls Try.prog 44 #[.pointer (some ⟨A.hb, 0, none⟩), slotV true n] w fun e w' => e = .returned (.tuple #[.int .i64 0, .int .i64 190]) ∧ Ch (fun _ => False) ρ ρ w w' := by
  have HR := Lib.hid h
  have HW : Hid (∀ o1, Calls Try.prog 48 #[.pointer (some ⟨A.hb, 0, none⟩), slotV true n] (w.alloc o1) fun e w' => e = .returned (.tuple #[.agg #[.int .i64 0, .pointer none], .bool false]) ∧ Ch (fun _ => False) ρ ρ (w.alloc o1) w') := fun o1 => by
    have := word_ref (h.alloc o1) n hn
    rw [ha] at this
    exact this
  clear h ha hn
  unfold slotV at *
  go_enter Try.func44, Try.ntmps44
  go_wp2_with fail
  refine (HW.out _).mono ?_
  rintro e w1 ⟨rfl, hc⟩
  have H1 := Lib.hid hc
  clear hc
  go_wp2_with fail
  go_ret2
  exact ⟨rfl, (((Ch.refl HR.out.rho).alloc _).trans H1.out).alloc _⟩

set_option maxRecDepth 20000 in
theorem cell_arg {w : World} {ρ : Nat → Nat} (hρ : ∀ k, w.heap.size ≤ k → ρ k = 0) (p : Value) (tag : Int) (ad : Option Addr) (n cap : Nat) (h : tag < 0 ∨ 16 < n) :
    Calls Try.prog 17 #[p, .int .i64 tag, .slice ad n cap] w fun e w' => e = .returned (.tuple #[.int .i64 0, .int .i64 1]) ∧ Ch (fun _ => False) ρ ρ w w' := by
  have HR := Lib.hid hρ
  clear hρ
  rcases Int.lt_or_le tag 0 with ht | ht
  · clear h
    go_enter Try.func17, Try.ntmps17
    go_wp2
    go_ret2
    exact ⟨rfl, Ch.refl HR.out⟩
  · have hn : (16 : Int) < (n : Int) := by omega
    clear h
    go_enter Try.func17, Try.ntmps17
    go_wp2
    go_ret2
    exact ⟨rfl, Ch.refl HR.out⟩

/-- Makes a modifiable: it is full, after Collect too. -/
theorem gm_mod_full {w0 w : World} {ρ : Nat → Nat} {A : Ad} {s : S} (h : Gm w0 w ρ A s) (hhl : s.handles.length < 60000) (hep : s.epoch < 100000000) (r : Bool) (m : Int) (x : W) (hx : slotW s.handles r m = some x) (hfit : ¬ s.fitsB (1 + 1)) (hfit2 : ¬ s.collect.fitsB (1 + 1)) :
    Calls Try.prog 44 #[.pointer (some ⟨A.hb, 0, none⟩), slotV r m] w fun e w' => e = .returned (.tuple #[.int .i64 0, .int .i64 191]) ∧ ∃ ρ', Gm w0 w' ρ' A s.collect ∧ Ch Mine ρ ρ' w w' := by
  refine mod_gen h.rep h.wf h.bd hhl r m x hx _ _ (fun w' => ∃ ρ', Gm w0 w' ρ' A s.collect ∧ Ch Mine ρ ρ' w w') (fun w1 g1 hpre hc => ?_)
  refine (make_full hpre h.ph hep (-1) 1 hfit hfit2).mono ?_
  rintro e w' ⟨rfl, ρ', hr, hc2⟩
  have hc3 : Ch Mine ρ ρ' w w' := (hc.mono fun _ h => h.elim).trans hc2
  obtain ⟨a1, a2, _, _⟩ := wf_collect h.wf h.ph
  exact ⟨rfl, ρ', ⟨hr, a1, bd_collect h.bd h.wf h.ph hep, by omega, h.ch.trans hc3⟩, hc3⟩

/-- Makes a modifiable, where it fits behind a Collect. -/
theorem gm_mod_after {w0 w : World} {ρ : Nat → Nat} {A : Ad} {s : S} (h : Gm w0 w ρ A s) (hhl : s.handles.length < 60000) (hol : s.objs.length < 1000000) (hep : s.epoch < 100000000) (r : Bool) (m : Int) (x : W) (hx : slotW s.handles r m = some x) (hfit : ¬ s.fitsB (1 + 1)) (hfit2 : s.collect.fitsB (1 + 1)) :
    Calls Try.prog 44 #[.pointer (some ⟨A.hb, 0, none⟩), slotV r m] w fun e w' => e = .returned (.tuple #[.int .i64 (slotOf s.handles), .int .i64 0]) ∧ ∃ ρ' ob, Gm w0 w' ρ' (A.more ob) (s.collect.made (-1) [x]) ∧ Ch Mine ρ ρ' w w' := by
  obtain ⟨a1, a2, a3, a4⟩ := wf_collect h.wf h.ph
  have hal2 : ∀ j, W.obj j ∈ [x] → s.collect.Alive j := fun q hq => by
    simp at hq
    obtain ⟨kk, hk⟩ := slotW_ref (q := q) (by rw [hx, ← hq])
    exact a1.hand kk q (by rw [a3.handles]; exact hk)
  have hbc := bd_collect h.bd h.wf h.ph hep
  have hlen : s.collect.objs.length = s.objs.length := by have := congrArg List.length a3.conts; simpa [S.conts] using this
  refine mod_gen h.rep h.wf h.bd hhl r m x hx _ _ (fun w' => ∃ ρ' ob, Gm w0 w' ρ' (A.more ob) (s.collect.made (-1) [x]) ∧ Ch Mine ρ ρ' w w') (fun w1 g1 hpre hc => ?_)
  refine (make_after hpre h.ph hep (-1) 1 hfit rfl hfit2).mono ?_
  rintro e w' ⟨rfl, ρ', ob, hr, hc2⟩
  have hc3 : Ch Mine ρ ρ' w w' := (hc.mono fun _ h => h.elim).trans hc2
  refine ⟨by rw [a3.handles], ρ', ob, ⟨hr, wf_made a1 (by omega) hal2 ⟨by omega, by omega⟩ (fun _ => rfl) (by simp) hfit2, bd_made hbc (by rw [a3.handles]; omega) (by omega) _ _, by rw [(made_facts s.collect (-1) [x]).2.2.2]; omega, h.ch.trans hc3⟩, hc3⟩

/-- The fields, as slots. -/
structure FieldsC (w : World) (fs : List (Bool × Int)) (g off n : Nat) : Prop where
  fn : fs.length = n
  gl : 0 < n → g < w.heap.size
  cells : ∀ (j : Nat) (r : Bool) (m : Int), fs[j]? = some (r, m) → w.cell? ⟨g, off + j * 2, none⟩ = some (.bool r) ∧ w.cell? ⟨g, off + j * 2 + 1, none⟩ = some (.int .i64 m)

theorem wordsOf_get {hs : List (Option Nat)} : ∀ {fs : List (Bool × Int)} {ws : List W}, wordsOf hs fs = some ws → ∀ (j : Nat) (r : Bool) (m : Int), fs[j]? = some (r, m) → ∃ x, slotW hs r m = some x ∧ ws[j]? = some x
  | [], ws, h, j, r, m, hj => by simp at hj
  | f :: t, ws, h, j, r, m, hj => by
    unfold wordsOf at h
    split at h
    · rename_i x l hx hl
      cases h
      cases j with
      | zero => simp at hj; subst hj; exact ⟨x, hx, rfl⟩
      | succ j =>
        obtain ⟨y, h1, h2⟩ := wordsOf_get hl j r m (by simpa using hj)
        exact ⟨y, h1, by simpa using h2⟩
    · cases h

/-- The first field that is no word. -/
theorem wordsOf_miss {hs : List (Option Nat)} : ∀ {fs : List (Bool × Int)}, wordsOf hs fs = none → ∃ (j : Nat) (r : Bool) (m : Int), fs[j]? = some (r, m) ∧ slotW hs r m = none ∧ ∀ (q : Nat) (r : Bool) (m : Int), q < j → fs[q]? = some (r, m) → ∃ x, slotW hs r m = some x
  | [], h => by cases h
  | f :: t, h => by
    unfold wordsOf at h
    cases hf : slotW hs f.1 f.2 with
    | none => exact ⟨0, f.1, f.2, rfl, hf, fun q r m hq => absurd hq (Nat.not_lt_zero _)⟩
    | some x =>
      rw [hf] at h
      cases ht : wordsOf hs t with
      | some l => rw [ht] at h; cases h
      | none =>
        obtain ⟨j, r, m, h1, h2, h3⟩ := wordsOf_miss ht
        refine ⟨j + 1, r, m, by simpa using h1, h2, fun q r' m' hq hq2 => ?_⟩
        cases q with
        | zero => simp at hq2; subst hq2; exact ⟨x, hf⟩
        | succ q => exact h3 q r' m' (by omega) (by simpa using hq2)

theorem slotW_num (hs : List (Option Nat)) (m : Int) : slotW hs false m = some (.num m) := by simp [slotW]
theorem slotW_obj {hs : List (Option Nat)} {m : Int} {x : W} (h : slotW hs true m = some x) : ∃ i, atH hs m = some i ∧ x = .obj i := by
  unfold slotW at h
  simp at h
  obtain ⟨i, h1, h2⟩ := h
  exact ⟨i, h1, h2.symm⟩
theorem slotW_none {hs : List (Option Nat)} {r : Bool} {m : Int} (h : slotW hs r m = none) : r = true ∧ atH hs m = none := by
  cases r with
  | false => rw [slotW_num] at h; cases h
  | true => unfold slotW at h; simp at h; exact ⟨rfl, h⟩

theorem FieldsC.words {w : World} {s : S} {fs : List (Bool × Int)} {g off n : Nat} (h : FieldsC w fs g off n) {ws : List W} (hw : wordsOf s.handles fs = some ws) : Fields w s fs ws g off n :=
  ⟨h.fn, (wordsOf_length hw).trans h.fn, h.gl, h.cells, fun j r m hj => by
    obtain ⟨x, h1, h2⟩ := wordsOf_get hw j r m hj
    cases r with
    | false => rw [slotW_num] at h1; cases h1; exact .inl ⟨rfl, h2⟩
    | true => obtain ⟨i, h3, rfl⟩ := slotW_obj h1; exact .inr ⟨rfl, i, h3, h2⟩⟩

set_option maxHeartbeats 800000 in
set_option maxRecDepth 20000 in
theorem cell_miss {w : World} {ρ : Nat → Nat} {A : Ad} {s : S} (h : Rep w ρ A s) {fs : List (Bool × Int)} {g off n : Nat} (hf : FieldsC w fs g off n) (hn : n ≤ 16) (hin : ∀ (j : Nat) (r : Bool) (m : Int), fs[j]? = some (r, m) → InI m)
    (ad : Option Addr) (cap : Nat) (had : 0 < n → ad = some ⟨g, off, none⟩) (tag : Int) (htag : 0 ≤ tag) (hmiss : wordsOf s.handles fs = none) :
    Calls Try.prog 17 #[.pointer (some ⟨A.hb, 0, none⟩), .int .i64 tag, .slice ad n cap] w fun e w' => e = .returned (.tuple #[.int .i64 0, .int .i64 190]) ∧ Ch (fun _ => False) ρ ρ w w' := by
  obtain ⟨j0, r0, m0, hj0, hm0, hbef⟩ := wordsOf_miss hmiss
  obtain ⟨rfl, hat0⟩ := slotW_none hm0
  have hj0n : j0 < n := by rw [← hf.fn]; exact (List.getElem?_eq_some_iff.1 hj0).1
  obtain ⟨cz, hcz, hmk⟩ := made_words n hn
  have HR := Lib.hid h
  have HF := Lib.hid hf
  have HA := Lib.hid had
  have HC := Lib.hid hcz
  have HI := Lib.hid hin
  have HJ := Lib.hid hj0
  have HAT := Lib.hid hat0
  have HBE := Lib.hid hbef
  have HJN := Lib.hid hj0n
  clear h hf had hcz hin hj0 hat0 hbef hmiss hm0 hj0n
  go_enter Try.func17, Try.ntmps17
  go_wp2_with fail
  obtain ⟨g1, hg1⟩ : ∃ g1, g1 = w.heap.size := ⟨_, rfl⟩
  obtain ⟨wp, hwp⟩ : ∃ wp, wp = w.alloc (.cells cz 85) := ⟨_, rfl⟩
  rw [← hwp, ← hg1]
  have P1 : Hid (Ch (fun _ => False) ρ ρ w wp) := by rw [hwp]; exact (Ch.refl HR.out.rho).alloc _
  have P2 : Hid (wp.heap[g1]? = some (.cells cz 85 (0, 0))) := by rw [hwp, hg1]; exact heap_alloc_new w _
  have P3 : Hid (w.heap.size ≤ g1) := Nat.le_of_eq hg1.symm
  clear hg1 hwp hmk
  go_loopg [25] n (fun gk v wl => ∃ (j : Nat) (c : Array Value), j ≤ j0 ∧ gk = n - j ∧ v = .int .i64 j ∧ wl.heap[g1]? = some (.cells c 85 (0, 0)) ∧ c.size = n * 2 ∧ Ch (fun _ => False) ρ ρ w wl)
  case atStart => exact ⟨0, cz, Nat.zero_le _, rfl, rfl, P2.out, HC.out, P1.out⟩
  case round =>
    obtain ⟨j, c, hj, hgk, rfl, hh, hcs, hch⟩ := hrel
    have H1 := Lib.hid hgk
    have H2 := Lib.hid hh
    have H3 := Lib.hid hcs
    have H5 := Lib.hid hch
    have H6 := Lib.hid hj
    clear hgk hh hcs hch
    have hlt : j < n := by have := HJN.out; omega
    have hltz : (j : Int) < (n : Int) := by omega
    obtain ⟨⟨r, m⟩, hfj⟩ : ∃ f, fs[j]? = some f := ⟨_, List.getElem?_eq_getElem (by rw [HF.out.fn]; exact hlt)⟩
    obtain ⟨k0, k1⟩ := HF.out.cells j r m hfj
    have hgl := HF.out.gl (by omega)
    have hgb : wr.heap[g]? = w.heap[g]? := H5.out.block _ hgl (by simp)
    have c0 : wr.cell? ⟨g, off + j * 2, none⟩ = some (.bool r) := by rw [World.cell?_of_block (w := w) hgb]; exact k0
    have c1 : wr.cell? ⟨g, off + j * 2 + 1, none⟩ = some (.int .i64 m) := by rw [World.cell?_of_block (w := w) hgb]; exact k1
    have hglw : g < wr.heap.size := Nat.lt_of_lt_of_le hgl H5.out.size
    have hads := HA.out (by omega)
    subst hads
    have hmb := HI.out j r m hfj
    have HLT := Lib.hid hlt
    have hhbw : A.hb < wr.heap.size := Nat.lt_of_lt_of_le (HR.out.lt (by rw [HR.out.rh]; decide)) H5.out.size
    have hg1w : g1 < wr.heap.size := (Array.getElem?_eq_some_iff.1 H2.out).1
    obtain ⟨y0, e0⟩ : ∃ y, wr.cell? ⟨g1, j * 2, none⟩ = some y := by rw [cell_of_row _ _ _ _ _ _ H2.out]; exact ⟨_, Array.getElem?_eq_getElem (by rw [H3.out]; omega)⟩
    obtain ⟨y1, e1⟩ : ∃ y, wr.cell? ⟨g1, j * 2 + 1, none⟩ = some y := by rw [cell_of_row _ _ _ _ _ _ H2.out]; exact ⟨_, Array.getElem?_eq_getElem (by rw [H3.out]; omega)⟩
    have fz : ∀ q, wr.frozen? ⟨g1, q, none⟩ = false := fun q => frozen_of_row _ _ q _ _ H2.out
    have HD : Hid ((j = j0 ∧ r = true ∧ atH s.handles m = none) ∨ (j < j0 ∧ ((r = false) ∨ (r = true ∧ ∃ i, atH s.handles m = some i)))) := by
      by_cases e : j = j0
      · subst e
        rw [HJ.out] at hfj
        simp only [Option.some.injEq, Prod.mk.injEq] at hfj
        obtain ⟨rfl, rfl⟩ := hfj
        exact .inl ⟨rfl, rfl, HAT.out⟩
      · obtain ⟨x, hx⟩ := HBE.out j r m (by omega) hfj
        cases r with
        | false => exact .inr ⟨by omega, .inl rfl⟩
        | true => obtain ⟨i, h3, _⟩ := slotW_obj hx; exact .inr ⟨by omega, .inr ⟨rfl, i, h3⟩⟩
    clear k0 k1 hgb hfj hgl hj hlt
    go_wp2_with fail
    have hrho : ∀ o : Obj, ∀ k, (wr.alloc o).heap.size ≤ k → ρ k = 0 := fun o k hk => H5.out.fresh k (by simp at hk; omega)
    have HRH := Lib.hid hrho
    clear hrho
    rcases HD.out with ⟨rfl, rfl, hat⟩ | ⟨hjl, rfl | ⟨rfl, i, hat⟩⟩
    · have HAT2 := Lib.hid hat
      clear hat
      have hwr := word_ref ((HR.out.frame H5.out (fun _ h => h.elim)).alloc (.cells #[.bool true, .int .i64 m] 32)) m hmb
      rw [HAT2.out] at hwr
      refine hwr.mono ?_
      rintro e w3 ⟨rfl, hc3⟩
      clear hwr
      have M2 := Lib.hid hc3
      clear hc3 e0 e1 fz c0 c1
      go_wp2_with fail
      go_ret2
      exact ⟨rfl, ((H5.out.alloc _).trans M2.out).alloc _⟩
    · have HJL := Lib.hid hjl
      clear hjl
      refine (word_num (HRH.out _) _ m).mono ?_
      rintro e w3 ⟨rfl, hc3⟩
      have hb3 : w3.heap[g1]? = wr.heap[g1]? := (hc3.block _ (by show g1 < (wr.alloc _).heap.size; simp; omega) (by simp)).trans (Below.heap_alloc wr _ _ hg1w)
      have e0' : w3.cell? ⟨g1, j * 2, none⟩ = some y0 := (World.cell?_of_block (w := wr) hb3).trans e0
      have e1' : w3.cell? ⟨g1, j * 2 + 1, none⟩ = some y1 := (World.cell?_of_block (w := wr) hb3).trans e1
      have fz' : ∀ q, w3.frozen? ⟨g1, q, none⟩ = false := fun q => (World.frozen?_of_block (w := wr) hb3).trans (fz q)
      have hg1w' : g1 < w3.heap.size := Nat.lt_of_lt_of_le hg1w (Nat.le_trans (by simp) hc3.size)
      have M1 := Lib.hid hb3
      have M2 := Lib.hid hc3
      clear hb3 hc3 e0 e1 fz c0 c1
      go_wp2_with fail
      go_roundg (n - (j + 1))
      case measure => have := H1.out; have := HLT.out; omega
      case rel =>
        refine ⟨j + 1, (c.set! (j * 2) (.int .i64 m)).set! (j * 2 + 1) (.pointer none), HJL.out, rfl, by go_num, ?_, by simp [H3.out], ?_⟩
        · exact (Below.heap_alloc _ _ _ (by simpa using hg1w')).trans (heap_setCell_same _ g1 _ _ _ _ (heap_setCell_same w3 g1 _ _ _ _ (M1.out.trans H2.out)))
        · exact ((((((H5.out).alloc _).trans M2.out)).setCell ⟨g1, j * 2, none⟩ _ fun hb => absurd hb (by have := P3.out; show ¬ g1 < _; omega)).setCell ⟨g1, j * 2 + 1, none⟩ _ fun hb => absurd hb (by have := P3.out; show ¬ g1 < _; omega)).alloc _
    · have HJL := Lib.hid hjl
      have HAT2 := Lib.hid hat
      clear hjl hat
      have hwr := word_ref ((HR.out.frame H5.out (fun _ h => h.elim)).alloc (.cells #[.bool true, .int .i64 m] 32)) m hmb
      rw [HAT2.out] at hwr
      simp only [Ad.ptr] at hwr
      refine hwr.mono ?_
      rintro e w3 ⟨rfl, hc3⟩
      clear hwr
      have hb3 : w3.heap[g1]? = wr.heap[g1]? := (hc3.block _ (by show g1 < (wr.alloc _).heap.size; simp; omega) (by simp)).trans (Below.heap_alloc wr _ _ hg1w)
      have e0' : w3.cell? ⟨g1, j * 2, none⟩ = some y0 := (World.cell?_of_block (w := wr) hb3).trans e0
      have e1' : w3.cell? ⟨g1, j * 2 + 1, none⟩ = some y1 := (World.cell?_of_block (w := wr) hb3).trans e1
      have fz' : ∀ q, w3.frozen? ⟨g1, q, none⟩ = false := fun q => (World.frozen?_of_block (w := wr) hb3).trans (fz q)
      have hg1w' : g1 < w3.heap.size := Nat.lt_of_lt_of_le hg1w (Nat.le_trans (by simp) hc3.size)
      have M1 := Lib.hid hb3
      have M2 := Lib.hid hc3
      clear hb3 hc3 e0 e1 fz c0 c1
      go_wp2_with fail
      go_roundg (n - (j + 1))
      case measure => have := H1.out; have := HLT.out; omega
      case rel =>
        refine ⟨j + 1, (c.set! (j * 2) (.int .i64 0)).set! (j * 2 + 1) (.pointer (some ⟨A.obj i, 0, none⟩)), HJL.out, rfl, by go_num, ?_, by simp [H3.out], ?_⟩
        · exact (Below.heap_alloc _ _ _ (by simpa using hg1w')).trans (heap_setCell_same _ g1 _ _ _ _ (heap_setCell_same w3 g1 _ _ _ _ (M1.out.trans H2.out)))
        · exact ((((((H5.out).alloc _).trans M2.out)).setCell ⟨g1, j * 2, none⟩ _ fun hb => absurd hb (by have := P3.out; show ¬ g1 < _; omega)).setCell ⟨g1, j * 2 + 1, none⟩ _ fun hb => absurd hb (by have := P3.out; show ¬ g1 < _; omega)).alloc _

theorem word_all {w : World} {ρ : Nat → Nat} {A : Ad} {s : S} (h : Rep w ρ A s) (r : Bool) (m : Int) (hm : InI m) :
    Calls Try.prog 48 #[.pointer (some ⟨A.hb, 0, none⟩), slotV r m] w fun e w' => (∃ (y : Int) (p : Option Addr), e = .returned (.tuple #[.agg #[.int .i64 y, .pointer p], .bool (slotW s.handles r m).isSome])) ∧ Ch (fun _ => False) ρ ρ w w' := by
  cases r with
  | false =>
    refine (word_num h.rho _ m).mono ?_
    rintro e w' ⟨rfl, hc⟩
    exact ⟨⟨m, none, by rw [slotW_num]; rfl⟩, hc⟩
  | true =>
    refine (word_ref h m hm).mono ?_
    rintro e w' ⟨rfl, hc⟩
    refine ⟨?_, hc⟩
    unfold slotW
    simp only [if_true]
    cases atH s.handles m with
    | none => exact ⟨0, none, rfl⟩
    | some i => exact ⟨0, some ⟨A.obj i, 0, none⟩, rfl⟩

set_option maxRecDepth 20000 in
theorem set_err {w : World} {ρ : Nat → Nat} {A : Ad} {s : S} (h : Rep w ρ A s) {n : Int} (hn : InI n) (r : Bool) (m : Int) (hm : InI m) (he : atH s.handles n = none ∨ slotW s.handles r m = none) :
    Calls Try.prog 47 #[.pointer (some ⟨A.hb, 0, none⟩), .int .i64 n, slotV r m] w fun e w' => e = .returned (.int .i64 190) ∧ Ch (fun _ => False) ρ ρ w w' := by
  have HR := Lib.hid h
  have HW : Hid (∀ o1, Calls Try.prog 48 #[.pointer (some ⟨A.hb, 0, none⟩), slotV r m] (w.alloc o1) fun e w' => (∃ (y : Int) (p : Option Addr), e = .returned (.tuple #[.agg #[.int .i64 y, .pointer p], .bool (slotW s.handles r m).isSome])) ∧ Ch (fun _ => False) ρ ρ (w.alloc o1) w') := fun o1 => word_all (h.alloc o1) r m hm
  have c8 := h.c8
  have hblt := h.blt
  cases ha : atH s.handles n with
  | none =>
    have hlk : ∀ o1, (Instr.lookup 41 (.map (some A.mb)) (.int .i64 n) true).run Try.prog (w.alloc o1) = .ok (.tuple #[.pointer none, .bool false]) (w.alloc o1) := fun o1 => look_none (h.alloc o1) hn ha
    obtain ⟨b, hb⟩ : ∃ b, b = (slotW s.handles r m).isSome := ⟨_, rfl⟩
    rw [← hb] at HW
    clear h ha hn hb he hm
    unfold slotV at *
    go_enter Try.func47, Try.ntmps47
    go_wp2_with fail
    refine (HW.out _).mono ?_
    rintro e w1 ⟨⟨y, p, rfl⟩, hc⟩
    have H1 := Lib.hid hc
    clear hc
    go_wp2_with fail
    go_ret
    exact ⟨rfl, (((Ch.refl HR.out.rho).alloc _).trans H1.out).alloc _⟩
  | some i =>
    have hsn : slotW s.handles r m = none := by
      rcases he with e | e
      · rw [ha] at e; cases e
      · exact e
    have hlk : ∀ o1, (Instr.lookup 41 (.map (some A.mb)) (.int .i64 n) true).run Try.prog (w.alloc o1) = .ok (.tuple #[.pointer (some ⟨A.obj i, 0, none⟩), .bool true]) (w.alloc o1) := fun o1 => look_some (h.alloc o1) hn ha
    rw [hsn] at HW
    simp only [Option.isSome] at HW
    clear h ha hn he hsn hm
    generalize A.obj i = ob at *
    unfold slotV at *
    go_enter Try.func47, Try.ntmps47
    go_wp2_with fail
    refine (HW.out _).mono ?_
    rintro e w1 ⟨⟨y, p, rfl⟩, hc⟩
    have H1 := Lib.hid hc
    clear hc
    go_wp2_with fail
    go_ret
    exact ⟨rfl, (((Ch.refl HR.out.rho).alloc _).trans H1.out).alloc _⟩

set_option maxRecDepth 20000 in
theorem set_cell {w : World} {ρ : Nat → Nat} {A : Ad} {s : S} (h : Rep w ρ A s) {n : Int} (hn : InI n) (r : Bool) (m : Int) (hm : InI m) {i : Nat} (ha : atH s.handles n = some i) {o : O} (ho : s.objs[i]? = some o) (ht : o.tag ≠ -1) {x : W} (hx : slotW s.handles r m = some x) :
    Calls Try.prog 47 #[.pointer (some ⟨A.hb, 0, none⟩), .int .i64 n, slotV r m] w fun e w' => e = .returned (.int .i64 192) ∧ Ch (fun _ => False) ρ ρ w w' := by
  have HR := Lib.hid h
  have HW : Hid (∀ o1, Calls Try.prog 48 #[.pointer (some ⟨A.hb, 0, none⟩), slotV r m] (w.alloc o1) fun e w' => (∃ (y : Int) (p : Option Addr), e = .returned (.tuple #[.agg #[.int .i64 y, .pointer p], .bool (slotW s.handles r m).isSome])) ∧ Ch (fun _ => False) ρ ρ (w.alloc o1) w') := fun o1 => word_all (h.alloc o1) r m hm
  have c8 := h.c8
  have hblt := h.blt
  have hlk : ∀ o1, (Instr.lookup 41 (.map (some A.mb)) (.int .i64 n) true).run Try.prog (w.alloc o1) = .ok (.tuple #[.pointer (some ⟨A.obj i, 0, none⟩), .bool true]) (w.alloc o1) := fun o1 => look_some (h.alloc o1) hn ha
  rw [hx] at HW
  simp only [Option.isSome] at HW
  have HOB := Lib.hid (h.objs i o ho)
  have HRO := Lib.hid (show ρ (A.obj i) ≠ 0 from by rw [h.ro i (List.getElem?_eq_some_iff.1 ho).1]; omega)
  obtain ⟨tg, htg⟩ : ∃ t : Int, t = o.tag := ⟨_, rfl⟩
  have HTG := Lib.hid htg
  rw [← htg] at ht
  have k1 : (tg == -1) = false := beq_false_of_ne ht
  have k2 : (tg != -1) = true := by simp [ht]
  have hoblt : A.obj i < w.heap.size := (Array.getElem?_eq_some_iff.1 HOB.out).1
  clear h ha hn hx hm ho htg
  obtain ⟨ob, hob⟩ : ∃ ob, ob = A.obj i := ⟨_, rfl⟩
  rw [← hob] at hlk HOB hoblt HRO
  clear hob
  unfold slotV at *
  go_enter Try.func47, Try.ntmps47
  go_wp2_with fail
  refine (HW.out _).mono ?_
  rintro e w1 ⟨⟨y, p, rfl⟩, hc⟩
  have H1 := Lib.hid hc
  have hb1 : w1.heap[ob]? = some (.cells (objCells o) 97 (0, 0)) := (hc.block ob (by show ob < (w.alloc _).heap.size; simp; omega) (by simp)).trans ((Below.heap_alloc w _ _ hoblt).trans HOB.out)
  have o0 : w1.cell? ⟨ob, 0, none⟩ = some (.int .i64 tg) := by rw [cell_of_row _ _ 0 _ _ _ hb1, HTG.out]; rfl
  have hob1 : ob < w1.heap.size := (Array.getElem?_eq_some_iff.1 hb1).1
  clear hc hb1
  go_wp2_with fail
  go_ret
  exact ⟨rfl, (((Ch.refl HR.out.rho).alloc _).trans H1.out).alloc _⟩
end Go.Proofs.Ytfjgokbclgdfjaa

namespace Go.Proofs.Ytfjgokbclgdfjaa
open Go.RowKit HM

/-- What an operation leaves. -/
def OpP (w0 w : World) (ρ : Nat → Nat) (A : Ad) (s' : S) (v : Value) (e : Ending) (w' : World) : Prop :=
  e = .returned v ∧ ∃ ρ' A', A'.hb = A.hb ∧ Gm w0 w' ρ' A' s' ∧ Ch Mine ρ ρ' w w'

structure Few (s : S) : Prop where
  hl : s.handles.length < 1000
  ol : s.objs.length < 1000
  wl : s.weak.length < 1000
  ep : s.epoch < 1000

theorem opP_quiet {w0 w : World} {ρ : Nat → Nat} {A : Ad} {s : S} (h : Gm w0 w ρ A s) {v u : Value} {e : Ending} {w' : World} (hq : e = .returned u ∧ Ch (fun _ => False) ρ ρ w w') (hu : u = v) : OpP w0 w ρ A s v e w' :=
  ⟨hq.1.trans (by rw [hu]), ρ, A, rfl, h.frame hq.2, hq.2.mono fun _ h => h.elim⟩

theorem opP_same {w0 w : World} {ρ : Nat → Nat} {A : Ad} {s' : S} {v u : Value} {e : Ending} {w' : World} (hq : e = .returned u ∧ ∃ ρ', Gm w0 w' ρ' A s' ∧ Ch Mine ρ ρ' w w') (hu : u = v) : OpP w0 w ρ A s' v e w' := by
  obtain ⟨h1, ρ', h2, h3⟩ := hq
  exact ⟨h1.trans (by rw [hu]), ρ', A, rfl, h2, h3⟩

theorem opP_more {w0 w : World} {ρ : Nat → Nat} {A : Ad} {s' : S} {v u : Value} {e : Ending} {w' : World} (hq : e = .returned u ∧ ∃ ρ' ob, Gm w0 w' ρ' (A.more ob) s' ∧ Ch Mine ρ ρ' w w') (hu : u = v) : OpP w0 w ρ A s' v e w' := by
  obtain ⟨h1, ρ', ob, h2, h3⟩ := hq
  exact ⟨h1.trans (by rw [hu]), ρ', A.more ob, rfl, h2, h3⟩

theorem op_cell {w0 w : World} {ρ : Nat → Nat} {A : Ad} {s : S} (h : Gm w0 w ρ A s) (hf : Few s) (o : Opn) {g off : Nat} (hfs : FieldsC w o.fs g off o.fs.length) (hin : ∀ (j : Nat) (r : Bool) (m : Int), o.fs[j]? = some (r, m) → InI m)
    (ad : Option Addr) (cap : Nat) (had : 0 < o.fs.length → ad = some ⟨g, off, none⟩) (ha : InI o.a) (hk : o.which = 0) (c : Bool) :
    Calls Try.prog 17 #[.pointer (some ⟨A.hb, 0, none⟩), .int .i64 o.a, .slice ad o.fs.length cap] w (OpP w0 w ρ A (doOp c s o).1 (.tuple #[.int .i64 (doOp c s o).2.a, .int .i64 (doOp c s o).2.err])) := by
  unfold doOp
  rw [hk]
  simp only []
  by_cases h1 : o.a < 0 ∨ 16 < o.fs.length
  · rw [if_pos h1]
    exact (cell_arg h.rep.rho _ o.a ad o.fs.length cap h1).mono fun e w' hq => opP_quiet h hq rfl
  · rw [if_neg h1]
    cases hw : wordsOf s.handles o.fs with
    | none => exact (cell_miss h.rep hfs (by omega) hin ad cap had o.a (by omega) hw).mono fun e w' hq => opP_quiet h hq rfl
    | some ws =>
      have hwl := wordsOf_length hw
      simp only []
      unfold makeN
      rw [hwl]
      have htag : 0 ≤ o.a ∧ o.a ≤ 9223372036854775807 := ⟨by omega, ha.2⟩
      by_cases f1 : s.fitsB (1 + o.fs.length)
      · rw [if_pos f1]
        exact (gm_cell h (by have := hf.hl; omega) (by have := hf.ol; omega) (hfs.words hw) (by omega) ad cap had o.a htag f1).mono fun e w' hq => opP_more hq rfl
      · rw [if_neg f1]
        by_cases f2 : s.collect.fitsB (1 + o.fs.length)
        · rw [if_pos f2]
          exact (gm_cell_after h (by have := hf.hl; omega) (by have := hf.ol; omega) (by have := hf.ep; omega) (hfs.words hw) (by omega) ad cap had o.a htag f1 f2).mono fun e w' hq => opP_more hq rfl
        · rw [if_neg f2]
          exact (gm_cell_full h (by have := hf.hl; omega) (by have := hf.ep; omega) (hfs.words hw) (by omega) ad cap had o.a htag.1 f1 f2).mono fun e w' hq => opP_same hq rfl

theorem op_mod {w0 w : World} {ρ : Nat → Nat} {A : Ad} {s : S} (h : Gm w0 w ρ A s) (hf : Few s) (o : Opn) (hm : InI o.content.2) (hk : o.which = 1) (c : Bool) :
    Calls Try.prog 44 #[.pointer (some ⟨A.hb, 0, none⟩), slotV o.content.1 o.content.2] w (OpP w0 w ρ A (doOp c s o).1 (.tuple #[.int .i64 (doOp c s o).2.a, .int .i64 (doOp c s o).2.err])) := by
  unfold doOp
  rw [hk]
  simp only []
  cases hw : slotW s.handles o.content.1 o.content.2 with
  | none =>
    obtain ⟨h1, h2⟩ := slotW_none hw
    rw [h1]
    exact (mod_none h.rep hm h2).mono fun e w' hq => opP_quiet h hq rfl
  | some x =>
    simp only []
    unfold makeN
    by_cases f1 : s.fitsB (1 + [x].length)
    · rw [if_pos f1]
      exact (gm_mod h (by have := hf.hl; omega) (by have := hf.ol; omega) _ _ x hw f1).mono fun e w' hq => opP_more hq rfl
    · rw [if_neg f1]
      by_cases f2 : s.collect.fitsB (1 + [x].length)
      · rw [if_pos f2]
        exact (gm_mod_after h (by have := hf.hl; omega) (by have := hf.ol; omega) (by have := hf.ep; omega) _ _ x hw f1 f2).mono fun e w' hq => opP_more hq rfl
      · rw [if_neg f2]
        exact (gm_mod_full h (by have := hf.hl; omega) (by have := hf.ep; omega) _ _ x hw f1 f2).mono fun e w' hq => opP_same hq rfl

theorem op_set {w0 w : World} {ρ : Nat → Nat} {A : Ad} {s : S} (h : Gm w0 w ρ A s) (hf : Few s) (o : Opn) (ha : InI o.a) (hm : InI o.content.2) (hk : o.which = 2) (c : Bool) :
    Calls Try.prog 47 #[.pointer (some ⟨A.hb, 0, none⟩), .int .i64 o.a, slotV o.content.1 o.content.2] w (OpP w0 w ρ A (doOp c s o).1 (.int .i64 (doOp c s o).2.err)) := by
  unfold doOp
  rw [hk]
  simp only []
  cases hi : atH s.handles o.a with
  | none =>
    simp only []
    exact (set_err h.rep ha _ _ hm (.inl hi)).mono fun e w' hq => opP_quiet h hq rfl
  | some i =>
    cases hw : slotW s.handles o.content.1 o.content.2 with
    | none =>
      simp only []
      exact (set_err h.rep ha _ _ hm (.inr hw)).mono fun e w' hq => opP_quiet h hq rfl
    | some x =>
      simp only []
      obtain ⟨ob, hob, hd⟩ := atH_alive h.wf hi
      unfold setN
      rw [hob]
      simp only []
      by_cases ht : ob.tag = -1
      · rw [if_pos ht]
        obtain ⟨k, hka, hk2⟩ := atH_some hi
        rw [hka]
        exact (gm_set h (by have := hf.hl; omega) hk2 hob ht _ _ x hw).mono fun e w' hq => opP_same hq rfl
      · rw [if_neg ht]
        exact (set_cell h.rep ha _ _ hm hi hob ht hw).mono fun e w' hq => opP_quiet h hq rfl

theorem op_get {w0 w : World} {ρ : Nat → Nat} {A : Ad} {s : S} (h : Gm w0 w ρ A s) (hf : Few s) (o : Opn) (ha : InI o.a) (hk : o.which = 3) (c : Bool) :
    Calls Try.prog 45 #[.pointer (some ⟨A.hb, 0, none⟩), .int .i64 o.a] w (OpP w0 w ρ A (doOp c s o).1 (.tuple #[slotV (doOp c s o).2.slot.1 (doOp c s o).2.slot.2, .int .i64 (doOp c s o).2.err])) := by
  unfold doOp
  rw [hk]
  simp only []
  cases hi : atH s.handles o.a with
  | none =>
    simp only []
    exact (get_none h.rep ha hi).mono fun e w' hq => opP_quiet h hq rfl
  | some i =>
    simp only []
    obtain ⟨ob, hob, hd⟩ := atH_alive h.wf hi
    unfold getN
    rw [hob]
    simp only []
    by_cases ht : ob.tag = -1
    · rw [if_pos ht]
      obtain ⟨r, hr, h1, _⟩ := h.wf.shape i ob hob
      obtain ⟨x, hx⟩ : ∃ x, ob.ws[1]? = some x := by
        rw [hr]
        have := h1 ht
        match r, this with
        | [x], _ => exact ⟨x, rfl⟩
      rw [hx]
      simp only []
      obtain ⟨k, hka, hk2⟩ := atH_some hi
      rw [hka]
      cases x with
      | num m => exact (gm_get_num h (by have := hf.hl; omega) hk2 hob ht hx).mono fun e w' hq => opP_same hq rfl
      | obj q => exact (gm_get_obj h (by have := hf.hl; omega) hk2 hob ht hx).mono fun e w' hq => opP_same hq rfl
    · rw [if_neg ht]
      exact (get_cell h.rep ha hi hob ht).mono fun e w' hq => opP_quiet h hq rfl

theorem op_tag {w0 w : World} {ρ : Nat → Nat} {A : Ad} {s : S} (h : Gm w0 w ρ A s) (hf : Few s) (o : Opn) (ha : InI o.a) (hk : o.which = 4) (c : Bool) :
    Calls Try.prog 46 #[.pointer (some ⟨A.hb, 0, none⟩), .int .i64 o.a] w (OpP w0 w ρ A (doOp c s o).1 (.tuple #[.int .i64 (doOp c s o).2.a, .int .i64 (doOp c s o).2.b, .int .i64 (doOp c s o).2.err])) := by
  unfold doOp
  rw [hk]
  simp only []
  cases hi : atH s.handles o.a with
  | none =>
    simp only []
    exact (tag_none h.rep ha hi).mono fun e w' hq => opP_quiet h hq rfl
  | some i =>
    simp only []
    obtain ⟨ob, hob, hd⟩ := atH_alive h.wf hi
    unfold tagN
    rw [hob]
    simp only []
    by_cases ht : ob.tag = -1
    · rw [if_pos ht]
      exact (tag_mod h.rep ha hi hob ht).mono fun e w' hq => opP_quiet h hq rfl
    · rw [if_neg ht]
      obtain ⟨k, hka, hk2⟩ := atH_some hi
      rw [hka]
      refine (tag_rep h.rep hk2 (by have := hf.hl; omega) hob ht (by have := h.wf.size17 hob; omega)).mono fun e w' hq => ?_
      obtain ⟨rfl, n, rfl⟩ := hq
      exact ⟨rfl, ρ, A, rfl, h.drewN n, (Ch.refl h.rep.rho).drewN n⟩

theorem op_field {w0 w : World} {ρ : Nat → Nat} {A : Ad} {s : S} (h : Gm w0 w ρ A s) (hf : Few s) (o : Opn) (ha : InI o.a) (hb : InI o.b) (hk : o.which = 5) (c : Bool) :
    Calls Try.prog 25 #[.pointer (some ⟨A.hb, 0, none⟩), .int .i64 o.a, .int .i64 o.b] w (OpP w0 w ρ A (doOp c s o).1 (.tuple #[slotV (doOp c s o).2.slot.1 (doOp c s o).2.slot.2, .int .i64 (doOp c s o).2.err])) := by
  unfold doOp
  rw [hk]
  simp only []
  cases hi : atH s.handles o.a with
  | none =>
    simp only []
    exact (field_none h.rep ha hi o.b).mono fun e w' hq => opP_quiet h hq rfl
  | some i =>
    simp only []
    obtain ⟨ob, hob, hd⟩ := atH_alive h.wf hi
    unfold fieldN
    rw [hob]
    simp only []
    by_cases ht : ob.tag = -1
    · rw [if_pos ht]
      exact (field_mod h.rep ha hi hob ht o.b).mono fun e w' hq => opP_quiet h hq rfl
    · rw [if_neg ht]
      have hsz := h.wf.size17 hob
      have hpos := h.wf.sizePos hob
      by_cases hr : o.b < 0 ∨ (ob.size : Int) - 1 ≤ o.b
      · rw [if_pos hr]
        exact (field_range h.rep ha hi hob ht ⟨hpos, hsz⟩ o.b hr).mono fun e w' hq => opP_quiet h hq rfl
      · rw [if_neg hr]
        obtain ⟨j, hj⟩ : ∃ j : Nat, o.b = j := ⟨o.b.toNat, by omega⟩
        have hjs : 1 + j < ob.ws.length := by have : ob.size = ob.ws.length := rfl; omega
        obtain ⟨x, hx⟩ : ∃ x, ob.ws[1 + j]? = some x := ⟨_, List.getElem?_eq_getElem hjs⟩
        rw [hj, Int.toNat_natCast, hx]
        simp only []
        obtain ⟨k, hka, hk2⟩ := atH_some hi
        rw [hka]
        cases x with
        | num m => exact (gm_field_num h (by have := hf.hl; omega) hk2 hob ht hx).mono fun e w' hq => opP_same hq rfl
        | obj q => exact (gm_field_obj h (by have := hf.hl; omega) hk2 hob ht hx).mono fun e w' hq => opP_same hq rfl

theorem op_dup {w0 w : World} {ρ : Nat → Nat} {A : Ad} {s : S} (h : Gm w0 w ρ A s) (hf : Few s) (o : Opn) (ha : InI o.a) (hk : o.which = 8) (c : Bool) :
    Calls Try.prog 76 #[.pointer (some ⟨A.hb, 0, none⟩), .int .i64 o.a] w (OpP w0 w ρ A (doOp c s o).1 (.tuple #[.int .i64 (doOp c s o).2.a, .int .i64 (doOp c s o).2.err])) := by
  unfold doOp
  rw [hk]
  simp only []
  cases hi : atH s.handles o.a with
  | none => exact (dup_none h.rep ha hi).mono fun e w' hq => opP_quiet h hq rfl
  | some i => exact (dup_some h (by have := hf.hl; omega) ha hi).mono fun e w' hq => opP_same hq rfl

theorem op_drop {w0 w : World} {ρ : Nat → Nat} {A : Ad} {s : S} (h : Gm w0 w ρ A s) (hf : Few s) (o : Opn) (ha : InI o.a) (hk : o.which = 9) (c : Bool) :
    Calls Try.prog 18 #[.pointer (some ⟨A.hb, 0, none⟩), .int .i64 o.a] w (OpP w0 w ρ A (doOp c s o).1 (.int .i64 (doOp c s o).2.err)) := by
  unfold doOp
  rw [hk]
  simp only []
  cases hi : atH s.handles o.a with
  | none => exact (drop_none h.rep ha hi).mono fun e w' hq => opP_quiet h hq rfl
  | some i =>
    obtain ⟨k, hka, hk2⟩ := atH_some hi
    simp only []
    rw [hka, Int.toNat_natCast]
    exact (gm_drop h hk2).mono fun e w' hq => opP_same hq rfl

theorem op_weak {w0 w : World} {ρ : Nat → Nat} {A : Ad} {s : S} (h : Gm w0 w ρ A s) (hf : Few s) (o : Opn) (ha : InI o.a) (hk : o.which = 10) (c : Bool) :
    Calls Try.prog 19 #[.pointer (some ⟨A.hb, 0, none⟩), .int .i64 o.a] w (OpP w0 w ρ A (doOp c s o).1 (.tuple #[.int .i64 (doOp c s o).2.a, .int .i64 (doOp c s o).2.err])) := by
  unfold doOp
  rw [hk]
  simp only []
  cases hi : atH s.handles o.a with
  | none => exact (weak_none h.rep ha hi).mono fun e w' hq => opP_quiet h hq rfl
  | some i =>
    obtain ⟨k, hka, hk2⟩ := atH_some hi
    simp only []
    rw [hka]
    exact (gm_weak h hk2 (by have := hf.wl; omega)).mono fun e w' hq => opP_same hq rfl

theorem op_begin {w0 w : World} {ρ : Nat → Nat} {A : Ad} {s : S} (h : Gm w0 w ρ A s) (hf : Few s) (o : Opn) (hk : o.which = 12) :
    Calls Try.prog 20 #[.pointer (some ⟨A.hb, 0, none⟩)] w fun e w' => ∃ b, OpP w0 w ρ A (doOp true s o).1 (.bool b) e w' := by
  unfold doOp
  rw [hk]
  simp only [if_true]
  refine (begin_rep h.rep h.wf.cur (by have := hf.ep; omega)).mono ?_
  rintro e w' ⟨rfl, hr, hc⟩
  have hcm : Ch Mine ρ ρ w w' := hc.mono fun r hr => by unfold Mine; omega
  refine ⟨_, rfl, ρ, A, rfl, ⟨hr, wf_begin h.wf, ?_, ?_, h.ch.trans hcm⟩, hcm⟩
  · unfold S.begin
    split
    · exact h.bd
    · exact ⟨h.bd.room, h.bd.hs, h.bd.os, by have := hf.ep; show s.epoch + 1 ≤ _; omega⟩
  · unfold S.begin
    split
    · exact h.ph
    · show (1 : Nat) ≤ 2; decide

theorem op_step {w0 w : World} {ρ : Nat → Nat} {A : Ad} {s : S} (h : Gm w0 w ρ A s) (o : Opn) (hk : o.which = 13) :
    Calls Try.prog 21 #[.pointer (some ⟨A.hb, 0, none⟩)] w fun e w' => ∃ b, OpP w0 w ρ A (doOp true s o).1 (.bool b) e w' := by
  unfold doOp
  rw [hk]
  simp only [if_true]
  refine (gm_step h).mono ?_
  rintro e w' hq
  exact ⟨_, opP_same hq rfl⟩

theorem op_collect {w0 w : World} {ρ : Nat → Nat} {A : Ad} {s : S} (h : Gm w0 w ρ A s) (hf : Few s) (o : Opn) (hk : o.which = 14) :
    Calls Try.prog 23 #[.pointer (some ⟨A.hb, 0, none⟩)] w (OpP w0 w ρ A (doOp true s o).1 (.tuple #[])) := by
  unfold doOp
  rw [hk]
  simp only [if_true]
  exact (gm_collect h (by have := hf.ep; omega)).mono fun e w' hq => opP_same hq rfl

/-- How much an operation makes more. -/
structure Grew (s t : S) : Prop where
  hl : t.handles.length ≤ s.handles.length + 1
  ol : t.objs.length ≤ s.objs.length + 1
  wl : t.weak.length ≤ s.weak.length + 1
  ep : t.epoch ≤ s.epoch + 1
end Go.Proofs.Ytfjgokbclgdfjaa

namespace Go.Proofs.Ytfjgokbclgdfjaa
open Go.RowKit HM

theorem handsFrom_mem : ∀ (hs : List (Option Nat)) (k : Nat) (x : Int), x ∈ handsFrom k hs ↔ ∃ (j i : Nat), x = ((k + j : Nat) : Int) ∧ hs[j]? = some (some i)
  | [], k, x => by simp [handsFrom]
  | h :: r, k, x => by
    have ih := handsFrom_mem r (k + 1) x
    unfold handsFrom
    constructor
    · intro hx
      cases h with
      | none =>
        simp only [Option.isSome_none, Bool.false_eq_true, if_false] at hx
        obtain ⟨j, i, h1, h2⟩ := ih.1 hx
        exact ⟨j + 1, i, by rw [h1]; congr 1; omega, by simpa using h2⟩
      | some q =>
        simp only [Option.isSome_some, if_true] at hx
        rcases List.mem_cons.1 hx with e | e
        · exact ⟨0, q, by rw [e]; rfl, rfl⟩
        · obtain ⟨j, i, h1, h2⟩ := ih.1 e
          exact ⟨j + 1, i, by rw [h1]; congr 1; omega, by simpa using h2⟩
    · rintro ⟨j, i, h1, h2⟩
      cases j with
      | zero =>
        simp at h2
        subst h2
        simp only [Option.isSome_some, if_true]
        rw [h1]
        exact List.mem_cons_self
      | succ j =>
        have := ih.2 ⟨j, i, by rw [h1]; congr 1; omega, by simpa using h2⟩
        split
        · exact List.mem_cons_of_mem _ this
        · exact this

theorem handsFrom_rise : ∀ (hs : List (Option Nat)) (k : Nat), (handsFrom k hs).Pairwise (· < ·)
  | [], k => by unfold handsFrom; exact List.Pairwise.nil
  | h :: r, k => by
    have ih := handsFrom_rise r (k + 1)
    unfold handsFrom
    split
    · refine List.Pairwise.cons (fun x hx => ?_) ih
      obtain ⟨j, i, h1, _⟩ := (handsFrom_mem r (k + 1) x).1 hx
      rw [h1]
      omega
    · exact ih

theorem handsFrom_len : ∀ (hs : List (Option Nat)) (k : Nat), (handsFrom k hs).length = (hs.filter Option.isSome).length
  | [], k => rfl
  | h :: r, k => by
    have ih := handsFrom_len r (k + 1)
    unfold handsFrom
    cases h with
    | none => simpa using ih
    | some q => simpa using ih

/-- No key twice; a key is on the list just where the map has it and it is no longer to come. -/
def ColI (D : DataW Unit) (left : Lit → Bool) (ns : List Int) : Prop := ns.Nodup ∧ ∀ x : Int, x ∈ ns ↔ (Maps.has D (.int .i64 x) = true ∧ left (.int .i64 x) = false)

theorem ColI.start (D : DataW Unit) : ColI D (Maps.has D) [] := ⟨List.nodup_nil, fun x => by cases Maps.has D (.int .i64 x) <;> simp⟩

theorem ColI.step {D : DataW Unit} {left : Lit → Bool} {ns : List Int} (h : ColI D left ns) {x : Int} (hh : Maps.has D (.int .i64 x) = true) (hlk : left (.int .i64 x) = true) : ColI D (fun z => left z && !z.sameKey (.int .i64 x)) (ns ++ [x]) := by
  have hnew : x ∉ ns := fun hx => by have := ((h.2 x).1 hx).2; rw [hlk] at this; cases this
  refine ⟨List.nodup_append.2 ⟨h.1, by simp, fun a ha b hb => by simp at hb; subst hb; exact fun e => hnew (e ▸ ha)⟩, fun y => ?_⟩
  by_cases hy : y = x
  · subst hy; simp [hh, Lit.sameKey]
  · simp [h.2 y, hy, Lit.sameKey]

theorem ColI.sorted {D : DataW Unit} {left : Lit → Bool} {ns : List Int} (h : ColI D left ns) {hs : List (Option Nat)} (hl : ∀ kl, left kl = false)
    (h1 : ∀ k : Int, Maps.has D (.int .i64 k) = true → ∃ (j i : Nat), k = j ∧ hs[j]? = some (some i)) (h2 : ∀ (j i : Nat), hs[j]? = some (some i) → Maps.has D (.int .i64 j) = true) :
    (ns.mergeSort fun x y => decide (x ≤ y)) = handsFrom 0 hs := by
  have hm : ∀ x, x ∈ ns ↔ x ∈ handsFrom 0 hs := fun x => by
    rw [h.2 x, hl, handsFrom_mem]
    constructor
    · rintro ⟨a, _⟩
      obtain ⟨j, i, e, hj⟩ := h1 x a
      exact ⟨j, i, by rw [e]; congr 1; omega, hj⟩
    · rintro ⟨j, i, e, hj⟩
      refine ⟨?_, rfl⟩
      rw [e, Nat.zero_add]
      exact h2 j i hj
  have hnd : (handsFrom 0 hs).Nodup := (handsFrom_rise hs 0).imp fun h => by omega
  have hp : ns.Perm (handsFrom 0 hs) := (List.perm_ext_iff_of_nodup h.1 hnd).2 hm
  have hs1 : (ns.mergeSort fun x y => decide (x ≤ y)).Pairwise (· ≤ ·) := by
    have := List.pairwise_mergeSort (le := fun x y : Int => decide (x ≤ y)) (fun a b c h1 h2 => by simp at *; omega) (fun a b => by simp; omega) ns
    exact this.imp fun h => by simpa using h
  have hs2 : (handsFrom 0 hs).Pairwise (· ≤ ·) := (handsFrom_rise hs 0).imp fun h => by omega
  exact ((List.mergeSort_perm ns _).trans hp).eq_of_pairwise (fun a b _ _ h1 h2 => by omega) hs1 hs2

theorem ColI.len {D : DataW Unit} {left : Lit → Bool} {ns : List Int} (h : ColI D left ns) {hs : List (Option Nat)}
    (h1 : ∀ k : Int, Maps.has D (.int .i64 k) = true → ∃ (j i : Nat), k = j ∧ hs[j]? = some (some i)) : ns.length ≤ hs.length := by
  have hpos : ∀ x ∈ ns, ∃ j : Nat, x = j ∧ j < hs.length := fun x hx => by
    obtain ⟨j, i, e, hj⟩ := h1 x ((h.2 x).1 hx).1
    exact ⟨j, e, (List.getElem?_eq_some_iff.1 hj).1⟩
  have hb := nodup_bound hs.length (ns.map Int.toNat) (by
    unfold List.Nodup
    rw [List.pairwise_map]
    refine h.1.imp_of_mem fun {a b} ha hb hne e => ?_
    obtain ⟨j, rfl, _⟩ := hpos a ha
    obtain ⟨k, rfl, _⟩ := hpos b hb
    simp at e
    exact hne (by rw [e])) (fun i hi => by
    obtain ⟨x, hx, rfl⟩ := List.mem_map.1 hi
    obtain ⟨j, rfl, hj⟩ := hpos x hx
    simpa using hj)
  simpa using hb
end Go.Proofs.Ytfjgokbclgdfjaa

