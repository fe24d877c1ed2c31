/- Functions by value; Count, Bound: walked. Width, Crowd, found, Live: walked. -/
import Derived.Test.YtnkahlloahgifaaGreatDoorRc
import Derived.Test.YtnkahlloahgifaaGreatDoorZ
set_option linter.unusedSimpArgs false
set_option linter.unusedVariables false
namespace Go.Proofs.YtnkahlloahgifaaGreatDoor
open Go.RowKit RG Go.Maps

/-- A function as a value. -/
def TFunV (w : World) (v : Value) (ps : List Nm) (e : TE) : Prop :=
  ∃ (nm op : ByteArray) (ch : Bool) (pv va : Value) (num site : Int) (aa ab : Option Addr) (ca cb ga oa gb ob : Nat),
    v = .agg #[.string nm, .bool ch, pv, .int .i64 e.kind, .string e.name, .string op, .int .i64 num, .int .i64 site, va, .slice aa e.arms.length ca, .slice ab e.body.length cb] ∧
      ParamsAt w pv ps ∧ AtomsAt w va e.args ∧ (0 < e.arms.length → aa = some ⟨ga, oa, none⟩) ∧ TAAt w e.arms ga oa ∧ (0 < e.body.length → ab = some ⟨gb, ob, none⟩) ∧ TBAt w e.body gb ob

theorem ParamsAt.kept {w w' : World} {v : Value} {ns : List Nm} (h : ParamsAt w v ns) (hb : Kept w w') : ParamsAt w' v ns := by
  obtain ⟨ad, c, h1, h2⟩ := h.at'
  refine ⟨ad, c, h1, fun h0 => ?_⟩
  obtain ⟨g, o, e, h3⟩ := h2 h0
  exact ⟨g, o, e, fun i n hi => by obtain ⟨m, a, b⟩ := h3 i n hi; exact ⟨m, hb _ _ a, hb _ _ b⟩⟩

theorem TFunV.kept {w w' : World} {v : Value} {ps : List Nm} {e : TE} (h : TFunV w v ps e) (hb : Kept w w') : TFunV w' v ps e := by
  obtain ⟨nm, op, ch, pv, va, num, site, aa, ab, ca, cb, ga, oa, gb, ob, h0, h1, h2, h3, h4, h5, h6⟩ := h
  exact ⟨nm, op, ch, pv, va, num, site, aa, ab, ca, cb, ga, oa, gb, ob, h0, h1.kept hb, h2.kept hb, h3, TAAt.kept hb _ _ _ h4, h5, TBAt.kept hb _ _ _ h6⟩

/-- What is known ahead of a call. -/
structure FnOk (Env : World → Prop) (isName : Nm → Bool) (w : World) (v : Value) (ps : List Nm) (e : TE) : Prop where
  law : NLaw Env isName
  env : Env w
  val : TFunV w v ps e
  sz : ∀ d ∈ F0 ps e, (∀ x ∈ d.binds, x.size ≤ maxLen) ∧ ∀ x ∈ d.e.args, x.size ≤ maxLen
  pl : ps.length * 24 ≤ 140737488355328

theorem FnOk.keep {Env : World → Prop} {isName : Nm → Bool} {w w' : World} {v : Value} {ps : List Nm} {e : TE} (h : FnOk Env isName w v ps e) (hb : Below w.heap.size w w') : FnOk Env isName w' v ps e :=
  ⟨h.law, h.law.keep _ _ _ (h.law.size _ h.env) h.env hb, h.val.kept (kept_below hb), h.sz, h.pl⟩

/-- The cells of a function. -/
def tfunCells (v : Value) : Array Value := v.cells

theorem FnOk.boxed {Env : World → Prop} {isName : Nm → Bool} {w : World} {v : Value} {ps : List Nm} {e : TE} (h : FnOk Env isName w v ps e) : Calls Tryz.prog 58 #[.pointer (some ⟨w.heap.size, 0, none⟩)] (w.alloc (.cells v.cells 29)) (fun en w' => ReadP isName (w.alloc (.cells v.cells 29)) ps e en w') := by
  have hb : Below w.heap.size w (w.alloc (.cells v.cells 29)) := (Below.refl _ _).alloc (Nat.le_refl _) _
  have hk := kept_below hb
  obtain ⟨nm, op, ch, pv, va, num, site, aa, ab, ca, cb, ga, oa, gb, ob, rfl, h1, h2, h3, h4, h5, h6⟩ := h.val
  have hn := heap_alloc_new w (.cells (Value.agg #[.string nm, .bool ch, pv, .int .i64 e.kind, .string e.name, .string op, .int .i64 num, .int .i64 site, va, .slice aa e.arms.length ca, .slice ab e.body.length cb]).cells 29)
  have hpv : ∃ a n c, pv = .slice a n c := by obtain ⟨ad, c, e, _⟩ := h1.at'; exact ⟨_, _, _, e⟩
  have hva : ∃ a n c, va = .slice a n c := by obtain ⟨ad, c, e, _⟩ := h2.at'; exact ⟨_, _, _, e⟩
  obtain ⟨pa, pn, pc, rfl⟩ := hpv
  obtain ⟨xa, xn, xc, rfl⟩ := hva
  have hcs : (Value.agg #[.string nm, .bool ch, .slice pa pn pc, .int .i64 e.kind, .string e.name, .string op, .int .i64 num, .int .i64 site, .slice xa xn xc, .slice aa e.arms.length ca, .slice ab e.body.length cb]).cells = #[.string nm, .bool ch, .slice pa pn pc, .int .i64 e.kind, .string e.name, .string op, .int .i64 num, .int .i64 site, .slice xa xn xc, .slice aa e.arms.length ca, .slice ab e.body.length cb] := rfl
  refine read_any h.law (h.law.keep _ _ _ (h.law.size _ h.env) h.env hb) ?_ h.sz h.pl
  rw [hcs] at hn ⊢
  rw [hcs] at hk
  have c : ∀ i x, #[Value.string nm, .bool ch, .slice pa pn pc, .int .i64 e.kind, .string e.name, .string op, .int .i64 num, .int .i64 site, .slice xa xn xc, .slice aa e.arms.length ca, .slice ab e.body.length cb][i]? = some x → (w.alloc (.cells #[Value.string nm, .bool ch, .slice pa pn pc, .int .i64 e.kind, .string e.name, .string op, .int .i64 num, .int .i64 site, .slice xa xn xc, .slice aa e.arms.length ca, .slice ab e.body.length cb] 29)).cell? ⟨w.heap.size, i, none⟩ = some x := fun i x hx => by rw [cell_of_row _ _ _ _ _ _ hn]; exact hx
  refine ⟨⟨_, c 2 _ rfl, h1.kept hk⟩, ?_⟩
  obtain ⟨k, name, args, arms, body⟩ := e
  rw [TEAt]
  exact ⟨op, num, site, _, aa, ab, ca, cb, ga, oa, gb, ob, ⟨c 3 _ rfl, c 4 _ rfl, c 5 _ rfl, c 6 _ rfl⟩, ⟨c 7 _ rfl, c 8 _ rfl, c 9 _ rfl, c 10 _ rfl⟩, h2.kept hk, h3, TAAt.kept hk _ _ _ h4, h5, TBAt.kept hk _ _ _ h6⟩

/-- Behind a call that reads. -/
def CntP (isName : Nm → Bool) (w : World) (ps : List Nm) (e : TE) (en : Ending) (w' : World) : Prop :=
  Below w.heap.size w w' ∧ ((RG.Good isName ps e ∧ en = .returned (.tuple #[.int .i64 e.size, .int .i64 0])) ∨ (¬ RG.Good isName ps e ∧ en = .returned (.tuple #[.int .i64 0, .int .i64 160])))

theorem Fl.nodesLen {w : World} {A : Ad} {f : Nat} {F : List Nd} (h : Fl w A f F) : ∃ a c, w.cell? ⟨f, 2, none⟩ = some (.slice a F.length c) := by
  obtain ⟨sl, sn, sv, f0, f1, ⟨_, ad, c, rfl, _⟩, f3⟩ := h.at'.flat
  exact ⟨ad, c, by rw [cell_of_row _ _ 2 _ _ _ f0]; rfl⟩

set_option maxHeartbeats 1000000 in
set_option maxRecDepth 20000 in
theorem count_any {Env : World → Prop} {isName : Nm → Bool} {w : World} {v : Value} {ps : List Nm} {e : TE} (h : FnOk Env isName w v ps e) : Calls Tryz.prog 33 #[v] w (CntP isName w ps e) := by
  have RD := Lib.hid h.boxed
  obtain ⟨cs, rfl⟩ : ∃ cs, v = .agg cs := by obtain ⟨_, _, _, _, _, _, _, _, _, _, _, _, _, _, _, h0, _⟩ := h.val; exact ⟨_, h0⟩
  clear h
  go_enter Tryz.func33, Tryz.ntmps33
  go_wp2_with fail
  refine RD.out.mono ?_
  have hB0 : Below w.heap.size w (w.alloc (.cells cs 29)) := (Below.refl _ _).alloc (Nat.le_refl _) _
  have B0 := Lib.hid hB0
  clear hB0
  rintro en w1 ⟨hb, ⟨hg, A, f, rfl, hfl⟩ | ⟨hng, rfl⟩⟩
  · obtain ⟨a, c, c2⟩ := hfl.nodesLen
    have HB : Hid (Below w.heap.size w w1) := B0.out.trans (hb.mono B0.out.size)
    have HG := Lib.hid hg
    obtain ⟨n, hn⟩ : ∃ n, n = (F0 ps e).length := ⟨_, rfl⟩
    rw [← hn] at c2
    have HN := Lib.hid hn
    clear hb hg hfl hn
    go_wp2_with fail
    go_ret2
    exact ⟨HB.out, .inl ⟨HG.out, by rw [HN.out, F0_length]; rfl⟩⟩
  · have HB : Hid (Below w.heap.size w w1) := B0.out.trans (hb.mono B0.out.size)
    have HG := Lib.hid hng
    clear hb hng
    go_wp2_with fail
    go_ret2
    exact ⟨HB.out, .inr ⟨HG.out, rfl⟩⟩

/-- The names of a function, or an error. -/
def BndP (isName : Nm → Bool) (w : World) (ps : List Nm) (e : TE) (en : Ending) (w' : World) : Prop :=
  Below w.heap.size w w' ∧ ((RG.Good isName ps e ∧ ∃ v, en = .returned (.tuple #[v, .int .i64 0]) ∧ StrsAt w' v (vars (F0 ps e))) ∨ (¬ RG.Good isName ps e ∧ en = .returned (.tuple #[.slice none 0 0, .int .i64 160])))

set_option maxHeartbeats 1000000 in
set_option maxRecDepth 20000 in
theorem bound_any {Env : World → Prop} {isName : Nm → Bool} {w : World} {v : Value} {ps : List Nm} {e : TE} (h : FnOk Env isName w v ps e) : Calls Tryz.prog 37 #[v] w (BndP isName w ps e) := by
  have RD := Lib.hid h.boxed
  obtain ⟨cs, rfl⟩ : ∃ cs, v = .agg cs := by obtain ⟨_, _, _, _, _, _, _, _, _, _, _, _, _, _, _, h0, _⟩ := h.val; exact ⟨_, h0⟩
  clear h
  go_enter Tryz.func37, Tryz.ntmps37
  go_wp2_with fail
  refine RD.out.mono ?_
  have hB0 : Below w.heap.size w (w.alloc (.cells cs 29)) := (Below.refl _ _).alloc (Nat.le_refl _) _
  have B0 := Lib.hid hB0
  clear hB0
  rintro en w1 ⟨hb, ⟨hg, A, f, rfl, hfl⟩ | ⟨hng, rfl⟩⟩
  · obtain ⟨sl, sn, sv, f0, f1, f2, f3⟩ := hfl.at'.flat
    obtain ⟨-, ad, c, hsv, -⟩ := id f3
    have c3 : w1.cell? ⟨f, 3, none⟩ = some (.slice ad (vars (F0 ps e)).length c) := by rw [cell_of_row _ _ 3 _ _ _ f0, hsv]; rfl
    have HB : Hid (Below w.heap.size w w1) := B0.out.trans (hb.mono B0.out.size)
    have HG := Lib.hid hg
    have HS : Hid (StrsAt w1 (.slice ad (vars (F0 ps e)).length c) (vars (F0 ps e))) := by rw [← hsv]; exact f3
    obtain ⟨n, hn⟩ : ∃ n, n = (vars (F0 ps e)).length := ⟨_, rfl⟩
    rw [← hn] at c3 HS
    clear hb hg hfl hn f0 f1 f2 f3 hsv
    go_wp2_with fail
    go_ret2
    exact ⟨HB.out, .inl ⟨HG.out, _, rfl, HS.out⟩⟩
  · have HB : Hid (Below w.heap.size w w1) := B0.out.trans (hb.mono B0.out.size)
    have HG := Lib.hid hng
    clear hb hng
    go_wp2_with fail
    go_ret2
    exact ⟨HB.out, .inr ⟨HG.out, rfl⟩⟩
end Go.Proofs.YtnkahlloahgifaaGreatDoor

namespace Go.Proofs.YtnkahlloahgifaaGreatDoor
open Go.RowKit RG Go.Maps Go.Sort

theorem FnOk.cells {Env : World → Prop} {isName : Nm → Bool} {w : World} {v : Value} {ps : List Nm} {e : TE} (h : FnOk Env isName w v ps e) : ∃ cs, v = .agg cs := by obtain ⟨_, _, _, _, _, _, _, _, _, _, _, _, _, _, _, h0, _⟩ := h.val; exact ⟨_, h0⟩

/-- A number, or an error. -/
def WdP (isName : Nm → Bool) (w : World) (ps : List Nm) (e : TE) (en : Ending) (w' : World) : Prop :=
  Below w.heap.size w w' ∧ ((RG.Good isName ps e ∧ en = .returned (.tuple #[.int .i64 (width (F0 ps e)), .int .i64 0])) ∨ (¬ RG.Good isName ps e ∧ en = .returned (.tuple #[.int .i64 0, .int .i64 160])))

set_option maxHeartbeats 1000000 in
set_option maxRecDepth 20000 in
theorem width_any {Env : World → Prop} {isName : Nm → Bool} {w : World} {v : Value} {ps : List Nm} {e : TE} (h : FnOk Env isName w v ps e) : Calls Tryz.prog 28 #[v] w (WdP isName w ps e) := by
  have RD := Lib.hid h.boxed
  obtain ⟨cs, rfl⟩ := h.cells
  clear h
  go_enter Tryz.func28, Tryz.ntmps28
  go_wp2_with fail
  refine RD.out.mono ?_
  have B0 : Hid (Below w.heap.size w (w.alloc (.cells cs 29))) := (Below.refl _ _).alloc (Nat.le_refl _) _
  rintro en w1 ⟨hb, ⟨hg, A, f, rfl, hfl⟩ | ⟨hng, rfl⟩⟩
  · have HB : Hid (Below w.heap.size w w1) := B0.out.trans (hb.mono B0.out.size)
    have HG := Lib.hid hg
    have HF := Lib.hid hfl
    clear hb hg hfl
    go_wp2_with fail
    refine (crowd_any HF.out).mono ?_
    rintro en w2 ⟨b, q, rfl, hs, hc, hb2⟩
    obtain ⟨n, hn⟩ : ∃ n, n = (VSet (F0 ps e) q).length := ⟨_, rfl⟩
    have e1 : (Builtin.len_ #[108] 3 #[.map (some b)]).run Tryz.prog w2 = .ok (.int .i64 n) w2 := by obtain ⟨D, h1, h2, _⟩ := hs; have := h1.len Tryz.underlying108 3; rw [h2, ← hn] at this; exact this
    have HN : Hid (n = width (F0 ps e)) := by show _ = _; rw [hn, vset_length]; unfold width; rw [hc]
    have HB2 : Hid (Below w.heap.size w w2) := HB.out.trans (hb2.mono HB.out.size)
    clear hn hs hc hb2
    go_wp2_with fail
    go_ret2
    exact ⟨HB2.out, .inl ⟨HG.out, by rw [HN.out]; rfl⟩⟩
  · have HB : Hid (Below w.heap.size w w1) := B0.out.trans (hb.mono B0.out.size)
    have HG := Lib.hid hng
    clear hb hng
    go_wp2_with fail
    go_ret2
    exact ⟨HB.out, .inr ⟨HG.out, rfl⟩⟩

/-- What 'found' leaves. -/
def FdP (isName : Nm → Bool) (w : World) (ps : List Nm) (e : TE) (at' : Int) (en : Ending) (w' : World) : Prop :=
  Below w.heap.size w w' ∧ ((RG.Good isName ps e ∧ ∃ A f i, at' = (i : Nat) ∧ i < (F0 ps e).length ∧ en = .returned (.tuple #[.pointer (some ⟨f, 0, none⟩), .pointer (some ⟨A.nb i, 0, none⟩), .int .i64 0]) ∧ Fl w' A f (F0 ps e)) ∨
    (RG.Good isName ps e ∧ (at' < 0 ∨ (e.size : Int) ≤ at') ∧ en = .returned (.tuple #[.pointer none, .pointer none, .int .i64 3])) ∨ (¬ RG.Good isName ps e ∧ en = .returned (.tuple #[.pointer none, .pointer none, .int .i64 160])))

theorem Fl.nodes {w : World} {A : Ad} {f : Nat} {F : List Nd} (h : Fl w A f F) : ∃ c g o, w.cell? ⟨f, 2, none⟩ = some (.slice (some ⟨g, o, none⟩) F.length c) ∧ ∀ i, i < F.length → w.cell? ⟨g, o + i, none⟩ = some (.pointer (some ⟨A.nb i, 0, none⟩)) := by
  obtain ⟨sl, sn, sv, f0, f1, ⟨-, ad, c, rfl, f2⟩, f3⟩ := h.at'.flat
  obtain ⟨g, o, rfl, hat⟩ := f2 h.fo.pos
  exact ⟨c, g, o, by rw [cell_of_row _ _ 2 _ _ _ f0]; rfl, fun i hi => hat i _ (ptrs_at (by rw [List.getElem?_map, List.getElem?_range hi]; rfl))⟩

set_option maxHeartbeats 1000000 in
set_option maxRecDepth 20000 in
theorem found_any {Env : World → Prop} {isName : Nm → Bool} {w : World} {v : Value} {ps : List Nm} {e : TE} (h : FnOk Env isName w v ps e) (at' : Int) : Calls Tryz.prog 55 #[.pointer (some ⟨w.heap.size, 0, none⟩), .int .i64 at'] (w.alloc (.cells v.cells 29)) (FdP isName w ps e at') := by
  have RD := Lib.hid h.boxed
  obtain ⟨cs, rfl⟩ := h.cells
  have B0 : Hid (Below w.heap.size w (w.alloc (.cells cs 29))) := (Below.refl _ _).alloc (Nat.le_refl _) _
  clear h
  show Calls Tryz.prog 55 _ (w.alloc (.cells cs 29)) _
  go_enter Tryz.func55, Tryz.ntmps55
  go_wp2_with fail
  refine RD.out.mono ?_
  rintro en w1 ⟨hb, ⟨hg, A, f, rfl, hfl⟩ | ⟨hng, rfl⟩⟩
  · obtain ⟨c, g, o, c2, hat⟩ := hfl.nodes
    have HB : Hid (Below w.heap.size w w1) := B0.out.trans (hb.mono B0.out.size)
    have HG := Lib.hid hg
    have HF := Lib.hid hfl
    have HAT := Lib.hid hat
    obtain ⟨n, hn⟩ : ∃ n, n = (F0 ps e).length := ⟨_, rfl⟩
    rw [← hn] at c2
    have HN := Lib.hid hn
    have HNZ : Hid (n = e.size) := by show _ = _; rw [hn, F0_length]
    clear hb hg hfl hat hn
    by_cases h0 : at' < 0
    · have H0 := Lib.hid h0
      go_wp2_with fail
      go_ret3
      exact ⟨HB.out, .inr (.inl ⟨HG.out, .inl H0.out, rfl⟩)⟩
    · have d0 : decide (at' < 0) = false := by simpa using h0
      by_cases h1 : (n : Int) ≤ at'
      · have H1 := Lib.hid h1
        go_wp2_with fail
        go_ret3
        exact ⟨HB.out, .inr (.inl ⟨HG.out, .inr (by rw [← HNZ.out]; exact H1.out), rfl⟩)⟩
      · have d1 : decide ((n : Int) ≤ at') = false := by simpa using h1
        obtain ⟨i, rfl⟩ : ∃ i : Nat, at' = i := ⟨at'.toNat, by omega⟩
        have hi : i < n := by omega
        have hci := HAT.out i (by rw [← HN.out]; exact hi)
        have hiz : (i : Int) < n := by omega
        have hi0 : (0 : Int) ≤ i := by omega
        have HI := Lib.hid hi
        clear h0 h1
        go_wp2_with fail
        go_quiet (fail)
        go_wp2_with fail
        go_ret3
        exact ⟨HB.out.trans (below_drewN _ _ _), .inl ⟨HG.out, A, f, i, rfl, by rw [← HN.out]; exact HI.out, rfl, HF.out.keep (below_drewN _ _ _)⟩⟩
  · have HB : Hid (Below w.heap.size w w1) := B0.out.trans (hb.mono B0.out.size)
    have HG := Lib.hid hng
    clear hb hng
    go_wp2_with fail
    go_ret3
    exact ⟨HB.out, .inr (.inr ⟨HG.out, rfl⟩)⟩

/-- Names at an instruction, or an error. -/
def LvP (isName : Nm → Bool) (w : World) (ps : List Nm) (e : TE) (at' : Int) (ans : Nat → List Nm) (en : Ending) (w' : World) : Prop :=
  Below w.heap.size w w' ∧ ((RG.Good isName ps e ∧ ∃ (i : Nat) (v : Value), at' = i ∧ i < (F0 ps e).length ∧ en = .returned (.tuple #[v, .int .i64 0]) ∧ StrsAt w' v (ans i)) ∨
    (RG.Good isName ps e ∧ (at' < 0 ∨ (e.size : Int) ≤ at') ∧ en = .returned (.tuple #[.slice none 0 0, .int .i64 3])) ∨ (¬ RG.Good isName ps e ∧ en = .returned (.tuple #[.slice none 0 0, .int .i64 160])))

theorem NmP.strs {w w' : World} {ns : List Nm} {en : Ending} (h : NmP w ns en w') : ∃ a c, en = .returned (.slice a ns.length c) ∧ StrsAt w' (.slice a ns.length c) ns ∧ Below w.heap.size w w' := by
  obtain ⟨a, c, rfl, hr, hb⟩ := h
  refine ⟨a, c, rfl, ⟨strs_length _, a, c, rfl, fun h0 => ?_⟩, hb⟩
  rcases hr.2 with ⟨_, h1⟩ | ⟨g, cap, cur, hv, _, hg, k1, k2, k3, k4⟩
  · omega
  · simp only [Value.slice.injEq, true_and] at hv
    obtain ⟨rfl, rfl⟩ := hv
    refine ⟨g, 0, rfl, fun i x hi => ?_⟩
    have hl := (List.getElem?_eq_some_iff.1 hi).1
    rw [strs_length] at hl
    rw [Nat.zero_add, cell_of_row _ _ _ _ _ _ hg, ← Array.getElem?_toList, ← List.getElem?_take_of_lt (show i < ns.length * 1 by omega), k4]
    exact hi

set_option maxHeartbeats 1000000 in
set_option maxRecDepth 20000 in
theorem live_any (SORT : SortLaw) {Env : World → Prop} {isName : Nm → Bool} {w : World} {v : Value} {ps : List Nm} {e : TE} (h : FnOk Env isName w v ps e) (at' : Int) : Calls Tryz.prog 17 #[v, .int .i64 at'] w (LvP isName w ps e at' (liveAt (F0 ps e))) := by
  have FD := Lib.hid (found_any h at')
  have HSO := Lib.hid SORT
  obtain ⟨cs, rfl⟩ := h.cells
  clear h SORT
  go_enter Tryz.func17, Tryz.ntmps17
  go_wp2_with fail
  refine FD.out.mono ?_
  rintro en w1 ⟨hb, ⟨hg, A, f, i, rfl, hi, rfl, hfl⟩ | ⟨hg, ho, rfl⟩ | ⟨hng, rfl⟩⟩
  · obtain ⟨sx, n0, n1⟩ := hfl.at'.node i hi
    have c2 : w1.cell? ⟨A.nb i, 2, none⟩ = some (.map (some (A.mb i))) := by rw [cell_of_row _ _ 2 _ _ _ n0]; rfl
    have HS := Lib.hid (hfl.at'.live i hi)
    have HB := Lib.hid hb
    have HG := Lib.hid hg
    have HF := Lib.hid hfl
    have HI := Lib.hid hi
    clear hb hg hfl hi n0 n1
    go_wp2_with fail
    refine (named_any HSO.out HF.out HS.out).mono ?_
    intro en w2 hnm
    obtain ⟨a, c, rfl, hst, hb2⟩ := hnm.strs
    have HST := Lib.hid hst
    have HB2 : Hid (Below w.heap.size w w2) := HB.out.trans (hb2.mono HB.out.size)
    clear hnm hst hb2
    obtain ⟨n, hn⟩ : ∃ n, n = (named (F0 ps e) (lv (F0 ps e) i)).length := ⟨_, rfl⟩
    rw [← hn] at HST ⊢
    clear hn
    go_wp2_with fail
    go_ret2
    exact ⟨HB2.out, .inl ⟨HG.out, i, _, rfl, HI.out, rfl, HST.out⟩⟩
  · have HB := Lib.hid hb
    have HG := Lib.hid (And.intro hg ho)
    clear hb hg ho
    go_wp2_with fail
    go_ret2
    exact ⟨HB.out, .inr (.inl ⟨HG.out.1, HG.out.2, rfl⟩)⟩
  · have HB := Lib.hid hb
    have HG := Lib.hid hng
    clear hb hng
    go_wp2_with fail
    go_ret2
    exact ⟨HB.out, .inr (.inr ⟨HG.out, rfl⟩)⟩
end Go.Proofs.YtnkahlloahgifaaGreatDoor

