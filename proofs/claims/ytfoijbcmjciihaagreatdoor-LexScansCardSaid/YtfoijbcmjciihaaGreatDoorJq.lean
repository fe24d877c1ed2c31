/- The start of a call, and a slice of tokens that came in (merged from Jo, Ot). -/
import Derived.Test.YtfoijbcmjciihaaGreatDoorRows
import Derived.Test.YtfoijbcmjciihaaGreatDoorTie
import Derived.Test.YtfoijbcmjciihaaGreatDoorCards
import Derived.ProofKit
import Derived.OpenShut
import Derived.LaidMore
import Derived.LaidLaws
import Derived.MakeChecks
import Derived.Lay
import Derived.Shelf.Vars
import Derived.Stop.LaidErr
import Derived.Lib.LaidTab
import Derived.HandedShaped
import Derived.SevenTiedAt
import Derived.LaidByTextLater
import Derived.Test.YtfoijbcmjciihaaGreatDoorTk
import Derived.Deep.Slices
import Derived.Deep.Fields
import Derived.ChangeSame
import Derived.Carry
import Derived.SizedLaws
import Derived.Test.YtfoijbcmjciihaaGreatDoorCk
set_option linter.unusedSimpArgs false
set_option linter.unusedVariables false

namespace Go.Proofs.YtfoijbcmjciihaaGreatDoor
open Go.ChangeShapes Go.WideShapes Go.ChangeAt Go.RowKit

/-- What the rows list. -/
def laid7 : List (String × DataW Unit) := [("math/bits.deBruijn32tab", Rows.laid_math_bits_deBruijn32tab), ("math/bits.deBruijn64tab", Rows.laid_math_bits_deBruijn64tab), ("internal/strconv.uint64pow10", Rows.laid_internal_strconv_uint64pow10), ("unicode/utf8.acceptRanges", Rows.laid_unicode_utf8_acceptRanges), ("strconv.ErrRange", Rows.laid_strconv_ErrRange), ("strconv.ErrSyntax", Rows.laid_strconv_ErrSyntax), ("unicode/utf8.first", Rows.laid_unicode_utf8_first)]

theorem own : ownKnob Tryz.prog.godebug = none := by kernel_rfl
theorem gRange : Tryz.prog.globalNamed "strconv.ErrRange" = some 2 := by kernel_rfl
theorem gSyntax : Tryz.prog.globalNamed "strconv.ErrSyntax" = some 1 := by kernel_rfl
theorem gTen : Tryz.prog.globalNamed "internal/strconv.uint64pow10" = some 5 := by kernel_rfl
theorem tRange : (Tryz.prog.globals[2]?).map (·.type) = some 75 := by kernel_rfl
theorem tSyntax : (Tryz.prog.globals[1]?).map (·.type) = some 75 := by kernel_rfl
theorem tTen : (Tryz.prog.globals[5]?).map (·.type) = some 141 := by kernel_rfl
theorem cells126 : Tryz.prog.cellsOf 139 = 1 := by kernel_rfl
theorem cells9 : Tryz.prog.cellsOf 9 = 1 := by kernel_rfl
theorem cells100 : Tryz.prog.cellsOf 114 = 1 := by kernel_rfl
theorem cells131 : Tryz.prog.cellsOf 141 = 20 := by kernel_rfl
theorem star : "*" ++ "errors.errorString" = "*errors.errorString" := by decide
theorem row124 (u : TypeId) (h : Tryz.prog.typeName? 3 u = some "*errors.errorString") : u = 137 :=
  typeName_ptr_named (nm := "errors.errorString") (by rw [star]; kernel_rfl) (by kernel_rfl) (by decide) u (by rw [star]; exact h)

theorem env_of {W : World} (h : laidMetH Tryz.prog laid7 W) (hsh : W.ShapedOpen Tryz.prog) : Env W := by
  rw [MakeChecks.laidMetH_plain _ _ _ (by kernel_rfl)] at h
  have h3 := h.tail.tail
  have h5 := h3.tail.tail
  have h6 := h5.tail
  obtain ⟨a2, s2, hv2, _⟩ := laid_sentinel h5 gRange tRange Tryz.underlying75 row124 Tryz.underlying137 Tryz.underlying139 rfl rfl Tryz.underlying9 cells126 cells9
  obtain ⟨a1, s1, hv1, _⟩ := laid_sentinel h6 gSyntax tSyntax Tryz.underlying75 row124 Tryz.underlying137 Tryz.underlying139 rfl rfl Tryz.underlying9 cells126 cells9
  refine ⟨Lib.tabIs_of_head gTen tTen Tryz.underlying141 Tryz.underlying114 cells100 cells131 h3, ?_, ?_, ?_, ?_⟩
  · exact cell_of_shapedOpen_int (t := 3) (zero := #[.int .i64 0]) hsh (of_decide_eq_true (by kernel_rfl)) (by kernel_rfl) rfl (by kernel_rfl) (by kernel_rfl) Tryz.underlying3
  · have := World.var?_cell gSyntax hv1 0
    exact ⟨_, _, by simpa using this⟩
  · have := World.var?_cell gRange hv2 0
    exact ⟨_, _, by simpa using this⟩
  · obtain ⟨_, hk⟩ := hsh
    obtain ⟨o, o0, ho, _⟩ := hk 9 (of_decide_eq_true (by kernel_rfl)) (of_decide_eq_true (by kernel_rfl))
    exact (Array.getElem?_eq_some_iff.1 ho).1

section
variable {H : Type} {enc : TypeId × Value → H} {P : Program}

theorem post_of_below {f : Func} {s : ChangeSpec} {apart fresh handsOn again : Bool} {W W' : World} {args : Array Value} {v : Value} {ds gs : List (DataW H)} {before pa pv : List MemPlace}
    (hW : DataW.Whole enc P f.params.toList s.vars apart W args.toList ds gs before)
    (hres : ∀ (b : Nat) (sp : Nat → Bool) (hd : Bool), DataW.TrodAll enc P W' b sp hd f.resultTypes.toList (v.resultList f.resultTypes.size) (s.fn H (ds ++ gs)).results [])
    (hargs : ∀ sp : Nat → Bool, (∀ p ∈ before, sp p.block = true) → DataW.TrodAll enc P W' 0 sp true f.params.toList args.toList (s.fn H (ds ++ gs)).args pa)
    (hvars : ∀ sp : Nat → Bool, (∀ p ∈ before, sp p.block = true) → DataW.TrodVars enc P W' sp s.vars (s.fn H (ds ++ gs)).vars pv)
    (hps : before = pa ++ pv) (hb : Below W.heap.size W W')
    (hok : ∀ (j : Nat) (t : TypeId) (r : Value), f.resultTypes[j]? = some t → (v.resultList f.resultTypes.size)[j]? = some r → Value.okWide P W' .any 0 t r) :
    s.post enc P f apart fresh handsOn again W args v W' := by
  have hlt : ∀ p ∈ before, p.block < W.heap.size := fun p hp => hW.lt p hp
  have hold : ∀ p ∈ before, (fun b => decide (b < W.heap.size)) p.block = true := fun p hp => by simpa using hlt p hp
  refine ⟨ds, gs, before, [], pa, pv, hW, hres _ _ _, hargs _ hold, hvars _ hold, World.keptBut_mono (fun p hp => ⟨hp, ?_⟩) (hb.frame (· ∈ before)), fun _ => ?_⟩
  · rw [hps, List.mem_append] at hp
    exact Or.inr hp
  · obtain ⟨_, _, _, _, _, hz, hn⟩ := hW
    refine ⟨hok, _, _, ([] ++ pa) ++ pv, ⟨[] ++ pa, pv, trodAll_append (hargs _ (fun _ _ => rfl)) (hres _ _ _), hvars _ (fun _ _ => rfl), rfl, ?_, ?_⟩, ?_⟩
    · intro b off hp
      have hin : MemPlace.cell b off ∈ before := by rw [hps]; simpa using hp
      rw [hb.frozen (hlt _ hin)]
      exact hz b off hin
    · intro ha
      have := hn ha
      rw [hps] at this
      simpa using this
    · intro p hp _
      rw [hps]
      simpa using hp

/-- The call's own worlds: what is listed, and the shape. -/
theorem returns_laid {a : Assume} {C : Checked} {os : Os} {f : FuncId} {fn : Func} {s : ChangeSpec} {conds : List PathCond} {apart fresh handsOn again : Bool} {X : World → Array Value → Prop}
    (hX : ∀ (w w' : World) (args : Array Value), w.heap = w'.heap → X w args → X w' args)
    (own : ownKnob C.prog.godebug = none) (started : os.Started) (noInit : C.prog.inits.idxOf? f = none) (hfn : C.prog.funcs[f]? = some fn)
    (witness : ∃ (w : World) (tape : Tape) (i : Input), w.os = os ∧ (w.forCall tape i).Shaped C.prog ∧ i.vars = [] ∧ Input.okWide C.prog (w.forCall tape i) .any w.heap.size f i ∧
      ((s.pre enc C.prog fn conds apart (w.forCall tape i).memory i.args ∧ X (w.forCall tape i).memory i.args) ∧ sizedMet enc C.prog fn (OpenSpec.ofChange s) apart (w.forCall tape i).memory i.args) ∧ a.holds C.prog (lone (Frame.enter C.prog f i.args .normal) [] (w.forCall tape i)))
    (contract : ∀ (W : World) (base : Nat) (args : Array Value) (ds gs : List (DataW H)) (before : List MemPlace),
      (∀ (j : Nat) t v, fn.params[j]? = some t → args[j]? = some v → Value.okWide C.prog W .any base t v) →
      DataW.Whole enc C.prog fn.params.toList s.vars apart W args.toList ds gs before →
      (DataW.weightsEach C.prog (fn.params.toList ++ s.plain.varTypes C.prog) (ds ++ gs)).all (· ≤ reachBytes) = true → X W args → W.ShapedOpen C.prog →
      Calls C.prog f args W fun e W' => ∃ v, e = .returned v ∧ s.post enc C.prog fn apart fresh handsOn again W args v W') :
    ReturnsInHanded a C os f .any (fun w args => (s.pre enc C.prog fn conds apart w args ∧ X w args) ∧ sizedMet enc C.prog fn (OpenSpec.ofChange s) apart w args) (s.post enc C.prog fn apart fresh handsOn again) := by
  refine returnsInHanded_of_calls own started noInit witness ?_
  intro w tape i _ hsh _ hok hpre _
  obtain ⟨_, _, _, fn', hfn', _, _, _, _, hval⟩ := hok
  have e : fn' = fn := Option.some.inj (hfn'.symm.trans hfn)
  subst e
  obtain ⟨⟨⟨ds, gs, before, hw, hc⟩, hx⟩, hz⟩ := hpre
  have hw' := DataW.Whole.of_heap (w' := w.forCall tape i) (by rfl) hw
  refine (contract (w.forCall tape i) w.heap.size i.args ds gs before hval hw' (hz.weights hw) (hX _ _ _ (by rfl) hx) hsh).mono fun e W' ⟨v, he, hp⟩ => ?_
  subst he
  exact ChangeSpec.post_blind hp
end

theorem fits7 (os : Os) : (World.holding Tryz.prog os ⟨#[], #[], []⟩).layFits Tryz.prog laid7 [] = true := by kernel_rfl
theorem ifaces7 (os : Os) : (World.holding Tryz.prog os ⟨#[], #[], []⟩).layIfaces Tryz.prog laid7 (World.laidAll Tryz.prog os laid7) = true := by kernel_rfl

theorem start_met (os : Os) (args : Array Value) : laidMetH Tryz.prog laid7 ((World.laidAll Tryz.prog os laid7).forCall (fun _ _ => 0) ⟨#[], args, []⟩).memory := by
  rw [MakeChecks.laidMetH_plain _ _ _ (by kernel_rfl)]
  exact laidMet_laidAll _ (fits7 os) (ifaces7 os)
end Go.Proofs.YtfoijbcmjciihaaGreatDoor


namespace Go.Proofs.YtfoijbcmjciihaaGreatDoor
open Go.ChangeShapes Go.WideShapes Go.ChangeAt Go.RowKit Go.Deep

section
variable {H : Type} {enc : TypeId × Value → H} {P : Program} {w : World} {base : Nat} {spare : Nat → Bool} {held : Bool}
theorem open_slice_fields {t e : TypeId} {fs : Array Field} {fuel : Nat} {cs : List Value} {x : DataW H × List MemPlace} (ht : P.underlying t = some (.slice e)) (he : P.underlying e = some (.struct fs))
    (hone : oneCellFields P fs = true) (hC : P.cellsOf e = fs.size) (h : DataW.trod enc P w base spare held fuel t cs = some x) :
    (cs = [.slice none 0 0] ∧ x = (.nil, [])) ∨
    ∃ (a : Addr) (len cap m : Nat) (D : Nat → DataW H) (Pl : Nat → List MemPlace), cs = [.slice (some a) len cap] ∧ base ≤ a.block ∧ len ≤ cap ∧ cap ≤ maxLen ∧ m = (if spare a.block then cap else len) ∧
      x = (.slice ((List.range len).map D) ((List.range (m - len)).map fun j => D (len + j)), MemPlace.row a (m * fs.size) ++ (List.range m).flatMap Pl) ∧
      ∀ i, i < m → ∃ (ys : List (DataW H × List MemPlace)) (n : Nat), D i = .agg (ys.map (·.1)) ∧ Pl i = ys.flatMap (·.2) ∧ ys.length = fs.size ∧
        ∀ (j : Nat) (f : Field), fs[j]? = some f → ∃ (v : Value) (y : DataW H × List MemPlace), w.cell? (a.add (i * fs.size + j)) = some v ∧ ys[j]? = some y ∧ DataW.trod enc P w base spare held n f.type [v] = some y := by
  rcases open_slice ht h with h0 | ⟨a, len, cap, m, n, D, Pl, hcs, hb, hl, hm, hmm, hx, hi⟩
  · exact .inl h0
  · refine .inr ⟨a, len, cap, m, D, Pl, hcs, hb, hl, hm, hmm, by rw [hC] at hx; exact hx, fun i him => ?_⟩
    obtain ⟨cs', hc, ht'⟩ := hi i him
    rw [hC] at hc
    obtain ⟨ys, n', hn', hy, hlen, hyl, hf⟩ := DataW.trod_struct he ht'
    obtain ⟨_, hcl, hat⟩ := World.cells?_some hc
    simp only [Prod.mk.injEq] at hy
    refine ⟨ys, n', hy.1, hy.2, hyl, fun j f hj => ?_⟩
    obtain ⟨ho, hk⟩ := hone_of hone j f hj
    have hjl : j < fs.size := (Array.getElem?_eq_some_iff.1 hj).1
    have hcell := hat j hjl
    have hv : cs'[j]? = some (cs'[j]'(by omega)) := List.getElem?_eq_getElem (by omega)
    have h1 := hf j f hj
    rw [ho, hk] at h1
    have hone' : (cs'.drop j).take 1 = [cs'[j]'(by omega)] := by
      rw [List.drop_eq_getElem_cons (by omega)]
      rfl
    rw [hone'] at h1
    have hys : ys[j]? = some (ys[j]'(by omega)) := List.getElem?_eq_getElem (by omega)
    refine ⟨_, _, ?_, hys, h1.trans hys⟩
    rw [← Go.Deep.add_add, hcell, hv]
end

theorem cellsOf39 : Tryz.prog.cellsOf 42 = 4 := by kernel_rfl
theorem bytesOf39 : Tryz.prog.bytesOf 42 = 40 := by kernel_rfl
set_option maxRecDepth 100000 in
theorem under39 : ∃ fs, Tryz.prog.underlying 42 = some (.struct fs) ∧ oneCellFields Tryz.prog fs = true ∧ fs.size = 4 ∧ (fs[0]?).map (·.type) = some 3 ∧ (fs[1]?).map (·.type) = some 3 ∧ (fs[2]?).map (·.type) = some 9 ∧ (fs[3]?).map (·.type) = some 3 :=
  ⟨_, Tryz.underlying42, by kernel_rfl, by kernel_rfl, by kernel_rfl, by kernel_rfl, by kernel_rfl, by kernel_rfl⟩
theorem laidOut : laidOutB Tryz.prog = true := by kernel_rfl

theorem addr_plain {W : World} {a : Addr} {v : Value} (h : W.cell? a = some v) : a = ⟨a.block, a.off, none⟩ ∧ a.block < W.heap.size := by
  unfold World.cell? at h
  split at h
  · rename_i c t f hb
    split at h
    · cases h
    · rename_i hs
      refine ⟨?_, (Array.getElem?_eq_some_iff.1 hb).1⟩
      obtain ⟨b, o, s⟩ := a
      cases s with
      | none => rfl
      | some k => exact absurd rfl hs
  · cases h

set_option maxRecDepth 100000 in
theorem open_tokens {H : Type} {enc : TypeId × Value → H} {W : World} {base : Nat} {v : Value} {d : DataW H} {p : List MemPlace} (hv : Value.okWide Tryz.prog W .any base 23 v) (h : DataW.Trod enc Tryz.prog W 0 (fun _ => true) true 23 v d p) :
    ∃ ts : List Tkv, TkS W v ts ∧ (∀ t ∈ ts, t.tx.size ≤ 9223372036854775807) ∧ (d = .nil ∧ ts = [] ∨ ∃ el sp, d = .slice el sp ∧ el.length = ts.length) := by
  obtain ⟨a, len, cap, rfl⟩ := okWide_slice Tryz.underlying23 hv
  obtain ⟨fuel, hf⟩ := h
  obtain ⟨fs, hu, h1, hsz, t0, t1, t2, t3⟩ := under39
  rcases open_slice_fields Tryz.underlying23 hu h1 (cellsOf39.trans hsz.symm) hf with ⟨hcs, hx⟩ | ⟨a', len', cap', m, D, Pl, hcs, _, hl, hcap, hm, hx, hi⟩
  · have hcs' : [Value.slice a len cap] = [Value.slice none 0 0] := hcs
    simp only [List.cons.injEq, Value.slice.injEq, and_true] at hcs'
    obtain ⟨rfl, rfl, rfl⟩ := hcs'
    have hx1 : d = .nil := congrArg Prod.fst hx
    exact ⟨[], ⟨⟨none, 0, rfl, Nat.le_refl _, fun h => absurd rfl h⟩⟩, fun t ht => absurd ht (by simp), .inl ⟨hx1, rfl⟩⟩
  · have hcs' : [Value.slice a len cap] = [Value.slice (some a') len' cap'] := hcs
    simp only [List.cons.injEq, Value.slice.injEq, and_true] at hcs'
    obtain ⟨rfl, rfl, rfl⟩ := hcs'
    simp only [if_true] at hm
    subst hm
    have hx1 : d = _ := congrArg Prod.fst hx
    have key : ∀ i, i < len → ∃ t : Tkv, t.tx.size ≤ 9223372036854775807 ∧ W.cell? (a'.add (i * 4)) = some (.int .i64 t.k) ∧ W.cell? (a'.add (i * 4 + 1)) = some (.int .i64 t.v) ∧ W.cell? (a'.add (i * 4 + 2)) = some (.string t.tx) ∧ W.cell? (a'.add (i * 4 + 3)) = some (.int .i64 t.p) := fun i hil => by
      obtain ⟨ys, n, _, _, _, hj⟩ := hi i (by omega)
      rw [hsz] at hj
      have get : ∀ (j : Nat) (ty : TypeId), (fs[j]?).map (·.type) = some ty → ∃ v x, W.cell? (a'.add (i * 4 + j)) = some v ∧ DataW.trod enc Tryz.prog W 0 (fun _ => true) true n ty [v] = some x := fun j ty he => by
        cases hq : fs[j]? with
        | none => rw [hq] at he; cases he
        | some f =>
          rw [hq] at he
          obtain ⟨v, y, e1, _, e3⟩ := hj j f hq
          have e4 : f.type = ty := by simpa using he
          rw [e4] at e3
          exact ⟨v, y, e1, e3⟩
      obtain ⟨v0, x0, c0, r0⟩ := get 0 3 t0
      obtain ⟨v1, x1, c1, r1⟩ := get 1 3 t1
      obtain ⟨v2, x2, c2, r2⟩ := get 2 9 t2
      obtain ⟨v3, x3, c3, r3⟩ := get 3 3 t3
      obtain ⟨n0, e0, _⟩ := DataW.trod_int Tryz.underlying3 r0
      obtain ⟨n1, e1, _⟩ := DataW.trod_int Tryz.underlying3 r1
      obtain ⟨s2, e2, _, hs2⟩ := DataW.trod_string Tryz.underlying9 r2
      obtain ⟨n3, e3, _⟩ := DataW.trod_int Tryz.underlying3 r3
      simp only [List.cons.injEq, and_true] at e0 e1 e2 e3
      subst e0 e1 e2 e3
      exact ⟨⟨n0, n1, s2, n3⟩, hs2, c0, c1, c2, c3⟩
    obtain ⟨f, hf⟩ : ∃ f : Nat → Tkv, ∀ i, i < len → (f i).tx.size ≤ 9223372036854775807 ∧ W.cell? (a'.add (i * 4)) = some (.int .i64 (f i).k) ∧ W.cell? (a'.add (i * 4 + 1)) = some (.int .i64 (f i).v) ∧ W.cell? (a'.add (i * 4 + 2)) = some (.string (f i).tx) ∧ W.cell? (a'.add (i * 4 + 3)) = some (.int .i64 (f i).p) := by
      refine ⟨fun i => if h : i < len then Classical.choose (key i h) else ⟨0, 0, ⟨#[]⟩, 0⟩, fun i h => ?_⟩
      simp only [dif_pos h]
      exact Classical.choose_spec (key i h)
    have hlen : ((List.range len).map f).length = len := by simp
    refine ⟨(List.range len).map f, ⟨⟨some a', _, by rw [hlen], by rw [hlen]; exact hl, fun hne => ?_⟩⟩, fun t ht => ?_, .inr ⟨_, _, hx1, by simp⟩⟩
    · have h0 : 0 < len := by
        rcases Nat.eq_zero_or_pos len with h0 | h0
        · rw [h0] at hne; exact absurd rfl hne
        · exact h0
      obtain ⟨hp, hb⟩ := addr_plain (hf 0 h0).2.1
      have hp' : a' = ⟨a'.block, a'.off, none⟩ := hp
      generalize a'.block = g at hp' hb
      generalize a'.off = off at hp'
      subst hp'
      refine ⟨g, off, rfl, hb, fun i t ht => ?_⟩
      have hil : i < len := by
        have := (List.getElem?_eq_some_iff.1 ht).1
        simpa using this
      rw [List.getElem?_map, List.getElem?_range hil] at ht
      simp only [Option.map_some, Option.some.injEq] at ht
      subst ht
      obtain ⟨_, c0, c1, c2, c3⟩ := hf i hil
      have e : ∀ k, (⟨g, off, none⟩ : Addr).add k = ⟨g, off + k, none⟩ := fun k => by
        unfold Addr.add
        split
        · rename_i h; rw [h]; rfl
        · rfl
      rw [e] at c0 c1 c2 c3
      exact ⟨c0, c1, c2, c3⟩
    · obtain ⟨i, hi, rfl⟩ := List.mem_map.1 ht
      exact (hf i (List.mem_range.1 hi)).1
end Go.Proofs.YtfoijbcmjciihaaGreatDoor
