/- The operations that came in, opened; the walk of the statement. -/
import Derived.Test.YtfjgokbclgdfjaaTw
import Derived.Test.YtfjgokbclgdfjaaPost
import Derived.Deep.Slices
import Derived.Deep.Fields
import Derived.ChangeSame
import Derived.ChangeArms
import Derived.Carry
set_option linter.unusedSimpArgs false
set_option linter.unusedVariables false
namespace Go.Proofs.Ytfjgokbclgdfjaa
open Go.ChangeShapes Go.WideShapes Go.ChangeAt Go.RowKit Go.Deep HM

section
variable {H : Type} {enc : TypeId × Value → H} {P : Program} {w : World} {base : Nat} {spare : Nat → Bool} {held : Bool}
theorem open_slice_fields {t e : TypeId} {fs : Array Field} {fuel : Nat} {cs : List Value} {x : DataW H × List MemPlace} (ht : P.underlying t = some (.slice e)) (he : P.underlying e = some (.struct fs))
    (hone : oneCellFields P fs = true) (hC : P.cellsOf e = fs.size) (h : DataW.trod enc P w base spare held fuel t cs = some x) :
    (cs = [.slice none 0 0] ∧ x = (.nil, [])) ∨
    ∃ (a : Addr) (len cap m : Nat) (D : Nat → DataW H) (Pl : Nat → List MemPlace), cs = [.slice (some a) len cap] ∧ base ≤ a.block ∧ len ≤ cap ∧ cap ≤ maxLen ∧ m = (if spare a.block then cap else len) ∧
      x = (.slice ((List.range len).map D) ((List.range (m - len)).map fun j => D (len + j)), MemPlace.row a (m * fs.size) ++ (List.range m).flatMap Pl) ∧
      ∀ i, i < m → ∃ (ys : List (DataW H × List MemPlace)) (n : Nat), D i = .agg (ys.map (·.1)) ∧ Pl i = ys.flatMap (·.2) ∧ ys.length = fs.size ∧
        ∀ (j : Nat) (f : Field), fs[j]? = some f → ∃ (v : Value) (y : DataW H × List MemPlace), w.cell? (a.add (i * fs.size + j)) = some v ∧ ys[j]? = some y ∧ DataW.trod enc P w base spare held n f.type [v] = some y := by
  rcases open_slice ht h with h0 | ⟨a, len, cap, m, n, D, Pl, hcs, hb, hl, hm, hmm, hx, hi⟩
  · exact .inl h0
  · refine .inr ⟨a, len, cap, m, D, Pl, hcs, hb, hl, hm, hmm, by rw [hC] at hx; exact hx, fun i him => ?_⟩
    obtain ⟨cs', hc, ht'⟩ := hi i him
    rw [hC] at hc
    obtain ⟨ys, n', hn', hy, hlen, hyl, hf⟩ := DataW.trod_struct he ht'
    obtain ⟨_, hcl, hat⟩ := World.cells?_some hc
    simp only [Prod.mk.injEq] at hy
    refine ⟨ys, n', hy.1, hy.2, hyl, fun j f hj => ?_⟩
    obtain ⟨ho, hk⟩ := hone_of hone j f hj
    have hjl : j < fs.size := (Array.getElem?_eq_some_iff.1 hj).1
    have hcell := hat j hjl
    have hv : cs'[j]? = some (cs'[j]'(by omega)) := List.getElem?_eq_getElem (by omega)
    have h1 := hf j f hj
    rw [ho, hk] at h1
    have hone' : (cs'.drop j).take 1 = [cs'[j]'(by omega)] := by
      rw [List.drop_eq_getElem_cons (by omega)]
      rfl
    rw [hone'] at h1
    have hys : ys[j]? = some (ys[j]'(by omega)) := List.getElem?_eq_getElem (by omega)
    refine ⟨_, _, ?_, hys, h1.trans hys⟩
    rw [← Go.Deep.add_add, hcell, hv]
end


theorem cellsOf32 : Try.prog.cellsOf 32 = 2 := by kernel_rfl
theorem cellsOf61 : Try.prog.cellsOf 61 = 4 := by kernel_rfl
set_option maxRecDepth 100000 in
theorem under32 : ∃ fs, Try.prog.underlying 32 = some (.struct fs) ∧ oneCellFields Try.prog fs = true ∧ fs.size = 2 ∧ (fs[0]?).map (·.type) = some 4 ∧ (fs[1]?).map (·.type) = some 3 :=
  ⟨_, Try.underlying32, by kernel_rfl, by kernel_rfl, by kernel_rfl, by kernel_rfl⟩
set_option maxRecDepth 100000 in
theorem under61 : ∃ fs, Try.prog.underlying 61 = some (.struct fs) ∧ oneCellFields Try.prog fs = true ∧ fs.size = 4 ∧ (fs[0]?).map (·.type) = some 3 ∧ (fs[1]?).map (·.type) = some 3 ∧ (fs[2]?).map (·.type) = some 3 ∧ (fs[3]?).map (·.type) = some 30 :=
  ⟨_, Try.underlying61, by kernel_rfl, by kernel_rfl, by kernel_rfl, by kernel_rfl, by kernel_rfl, by kernel_rfl⟩
theorem laidOut : laidOutB Try.prog = true := by kernel_rfl

theorem addr_plain {W : World} {a : Addr} {v : Value} (h : W.cell? a = some v) : a = ⟨a.block, a.off, none⟩ ∧ a.block < W.heap.size := by
  unfold World.cell? at h
  split at h
  · rename_i c t f hb
    split at h
    · cases h
    · rename_i hs
      refine ⟨?_, (Array.getElem?_eq_some_iff.1 hb).1⟩
      obtain ⟨b, o, s⟩ := a
      cases s with
      | none => rfl
      | some k => exact absurd rfl hs
  · cases h

theorem add_plain (g off k : Nat) : (⟨g, off, none⟩ : Addr).add k = ⟨g, off + k, none⟩ := by
  unfold Addr.add
  split
  · rename_i h; rw [h]; rfl
  · rfl

theorem inI_of {n : Int} (h : (Lit.int .i64 n).wf = true) : InI n := fits64 h

/-- The fields of an operation. -/
structure FsAt (W : World) (v : Value) (fs : List (Bool × Int)) : Prop where
  at' : ∃ (fa : Option Addr) (fc fg fo : Nat), v = .slice fa fs.length fc ∧ FieldsC W fs fg fo fs.length ∧ (0 < fs.length → fa = some ⟨fg, fo, none⟩)
  ifs : ∀ (j : Nat) (r : Bool) (m : Int), fs[j]? = some (r, m) → InI m

set_option maxRecDepth 100000 in
theorem open_fs {H : Type} {enc : TypeId × Value → H} {W : World} {n : Nat} {v : Value} {y : DataW H × List MemPlace} (h : DataW.trod enc Try.prog W 0 (fun _ => true) true n 30 [v] = some y) : ∃ fs, FsAt W v fs := by
  obtain ⟨us, hu, h1, hsz, t0, t1⟩ := under32
  rcases open_slice_fields Try.underlying30 hu h1 (cellsOf32.trans hsz.symm) h with ⟨hcs, _⟩ | ⟨a', len, cap, m, D, Pl, hcs, _, hl, hcap, hm, _, hi⟩
  · simp only [List.cons.injEq, and_true] at hcs
    subst hcs
    exact ⟨[], ⟨⟨none, 0, 0, 0, rfl, ⟨rfl, fun h => absurd h (Nat.lt_irrefl _), fun j r m hj => by simp at hj⟩, fun h => absurd h (Nat.lt_irrefl _)⟩, fun j r m hj => by simp at hj⟩⟩
  · simp only [List.cons.injEq, and_true] at hcs
    subst hcs
    simp only [if_true] at hm
    subst hm
    have key : ∀ i, i < len → ∃ f : Bool × Int, InI f.2 ∧ W.cell? (a'.add (i * 2)) = some (.bool f.1) ∧ W.cell? (a'.add (i * 2 + 1)) = some (.int .i64 f.2) := fun i hil => by
      obtain ⟨ys, k, _, _, _, hj⟩ := hi i (by omega)
      rw [hsz] at hj
      have get : ∀ (j : Nat) (ty : TypeId), (us[j]?).map (·.type) = some ty → ∃ v x, W.cell? (a'.add (i * 2 + j)) = some v ∧ DataW.trod enc Try.prog W 0 (fun _ => true) true k ty [v] = some x := fun j ty he => by
        cases hq : us[j]? with
        | none => rw [hq] at he; cases he
        | some f =>
          rw [hq] at he
          obtain ⟨v, y, e1, _, e3⟩ := hj j f hq
          have e4 : f.type = ty := by simpa using he
          rw [e4] at e3
          exact ⟨v, y, e1, e3⟩
      obtain ⟨v0, x0, c0, r0⟩ := get 0 4 t0
      obtain ⟨v1, x1, c1, r1⟩ := get 1 3 t1
      obtain ⟨b0, e0, _⟩ := DataW.trod_bool Try.underlying4 r0
      obtain ⟨n1, e1, _, hw⟩ := DataW.trod_int Try.underlying3 r1
      simp only [List.cons.injEq, and_true] at e0 e1
      subst e0 e1
      exact ⟨(b0, n1), inI_of hw, c0, c1⟩
    obtain ⟨f, hf⟩ : ∃ f : Nat → Bool × Int, ∀ i, i < len → InI (f i).2 ∧ W.cell? (a'.add (i * 2)) = some (.bool (f i).1) ∧ W.cell? (a'.add (i * 2 + 1)) = some (.int .i64 (f i).2) := by
      refine ⟨fun i => if h : i < len then Classical.choose (key i h) else (false, 0), fun i h => ?_⟩
      simp only [dif_pos h]
      exact Classical.choose_spec (key i h)
    have hlen : ((List.range len).map f).length = len := by simp
    have get : ∀ (j : Nat) (r : Bool) (m : Int), ((List.range len).map f)[j]? = some (r, m) → j < len ∧ f j = (r, m) := fun j r m hj => by
      have hjl : j < len := by have := (List.getElem?_eq_some_iff.1 hj).1; simpa using this
      rw [List.getElem?_map, List.getElem?_range hjl] at hj
      simp only [Option.map_some, Option.some.injEq] at hj
      exact ⟨hjl, hj⟩
    refine ⟨(List.range len).map f, ⟨⟨some a', _, a'.block, a'.off, by rw [hlen], ⟨rfl, fun h0 => ?_, fun j r m hj => ?_⟩, fun h0 => ?_⟩, fun j r m hj => ?_⟩⟩
    · rw [hlen] at h0
      exact (addr_plain (hf 0 h0).2.1).2
    · obtain ⟨hjl, e⟩ := get j r m hj
      obtain ⟨_, c0, c1⟩ := hf j hjl
      have hp := (addr_plain (hf 0 (by omega)).2.1).1
      have hp' : a' = ⟨a'.block, a'.off, none⟩ := hp
      rw [hp', add_plain, e] at c0 c1
      exact ⟨c0, c1⟩
    · rw [hlen] at h0
      have hp : a' = ⟨a'.block, a'.off, none⟩ := (addr_plain (hf 0 h0).2.1).1
      rw [← hp]
    · obtain ⟨hjl, e⟩ := get j r m hj
      have := (hf j hjl).1
      rw [e] at this
      exact this

set_option maxRecDepth 100000 in
theorem open_ops {H : Type} {enc : TypeId × Value → H} {W : World} {base : Nat} {v : Value} {d : DataW H} {p : List MemPlace} (hv : Value.okWide Try.prog W .any base 56 v) (h : DataW.Trod enc Try.prog W 0 (fun _ => true) true 56 v d p) :
    ∃ l : List Opn, OpsAt W v l ∧ l.length ≤ maxLen := by
  obtain ⟨a, len, cap, rfl⟩ := okWide_slice Try.underlying56 hv
  obtain ⟨fuel, hf⟩ := h
  obtain ⟨us, hu, h1, hsz, t0, t1, t2, t3⟩ := under61
  rcases open_slice_fields Try.underlying56 hu h1 (cellsOf61.trans hsz.symm) hf with ⟨hcs, _⟩ | ⟨a', len', cap', m, D, Pl, hcs, _, hl, hcap, hm, _, hi⟩
  · have hcs' : [Value.slice a len cap] = [Value.slice none 0 0] := hcs
    simp only [List.cons.injEq, Value.slice.injEq, and_true] at hcs'
    obtain ⟨rfl, rfl, rfl⟩ := hcs'
    exact ⟨[], ⟨⟨none, 0, rfl, fun h => absurd rfl h⟩⟩, Nat.zero_le _⟩
  · have hcs' : [Value.slice a len cap] = [Value.slice (some a') len' cap'] := hcs
    simp only [List.cons.injEq, Value.slice.injEq, and_true] at hcs'
    obtain ⟨rfl, rfl, rfl⟩ := hcs'
    simp only [if_true] at hm
    subst hm
    have key : ∀ i, i < len → ∃ o : Opn, InI o.kind ∧ InI o.a ∧ InI o.b ∧ W.cell? (a'.add (i * 4)) = some (.int .i64 o.kind) ∧ W.cell? (a'.add (i * 4 + 1)) = some (.int .i64 o.a) ∧ W.cell? (a'.add (i * 4 + 2)) = some (.int .i64 o.b) ∧ ∃ v, W.cell? (a'.add (i * 4 + 3)) = some v ∧ FsAt W v o.fs := fun i hil => by
      obtain ⟨ys, k, _, _, _, hj⟩ := hi i (by omega)
      rw [hsz] at hj
      have get : ∀ (j : Nat) (ty : TypeId), (us[j]?).map (·.type) = some ty → ∃ v x, W.cell? (a'.add (i * 4 + j)) = some v ∧ DataW.trod enc Try.prog W 0 (fun _ => true) true k ty [v] = some x := fun j ty he => by
        cases hq : us[j]? with
        | none => rw [hq] at he; cases he
        | some f =>
          rw [hq] at he
          obtain ⟨v, y, e1, _, e3⟩ := hj j f hq
          have e4 : f.type = ty := by simpa using he
          rw [e4] at e3
          exact ⟨v, y, e1, e3⟩
      obtain ⟨v0, x0, c0, r0⟩ := get 0 3 t0
      obtain ⟨v1, x1, c1, r1⟩ := get 1 3 t1
      obtain ⟨v2, x2, c2, r2⟩ := get 2 3 t2
      obtain ⟨v3, x3, c3, r3⟩ := get 3 30 t3
      obtain ⟨n0, e0, _, w0⟩ := DataW.trod_int Try.underlying3 r0
      obtain ⟨n1, e1, _, w1⟩ := DataW.trod_int Try.underlying3 r1
      obtain ⟨n2, e2, _, w2⟩ := DataW.trod_int Try.underlying3 r2
      obtain ⟨fs, hfs⟩ := open_fs r3
      simp only [List.cons.injEq, and_true] at e0 e1 e2
      subst e0 e1 e2
      exact ⟨⟨n0, n1, n2, fs⟩, inI_of w0, inI_of w1, inI_of w2, c0, c1, c2, v3, c3, hfs⟩
    obtain ⟨f, hf⟩ : ∃ f : Nat → Opn, ∀ i, i < len → InI (f i).kind ∧ InI (f i).a ∧ InI (f i).b ∧ W.cell? (a'.add (i * 4)) = some (.int .i64 (f i).kind) ∧ W.cell? (a'.add (i * 4 + 1)) = some (.int .i64 (f i).a) ∧ W.cell? (a'.add (i * 4 + 2)) = some (.int .i64 (f i).b) ∧ ∃ v, W.cell? (a'.add (i * 4 + 3)) = some v ∧ FsAt W v (f i).fs := by
      refine ⟨fun i => if h : i < len then Classical.choose (key i h) else ⟨0, 0, 0, []⟩, fun i h => ?_⟩
      simp only [dif_pos h]
      exact Classical.choose_spec (key i h)
    have hlen : ((List.range len).map f).length = len := by simp
    refine ⟨(List.range len).map f, ⟨⟨some a', _, by rw [hlen], fun hne => ?_⟩⟩, by rw [hlen]; omega⟩
    have h0 : 0 < len := by
      rcases Nat.eq_zero_or_pos len with h0 | h0
      · rw [h0] at hne; exact absurd rfl hne
      · exact h0
    obtain ⟨hp, hb⟩ := addr_plain (hf 0 h0).2.2.2.1
    have hp' : a' = ⟨a'.block, a'.off, none⟩ := hp
    generalize a'.block = g at hp' hb
    generalize a'.off = off at hp'
    subst hp'
    refine ⟨g, off, rfl, fun i o ho => ?_⟩
    have hil : i < len := by
      have := (List.getElem?_eq_some_iff.1 ho).1
      simpa using this
    rw [List.getElem?_map, List.getElem?_range hil] at ho
    simp only [Option.map_some, Option.some.injEq] at ho
    subst ho
    obtain ⟨i0, i1, i2, c0, c1, c2, v3, c3, hfs⟩ := hf i hil
    rw [add_plain] at c0 c1 c2 c3
    obtain ⟨fa, fc, fg, fo, rfl, k1, k2⟩ := hfs.at'
    exact ⟨c0, c1, c2, ⟨fa, fc, fg, fo, c3, k1, k2⟩, i0, i1, i2, hfs.ifs, hb⟩

theorem IntsAt.keep {w w' : World} {v : Value} {ns : List Int} (h : IntsAt w v ns) (ho : ∀ q, v.ownBlock = some q → q < w.heap.size) (hb : Below w.heap.size w w') : IntsAt w' v ns := by
  obtain ⟨a, c, rfl, h2⟩ := h.shape
  refine ⟨⟨a, c, rfl, fun hne => ?_⟩⟩
  obtain ⟨g, rfl, h3⟩ := h2 hne
  have hg := ho g (by simp [Value.ownBlock])
  exact ⟨g, rfl, fun j x hj => (World.cell?_of_block (w := w) (hb.block g hg)).trans (h3 j x hj)⟩

set_option maxHeartbeats 1000000 in
set_option maxRecDepth 20000 in
theorem seen_walk (n : Int) (hn : (Lit.int .i64 n).wf = true) {w : World} {v : Value} {l : List Opn} (hv : OpsAt w v l) (hl : l.length ≤ maxLen) :
    Calls Try.prog 10 #[.int .i64 n, v] w fun e w' => e = .returned (.bool true) ∧ ∃ ρ', Ch Mine (fun _ => 0) ρ' w w' := by
  obtain ⟨ad, cp, rfl, _⟩ := hv.shape
  obtain ⟨L, hL⟩ : ∃ L, L = l.length := ⟨_, rfl⟩
  rw [← hL] at hv ⊢
  have HV := Lib.hid hv
  have HLE := Lib.hid hl
  have HIN := Lib.hid (inI_of hn)
  obtain ⟨R, hR⟩ : ∃ R : Nat, ((R : Int) = 4 + n % 197) := ⟨(4 + n % 197).toNat, by omega⟩
  have HRB := Lib.hid (show 4 ≤ R ∧ R ≤ 60000 by omega)
  have HRM : Hid (∀ W, Calls Try.prog 12 #[.int .i64 n] W fun e w' => e = .returned (.int .i64 R) ∧ w' = W) := fun W => by rw [hR]; exact room_any W n (inI_of hn)
  have HAO : Hid (∀ o ∈ l, o.a ≤ 9223372036854775807) := fun o ho => by
    obtain ⟨i, hi⟩ := List.getElem?_of_mem ho
    have hne : l ≠ [] := fun e => by rw [e] at ho; cases ho
    obtain ⟨_, _, _, h2⟩ := hv.shape
    obtain ⟨g, off, _, h4⟩ := h2 hne
    exact (h4 i o hi).ia.2
  have EQ := Lib.hid (show trans true (S.new R) (l.take 150) = trans false (S.new R) (l.take 150) from
    trans_same true false _ _ _ (fun o ho => HAO.out o (List.mem_of_mem_take ho)) (after_new R).inv (after_new R).inv (Same.refl _))
  have SM := Lib.hid (show (trans true (S.new R) (l.take 150)).length ≤ 1000000 by
    have h1 : (l.take 150).length ≤ 150 := List.length_take_le _ _
    have h2 := trans_small (after_new R) (l := l.take 150) (c := true) (fun o ho => HAO.out o (List.mem_of_mem_take ho)) (l.take 150).length (Nat.le_refl _)
    rw [List.take_of_length_le (Nat.le_refl _)] at h2
    have h3 : (l.take 150).length * ((l.take 150).length + 5) ≤ 150 * 155 := Nat.mul_le_mul h1 (by omega)
    omega)
  clear hv hl hn hR hL
  go_enter Try.func10, Try.ntmps10
  go_wp2_with fail
  refine (sane_any w).mono ?_
  rintro e w1 ⟨rfl, ρ1, hc⟩
  have B1 := Lib.hid (ch_below hc)
  clear hc
  go_wp2_with fail
  refine (HRM.out _).mono ?_
  rintro e w2 ⟨rfl, rfl⟩
  go_wp2_with fail
  refine (transcript_any w2 R HRB.out true (HV.out.keep B1.out) HLE.out).mono ?_
  rintro e w3 ⟨v1, rfl, hi1, ho1, hb⟩
  have I1 := Lib.hid hi1
  have O1 := Lib.hid ho1
  have B2 : Hid (Below w.heap.size w w3) := B1.out.trans (hb.mono B1.out.size)
  clear hi1 ho1 hb
  go_wp2_with fail
  refine (HRM.out _).mono ?_
  rintro e w4 ⟨rfl, rfl⟩
  go_wp2_with fail
  refine (transcript_any w4 R HRB.out false (HV.out.keep B2.out) HLE.out).mono ?_
  rintro e w5 ⟨v2, rfl, hi2, ho2, hb⟩
  have I2 : Hid (IntsAt w5 v2 (trans true (S.new R) (l.take 150))) := by rw [EQ.out]; exact hi2
  have I1b := Lib.hid (I1.out.keep O1.out hb)
  have B3 : Hid (Below w.heap.size w w5) := B2.out.trans (hb.mono B2.out.size)
  clear hi2 ho2 hb
  go_wp2_with fail
  refine (sameInts_any I1b.out I2.out SM.out).mono ?_
  rintro e w6 ⟨rfl, q, rfl⟩
  go_wp2_with fail
  go_ret
  exact ⟨rfl, fun _ => 0, ⟨B3.out.os, B3.out.tape, B3.out.output, B3.out.size, fun k hk _ => B3.out.block k hk, fun _ _ => rfl, fun _ _ => rfl⟩⟩
end Go.Proofs.Ytfjgokbclgdfjaa
