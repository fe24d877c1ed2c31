/- The transcript: walked. -/
import Derived.Test.YtfjgokbclgdfjaaTq
import Derived.Laws.AppendOwnNone
import Derived.Deep.Cut
import Derived.Deep.CutBlock
import Derived.Deep.RegionWith
set_option linter.unusedSimpArgs false
set_option linter.unusedVariables false
namespace Go.Proofs.Ytfjgokbclgdfjaa
open Go.RowKit HM Go.Sort

/-- What the transcript leaves. -/
def TrP (w : World) (t : List Int) (e : Ending) (w' : World) : Prop := ∃ v, e = .returned v ∧ IntsAt w' v t ∧ (∀ q, v.ownBlock = some q → q < w'.heap.size) ∧ Below w.heap.size w w'

theorem ch_below {ρ' : Nat → Nat} {w w' : World} (h : Ch Mine (fun _ => 0) ρ' w w') : Below w.heap.size w w' := h.below (Nat.le_refl _) fun k _ hm => hm rfl

theorem Gm.old {w0 w : World} {ρ : Nat → Nat} {A : Ad} {s : S} (h : Gm w0 w ρ A s) : w0.heap.size ≤ w.heap.size ∧ ∀ k, k < w0.heap.size → w.heap[k]? = w0.heap[k]? := ⟨h.ch.size, (ch_below h.ch).block⟩

/-- A row of the call's own, beside the heap. -/
structure Out (w0 w : World) (ρ : Nat → Nat) (v : Value) (n : Nat) (t : List Int) : Prop where
  row : w.ownsRow w0.heap.size 3 1 v n (ints t)
  r0 : ∀ q, v.ownBlock = some q → ρ q = 0

theorem Out.keep {w0 w w' : World} {ρ ρ' : Nat → Nat} {v : Value} {n : Nat} {t : List Int} (h : Out w0 w ρ v n t) (c : Ch Mine ρ ρ' w w') : Out w0 w' ρ' v n t := by
  obtain ⟨⟨h1, h2⟩, h3⟩ := h
  rcases h2 with h2 | ⟨g, cap, cur, rfl, hb, hg, rest⟩
  · refine ⟨⟨h1, .inl h2⟩, fun q hq => ?_⟩
    rw [h2.1] at hq; simp [Value.ownBlock] at hq
  · have r0 := h3 g (by simp [Value.ownBlock])
    refine ⟨⟨h1, .inr ⟨g, cap, cur, rfl, hb, c.keep hg (by rw [r0]; simp [Mine]), rest⟩⟩, fun q hq => ?_⟩
    simp [Value.ownBlock] at hq
    subst hq
    exact (c.keepRole hg).trans r0

theorem Out.shape {w0 w : World} {ρ : Nat → Nat} {v : Value} {n : Nat} {t : List Int} (h : Out w0 w ρ v n t) : IntsAt w v t ∧ (∀ q, v.ownBlock = some q → q < w.heap.size) ∧ n = t.length := by
  obtain ⟨⟨h1, h2⟩, h3⟩ := h
  rcases h2 with ⟨rfl, h0⟩ | ⟨g, cap, cur, rfl, hb, hg, a1, a2, a3, a4⟩
  · have ht : t = [] := List.length_eq_zero_iff.1 (by rw [← ints_length, h1, h0])
    subst ht
    exact ⟨⟨_, _, rfl, fun hn => absurd rfl hn⟩, fun q hq => by simp [Value.ownBlock] at hq, h0⟩
  · have hn : n = t.length := by rw [← ints_length t, h1, Nat.mul_one]
    subst hn
    refine ⟨⟨_, _, rfl, fun hn => ⟨g, rfl, fun j x hj => ?_⟩⟩, fun q hq => ?_, rfl⟩
    · rw [cell_of_row _ _ _ _ _ _ hg]
      have hjl := (List.getElem?_eq_some_iff.1 hj).1
      have : (cur.toList.take (t.length * 1))[j]? = (ints t)[j]? := by rw [a4]
      rw [List.getElem?_take_of_lt (by omega), Array.getElem?_toList] at this
      rw [this]
      unfold ints
      rw [List.getElem?_map, hj]
      rfl
    · simp [Value.ownBlock] at hq; subst hq; exact (Array.getElem?_eq_some_iff.1 hg).1

/-- Where an append leaves its row. -/
theorem append_where {w : World} {base n : Nat} {v : Value} {xs : List Value} (hown : w.ownsRow base 3 1 v n xs) (ty : TypeId) (ad : Addr) (m c : Nat) (news : List Value) (hl : news.length = m) (hnews : ∀ j u, news[j]? = some u → w.cell? (ad.add j) = some u)
    (h1 : ∀ u ∈ news, u.oneCell' = true) (hs : n + m ≤ 1000000) {v' : Value} {w' : World} (hr : (Builtin.append_ #[29, 29] ty #[v, .slice (some ad) m c]).run Try.prog w = .ok v' w') (hn : v = .slice none 0 0 → m = 0 → v' = .slice none 0 0) :
    v'.ownBlock = v.ownBlock ∨ v'.ownBlock = some w.heap.size := by
  obtain ⟨i, hi, hz, hsz, hb⟩ := info_parts Try.info3u
  have hxl : xs.length = n := by have := hown.1; omega
  rcases hown.2 with ⟨rfl, rfl⟩ | ⟨g, cap, cur, rfl, hbg, hg, hnc, hcm, hcs, htake⟩
  · by_cases hm : m = 0
    · rw [hn rfl hm]; exact .inl rfl
    · have e := run_append_nil (P := Try.prog) w 29 ty 3 i _ Try.underlying29 hi hz ad m c news (by rw [hsz, hl, Nat.mul_one]) hnews (by omega) (by omega) (by rw [hb]; omega)
      rw [e] at hr
      simp only [Result.ok.injEq] at hr
      rw [← hr.1]
      exact .inr rfl
  · by_cases hroom : n + m ≤ cap
    · have e := run_append_room (P := Try.prog) w 29 ty 3 i Try.underlying29 hi g n cap cur hg ad m c news (by rw [hsz, hl, Nat.mul_one]) hnews h1 hroom (by rw [hsz, hl, hcs, Nat.mul_one, Nat.mul_one]; exact hroom)
      rw [e] at hr
      simp only [Result.ok.injEq] at hr
      rw [← hr.1]
      exact .inl rfl
    · have holds : ∀ j u, xs[j]? = some u → w.cell? ((⟨g, 0, none⟩ : Addr).add j) = some u := hown.cells (g := g) rfl
      have e := run_append_grow (P := Try.prog) w 29 ty 3 i _ Try.underlying29 hi hz ⟨g, 0, none⟩ n cap xs (by rw [hsz, hxl, Nat.mul_one]) holds ad m c news (by rw [hsz, hl, Nat.mul_one]) hnews (by omega) (by omega)
        (growslice_fits (by omega) (by rw [hb]; omega))
      rw [e] at hr
      simp only [Result.ok.injEq] at hr
      rw [← hr.1]
      exact .inr rfl

theorem ints_one (ns : List Int) : ∀ u ∈ ints ns, u.oneCell' = true := fun u hu => by
  obtain ⟨x, _, rfl⟩ := List.mem_map.1 hu
  rfl

/-- 'append(out, x...)'. -/
theorem wpList_append_out {w0 w : World} {ρ : Nat → Nat} {v : Value} {n : Nat} {t : List Int} {ops : Array Oper} {rest : List Oper} {o : Oper} {a : Act} {Q : Exit → Act → World → Prop} (hgd : o.guard = none) (s x : Operand)
    (ho : o.op = .call { callee := .builtin .append, args := #[s, x], argTypes := #[29, 29] }) (hs : a.eval s = v) (h : Out w0 w ρ v n t) (hρ : ∀ k, w.heap.size ≤ k → ρ k = 0) (hw : w0.heap.size ≤ w.heap.size)
    (ad : Addr) (m c : Nat) (news : List Int) (hx : a.eval x = .slice (some ad) m c) (hl : news.length = m) (hnews : ∀ j u, (ints news)[j]? = some u → w.cell? (ad.add j) = some u) (hsm : n + m ≤ 1000000)
    (hK : ∀ (ad' : Option Addr) (c' : Nat) (w' : World), Out w0 w' ρ (.slice ad' (n + m) c') (n + m) (t ++ news) → w.grownBy w' v.ownBlock → wpList Try.prog ops Q rest (a.put o.dst (.slice ad' (n + m) c')) w') : wpList Try.prog ops Q (o :: rest) a w := by
  obtain ⟨i, hi, hz, hsz, hb⟩ := info_parts Try.info3u
  obtain ⟨v', w', hr, h2, h3, h4⟩ := run_append_own (P := Try.prog) w w0.heap.size 29 o.type 3 i _ 1 8 Try.underlying29 hi hz hsz hb rfl (by decide) v n (ints t) h.row ad m c (ints news) (by rw [ints_length, hl, Nat.mul_one]) hnews (ints_one news) (by simp only [maxLen]; omega) (by omega) hw
  have hwh := append_where h.row o.type ad m c (ints news) (by rw [ints_length, hl]) hnews (ints_one news) hsm hr (fun e1 e2 => h4.2 ⟨e1, e2⟩)
  obtain ⟨ad', c', rfl⟩ := own_sliceI h2
  refine wpList_append_run hgd s x 29 ho hs hx hr (hK ad' c' w' ⟨by rw [ints_append]; exact h2, fun q hq => ?_⟩ h3)
  rcases hwh with e | e
  · exact h.r0 q (by rw [← e]; exact hq)
  · rw [hq] at e
    simp only [Option.some.injEq] at e
    exact hρ q (by omega)

theorem Out.alloc {w0 w : World} {ρ : Nat → Nat} {v : Value} {n : Nat} {t : List Int} (h : Out w0 w ρ v n t) (o : Obj) : Out w0 (w.alloc o) ρ v n t := ⟨h.row.alloc o, h.r0⟩

/-- Cells of a block that is none of ours are written. -/
theorem Gm.local2 {w0 w : World} {ρ : Nat → Nat} {A : Ad} {s : S} (h : Gm w0 w ρ A s) {b : Nat} (hr : ρ b = 0) (hb : w0.heap.size ≤ b) (u v : Value) : Gm w0 ((w.setCell ⟨b, 0, none⟩ u).setCell ⟨b, 1, none⟩ v) ρ A s :=
  h.grown (row := some b) ⟨rfl, rfl, rfl, by simp, fun k hk hne => by
    have hk : k ≠ b := fun e => hne (by rw [e])
    rw [Below.heap_setCell _ _ _ k hk, Below.heap_setCell _ _ _ k hk]⟩ (fun r e => by cases e; exact ⟨hr, hb⟩)

theorem Out.local2 {w0 w : World} {ρ : Nat → Nat} {v : Value} {n : Nat} {t : List Int} (h : Out w0 w ρ v n t) {b : Nat} (hb : v.ownBlock ≠ some b) (x y : Value) : Out w0 ((w.setCell ⟨b, 0, none⟩ x).setCell ⟨b, 1, none⟩ y) ρ v n t :=
  ⟨h.row.kept (row := some b) ⟨rfl, rfl, rfl, by simp, fun k hk hne => by
    have hk : k ≠ b := fun e => hne (by rw [e])
    rw [Below.heap_setCell _ _ _ k hk, Below.heap_setCell _ _ _ k hk]⟩ (.inr hb), h.r0⟩

theorem after_new (n : Nat) : After (S.new n) 0 := ⟨⟨wf_new n, Nat.zero_le _⟩, Nat.le_refl _, Nat.le_refl _, Nat.le_refl _, Nat.le_refl _⟩

set_option maxHeartbeats 8000000 in
set_option maxRecDepth 20000 in
theorem transcript_any (w : World) (R : Nat) (hR : 4 ≤ R ∧ R ≤ 60000) (cl : Bool) {v : Value} {l : List Opn} (hv : OpsAt w v l) (hll : l.length ≤ maxLen) :
    Calls Try.prog 43 #[.int .i64 R, v, .bool cl] w (TrP w (trans cl (S.new R) (l.take 150))) := by
  obtain ⟨ad, cp, rfl, hops⟩ := hv.shape
  obtain ⟨L, hL⟩ : ∃ L, L = l.length := ⟨_, rfl⟩
  rw [← hL] at hll ⊢
  have hnew := new_rep (w := w) (ρ := fun _ => 0) (fun _ _ => rfl) R hR.1 hR.2
  have HOP := Lib.hid hops
  have HLL := Lib.hid hL
  have HN := Lib.hid hnew
  have HRR := Lib.hid hR
  have hlz : (L : Int) ≤ 9223372036854775807 := by simp only [maxLen] at hll; omega
  have HAO : Hid (∀ o ∈ l, o.a ≤ 9223372036854775807) := fun o ho => by
    obtain ⟨i, hi⟩ := List.getElem?_of_mem ho
    have hne : l ≠ [] := fun e => by rw [e] at ho; cases ho
    obtain ⟨g, off, _, h4⟩ := hops hne
    exact (h4 i o hi).ia.2
  clear hops hL hnew hv hll hR
  go_enter Try.func43, Try.ntmps43
  go_wp2_with fail
  refine (HN.out).mono ?_
  rintro e w1 ⟨A0, ρ0, rfl, hrep, hch⟩
  have G0 : Hid (Gm w w1 ρ0 A0 (S.new R)) := ⟨hrep, wf_new R, ⟨by have := HRR.out; show R ≤ _; omega, by show (0 : Nat) ≤ _; decide, by show (0 : Nat) ≤ _; decide, by show (0 : Nat) ≤ _; decide⟩, by show (0 : Nat) ≤ 2; decide, hch.mono fun _ h => h.elim⟩
  obtain ⟨hb, hhb⟩ : ∃ hb, hb = A0.hb := ⟨_, rfl⟩
  rw [← hhb]
  have HHB := Lib.hid hhb
  clear hrep hch HN hhb
  go_wp2_with fail
  go_loopw [7, 10] (fun out i wr => ∃ (k : Nat) (ρ : Nat → Nat) (A : Ad) (a : Option Addr) (n c : Nat), out = .slice a n c ∧ i = .int .i64 k ∧ k ≤ L ∧ k ≤ 150 ∧ A.hb = hb ∧ Gm w wr ρ A (fin cl (S.new R) (l.take k)) ∧ Out w wr ρ (.slice a n c) n (trans cl (S.new R) (l.take k)))
    (fun _ i _ => L - (intOf i).toNat)
  case atStart => exact ⟨0, ρ0, A0, none, 0, 0, rfl, rfl, Nat.zero_le _, Nat.zero_le _, HHB.out.symm, by rw [List.take_zero]; exact G0.out, by rw [List.take_zero]; exact ⟨World.ownsRow_nil _ _ _ _, fun q hq => by simp [Value.ownBlock] at hq⟩⟩
  case round =>
    obtain ⟨k, ρ, A, a, n, c, rfl, rfl, hkL, hk150, hA, hG, hO⟩ := hrel
    have HG := Lib.hid hG
    have HO := Lib.hid hO
    have HAB := Lib.hid hA
    have HKL := Lib.hid (And.intro hkL hk150)
    clear hG hO hA hkL hk150
    by_cases hlt : k < L ∧ k < 150
    · have hltz : (k : Int) < (L : Int) := by omega
      have hlt2 : (k : Int) < 150 := by omega
      have hne : l ≠ [] := fun e => by have := HLL.out; rw [e] at this; simp at this; omega
      obtain ⟨o, ho⟩ : ∃ o, l[k]? = some o := ⟨_, List.getElem?_eq_getElem (by have := HLL.out; omega)⟩
      obtain ⟨g, off, rfl, hat⟩ := HOP.out hne
      have hop := (hat k o ho).keep HG.out.old.1 HG.out.old.2
      have c0 := hop.k
      have c1 := hop.a
      have c2 := hop.b
      obtain ⟨fa, fc, fg, fo, c3, hfc, hfa⟩ := hop.f
      obtain ⟨fl, hfl⟩ : ∃ n, n = o.fs.length := ⟨_, rfl⟩
      rw [← hfl] at c3 hfc hfa
      have hgl := hop.lt
      have HOPK := Lib.hid hop
      have HFC := Lib.hid hfc
      have HFA := Lib.hid hfa
      have HLT := Lib.hid hlt
      have HOK := Lib.hid ho
      have HFL := Lib.hid hfl
      clear hop hat hfc hfa hlt ho hne hfl
      go_wp2_with fail
      obtain ⟨sb, hsb⟩ : ∃ b, b = wr.heap.size + 1 := ⟨_, rfl⟩
      obtain ⟨ob, hob⟩ : ∃ b, b = wr.heap.size := ⟨_, rfl⟩
      obtain ⟨wa, hwa⟩ : ∃ W, W = (wr.alloc (.cells #[.int .i64 o.kind, .int .i64 o.a, .int .i64 o.b, .slice fa fl fc] 61)).alloc (.cells #[.bool false, .int .i64 0] 32) := ⟨_, rfl⟩
      rw [← hwa, ← hsb, ← hob]
      have GA : Hid (Gm w wa ρ A (fin cl (S.new R) (l.take k))) := by rw [hwa]; exact (HG.out.alloc _).alloc _
      have OA : Hid (Out w wa ρ (.slice a n c) n (trans cl (S.new R) (l.take k))) := by rw [hwa]; exact (HO.out.alloc _).alloc _
      have X0 : Hid (wa.heap[ob]? = some (.cells #[.int .i64 o.kind, .int .i64 o.a, .int .i64 o.b, .slice fa fl fc] 61 (0, 0))) := by
        rw [hwa, hob]
        exact (Below.heap_alloc _ _ _ (by simp)).trans (heap_alloc_new wr _)
      have S0 := Lib.hid (show wa.heap[sb]? = some (.cells #[.bool false, .int .i64 0] 32 (0, 0)) by
        rw [hwa, hsb]
        have := heap_alloc_new (wr.alloc (.cells #[.int .i64 o.kind, .int .i64 o.a, .int .i64 o.b, .slice fa fl fc] 61)) (.cells #[.bool false, .int .i64 0] 32)
        simpa using this)
      have RO : Hid (ρ ob = 0 ∧ ρ sb = 0) := ⟨HG.out.rep.rho _ (by omega), HG.out.rep.rho _ (by omega)⟩
      have SNE : Hid ((Value.slice a n c).ownBlock ≠ some sb ∧ w.heap.size ≤ sb) := ⟨fun e => by have := (HO.out.row.lt _ e).2; omega, by have := HG.out.old.1; omega⟩
      have FCA : Hid (FieldsC wa o.fs fg fo fl) := by rw [hwa]; exact HFC.out.keep (by simp; omega) (fun q hq => (Below.heap_alloc _ _ _ (by simp; omega)).trans (Below.heap_alloc _ _ _ hq))
      clear hwa hsb hob c0 c1 c2 c3
      obtain ⟨wz, hwz⟩ : ∃ z : Int, z = o.kind % 15 := ⟨_, rfl⟩
      have WH := which_any GA.out.rep.rho o.kind o.a o.b (.slice fa fl fc) HOPK.out.ik ⟨_, _, _, rfl⟩
      rw [← hwz] at WH
      have HWZ := Lib.hid (show wz = (o.which : Int) by rw [hwz, which_int])
      refine WH.mono ?_
      clear WH hwz
      rintro e w3 ⟨rfl, hc3⟩
      have G3 := Lib.hid (GA.out.frame hc3)
      have O3 := Lib.hid (OA.out.keep (hc3.mono fun _ h => h.elim))
      have X3 := Lib.hid (hc3.keep X0.out (by simp))
      have S3 := Lib.hid (hc3.keep S0.out (by simp))
      have F3 := Lib.hid (FCA.out.keep hc3.size (fun q hq => hc3.block q hq (by simp)))
      clear hc3 GA OA X0 S0 FCA HG HO HFC
      obtain ⟨s, hs⟩ : ∃ s, s = fin cl (S.new R) (l.take k) := ⟨_, rfl⟩
      rw [← hs] at G3
      obtain ⟨T, hT⟩ : ∃ T, T = trans cl (S.new R) (l.take k) := ⟨_, rfl⟩
      rw [← hT] at O3
      have AFT := Lib.hid (show After s k by rw [hs]; exact (after_new R).take HAO.out k (by have := HLL.out; have := HLT.out; omega))
      have FEW := Lib.hid (AFT.out.few (by have := HLT.out; omega))
      have TSM := Lib.hid (show n ≤ 24000 by
        have h1 := O3.out.shape.2.2
        have h2 := trans_small (after_new R) HAO.out (c := cl) k (by have := HLL.out; have := HLT.out; omega)
        rw [← hT, ← h1] at h2
        have h3 : k * (k + 5) ≤ 149 * 154 := Nat.mul_le_mul (by have := HLT.out; omega) (by have := HLT.out; omega)
        omega)
      obtain ⟨⟨s2, pa, pb, ⟨pr, pm⟩, pe⟩, hP⟩ : ∃ P : S × Ans, P = doOp cl s o := ⟨_, rfl⟩
      have HP := Lib.hid hP
      have HS := Lib.hid hs
      have HT := Lib.hid hT
      -- what each call does
      have C0 : Hid (o.which = 0 → Calls Try.prog 17 #[.pointer (some ⟨hb, 0, none⟩), .int .i64 o.a, .slice fa fl fc] w3 (OpP w w3 ρ A s2 (.tuple #[.int .i64 pa, .int .i64 pe]))) := fun hk => by
        have := op_cell G3.out FEW.out o (by rw [← HFL.out]; exact F3.out) HOPK.out.ifs fa fc (by rw [← HFL.out]; exact HFA.out) HOPK.out.ia hk cl
        rw [← hP, HAB.out, ← HFL.out] at this
        exact this
      have C75 : Hid (∀ W, Ch (fun _ => False) ρ ρ w3 W → Calls Try.prog 75 #[.agg #[.int .i64 o.kind, .int .i64 o.a, .int .i64 o.b, .slice fa fl fc]] W fun e w' => e = .returned (slotV o.content.1 o.content.2) ∧ Ch (fun _ => False) ρ ρ W w') := fun W hW => by
        have := content_any hW.fresh o (fa := fa) (fc := fc) (by rw [← HFL.out]; exact F3.out.keep hW.size (fun q hq => hW.block q hq (by simp))) (by rw [← HFL.out]; exact HFA.out)
        rw [← HFL.out] at this
        exact this
      have C1 : Hid (o.which = 1 → ∀ W, Ch (fun _ => False) ρ ρ w3 W → Calls Try.prog 44 #[.pointer (some ⟨hb, 0, none⟩), slotV o.content.1 o.content.2] W (OpP w W ρ A s2 (.tuple #[.int .i64 pa, .int .i64 pe]))) := fun hk W hW => by
        have := op_mod (G3.out.frame hW) FEW.out o (content_in HOPK.out.ib HOPK.out.ifs) hk cl
        rw [← hP, HAB.out] at this
        exact this
      have C2 : Hid (o.which = 2 → ∀ W, Ch (fun _ => False) ρ ρ w3 W → Calls Try.prog 47 #[.pointer (some ⟨hb, 0, none⟩), .int .i64 o.a, slotV o.content.1 o.content.2] W (OpP w W ρ A s2 (.int .i64 pe))) := fun hk W hW => by
        have := op_set (G3.out.frame hW) FEW.out o HOPK.out.ia (content_in HOPK.out.ib HOPK.out.ifs) hk cl
        rw [← hP, HAB.out] at this
        exact this
      have C3 : Hid (o.which = 3 → Calls Try.prog 45 #[.pointer (some ⟨hb, 0, none⟩), .int .i64 o.a] w3 (OpP w w3 ρ A s2 (.tuple #[.agg #[.bool pr, .int .i64 pm], .int .i64 pe]))) := fun hk => by
        have := op_get G3.out FEW.out o HOPK.out.ia hk cl
        rw [← hP, HAB.out] at this
        exact this
      have C4 : Hid (o.which = 4 → Calls Try.prog 46 #[.pointer (some ⟨hb, 0, none⟩), .int .i64 o.a] w3 (OpP w w3 ρ A s2 (.tuple #[.int .i64 pa, .int .i64 pb, .int .i64 pe]))) := fun hk => by
        have := op_tag G3.out FEW.out o HOPK.out.ia hk cl
        rw [← hP, HAB.out] at this
        exact this
      have C5 : Hid (o.which = 5 → Calls Try.prog 25 #[.pointer (some ⟨hb, 0, none⟩), .int .i64 o.a, .int .i64 o.b] w3 (OpP w w3 ρ A s2 (.tuple #[.agg #[.bool pr, .int .i64 pm], .int .i64 pe]))) := fun hk => by
        have := op_field G3.out FEW.out o HOPK.out.ia HOPK.out.ib hk cl
        rw [← hP, HAB.out] at this
        exact this
      have C8 : Hid (o.which = 8 → Calls Try.prog 76 #[.pointer (some ⟨hb, 0, none⟩), .int .i64 o.a] w3 (OpP w w3 ρ A s2 (.tuple #[.int .i64 pa, .int .i64 pe]))) := fun hk => by
        have := op_dup G3.out FEW.out o HOPK.out.ia hk cl
        rw [← hP, HAB.out] at this
        exact this
      have C9 : Hid (o.which = 9 → Calls Try.prog 18 #[.pointer (some ⟨hb, 0, none⟩), .int .i64 o.a] w3 (OpP w w3 ρ A s2 (.int .i64 pe))) := fun hk => by
        have := op_drop G3.out FEW.out o HOPK.out.ia hk cl
        rw [← hP, HAB.out] at this
        exact this
      have C10 : Hid (o.which = 10 → Calls Try.prog 19 #[.pointer (some ⟨hb, 0, none⟩), .int .i64 o.a] w3 (OpP w w3 ρ A s2 (.tuple #[.int .i64 pa, .int .i64 pe]))) := fun hk => by
        have := op_weak G3.out FEW.out o HOPK.out.ia hk cl
        rw [← hP, HAB.out] at this
        exact this
      have C12 : Hid (cl = true → o.which = 12 → Calls Try.prog 20 #[.pointer (some ⟨hb, 0, none⟩)] w3 fun e w' => ∃ b, OpP w w3 ρ A s2 (.bool b) e w') := fun hc hk => by
        have := op_begin G3.out FEW.out o hk
        rw [← hc, ← hP, HAB.out] at this
        exact this
      have C13 : Hid (cl = true → o.which = 13 → Calls Try.prog 21 #[.pointer (some ⟨hb, 0, none⟩)] w3 fun e w' => ∃ b, OpP w w3 ρ A s2 (.bool b) e w') := fun hc hk => by
        have := op_step G3.out o hk
        rw [← hc, ← hP, HAB.out] at this
        exact this
      have C14 : Hid (cl = true → o.which = 14 → Calls Try.prog 23 #[.pointer (some ⟨hb, 0, none⟩)] w3 (OpP w w3 ρ A s2 (.tuple #[]))) := fun hc hk => by
        have := op_collect G3.out FEW.out o hk
        rw [← hc, ← hP, HAB.out] at this
        exact this
      -- what is naught
      have A0 : Hid (o.which = 0 ∨ o.which = 1 → pb = 0 ∧ (pr, pm) = (false, 0)) := fun hk => by have := ans_make cl s o hk; rw [← hP] at this; exact this
      have A2 : Hid (o.which = 2 ∨ o.which = 9 → pa = 0 ∧ pb = 0 ∧ (pr, pm) = (false, 0)) := fun hk => by have := ans_set cl s o hk; rw [← hP] at this; exact this
      have A3 : Hid (o.which = 3 ∨ o.which = 5 → pa = 0 ∧ pb = 0) := fun hk => by have := ans_get cl s o hk; rw [← hP] at this; exact this
      have A4 : Hid (o.which = 4 → (pr, pm) = (false, 0)) := fun hk => by have := ans_tag cl s o hk; rw [← hP] at this; exact this
      have A8 : Hid (o.which = 8 ∨ o.which = 10 → pb = 0 ∧ (pr, pm) = (false, 0)) := fun hk => by have := ans_dup cl s o hk; rw [← hP] at this; exact this
      have A6 : Hid (o.which = 6 ∨ o.which = 7 ∨ o.which = 11 ∨ 11 < o.which → (pa = 0 ∧ pb = 0 ∧ pr = false ∧ pm = 0 ∧ pe = 0) ∧ ((cl = false ∨ o.which < 12 ∨ 14 < o.which) → s2 = s)) := fun hk => by
        obtain ⟨h1, h2⟩ := ans_rest cl s o hk
        rw [← hP] at h1 h2
        cases h1
        exact ⟨⟨rfl, rfl, rfl, rfl, rfl⟩, h2⟩
      -- what is left behind a call
      have FIN : Hid (∀ (W0 W : World) (ρ' : Nat → Nat) (A' : Ad), Ch (fun _ => False) ρ ρ w3 W0 → A'.hb = A.hb → Gm w W ρ' A' s2 → Ch Mine ρ ρ' W0 W → A'.hb = hb ∧ Gm w W ρ' A' s2 ∧ W.heap[sb]? = some (.cells #[.bool false, .int .i64 0] 32 (0, 0)) ∧ ρ' sb = 0 ∧ Out w W ρ' (.slice a n c) n T) := fun W0 W ρ' A' h0 h1 h2 h3 => by
        have h4 : Ch Mine ρ ρ' w3 W := (h0.mono fun _ h => h.elim).trans h3
        exact ⟨h1.trans HAB.out, h2, h4.keep S3.out (by rw [RO.out.2]; simp [Mine]), (h4.keepRole S3.out).trans RO.out.2, O3.out.keep h4⟩
      have RF : Hid (Ch (fun _ => False) ρ ρ w3 w3) := Ch.refl G3.out.rep.rho
      clear hP hs hT
      have x0 : w3.cell? ⟨ob, 0, none⟩ = some (.int .i64 o.kind) := by rw [cell_of_row _ _ 0 _ _ _ X3.out]; rfl
      have x1 : w3.cell? ⟨ob, 1, none⟩ = some (.int .i64 o.a) := by rw [cell_of_row _ _ 1 _ _ _ X3.out]; rfl
      have x2 : w3.cell? ⟨ob, 2, none⟩ = some (.int .i64 o.b) := by rw [cell_of_row _ _ 2 _ _ _ X3.out]; rfl
      have x3 : w3.cell? ⟨ob, 3, none⟩ = some (.slice fa fl fc) := by rw [cell_of_row _ _ 3 _ _ _ X3.out]; rfl
      have xl : ob < w3.heap.size := (Array.getElem?_eq_some_iff.1 X3.out).1
      go_upto_block 2 with fail
      go_cut [12, 13, 14] from 43 to 145 (fun x y z wx => ∃ (ρ' : Nat → Nat) (A' : Ad), x = .int .i64 pa ∧ y = .int .i64 pb ∧ z = .int .i64 pe ∧ A'.hb = hb ∧ Gm w wx ρ' A' s2 ∧ wx.heap[sb]? = some (.cells #[.bool pr, .int .i64 pm] 32 (0, 0)) ∧ ρ' sb = 0 ∧ Out w wx ρ' (.slice a n c) n T)
      case first =>
        have hw15 : wz = 0 ∨ wz = 1 ∨ wz = 2 ∨ wz = 3 ∨ wz = 4 ∨ wz = 5 ∨ wz = 6 ∨ wz = 7 ∨ wz = 8 ∨ wz = 9 ∨ wz = 10 ∨ wz = 11 ∨ wz = 12 ∨ wz = 13 ∨ wz = 14 := by have := which_lt o; have := HWZ.out; omega
        rcases hw15 with rfl | rfl | rfl | rfl | rfl | rfl | rfl | rfl | rfl | rfl | rfl | rfl | rfl | rfl | rfl
        · have hk : o.which = 0 := by have := HWZ.out; omega
          have CC := Lib.hid (C0.out hk)
          obtain ⟨rfl, he⟩ := A0.out (.inl hk)
          simp only [Prod.mk.injEq] at he
          obtain ⟨rfl, rfl⟩ := he
          clear hk
          go_wp2_with fail
          refine CC.out.mono ?_
          rintro e w4 ⟨rfl, ρ4, A4, hA4, hG4, hC4⟩
          have FF := Lib.hid (FIN.out _ _ _ _ RF.out hA4 hG4 hC4)
          clear hA4 hG4 hC4
          go_wp2_with fail
          go_meet
          exact ⟨ρ4, A4, rfl, rfl, rfl, FF.out⟩
        · have hk : o.which = 1 := by have := HWZ.out; omega
          have CC := Lib.hid (C1.out hk)
          obtain ⟨rfl, he⟩ := A0.out (.inr hk)
          simp only [Prod.mk.injEq] at he
          obtain ⟨rfl, rfl⟩ := he
          clear hk
          go_wp2_with fail
          refine (C75.out _ RF.out).mono ?_
          rintro e w4 ⟨rfl, hc4⟩
          have K4 := Lib.hid hc4
          clear hc4
          go_wp2_with fail
          refine (CC.out _ K4.out).mono ?_
          rintro e w5 ⟨rfl, ρ4, A4, hA4, hG4, hC4⟩
          have FF := Lib.hid (FIN.out _ _ _ _ K4.out hA4 hG4 hC4)
          clear hA4 hG4 hC4
          go_wp2_with fail
          go_meet
          exact ⟨ρ4, A4, rfl, rfl, rfl, FF.out⟩
        · have hk : o.which = 2 := by have := HWZ.out; omega
          have CC := Lib.hid (C2.out hk)
          obtain ⟨rfl, rfl, he⟩ := A2.out (.inl hk)
          simp only [Prod.mk.injEq] at he
          obtain ⟨rfl, rfl⟩ := he
          have D75 : Hid (Calls Try.prog 75 #[.agg #[.int .i64 o.kind, .int .i64 o.a, .int .i64 o.b, .slice fa fl fc]] w3.drew fun e w' => e = .returned (slotV o.content.1 o.content.2) ∧ w'.cell? ⟨ob, 1, none⟩ = some (.int .i64 o.a) ∧ Ch (fun _ => False) ρ ρ w3 w') :=
            (C75.out _ RF.out.drew).mono fun e w' hq => ⟨hq.1, by rw [cell_of_row _ _ 1 _ _ _ ((RF.out.drew.trans hq.2).keep X3.out (by simp))]; rfl, RF.out.drew.trans hq.2⟩
          have D47 : Hid (∀ W, Ch (fun _ => False) ρ ρ w3 W → Calls Try.prog 47 #[.pointer (some ⟨hb, 0, none⟩), .int .i64 o.a, slotV o.content.1 o.content.2] W fun e w' => e = .returned (.int .i64 pe) ∧ ∃ (ρ' : Nat → Nat) (A' : Ad), A'.hb = hb ∧ Gm w w' ρ' A' s2 ∧ w'.heap[sb]? = some (.cells #[.bool false, .int .i64 0] 32 (0, 0)) ∧ ρ' sb = 0 ∧ Out w w' ρ' (.slice a n c) n T) := fun W hW =>
            (CC.out W hW).mono fun e w' hq => by
              obtain ⟨h1, ρ4, A4, hA4, hG4, hC4⟩ := hq
              exact ⟨h1, ρ4, A4, FIN.out _ _ _ _ hW hA4 hG4 hC4⟩
          clear hk
          go_upto_region 19 with fail
          go_region_with (first
            | (go_at_call 75; refine D75.out.mono ?_; rintro e w4 ⟨rfl, z1, hc4⟩)
            | (go_at_call 47; refine (D47.out _ hc4).mono ?_; rintro e w5 ⟨rfl, hq⟩))
          all_goals
            obtain ⟨ρ4, A4, FF⟩ := hq
            go_wp2_with fail
            go_meet
            exact ⟨ρ4, A4, rfl, rfl, rfl, FF⟩
        · have hk : o.which = 3 := by have := HWZ.out; omega
          have CC := Lib.hid (C3.out hk)
          obtain ⟨rfl, rfl⟩ := A3.out (.inl hk)
          clear hk
          go_wp2_with fail
          refine CC.out.mono ?_
          rintro e w4 ⟨rfl, ρ4, A4, hA4, hG4, hC4⟩
          have FF := Lib.hid (FIN.out _ _ _ _ RF.out hA4 hG4 hC4)
          have y0 : w4.cell? ⟨sb, 0, none⟩ = some (.bool false) := by rw [cell_of_row _ _ 0 _ _ _ FF.out.2.2.1]; rfl
          have y1 : w4.cell? ⟨sb, 1, none⟩ = some (.int .i64 0) := by rw [cell_of_row _ _ 1 _ _ _ FF.out.2.2.1]; rfl
          have yf : ∀ q, w4.frozen? ⟨sb, q, none⟩ = false := fun q => frozen_of_row _ _ q _ _ FF.out.2.2.1
          have yl : sb < w4.heap.size := (Array.getElem?_eq_some_iff.1 FF.out.2.2.1).1
          clear hA4 hG4 hC4
          go_wp2_with fail
          go_meet
          exact ⟨ρ4, A4, rfl, rfl, rfl, FF.out.1, FF.out.2.1.local2 FF.out.2.2.2.1 SNE.out.2 _ _, heap_setCell_same _ sb 1 _ _ _ (heap_setCell_same w4 sb 0 _ _ _ FF.out.2.2.1), FF.out.2.2.2.1, FF.out.2.2.2.2.local2 SNE.out.1 _ _⟩
        · have hk : o.which = 4 := by have := HWZ.out; omega
          have CC := Lib.hid (C4.out hk)
          have he := A4.out hk
          simp only [Prod.mk.injEq] at he
          obtain ⟨rfl, rfl⟩ := he
          clear hk
          go_wp2_with fail
          refine CC.out.mono ?_
          rintro e w4 ⟨rfl, ρ4, A4, hA4, hG4, hC4⟩
          have FF := Lib.hid (FIN.out _ _ _ _ RF.out hA4 hG4 hC4)
          clear hA4 hG4 hC4
          go_wp2_with fail
          go_meet
          exact ⟨ρ4, A4, rfl, rfl, rfl, FF.out⟩
        · have hk : o.which = 5 := by have := HWZ.out; omega
          have CC := Lib.hid (C5.out hk)
          obtain ⟨rfl, rfl⟩ := A3.out (.inr hk)
          clear hk
          go_wp2_with fail
          refine CC.out.mono ?_
          rintro e w4 ⟨rfl, ρ4, A4, hA4, hG4, hC4⟩
          have FF := Lib.hid (FIN.out _ _ _ _ RF.out hA4 hG4 hC4)
          have y0 : w4.cell? ⟨sb, 0, none⟩ = some (.bool false) := by rw [cell_of_row _ _ 0 _ _ _ FF.out.2.2.1]; rfl
          have y1 : w4.cell? ⟨sb, 1, none⟩ = some (.int .i64 0) := by rw [cell_of_row _ _ 1 _ _ _ FF.out.2.2.1]; rfl
          have yf : ∀ q, w4.frozen? ⟨sb, q, none⟩ = false := fun q => frozen_of_row _ _ q _ _ FF.out.2.2.1
          have yl : sb < w4.heap.size := (Array.getElem?_eq_some_iff.1 FF.out.2.2.1).1
          clear hA4 hG4 hC4
          go_wp2_with fail
          go_meet
          exact ⟨ρ4, A4, rfl, rfl, rfl, FF.out.1, FF.out.2.1.local2 FF.out.2.2.2.1 SNE.out.2 _ _, heap_setCell_same _ sb 1 _ _ _ (heap_setCell_same w4 sb 0 _ _ _ FF.out.2.2.1), FF.out.2.2.2.1, FF.out.2.2.2.2.local2 SNE.out.1 _ _⟩
        · have hk : o.which = 6 := by have := HWZ.out; omega
          obtain ⟨⟨rfl, rfl, rfl, rfl, rfl⟩, h2⟩ := A6.out (.inl hk)
          have FF := Lib.hid (FIN.out w3 w3 ρ A RF.out rfl (by rw [h2 (.inr (.inl (by omega)))]; exact G3.out) (Ch.refl G3.out.rep.rho))
          clear hk h2
          go_wp2_with fail
          go_meet
          exact ⟨ρ, A, rfl, rfl, rfl, FF.out⟩
        · have hk : o.which = 7 := by have := HWZ.out; omega
          obtain ⟨⟨rfl, rfl, rfl, rfl, rfl⟩, h2⟩ := A6.out (.inr (.inl hk))
          have FF := Lib.hid (FIN.out w3 w3 ρ A RF.out rfl (by rw [h2 (.inr (.inl (by omega)))]; exact G3.out) (Ch.refl G3.out.rep.rho))
          clear hk h2
          go_wp2_with fail
          go_meet
          exact ⟨ρ, A, rfl, rfl, rfl, FF.out⟩
        · have hk : o.which = 8 := by have := HWZ.out; omega
          have CC := Lib.hid (C8.out hk)
          obtain ⟨rfl, he⟩ := A8.out (.inl hk)
          simp only [Prod.mk.injEq] at he
          obtain ⟨rfl, rfl⟩ := he
          clear hk
          go_wp2_with fail
          refine CC.out.mono ?_
          rintro e w4 ⟨rfl, ρ4, A4, hA4, hG4, hC4⟩
          have FF := Lib.hid (FIN.out _ _ _ _ RF.out hA4 hG4 hC4)
          clear hA4 hG4 hC4
          go_wp2_with fail
          go_meet
          exact ⟨ρ4, A4, rfl, rfl, rfl, FF.out⟩
        · have hk : o.which = 9 := by have := HWZ.out; omega
          have CC := Lib.hid (C9.out hk)
          obtain ⟨rfl, rfl, he⟩ := A2.out (.inr hk)
          simp only [Prod.mk.injEq] at he
          obtain ⟨rfl, rfl⟩ := he
          clear hk
          go_wp2_with fail
          refine CC.out.mono ?_
          rintro e w4 ⟨rfl, ρ4, A4, hA4, hG4, hC4⟩
          have FF := Lib.hid (FIN.out _ _ _ _ RF.out hA4 hG4 hC4)
          clear hA4 hG4 hC4
          go_wp2_with fail
          go_meet
          exact ⟨ρ4, A4, rfl, rfl, rfl, FF.out⟩
        · have hk : o.which = 10 := by have := HWZ.out; omega
          have CC := Lib.hid (C10.out hk)
          obtain ⟨rfl, he⟩ := A8.out (.inr hk)
          simp only [Prod.mk.injEq] at he
          obtain ⟨rfl, rfl⟩ := he
          clear hk
          go_wp2_with fail
          refine CC.out.mono ?_
          rintro e w4 ⟨rfl, ρ4, A4, hA4, hG4, hC4⟩
          have FF := Lib.hid (FIN.out _ _ _ _ RF.out hA4 hG4 hC4)
          clear hA4 hG4 hC4
          go_wp2_with fail
          go_meet
          exact ⟨ρ4, A4, rfl, rfl, rfl, FF.out⟩
        · have hk : o.which = 11 := by have := HWZ.out; omega
          obtain ⟨⟨rfl, rfl, rfl, rfl, rfl⟩, h2⟩ := A6.out (.inr (.inr (.inl hk)))
          have FF := Lib.hid (FIN.out w3 w3 ρ A RF.out rfl (by rw [h2 (.inr (.inl (by omega)))]; exact G3.out) (Ch.refl G3.out.rep.rho))
          clear hk h2
          go_wp2_with fail
          go_meet
          exact ⟨ρ, A, rfl, rfl, rfl, FF.out⟩
        · have hk : o.which = 12 := by have := HWZ.out; omega
          obtain ⟨⟨rfl, rfl, rfl, rfl, rfl⟩, h2⟩ := A6.out (.inr (.inr (.inr (by omega))))
          cases cl with
          | false =>
            have FF := Lib.hid (FIN.out w3 w3 ρ A RF.out rfl (by rw [h2 (.inl rfl)]; exact G3.out) (Ch.refl G3.out.rep.rho))
            clear hk h2
            go_wp2_with fail
            go_meet
            exact ⟨ρ, A, rfl, rfl, rfl, FF.out⟩
          | true =>
            have CC := Lib.hid (C12.out rfl hk)
            have hbl : hb < w3.heap.size := by have := G3.out.rep.blt; rw [HAB.out] at this; exact this
            clear hk h2
            go_wp2_with fail
            refine CC.out.mono ?_
            rintro e w4 ⟨b, rfl, ρ4, A4, hA4, hG4, hC4⟩
            have FF := Lib.hid (FIN.out _ _ _ _ RF.out hA4 hG4 hC4)
            clear hA4 hG4 hC4
            go_wp2_with fail
            go_meet
            exact ⟨ρ4, A4, rfl, rfl, rfl, FF.out⟩
        · have hk : o.which = 13 := by have := HWZ.out; omega
          obtain ⟨⟨rfl, rfl, rfl, rfl, rfl⟩, h2⟩ := A6.out (.inr (.inr (.inr (by omega))))
          cases cl with
          | false =>
            have FF := Lib.hid (FIN.out w3 w3 ρ A RF.out rfl (by rw [h2 (.inl rfl)]; exact G3.out) (Ch.refl G3.out.rep.rho))
            clear hk h2
            go_wp2_with fail
            go_meet
            exact ⟨ρ, A, rfl, rfl, rfl, FF.out⟩
          | true =>
            have CC := Lib.hid (C13.out rfl hk)
            have hbl : hb < w3.heap.size := by have := G3.out.rep.blt; rw [HAB.out] at this; exact this
            clear hk h2
            go_wp2_with fail
            refine CC.out.mono ?_
            rintro e w4 ⟨b, rfl, ρ4, A4, hA4, hG4, hC4⟩
            have FF := Lib.hid (FIN.out _ _ _ _ RF.out hA4 hG4 hC4)
            clear hA4 hG4 hC4
            go_wp2_with fail
            go_meet
            exact ⟨ρ4, A4, rfl, rfl, rfl, FF.out⟩
        · have hk : o.which = 14 := by have := HWZ.out; omega
          obtain ⟨⟨rfl, rfl, rfl, rfl, rfl⟩, h2⟩ := A6.out (.inr (.inr (.inr (by omega))))
          cases cl with
          | false =>
            have FF := Lib.hid (FIN.out w3 w3 ρ A RF.out rfl (by rw [h2 (.inl rfl)]; exact G3.out) (Ch.refl G3.out.rep.rho))
            clear hk h2
            go_wp2_with fail
            go_meet
            exact ⟨ρ, A, rfl, rfl, rfl, FF.out⟩
          | true =>
            have CC := Lib.hid (C14.out rfl hk)
            have hbl : hb < w3.heap.size := by have := G3.out.rep.blt; rw [HAB.out] at this; exact this
            clear hk h2
            go_wp2_with fail
            refine CC.out.mono ?_
            rintro e w4 ⟨rfl, ρ4, A4, hA4, hG4, hC4⟩
            have FF := Lib.hid (FIN.out _ _ _ _ RF.out hA4 hG4 hC4)
            clear hA4 hG4 hC4
            go_wp2_with fail
            go_meet
            exact ⟨ρ4, A4, rfl, rfl, rfl, FF.out⟩
      case rest =>
        obtain ⟨ρ5, A5, rfl, rfl, rfl, hA5, hG5, hS5, hr5, hO5⟩ := hcut
        clear C0 C75 C1 C2 C3 C4 C5 C8 C9 C10 C12 C13 C14 A0 A2 A3 A4 A8 A6 FIN RF x0 x1 x2 x3 G3 O3 X3 S3 F3
        have G5 := Lib.hid hG5
        have O5 := Lib.hid hO5
        have S5 := Lib.hid hS5
        have R5 := Lib.hid hr5
        have A5H := Lib.hid hA5
        have y1 : wc.cell? ⟨sb, 1, none⟩ = some (.int .i64 pm) := by rw [cell_of_row _ _ 1 _ _ _ hS5]; rfl
        have yl : sb < wc.heap.size := (Array.getElem?_eq_some_iff.1 hS5).1
        clear hG5 hO5 hS5 hr5 hA5
        have HX := Lib.hid (heap_alloc_new wc (.cells #[.int .i64 pa, .int .i64 pb, .int .i64 pm, .int .i64 pe] 3))
        have O6 := Lib.hid (O5.out.alloc (.cells #[.int .i64 pa, .int .i64 pb, .int .i64 pm, .int .i64 pe] 3))
        go_wp2_with (at_builtin; refine wpList_append_out rfl _ _ rfl rfl O6.out ?f1 ?f2 ⟨wc.heap.size, 0, none⟩ 4 4 [pa, pb, pm, pe] rfl rfl ?f3 ?f4 ?f5)
        case f1 => exact fun q hq => G5.out.rep.rho q (by simp at hq; omega)
        case f2 => have := G5.out.old.1; simp; omega
        case f3 =>
          intro j u hu
          rw [Addr.add_lit, cell_of_row _ _ _ _ _ _ HX.out]
          match j, hu with
          | 0, hu => simpa [ints] using hu
          | 1, hu => simpa [ints] using hu
          | 2, hu => simpa [ints] using hu
          | 3, hu => simpa [ints] using hu
          | j + 4, hu => simp [ints] at hu
        case f4 => have := TSM.out; omega
        case f5 =>
          intro a6 c6 w6 hO6 hg6
          have hne6 : ∀ q, (Value.slice a n c).ownBlock = some q → q ≠ sb := fun q hq e => SNE.out.1 (by rw [hq, e])
          obtain ⟨T1, hT1⟩ : ∃ t, t = T ++ [pa, pb, pm, pe] := ⟨_, rfl⟩
          rw [← hT1] at hO6
          have HT1 := Lib.hid hT1
          clear hT1
          have G6 := Lib.hid ((G5.out.alloc (.cells #[.int .i64 pa, .int .i64 pb, .int .i64 pm, .int .i64 pe] 3)).grown hg6 (fun r e => ⟨O5.out.r0 r e, (O5.out.row.lt r e).1⟩))
          have s6 := (hg6.block sb (by simp; omega) (fun e => SNE.out.1 e.symm)).trans ((Below.heap_alloc _ _ _ yl).trans S5.out)
          have S6 := Lib.hid s6
          have O7 := Lib.hid hO6
          have y0 : w6.cell? ⟨sb, 0, none⟩ = some (.bool pr) := by rw [cell_of_row _ _ 0 _ _ _ s6]; rfl
          have yl6 : sb < w6.heap.size := (Array.getElem?_eq_some_iff.1 s6).1
          clear hO6 hg6 y1 yl hne6 HX O6 O5 S5 G5
          have AFT2 := Lib.hid (show After s2 (k + 1) by
            have := AFT.out.step cl o (HAO.out o (List.mem_of_getElem? HOK.out))
            rw [← HP.out] at this
            exact this)
          have TAKE := Lib.hid (show fin cl (S.new R) (l.take (k + 1)) = s2 ∧ trans cl (S.new R) (l.take (k + 1)) = T ++ (([pa, pb, pm, pe] ++ if pr then [1] else []) ++ handsFrom 0 s2.handles) by
            have et : l.take (k + 1) = l.take k ++ [o] := by rw [List.take_add_one, HOK.out]; rfl
            rw [et, fin_snoc, trans_snoc, ← HS.out, ← HT.out, ← HP.out]
            exact ⟨rfl, rfl⟩)
          clear s6
          cases pr with
          | false =>
            go_wp2_with fail
            have HH := handles_rep sortLaw G6.out.rep (by have := AFT2.out.hl; have := HLT.out; omega)
            rw [A5H.out] at HH
            refine HH.mono ?_
            clear HH
            rintro e w8 ⟨a8, c8, rfl, hrow, hch⟩
            have O8 := Lib.hid (O7.out.keep (hch.mono fun _ h => h.elim))
            have G8 := Lib.hid (G6.out.frame hch)
            have HR8 := Lib.hid hrow
            have HLS := Lib.hid (hands_small s2.handles 0)
            obtain ⟨hn, hhn⟩ : ∃ q, q = (handsFrom 0 s2.handles).length := ⟨_, rfl⟩
            rw [← hhn] at HR8 HLS ⊢
            have HHN := Lib.hid hhn
            clear hrow hch hhn
            have ENDR : Hid (∀ (w9 : World) (a9 : Option Addr) (n9 c9 : Nat), Gm w w9 ρ5 A5 s2 → Out w w9 ρ5 (.slice a9 n9 c9) n9 (T1 ++ handsFrom 0 s2.handles) → ∃ (k' : Nat) (ρ : Nat → Nat) (A : Ad) (a : Option Addr) (n c : Nat), Value.slice a9 n9 c9 = .slice a n c ∧ Value.int .i64 ((k : Int) + 1) = .int .i64 k' ∧ k' ≤ L ∧ k' ≤ 150 ∧ A.hb = hb ∧ Gm w w9 ρ A (fin cl (S.new R) (l.take k')) ∧ Out w w9 ρ (.slice a n c) n (trans cl (S.new R) (l.take k'))) := fun w9 a9 n9 c9 h1 h2 =>
              ⟨k + 1, ρ5, A5, a9, n9, c9, rfl, rfl, HLT.out.1, HLT.out.2, A5H.out, by rw [TAKE.out.1]; exact h1, by rw [show trans cl (S.new R) (l.take (k + 1)) = T1 ++ handsFrom 0 s2.handles from TAKE.out.2.trans (by rw [HT1.out]; simp)]; exact h2⟩
            rcases HR8.out.2 with ⟨hnil, h0⟩ | ⟨g8, cap8, cur8, hv8, hb8, hg8, q1, q2, q3, q4⟩
            · have he : handsFrom 0 s2.handles = [] := List.length_eq_zero_iff.1 (by rw [← HHN.out]; exact h0)
              have REL := Lib.hid (ENDR.out w8 _ _ _ G8.out (by rw [he, List.append_nil]; exact O8.out))
              obtain ⟨i3, hi3, hz3, hs3, hb3⟩ := info_parts Try.info3u
              rw [hnil]
              clear hnil h0 he hz3 hs3 hb3
              go_wp2_with (at_builtin; refine wpList_append_own_none rfl _ _ 29 rfl w.heap.size 3 i3 1 Try.underlying29 hi3 _ _ _ rfl O8.out.row rfl ?_)
              go_wp2_with fail
              go_roundw
              case rel => exact REL.out
              case measure => have := HLT.out; simp [intOf]; omega
            · have hc8 : ∀ j u, (ints (handsFrom 0 s2.handles))[j]? = some u → w8.cell? ((⟨g8, 0, none⟩ : Addr).add j) = some u := HR8.out.cells (by rw [hv8]; rfl)
              simp only [Value.slice.injEq, true_and] at hv8
              obtain ⟨rfl, rfl⟩ := hv8
              have HC8 := Lib.hid hc8
              clear hc8 hb8 hg8 q1 q2 q3 q4
              go_wp2_with (at_builtin; refine wpList_append_out rfl _ _ rfl rfl O8.out ?k1 ?k2 ⟨g8, 0, none⟩ hn c8 (handsFrom 0 s2.handles) rfl HHN.out.symm HC8.out ?k3 ?k4)
              case k1 => exact G8.out.rep.rho
              case k2 => exact G8.out.old.1
              case k3 => have := TSM.out; have := HLS.out; have := AFT2.out.hl; have := HLT.out; omega
              case k4 =>
                intro a9 c9 w9 hO9 hg9
                have REL := Lib.hid (ENDR.out w9 _ _ _ (G8.out.grown hg9 (fun r e => ⟨O8.out.r0 r e, (O8.out.row.lt r e).1⟩)) hO9)
                clear hO9 hg9
                go_wp2_with fail
                go_roundw
                case rel => exact REL.out
                case measure => have := HLT.out; simp [intOf]; omega
          | true =>
            have HX7 := Lib.hid (heap_alloc_new w6 (.cells #[.int .i64 1] 3))
            have O7b := Lib.hid (O7.out.alloc (.cells #[.int .i64 1] 3))
            go_wp2_with (at_builtin; refine wpList_append_out rfl _ _ rfl rfl O7b.out ?g1 ?g2 ⟨w6.heap.size, 0, none⟩ 1 1 [1] rfl rfl ?g3 ?g4 ?g5)
            case g1 => exact fun q hq => G6.out.rep.rho q (by first | omega | (simp at hq; omega))
            case g2 => have := G6.out.old.1; first | omega | (simp; omega)
            case g3 =>
              intro j u hu
              first
                | (rw [Addr.add_lit, cell_of_row _ _ _ _ _ _ HX7.out]; simpa [ints] using hu)
                | simpa [ints] using hu
            case g4 => have := TSM.out; omega
            case g5 =>
              intro a7 c7 w7 hO7 hg7
              have G7 := Lib.hid ((G6.out.alloc (.cells #[.int .i64 1] 3)).grown hg7 (fun r e => ⟨O7.out.r0 r e, (O7.out.row.lt r e).1⟩))
              obtain ⟨T2, hT2⟩ : ∃ t, t = T1 ++ [1] := ⟨_, rfl⟩
              rw [← hT2] at hO7
              have HT2 := Lib.hid hT2
              have O8b := Lib.hid hO7
              clear hT2
              clear hO7 hg7 HX7 O7b
              go_wp2_with fail
              have HH := handles_rep sortLaw G7.out.rep (by have := AFT2.out.hl; have := HLT.out; omega)
              rw [A5H.out] at HH
              refine HH.mono ?_
              clear HH
              rintro e w8 ⟨a8, c8, rfl, hrow, hch⟩
              have O8 := Lib.hid (O8b.out.keep (hch.mono fun _ h => h.elim))
              have G8 := Lib.hid (G7.out.frame hch)
              have HR8 := Lib.hid hrow
              have HLS := Lib.hid (hands_small s2.handles 0)
              obtain ⟨hn, hhn⟩ : ∃ q, q = (handsFrom 0 s2.handles).length := ⟨_, rfl⟩
              rw [← hhn] at HR8 HLS ⊢
              have HHN := Lib.hid hhn
              clear hrow hch hhn
              have ENDR : Hid (∀ (w9 : World) (a9 : Option Addr) (n9 c9 : Nat), Gm w w9 ρ5 A5 s2 → Out w w9 ρ5 (.slice a9 n9 c9) n9 (T2 ++ handsFrom 0 s2.handles) → ∃ (k' : Nat) (ρ : Nat → Nat) (A : Ad) (a : Option Addr) (n c : Nat), Value.slice a9 n9 c9 = .slice a n c ∧ Value.int .i64 ((k : Int) + 1) = .int .i64 k' ∧ k' ≤ L ∧ k' ≤ 150 ∧ A.hb = hb ∧ Gm w w9 ρ A (fin cl (S.new R) (l.take k')) ∧ Out w w9 ρ (.slice a n c) n (trans cl (S.new R) (l.take k'))) := fun w9 a9 n9 c9 h1 h2 =>
                ⟨k + 1, ρ5, A5, a9, n9, c9, rfl, rfl, HLT.out.1, HLT.out.2, A5H.out, by rw [TAKE.out.1]; exact h1, by rw [show trans cl (S.new R) (l.take (k + 1)) = T2 ++ handsFrom 0 s2.handles from TAKE.out.2.trans (by rw [HT2.out, HT1.out]; simp)]; exact h2⟩
              rcases HR8.out.2 with ⟨hnil, h0⟩ | ⟨g8, cap8, cur8, hv8, hb8, hg8, q1, q2, q3, q4⟩
              · have he : handsFrom 0 s2.handles = [] := List.length_eq_zero_iff.1 (by rw [← HHN.out]; exact h0)
                have REL := Lib.hid (ENDR.out w8 _ _ _ G8.out (by rw [he, List.append_nil]; exact O8.out))
                obtain ⟨i3, hi3, hz3, hs3, hb3⟩ := info_parts Try.info3u
                rw [hnil]
                clear hnil h0 he hz3 hs3 hb3
                go_wp2_with (at_builtin; refine wpList_append_own_none rfl _ _ 29 rfl w.heap.size 3 i3 1 Try.underlying29 hi3 _ _ _ rfl O8.out.row rfl ?_)
                go_wp2_with fail
                go_roundw
                case rel => exact REL.out
                case measure => have := HLT.out; simp [intOf]; omega
              · have hc8 : ∀ j u, (ints (handsFrom 0 s2.handles))[j]? = some u → w8.cell? ((⟨g8, 0, none⟩ : Addr).add j) = some u := HR8.out.cells (by rw [hv8]; rfl)
                simp only [Value.slice.injEq, true_and] at hv8
                obtain ⟨rfl, rfl⟩ := hv8
                have HC8 := Lib.hid hc8
                clear hc8 hb8 hg8 q1 q2 q3 q4
                go_wp2_with (at_builtin; refine wpList_append_out rfl _ _ rfl rfl O8.out ?k1 ?k2 ⟨g8, 0, none⟩ hn c8 (handsFrom 0 s2.handles) rfl HHN.out.symm HC8.out ?k3 ?k4)
                case k1 => exact G8.out.rep.rho
                case k2 => exact G8.out.old.1
                case k3 => have := TSM.out; have := HLS.out; have := AFT2.out.hl; have := HLT.out; omega
                case k4 =>
                  intro a9 c9 w9 hO9 hg9
                  have REL := Lib.hid (ENDR.out w9 _ _ _ (G8.out.grown hg9 (fun r e => ⟨O8.out.r0 r e, (O8.out.row.lt r e).1⟩)) hO9)
                  clear hO9 hg9
                  go_wp2_with fail
                  go_roundw
                  case rel => exact REL.out
                  case measure => have := HLT.out; simp [intOf]; omega
    · have EX : Hid (∀ {K : Prop}, ((L : Int) ≤ (k : Int) → K) → ((k : Int) < (L : Int) → (150 : Int) ≤ (k : Int) → K) → K) := fun h1 h2 => by
        by_cases hq : k < L
        · exact h2 (by omega) (by omega)
        · exact h1 (by omega)
      have LAST := Lib.hid (show l.take k = l.take 150 by
        have h1 := HKL.out
        have h2 := HLL.out
        by_cases hq : k < L
        · rw [show k = 150 by omega]
        · rw [List.take_of_length_le (by omega), List.take_of_length_le (by omega)])
      have END : Hid (TrP w (trans cl (S.new R) (l.take 150)) (.returned (.slice a n c)) wr) := by
        obtain ⟨h1, h2, h3⟩ := HO.out.shape
        rw [← LAST.out]
        exact ⟨_, rfl, h1, h2, ch_below HG.out.ch⟩
      clear hlt
      refine EX.out (fun hge => ?_) (fun hltz hge => ?_)
      · go_wp2_with fail
        go_ret
        exact END.out
      · go_wp2_with fail
        go_ret
        exact END.out
end Go.Proofs.Ytfjgokbclgdfjaa
