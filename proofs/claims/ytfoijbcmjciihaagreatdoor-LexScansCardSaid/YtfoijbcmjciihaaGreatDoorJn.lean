/- Join: walked. -/
import Derived.Test.YtfoijbcmjciihaaGreatDoorR
import Derived.Test.YtfoijbcmjciihaaGreatDoorBd
import Derived.Shelf.Strings.BuilderK
set_option linter.unusedSimpArgs false
set_option linter.unusedVariables false
namespace Go.Proofs.YtfoijbcmjciihaaGreatDoor
open Go.RowKit

/-- A token as Go has it. -/
structure Tkv where
  k : Int
  v : Int
  tx : ByteArray
  p : Int

def Tkv.ok (t : Tkv) : Bool := LX.checkOf t.k t.v (bts t.tx) t.p
def Tkv.val (t : Tkv) : Value := .agg #[.int .i64 t.k, .int .i64 t.v, .string t.tx, .int .i64 t.p]

/-- A list of tokens lies at a slice. -/
structure TkS (w : World) (v : Value) (ts : List Tkv) : Prop where
  shape : ∃ a c, v = .slice a ts.length c ∧ ts.length ≤ c ∧ (ts ≠ [] → ∃ g off, a = some ⟨g, off, none⟩ ∧ g < w.heap.size ∧ ∀ i t, ts[i]? = some t →
    w.cell? ⟨g, off + i * 4, none⟩ = some (.int .i64 t.k) ∧ w.cell? ⟨g, off + i * 4 + 1, none⟩ = some (.int .i64 t.v) ∧ w.cell? ⟨g, off + i * 4 + 2, none⟩ = some (.string t.tx) ∧ w.cell? ⟨g, off + i * 4 + 3, none⟩ = some (.int .i64 t.p))

theorem TkS.keep {w w' : World} {v : Value} {ts : List Tkv} (h : TkS w v ts) (k : Below w.heap.size w w') : TkS w' v ts := by
  obtain ⟨a, c, rfl, hc, h2⟩ := h.shape
  refine ⟨a, c, rfl, hc, fun hne => ?_⟩
  obtain ⟨g, off, rfl, hg, h3⟩ := h2 hne
  refine ⟨g, off, rfl, Nat.lt_of_lt_of_le hg k.size, fun i t ht => ?_⟩
  obtain ⟨e0, e1, e2, e3⟩ := h3 i t ht
  exact ⟨(k.cell (p := ⟨g, _, none⟩) hg).trans e0, (k.cell (p := ⟨g, _, none⟩) hg).trans e1, (k.cell (p := ⟨g, _, none⟩) hg).trans e2, (k.cell (p := ⟨g, _, none⟩) hg).trans e3⟩

def tkv (t : LX.Tok) : Tkv := ⟨t.kind, t.num, ofB t.text, t.place⟩

theorem flatT_get : ∀ (ts : List LX.Tok) (i : Nat) (t : LX.Tok), ts[i]? = some t → (flatT ts)[i * 4]? = some (.int .i64 t.kind) ∧ (flatT ts)[i * 4 + 1]? = some (.int .i64 t.num) ∧ (flatT ts)[i * 4 + 2]? = some (.string (ofB t.text)) ∧ (flatT ts)[i * 4 + 3]? = some (.int .i64 t.place)
  | [], i, t, h => by cases h
  | u :: ts, 0, t, h => by cases h; exact ⟨rfl, rfl, rfl, rfl⟩
  | u :: ts, i + 1, t, h => by
    have := flatT_get ts i t h
    rw [show (i + 1) * 4 = i * 4 + 1 + 1 + 1 + 1 from by omega]
    exact this

theorem tks_of_owns {w : World} {base : Nat} {a : Option Addr} {c : Nat} {ts : List LX.Tok} (h : w.ownsRow base 42 4 (.slice a ts.length c) ts.length (flatT ts)) : TkS w (.slice a ts.length c) (ts.map tkv) := by
  refine ⟨a, c, by rw [List.length_map], ?_, fun hne => ?_⟩
  · rw [List.length_map]
    rcases h.2 with ⟨hv, h0⟩ | ⟨g, cap, cur, hv, _, _, hnc, _⟩
    · omega
    · simp only [Value.slice.injEq] at hv
      omega
  · have hpos : 0 < ts.length := by
      cases ts with
      | nil => exact absurd rfl hne
      | cons t r => simp
    obtain ⟨g, rfl, _, hlt, _, hcells⟩ := owns_cells h hpos
    refine ⟨g, 0, rfl, hlt, fun i t ht => ?_⟩
    rw [List.getElem?_map] at ht
    cases hq : ts[i]? with
    | none => rw [hq] at ht; cases ht
    | some u =>
      rw [hq] at ht
      cases ht
      obtain ⟨e0, e1, e2, e3⟩ := flatT_get ts i u hq
      simp only [Nat.zero_add]
      exact ⟨hcells _ _ e0, hcells _ _ e1, hcells _ _ e2, hcells _ _ e3⟩

/-- The texts, with spaces. -/
def jn (ts : List Tkv) : List UInt8 := match ts with
  | [] => []
  | t :: r => t.tx.data.toList ++ r.flatMap fun u => 32 :: u.tx.data.toList

theorem jn_snoc (ts : List Tkv) (t : Tkv) : jn (ts ++ [t]) = jn ts ++ ((if ts = [] then [] else [32]) ++ t.tx.data.toList) := by
  cases ts with
  | nil => simp [jn]
  | cons u r => simp [jn]

def joinB (ts : List Tkv) : ByteArray := if ts.all Tkv.ok then ⟨(jn ts).toArray⟩ else ⟨#[]⟩

theorem ok_size {t : Tkv} (h : t.ok = true) : t.tx.size ≤ 24 := by
  unfold Tkv.ok LX.checkOf at h
  simp only [Bool.and_eq_true] at h
  rcases Nat.lt_or_ge 24 t.tx.size with h2 | h2
  · have h0 : LX.kindOf (bts t.tx) = 0 := by unfold LX.kindOf; rw [bts_length, if_pos h2]
    rw [h0] at h
    have h3 := h.1.1.2
    have h4 := h.1.2
    simp only [beq_iff_eq] at h3
    rw [← h3] at h4
    simp at h4
  · exact h2

theorem jn_length (ts : List Tkv) (h : ts.all Tkv.ok = true) : (jn ts).length ≤ 25 * ts.length := by
  have : ∀ r : List Tkv, r.all Tkv.ok = true → (r.flatMap fun u => 32 :: u.tx.data.toList).length ≤ 25 * r.length := fun r => by
    induction r with
    | nil => intro _; simp
    | cons u r ih =>
      intro hr
      rw [List.all_cons, Bool.and_eq_true] at hr
      have h1 := ih hr.2
      have h2 := ok_size hr.1
      have h3 : u.tx.data.toList.length = u.tx.size := rfl
      simp only [List.flatMap_cons, List.length_append, List.length_cons, h3]
      omega
  cases ts with
  | nil => simp [jn]
  | cons t r =>
    rw [List.all_cons, Bool.and_eq_true] at h
    have h1 := this r h.2
    have h2 := ok_size h.1
    have h3 : t.tx.data.toList.length = t.tx.size := rfl
    simp only [jn, List.length_append, List.length_cons, h3]
    omega

theorem builder_keep {T e B b : Nat} {bs : List Value} {w w' : World} (h : Lib.IsBuilderF T e B b bs w) (k : Below w.heap.size w w') : Lib.IsBuilderF T e B b bs w' := by
  have hg : w.grownBy w' none := ⟨k.os, k.tape, k.output, k.size, fun q hq _ => k.block q hq⟩
  have one : ∀ p, Lib.BuilderAtF T e B b p bs w → Lib.BuilderAtF T e B b p bs w' := fun p ⟨hB, v, hb, hown, hne⟩ =>
    ⟨hB, v, (k.block b (Array.getElem?_eq_some_iff.1 hb).1).trans hb, hown.kept hg (by
      cases ho : v.ownBlock with
      | none => exact .inl rfl
      | some q => exact .inr (by simp)), hne⟩
  exact h.elim (fun x => .inl (one _ x)) (fun x => .inr (one _ x))

def JPost (w : World) (ts : List Tkv) (e : Ending) (w' : World) : Prop := e = .returned (.string (joinB ts)) ∧ Below w.heap.size w w'


set_option maxHeartbeats 2000000 in
set_option maxRecDepth 20000 in
theorem join_any {w : World} (henv : Env w) {v : Value} {ts : List Tkv} (hts : TkS w v ts) (hn : ts.length * 40 ≤ 140737488355328) (hsz : ∀ t ∈ ts, t.tx.size ≤ 9223372036854775807) :
    Calls Tryz.prog 24 #[v] w (JPost w ts) := by
  obtain ⟨a, c, rfl, hcap, hcells⟩ := hts.shape
  obtain ⟨n, hnn⟩ : ∃ n, n = ts.length := ⟨_, rfl⟩
  rw [← hnn] at hcap ⊢
  have HN := Lib.hid hnn
  have HNB := Lib.hid hn
  have HSZ := Lib.hid hsz
  have HC := Lib.hid hcells
  have HE := Lib.hid henv
  have hnz : (n : Int) ≤ 4611686018427387904 := by rw [hnn]; omega
  clear hts hn hsz hcells henv hnn
  go_enter Tryz.func24, Tryz.ntmps24
  go_wp2_with fail
  obtain ⟨b, hb⟩ : ∃ z, z = w.heap.size := ⟨_, rfl⟩
  obtain ⟨W0, hW0⟩ : ∃ W, W = w.alloc (.cells #[.pointer none, .slice none 0 0] 73) := ⟨_, rfl⟩
  rw [← hW0, ← hb]
  have B0 : Hid (Below w.heap.size w W0) := by rw [hW0]; exact (Below.refl _ _).alloc (Nat.le_refl _) _
  have Z0 : Hid (W0.heap.size = b + 1) := by rw [hW0, hb]; show _ = _; simp
  have I0 : Hid (Lib.IsBuilderF 73 5 b b (Lib.byteCells (jn [])) W0) :=
    .inl ⟨Nat.le_refl _, _, by rw [hW0, hb]; exact heap_alloc_new w _, World.ownsRowF_nil _ _ _ _, by simp [Value.ownBlock]⟩
  have HBD := Lib.hid hb
  clear hW0 hb
  go_loopg [8] n (fun gk v wr => ∃ k : Nat, k ≤ n ∧ gk = n - k ∧ v = .int .i64 k ∧ (ts.take k).all Tkv.ok = true ∧ Lib.IsBuilderF 73 5 b b (Lib.byteCells (jn (ts.take k))) wr ∧ Below b W0 wr ∧ b ≤ wr.heap.size)
  case atStart => exact ⟨0, Nat.zero_le _, rfl, rfl, rfl, I0.out, Below.refl _ _, by have := Z0.out; omega⟩
  case round =>
    obtain ⟨k, hk, hgk, rfl, hall, hbd, hbl, hbs⟩ := hrel
    have BW : Hid (Below w.heap.size w wr) := B0.out.trans (by rw [← HBD.out]; exact hbl)
    have K1 := Lib.hid hall
    have K2 := Lib.hid hbd
    have K3 := Lib.hid hbl
    have K4 := Lib.hid hgk
    have K5 := Lib.hid hbs
    clear hall hbd hbl hgk hbs
    by_cases hlt : k < n
    · obtain ⟨t, ht⟩ : ∃ t, ts[k]? = some t := ⟨_, List.getElem?_eq_getElem (by have := HN.out; omega)⟩
      obtain ⟨g, off, rfl, hg, hcl⟩ := HC.out (by intro e; rw [e] at ht; cases ht)
      obtain ⟨x0, x1, x2, x3⟩ := hcl k t ht
      have y0 := (BW.out.cell (p := ⟨g, off + k * 4, none⟩) hg).trans x0
      have y1 := (BW.out.cell (p := ⟨g, off + k * 4 + 1, none⟩) hg).trans x1
      have y2 := (BW.out.cell (p := ⟨g, off + k * 4 + 2, none⟩) hg).trans x2
      have y3 := (BW.out.cell (p := ⟨g, off + k * 4 + 3, none⟩) hg).trans x3
      have hkz : (k : Int) < (n : Int) := by omega
      have HT := Lib.hid ht
      have HLT := Lib.hid hlt
      clear hg hcl x0 x1 x2 x3 ht hlt hk
      obtain ⟨tk, tv, tx, tp⟩ := t
      go_wp2_with fail
      obtain ⟨z, hz⟩ : ∃ z, z = wr.heap.size := ⟨_, rfl⟩
      obtain ⟨V, hV⟩ : ∃ W, W = wr.alloc (.cells #[.int .i64 tk, .int .i64 tv, .string tx, .int .i64 tp] 42) := ⟨_, rfl⟩
      rw [← hV, ← hz]
      have bV : Below wr.heap.size wr V := by rw [hV]; exact (Below.refl _ _).alloc (Nat.le_refl _) _
      have V1 : Hid (V.heap[z]? = some (.cells #[.int .i64 tk, .int .i64 tv, .string tx, .int .i64 tp] 42 (0, 0))) := by rw [hV, hz]; exact heap_alloc_new wr _
      have V2 : Hid (Lib.IsBuilderF 73 5 b b (Lib.byteCells (jn (ts.take k))) V) := builder_keep K2.out bV
      have V3 : Hid (Below b W0 V) := K3.out.trans (bV.mono K5.out)
      have V4 : Hid (Below w.heap.size w V) := BW.out.trans (bV.mono BW.out.size)
      have V5 : Hid (b ≤ V.heap.size) := Nat.le_trans K5.out bV.size
      have hmem : (⟨tk, tv, tx, tp⟩ : Tkv) ∈ ts := List.mem_of_getElem? HT.out
      have HM := Lib.hid hmem
      have htk : ts.take (k + 1) = ts.take k ++ [⟨tk, tv, tx, tp⟩] := by rw [List.take_add_one, HT.out]; rfl
      have HTK := Lib.hid htk
      have HK0 : Hid (ts.take k = [] ↔ k = 0) := by
        constructor
        · intro e
          have h1 := congrArg List.length e
          rw [List.length_take, List.length_nil] at h1
          have := HN.out; have := HLT.out
          omega
        · rintro rfl; rfl
      clear hV hz bV hmem htk y0 y1 y2 y3
      refine (check_any (HE.out.keep V4.out HE.out.size) tk tv tp tx (HSZ.out _ HM.out)).mono ?_
      rintro e U ⟨rfl, hbU⟩
      obtain ⟨vq, hvq⟩ : ∃ q, q = LX.checkOf tk tv (bts tx) tp := ⟨_, rfl⟩
      rw [← hvq]
      have HQ : Hid ((⟨tk, tv, tx, tp⟩ : Tkv).ok = vq) := hvq.symm
      have U1 : Hid (U.heap[z]? = some (.cells #[.int .i64 tk, .int .i64 tv, .string tx, .int .i64 tp] 42 (0, 0))) := (hbU.block z (Array.getElem?_eq_some_iff.1 V1.out).1).trans V1.out
      have U2 : Hid (Lib.IsBuilderF 73 5 b b (Lib.byteCells (jn (ts.take k))) U) := builder_keep V2.out hbU
      have U3 : Hid (Below b W0 U) := V3.out.trans (hbU.mono V5.out)
      have U4 : Hid (Below w.heap.size w U) := V4.out.trans (hbU.mono V4.out.size)
      have U5 : Hid (b ≤ U.heap.size) := Nat.le_trans V5.out hbU.size
      clear hvq hbU V1 V2 V3 V4 V5
      cases vq with
      | false =>
        simp only [Bool.false_eq_true, if_false]
        go_wp2_with fail
        go_ret
        refine ⟨?_, U4.out⟩
        have : ts.all Tkv.ok = false := by
          cases hq : ts.all Tkv.ok with
          | false => rfl
          | true =>
            have := List.all_eq_true.1 hq _ HM.out
            rw [HQ.out] at this
            cases this
        unfold joinB
        rw [this]
        rfl
      | true =>
        simp only [if_true]
        have hsz24 := ok_size HQ.out
        have HS24 : Hid (tx.size ≤ 24) := hsz24
        have hall : (ts.take (k + 1)).all Tkv.ok = true := by rw [HTK.out, List.all_append, K1.out]; simp [HQ.out]
        have HALL := Lib.hid hall
        have hjl := jn_length (ts.take k) K1.out
        have hlk : (ts.take k).length ≤ k := List.length_take_le _ _
        have HJ : Hid ((jn (ts.take k)).length + 25 ≤ 140737488355328) := by
          show _ ≤ _
          have := HN.out; have := HLT.out; have := HNB.out
          omega
        have zb : z ≠ b := by
          intro e
          subst e
          have h1 := U1.out
          rcases U2.out with ⟨_, v, h2, _⟩ | ⟨_, v, h2, _⟩ <;> · rw [h2] at h1; simp at h1
        have HZB := Lib.hid zb
        clear hsz24 hall hjl hlk zb
        by_cases hk0 : k = 0
        · subst hk0
          have u2 : U.cell? ⟨z, 2, none⟩ = some (.string tx) := by rw [cell_of_row _ _ 2 _ _ _ U1.out]; rfl
          go_wp2_with fail
          have WS := Any.Builder_WriteString_k Tryz.lays166 Tryz.Builder_Extra_W b b _ tx U U2.out (by have := HJ.out; have := HS24.out; rw [Lib.byteCells_length]; omega) U5.out
          refine WS.mono ?_
          clear WS
          rintro e X ⟨rfl, hx1, hx2, hx3⟩
          have X1 := Lib.hid hx1
          have X2 := Lib.hid hx2
          clear hx1 hx2 hx3 u2
          go_wp2_with fail
          go_roundg (n - 1)
          case measure => have := K4.out; have := HLT.out; omega
          case rel =>
            refine ⟨1, HLT.out, rfl, rfl, HALL.out, .inr ?_, U3.out.trans X2.out, Nat.le_trans U5.out X2.out.size⟩
            have h1 := X1.out
            rw [HTK.out, jn_snoc, if_pos (HK0.out.2 (by trivial)), List.nil_append]
            show Lib.BuilderAtF 73 5 b b _ (List.map _ (_ ++ _)) X
            rw [List.map_append]
            exact h1
        · have hkp : (0 : Int) < (k : Int) := by omega
          have HKP := Lib.hid hk0
          clear hk0
          go_wp2_with fail
          have WB := Any.Builder_WriteByte_k Tryz.lays167 Tryz.Builder_Extra_W b b _ 32 U U2.out (by have := HJ.out; rw [Lib.byteCells_length]; omega) U5.out
          refine WB.mono ?_
          clear WB
          rintro e Y ⟨rfl, hy1, hy2, hy3⟩
          have hy3' : Lib.OthersKept 5 (some b) U Y := hy3
          have Y0 := hy3' z _ U1.out (fun e => HZB.out (by simpa using e)) (fun c fz e => by simp at e)
          have u2 : Y.cell? ⟨z, 2, none⟩ = some (.string tx) := by rw [cell_of_row _ _ 2 _ _ _ Y0]; rfl
          have Y1 := Lib.hid hy1
          have Y2 := Lib.hid hy2
          have Y5 : Hid (b ≤ Y.heap.size) := Nat.le_trans U5.out hy2.size
          clear hy1 hy2 hy3 hy3' Y0
          go_wp2_with fail
          have WS := Any.Builder_WriteString_k Tryz.lays166 Tryz.Builder_Extra_W b b _ tx Y (.inr Y1.out) (by have := HJ.out; have := HS24.out; rw [List.length_append, Lib.byteCells_length]; simp only [List.length_cons, List.length_nil]; omega) Y5.out
          refine WS.mono ?_
          clear WS
          rintro e X ⟨rfl, hx1, hx2, hx3⟩
          have X1 := Lib.hid hx1
          have X2 := Lib.hid hx2
          clear hx1 hx2 hx3 u2
          go_wp2_with fail
          go_roundg (n - (k + 1))
          case measure => have := K4.out; have := HLT.out; omega
          case rel =>
            refine ⟨k + 1, HLT.out, rfl, by go_num, HALL.out, .inr ?_, U3.out.trans (Y2.out.trans X2.out), Nat.le_trans Y5.out X2.out.size⟩
            have h1 := X1.out
            rw [HTK.out, jn_snoc, if_neg (fun e => HKP.out (HK0.out.1 e))]
            show Lib.BuilderAtF 73 5 b b _ (List.map _ (_ ++ ([32] ++ _))) X
            rw [List.map_append, List.map_append, ← List.append_assoc]
            exact h1
    · have hge : (n : Int) ≤ (k : Int) := by omega
      obtain rfl : k = n := by omega
      clear hlt hk
      go_wp2_with fail
      have ST := Tryz.Builder_String_any_k b b _ wr K2.out K5.out
      refine ST.mono ?_
      clear ST
      rintro e X ⟨rfl, hx1, hx2, hx3⟩
      have X2 := Lib.hid hx2
      clear hx1 hx2 hx3
      go_wp2_with fail
      go_ret
      refine ⟨?_, BW.out.trans (by rw [← HBD.out]; exact X2.out)⟩
      have h1 : ts.take k = ts := by rw [HN.out, List.take_of_length_le (Nat.le_refl _)]
      have h2 := K1.out
      rw [h1] at h2
      unfold joinB
      rw [h2, if_pos rfl]
      show Ending.returned (Value.string ⟨(jn (ts.take k)).toArray⟩) = _
      rw [h1]
end Go.Proofs.YtfoijbcmjciihaaGreatDoor
