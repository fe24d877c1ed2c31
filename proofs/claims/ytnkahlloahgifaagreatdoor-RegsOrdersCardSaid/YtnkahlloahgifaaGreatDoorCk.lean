/- Maps from registers: laws. -/
import Derived.Test.YtnkahlloahgifaaGreatDoorCm
import Derived.Test.YtnkahlloahgifaaGreatDoorPo
set_option linter.unusedSimpArgs false
set_option linter.unusedVariables false
namespace Go.Proofs.YtnkahlloahgifaaGreatDoor
open Go.RowKit RG Go.Maps

/-- A map of integers: its keys, and what they have. -/
def FMap (w : World) (b : Nat) (K : Int → Bool) (σ : Int → Int) (n : Nat) : Prop :=
  ∃ L, IMap Tryz.prog w b L ∧ L.length ≤ n ∧ (∀ k, ikey L k = K k) ∧ ∀ k v, (k, v) ∈ L → v = σ k

theorem FMap.keep {w w' : World} {b n : Nat} {K : Int → Bool} {σ : Int → Int} (h : FMap w b K σ n) (hb : w'.heap[b]? = w.heap[b]?) : FMap w' b K σ n := by
  obtain ⟨L, h1, h2⟩ := h; exact ⟨L, h1.keep hb, h2⟩
theorem FMap.lt {w : World} {b n : Nat} {K : Int → Bool} {σ : Int → Int} (h : FMap w b K σ n) : b < w.heap.size := by obtain ⟨L, h1, h2⟩ := h; exact h1.lt
theorem FMap.made (w : World) (σ : Int → Int) : FMap (w.alloc (.map #[] 0)) w.heap.size (fun _ => false) σ 0 := ⟨[], IMap.made _ w, Nat.le_refl _, fun k => by simp [ikey], fun k v h => absurd h (by simp)⟩
theorem FMap.congr {w : World} {b n n' : Nat} {K K' : Int → Bool} {σ σ' : Int → Int} (h : FMap w b K σ n) (h1 : ∀ k, K k = K' k) (h2 : ∀ k, K k = true → σ k = σ' k) (h3 : n ≤ n') : FMap w b K' σ' n' := by
  obtain ⟨L, g1, g2, g3, g4⟩ := h
  exact ⟨L, g1, by omega, fun k => (g3 k).trans (h1 k), fun k v hm => (g4 k v hm).trans (h2 k (by rw [← g3]; exact ikey_iff.2 ⟨v, hm⟩))⟩
theorem FMap.wf {w : World} {b n : Nat} {K : Int → Bool} {σ : Int → Int} (h : FMap w b K σ n) {k : Int} (hk : K k = true) : (Lit.int .i64 k).wf = true := by
  obtain ⟨L, ⟨D, h1, h2, h3, h4, h5⟩, g2, g3, g4⟩ := h
  rw [← g3] at hk
  obtain ⟨v, hv⟩ := ikey_iff.1 hk
  exact (h4 k v hv).1

theorem FMap.put {w' : World} {b n : Nat} {K : Int → Bool} {σ : Int → Int} {L : List (Int × Int)} {k c : Int} (g2 : L.length ≤ n) (g3 : ∀ k, ikey L k = K k) (g4 : ∀ k v, (k, v) ∈ L → v = σ k) (h : IMap Tryz.prog w' b (iput L k c)) :
    FMap w' b (fun r => K r || decide (r = k)) (fun r => if r = k then c else σ r) (n + 1) := by
  refine ⟨_, h, ?_, fun r => ?_, fun r v hm => ?_⟩
  · have := iput_length L k c; omega
  · rw [Bool.eq_iff_iff, ikey_iff, Bool.or_eq_true, decide_eq_true_eq, ← g3, ikey_iff]
    constructor
    · rintro ⟨v, hv⟩
      rcases mem_iput.1 hv with ⟨_, h⟩ | ⟨h, _⟩
      · exact .inl ⟨v, h⟩
      · exact .inr h
    · intro h
      by_cases e : r = k
      · exact ⟨c, mem_iput.2 (.inr ⟨e, rfl⟩)⟩
      · rcases h with ⟨v, hv⟩ | h
        · exact ⟨v, mem_iput.2 (.inl ⟨e, hv⟩)⟩
        · exact absurd h e
  · rcases mem_iput.1 hm with ⟨e, h⟩ | ⟨e, h⟩
    · show v = if r = k then c else σ r; rw [if_neg e]; exact g4 r v h
    · show v = if r = k then c else σ r; rw [if_pos e]; exact h

theorem FMap.puts {w' : World} {b n : Nat} {K : Int → Bool} {σ : Int → Int} {L : List (Int × Int)} {k c : Int} (hn : (L.map (·.1)).Nodup) (g2 : L.length ≤ n) (g3 : ∀ k, ikey L k = K k) (g4 : ∀ k v, (k, v) ∈ L → v = σ k) (hk : K k = true) (h : IMap Tryz.prog w' b (iput L k c)) :
    FMap w' b K (fun r => if r = k then c else σ r) n := by
  obtain ⟨L', h1, h2, h3, h4⟩ := FMap.put g2 g3 g4 h
  have hl : (iput L k c).length ≤ n := by
    unfold iput
    rw [List.length_append, filter_ne_length hn, g3, hk, if_pos rfl]
    have : 0 < L.length := by
      rw [← g3] at hk
      obtain ⟨v, hv⟩ := ikey_iff.1 hk
      exact List.length_pos_of_mem hv
    simp; omega
  refine ⟨_, h, hl, fun r => ?_, fun r v hm => ?_⟩
  · rw [Bool.eq_iff_iff, ikey_iff, ← g3, ikey_iff]
    constructor
    · rintro ⟨v, hv⟩
      rcases mem_iput.1 hv with ⟨_, h⟩ | ⟨rfl, _⟩
      · exact ⟨v, h⟩
      · rw [← g3] at hk; exact ikey_iff.1 hk
    · rintro ⟨v, hv⟩
      by_cases e : r = k
      · exact ⟨c, mem_iput.2 (.inr ⟨e, rfl⟩)⟩
      · exact ⟨v, mem_iput.2 (.inl ⟨e, hv⟩)⟩
  · rcases mem_iput.1 hm with ⟨e, h⟩ | ⟨e, h⟩
    · show v = if r = k then c else σ r; rw [if_neg e]; exact g4 r v h
    · show v = if r = k then c else σ r; rw [if_pos e]; exact h

/-- A store, the key being there already. -/
theorem wpList_fputs {w : World} {ops : Array Oper} {rest : List Oper} {o : Oper} {a : Act} {Q : Exit → Act → World → Prop} (hg : o.guard = none) (m x v : Operand) (hop : o.op = Op.mapUpdate 108 m x v) (b n : Nat) (K : Int → Bool) (σ : Int → Int)
    (hm : a.eval m = .map (some b)) (h : FMap w b K σ n) (hn : n < 1000000) (k c : Int) (hx : a.eval x = .int .i64 k) (hv : a.eval v = .int .i64 c) (hk : K k = true) (hc : (Lit.int .i64 c).wf = true)
    (hK : ∀ w', FMap w' b K (fun r => if r = k then c else σ r) n → w.grownBy w' (some b) → wpList Tryz.prog ops Q rest (a.put o.dst undef) w') : wpList Tryz.prog ops Q (o :: rest) a w := by
  have hwf := h.wf hk
  obtain ⟨L, g1, g2, g3, g4⟩ := h
  exact wpList_iput Tryz.underlying3 hg m x v 108 hop Tryz.underlying108 b L hm g1 (by omega) k c hx hv hwf hc fun w' hm' hg' => hK w' (FMap.puts g1.nodup g2 g3 g4 hk hm') hg'

/-- An entry of a map that is written out. -/
theorem wpList_finsert {w : World} {ops : Array Oper} {rest : List Oper} {o : Oper} {a : Act} {Q : Exit → Act → World → Prop} (hg : o.guard = none) (m x v : Operand) (hop : o.op = Op.insert 108 m x v) (b n : Nat) (K : Int → Bool) (σ : Int → Int)
    (hm : a.eval m = .map (some b)) (h : FMap w b K σ n) (hn : n < 1000000) (k c : Int) (hx : a.eval x = .int .i64 k) (hv : a.eval v = .int .i64 c) (hk : (Lit.int .i64 k).wf = true) (hc : (Lit.int .i64 c).wf = true)
    (hK : ∀ w', FMap w' b (fun r => K r || decide (r = k)) (fun r => if r = k then c else σ r) (n + 1) → w.grownBy w' (some b) → wpList Tryz.prog ops Q rest (a.put o.dst undef) w') : wpList Tryz.prog ops Q (o :: rest) a w := by
  obtain ⟨L, ⟨D, h1, h2, h3, h4, h5⟩, g2, g3, g4⟩ := h
  refine wpList_plain hg fun K' hK' => ?_
  obtain ⟨w', hrun, r1, r2⟩ := h1.update keyed3 Tryz.underlying108 (by rw [h2]; unfold maxLen; omega) (key_wf Tryz.underlying3 hk) (plainElem_int Tryz.underlying3 hc)
  unfold Oper.wp
  simp [execOp, hop, hm, hx, hv, hrun, Result.andThen]
  exact hK' _ _ (hK w' (FMap.put g2 g3 g4 (IMap.put keyed3 hk h1 h2 h3 h4 h5 r1)) r2)

/-- What a union with an empty map leaves. -/
theorem FMap.of_union {w' : World} {tb n : Nat} {K : Int → Bool} {L : List (Int × Int)} (g2 : L.length ≤ n) (g3 : ∀ k, ikey L k = K k) (h : IMap Tryz.prog w' tb (unionL [] L)) : FMap w' tb K (fun _ => 1) n := by
  have e : unionL [] L = L.map fun p => (p.1, 1) := by unfold unionL; simp
  rw [e] at h
  refine ⟨_, h, by rw [List.length_map]; exact g2, fun k => ?_, fun k v hm => ?_⟩
  · rw [← g3, Bool.eq_iff_iff, ikey_iff, ikey_iff]
    constructor
    · rintro ⟨v, hv⟩
      obtain ⟨⟨a, b⟩, hp, e⟩ := List.mem_map.1 hv
      simp only [Prod.mk.injEq] at e
      exact ⟨b, by rw [← e.1]; exact hp⟩
    · rintro ⟨v, hv⟩
      exact ⟨1, List.mem_map.2 ⟨_, hv, rfl⟩⟩
  · obtain ⟨p, _, e⟩ := List.mem_map.1 hm
    simp only [Prod.mk.injEq] at e
    exact e.2.symm

theorem FMap.run {w : World} {b n : Nat} {K : Int → Bool} {σ : Int → Int} (h : FMap w b K σ n) {k : Int} (hk : K k = true) : (Instr.lookup 108 (.map (some b)) (.int .i64 k) false).run Tryz.prog w = .ok (.int .i64 (σ k)) w := by
  have hwf := h.wf hk
  obtain ⟨L, g1, g2, g3, g4⟩ := h
  have := imap_run g1 hwf 108 Tryz.underlying108
  rw [← g3] at hk
  obtain ⟨v, hv⟩ := ikey_iff.1 hk
  rw [iat_mem g1.nodup hv, g4 k v hv] at this
  exact this

section
variable {w : World} {ops : Array Oper} {rest : List Oper} {o : Oper} {a : Act} {Q : Exit → Act → World → Prop}
/-- 'm[k] = c'. -/
theorem wpList_fput (hg : o.guard = none) (m x v : Operand) (hop : o.op = Op.mapUpdate 108 m x v) (b n : Nat) (K : Int → Bool) (σ : Int → Int)
    (hm : a.eval m = .map (some b)) (h : FMap w b K σ n) (hn : n < 1000000) (k c : Int) (hx : a.eval x = .int .i64 k) (hv : a.eval v = .int .i64 c) (hk : (Lit.int .i64 k).wf = true) (hc : (Lit.int .i64 c).wf = true)
    (hK : ∀ w', FMap w' b (fun r => K r || decide (r = k)) (fun r => if r = k then c else σ r) (n + 1) → w.grownBy w' (some b) → wpList Tryz.prog ops Q rest (a.put o.dst undef) w') : wpList Tryz.prog ops Q (o :: rest) a w := by
  obtain ⟨L, g1, g2, g3, g4⟩ := h
  exact wpList_iput Tryz.underlying3 hg m x v 108 hop Tryz.underlying108 b L hm g1 (by omega) k c hx hv hk hc fun w' hm' hg' => hK w' (FMap.put g2 g3 g4 hm') hg'

/-- 'v, is := m[k]'. -/
theorem wpList_fis (hg : o.guard = none) (m x : Operand) (hop : o.op = Op.lookup 108 m x true) (b n : Nat) (K : Int → Bool) (σ : Int → Int)
    (hm : a.eval m = .map (some b)) (h : FMap w b K σ n) (k : Int) (hx : a.eval x = .int .i64 k) (hk : (Lit.int .i64 k).wf = true)
    (hK : ∀ c : Int, (K k = true → c = σ k) → wpList Tryz.prog ops Q rest (a.put o.dst (.tuple #[.int .i64 c, .bool (K k)])) w) : wpList Tryz.prog ops Q (o :: rest) a w := by
  obtain ⟨L, ⟨D, h1, h2, h3, h4, h5⟩, g2, g3, g4⟩ := h
  refine wpList_lookup_own_ok_int w hg m x 108 hop 3 3 .i64 keyed3 Tryz.underlying108 Tryz.underlying3 (zero3 w) b (Maps.size D) D hm h1 _ _ hx (key_wf Tryz.underlying3 hk) fun c hat _ => ?_
  have e : Maps.has D (.int .i64 k) = K k := by
    rw [← g3]
    cases hq : ikey L k with
    | true => obtain ⟨v, hv⟩ := ikey_iff.1 hq; exact (h4 k v hv).2.1
    | false =>
      cases hq2 : Maps.has D (.int .i64 k) with
      | false => rfl
      | true => rw [ikey_iff.2 (h5 k hq2)] at hq; cases hq
  rw [e]
  refine hK c fun hk => ?_
  rw [← g3] at hk
  obtain ⟨v, hv⟩ := ikey_iff.1 hk
  rw [(h4 k v hv).2.2] at hat
  simp at hat
  rw [← hat]; exact g4 k v hv
end
end Go.Proofs.YtnkahlloahgifaaGreatDoor
