/- Allocate: laws for its walk. -/
import Derived.Test.YtnkahlloahgifaaGreatDoorCb
import Derived.Test.YtnkahlloahgifaaGreatDoorCm
import Derived.Test.YtnkahlloahgifaaGreatDoorCg
import Derived.Deep.OwnRows
import Derived.Deep.RegionHeld3
set_option linter.unusedSimpArgs false
set_option linter.unusedVariables false
namespace RG
theorem lay_few : ∀ (f n : Nat) (l : List (List Nm × TE)), sizes l ≤ f → (∀ d ∈ layS n l, nodeOk d.e = true) → (∀ p ∈ l, p.1.length ≤ 16) → (vars (layS n l)).length ≤ 16 * sizes l
  | f, n, [], _, _, _ => by rw [layS_nil]; simp [vars]
  | 0, n, (bs, e) :: r, hf, _, _ => by rw [sizes_cons] at hf; have := e.size_pos; simp at hf; omega
  | f + 1, n, (bs, e) :: r, hf, hd, hp => by
    rw [sizes_cons] at hf
    simp only [] at hf
    rw [layS_cons] at hd ⊢
    have hs := e.size_kids
    have hok := hd _ List.mem_cons_self
    unfold nodeOk at hok
    simp only [Bool.and_eq_true, List.all_eq_true, decide_eq_true_eq] at hok
    have ih := lay_few f (n + 1) (e.kids ++ r) (by rw [sizes_append]; omega) (fun d h => hd d (List.mem_cons_of_mem _ h)) (fun p h => by
      rcases List.mem_append.1 h with h | h
      · exact hok.2 p h
      · exact hp p (List.mem_cons_of_mem _ h))
    have h0 := hp _ List.mem_cons_self
    simp only [] at h0
    rw [vars_cons, List.length_append, sizes_cons]
    rw [sizes_append] at ih
    simp only []
    omega
theorem Good.few {isName : Nm → Bool} {ps : List Nm} {e : TE} (h : Good isName ps e) : (vars (F0 ps e)).length ≤ 320000 := by
  have hs : sizes [(ps, e)] = e.size := by rw [sizes_cons, sizes_nil]; rfl
  have := lay_few e.size 0 [(ps, e)] (by rw [hs]; exact Nat.le_refl _) h.form (fun p hp => by simp at hp; rw [hp]; exact h.params)
  rw [hs] at this
  have := h.size
  unfold F0
  omega
theorem nodup_sub_len : ∀ {a b : List Int}, a.Nodup → (∀ x ∈ a, x ∈ b) → a.length ≤ b.length := fun {a b} h1 h2 => by
  by_cases h : b.length ≤ a.length
  · have := (RM.perm_of_sub h1 h2 h).length_eq; omega
  · omega
theorem vars_take_succ {F : List Nd} {i : Nat} (hi : i < F.length) : vars (F.take (i + 1)) = vars (F.take i) ++ (nd F i).binds := by
  unfold vars
  rw [List.take_add_one, nd_some hi, List.flatMap_append]
  simp
theorem named_le {F : List Nd} (q : Nm → Bool) : (named F q).length ≤ (vars F).length := List.length_filter_le _ _
end RG
namespace Go.Proofs.YtnkahlloahgifaaGreatDoor
open Go.RowKit RG Go.Maps
open Go.WideMaps (keyOf_string_mk)

/-- A look into the map of places, run. -/
theorem pmap_run {w : World} {b : Nat} {F : List Nd} (h : PMap w b (vars F)) {x : Nm} (hx : x ∈ vars F) : (Instr.lookup 116 (.map (some b)) (.string x) false).run Tryz.prog w = .ok (.int .i64 (place F x : Nat)) w := by
  obtain ⟨D, h1, h2, h3, h4⟩ := h
  obtain ⟨g1, g2, g3⟩ := h3 _ _ (place_at hx)
  obtain ⟨c, hrun, hat, _⟩ := h1.lookup_int keyed9 Tryz.underlying116 Tryz.underlying3 (zero3 w) (keyOf_string_mk Tryz.underlying9 g1)
  rw [g3] at hat
  simp at hat
  rw [← hat] at hrun
  exact hrun

/-- The row of an allocation under way. -/
structure AlS (w : World) (g : Nat) (F : List Nd) (regs : List Nat) (done : List Nm) (f : Nat → Value) : Prop where
  row : w.rowIs g 61 ((vars F).length * 2) f
  len : regs.length = (vars F).length
  reg : ∀ p, p < (vars F).length → f (p * 2 + 1) = .int .i64 ((regs.getD p 0 : Nat) : Int)
  nam : ∀ x ∈ done, x ∈ vars F → f (place F x * 2) = .string x
  small : ∀ r ∈ regs, r ≤ 1000000

section
variable {w w' : World} {g : Nat} {F : List Nd} {regs : List Nat} {done : List Nm} {f : Nat → Value}
theorem AlS.keep (h : AlS w g F regs done f) (hb : w'.heap[g]? = w.heap[g]?) : AlS w' g F regs done f := ⟨h.row.of_block hb, h.len, h.reg, h.nam, h.small⟩
theorem getD_small (h : ∀ r ∈ regs, r ≤ 1000000) (p : Nat) : regs.getD p 0 ≤ 1000000 := by
  rw [List.getD_eq_getElem?_getD]
  cases hq : regs[p]? with
  | none => simp
  | some r => exact h r (List.mem_of_getElem? hq)
theorem AlS.put (h : AlS w g F regs done f) {x : Nm} (hx : x ∈ vars F) {r : Nat} (hr : r ≤ 1000000) : ∃ f', AlS ((w.setCell ⟨g, place F x * 2, none⟩ (.string x)).setCell ⟨g, place F x * 2 + 1, none⟩ (.int .i64 (r : Int))) g F (regs.set (place F x) r) (done ++ [x]) f' := by
  have hp := place_lt hx
  refine ⟨_, ⟨(h.row.set _ _).set _ _, by rw [List.length_set]; exact h.len, fun p hpl => ?_, fun y hy hyv => ?_, fun q hq => ?_⟩⟩
  · show (if p * 2 + 1 = place F x * 2 + 1 then _ else if p * 2 + 1 = place F x * 2 then _ else f (p * 2 + 1)) = _
    by_cases e : p = place F x
    · subst e
      rw [if_pos rfl, List.getD_eq_getElem?_getD, List.getElem?_set_self (by rw [h.len]; exact hp)]; rfl
    · rw [if_neg (by omega), if_neg (by omega), h.reg p hpl, List.getD_eq_getElem?_getD, List.getD_eq_getElem?_getD, List.getElem?_set_ne (fun h => e h.symm)]
  · show (if place F y * 2 = place F x * 2 + 1 then _ else if place F y * 2 = place F x * 2 then _ else f (place F y * 2)) = _
    rw [if_neg (by omega)]
    by_cases e : place F y = place F x
    · rw [if_pos (by omega), place_inj hyv hx e]
    · rw [if_neg (by omega)]
      rcases List.mem_append.1 hy with hy | hy
      · exact h.nam y hy hyv
      · simp at hy; subst hy; exact absurd rfl e
  · rcases List.mem_or_eq_of_mem_set hq with hq | rfl
    · exact h.small q hq
    · exact hr
theorem AlS.vars (h : AlS w g F regs done f) (hn : (vars F).Nodup) (hd : ∀ x ∈ RG.vars F, x ∈ done) : VarsAt w (.slice (some ⟨g, 0, none⟩) (RG.vars F).length (RG.vars F).length) (pairs F regs) := by
  have hl : (pairs F regs).length = (RG.vars F).length := List.length_map _
  refine ⟨some ⟨g, 0, none⟩, (RG.vars F).length, by rw [hl], fun h0 => ⟨g, 0, rfl, fun i m hi => ?_⟩⟩
  obtain ⟨x, r⟩ := m
  obtain ⟨h1, h2⟩ := pairs_at hi
  have hil := (List.getElem?_eq_some_iff.1 h1).1
  have hxv := List.mem_of_getElem? h1
  have hpl := place_of hn h1
  rw [Nat.zero_add]
  constructor
  · rw [h.row.cell (by omega)]
    have := h.nam x (hd x hxv) hxv
    rw [hpl] at this
    rw [this]
  · rw [h.row.cell (by omega), h.reg i hil, h2]
    unfold regIn
    rw [hpl]
end

/-- What those that cross have so far. -/
def Tx (F : List Nd) (i : Nat) (regs : List Nat) (todo : Int → Bool) : List Nat := ((named F (cross F i)).filter fun x => !todo (place F x : Nat)).map fun x => regs.getD (place F x) 0
theorem Tx_start (F : List Nd) (i : Nat) (regs : List Nat) (todo : Int → Bool) (h : ∀ x ∈ named F (cross F i), todo (place F x : Nat) = true) : Tx F i regs todo = [] := by
  unfold Tx
  rw [List.filter_eq_nil_iff.2 (fun x hx => by rw [h x hx]; decide)]; rfl
theorem Tx_end (F : List Nd) (i : Nat) (regs : List Nat) (todo : Int → Bool) (h : ∀ k, todo k = false) : Tx F i regs todo = (named F (cross F i)).map fun x => regs.getD (place F x) 0 := by
  unfold Tx
  rw [List.filter_eq_self.2 (fun x hx => by rw [h]; rfl)]
theorem Tx_len (F : List Nd) (i : Nat) (regs : List Nat) (todo : Int → Bool) : (Tx F i regs todo).length ≤ (vars F).length := by
  unfold Tx
  rw [List.length_map]
  exact Nat.le_trans (List.length_filter_le _ _) (named_le _)
theorem Tx_step {F : List Nd} {i : Nat} {regs : List Nat} {todo : Int → Bool} {y : Nm} (hy : y ∈ vars F) (hc : cross F i y = true) (ht : todo (place F y : Nat) = true) (t : Int) :
    t ∈ ofNats (Tx F i regs todo) ++ [((regs.getD (place F y) 0 : Nat) : Int)] ↔ t ∈ ofNats (Tx F i regs fun k => todo k && !decide (k = (place F y : Nat))) := by
  unfold ofNats Tx
  simp only [List.mem_append, List.mem_map, List.mem_filter, List.mem_singleton, List.map_map]
  constructor
  · rintro (⟨x, ⟨hx, h1⟩, rfl⟩ | rfl)
    · exact ⟨x, ⟨hx, by simp at h1; simp [h1]⟩, rfl⟩
    · exact ⟨y, ⟨mem_named.2 ⟨hy, hc⟩, by simp⟩, rfl⟩
  · rintro ⟨x, ⟨hx, h1⟩, rfl⟩
    by_cases e : place F x = place F y
    · right; simp [e]
    · left
      have h2 : todo (place F x : Nat) = false := by
        simp at h1
        rcases h1 with h1 | h1
        · exact h1
        · exact absurd (by exact_mod_cast h1) e
      exact ⟨x, ⟨hx, by rw [h2]; rfl⟩, rfl⟩

theorem FnOk.boxedAt {Env : World → Prop} {isName : Nm → Bool} {w W : World} {v : Value} {ps : List Nm} {e : TE} (h : FnOk Env isName w v ps e) (hW : Below (w.alloc (.cells v.cells 29)).heap.size (w.alloc (.cells v.cells 29)) W) : Calls Tryz.prog 58 #[.pointer (some ⟨w.heap.size, 0, none⟩)] W (fun en w' => ReadP isName W ps e en w') := by
  have hb : Below w.heap.size w (w.alloc (.cells v.cells 29)) := (Below.refl _ _).alloc (Nat.le_refl _) _
  have hk : Kept w W := (kept_below hb).trans (kept_below hW)
  obtain ⟨nm, op, ch, pv, va, num, site, aa, ab, ca, cb, ga, oa, gb, ob, rfl, h1, h2, h3, h4, h5, h6⟩ := h.val
  have hn := heap_alloc_new w (.cells (Value.agg #[.string nm, .bool ch, pv, .int .i64 e.kind, .string e.name, .string op, .int .i64 num, .int .i64 site, va, .slice aa e.arms.length ca, .slice ab e.body.length cb]).cells 29)
  have hpv : ∃ a n c, pv = .slice a n c := by obtain ⟨ad, c, e, _⟩ := h1.at'; exact ⟨_, _, _, e⟩
  have hva : ∃ a n c, va = .slice a n c := by obtain ⟨ad, c, e, _⟩ := h2.at'; exact ⟨_, _, _, e⟩
  obtain ⟨pa, pn, pc, rfl⟩ := hpv
  obtain ⟨xa, xn, xc, rfl⟩ := hva
  have hcs : (Value.agg #[.string nm, .bool ch, .slice pa pn pc, .int .i64 e.kind, .string e.name, .string op, .int .i64 num, .int .i64 site, .slice xa xn xc, .slice aa e.arms.length ca, .slice ab e.body.length cb]).cells = #[.string nm, .bool ch, .slice pa pn pc, .int .i64 e.kind, .string e.name, .string op, .int .i64 num, .int .i64 site, .slice xa xn xc, .slice aa e.arms.length ca, .slice ab e.body.length cb] := rfl
  refine read_any h.law (h.law.keep _ _ _ (h.law.size _ h.env) h.env (hb.trans (hW.mono hb.size))) ?_ h.sz h.pl
  have hkW := kept_below hW
  rw [hcs] at hn
  rw [hcs] at hkW
  have c : ∀ i x, #[Value.string nm, .bool ch, .slice pa pn pc, .int .i64 e.kind, .string e.name, .string op, .int .i64 num, .int .i64 site, .slice xa xn xc, .slice aa e.arms.length ca, .slice ab e.body.length cb][i]? = some x → W.cell? ⟨w.heap.size, i, none⟩ = some x := fun i x hx => hkW _ _ (by rw [cell_of_row _ _ _ _ _ _ hn]; exact hx)
  refine ⟨⟨_, c 2 _ rfl, h1.kept hk⟩, ?_⟩
  obtain ⟨k, name, args, arms, body⟩ := e
  rw [TEAt]
  exact ⟨op, num, site, _, aa, ab, ca, cb, ga, oa, gb, ob, ⟨c 3 _ rfl, c 4 _ rfl, c 5 _ rfl, c 6 _ rfl⟩, ⟨c 7 _ rfl, c 8 _ rfl, c 9 _ rfl, c 10 _ rfl⟩, h2.kept hk, h3, TAAt.kept hk _ _ _ h4, h5, TBAt.kept hk _ _ _ h6⟩

/-- What 'make' lays. -/
theorem AlS.made {w : World} {F : List Nd} {n : Nat} (hn : n = (RG.vars F).length) : ∃ f, AlS (w.alloc (.cells (madeCells #[.string ⟨#[]⟩, .int .i64 0] (n * 2)) 61)) w.heap.size F ((RG.vars F).map fun _ => 0) [] f := by
  refine ⟨fun i => #[Value.string ⟨#[]⟩, .int .i64 0][i % 2]!, ⟨⟨_, heap_alloc_new w _, by rw [size_madeCells, hn], fun i hi => ?_⟩, by rw [List.length_map], fun p hp => ?_, fun x hx => absurd hx (by simp), fun r hr => by obtain ⟨_, _, rfl⟩ := List.mem_map.1 hr; omega⟩⟩
  · have hi2 : i < n * 2 := by omega
    simp [madeCells, hi2]
  · have e1 : (p * 2 + 1) % 2 = 1 := by omega
    have e2 : (((RG.vars F).map fun _ => (0 : Nat)).getD p 0) = 0 := by rw [List.getD_eq_getElem?_getD, List.getElem?_map]; cases (RG.vars F)[p]? <;> rfl
    show #[Value.string ⟨#[]⟩, .int .i64 0][(p * 2 + 1) % 2]! = _
    rw [e1, e2]; rfl

/-- Behind Allocate. -/
def AlP (isName : Nm → Bool) (w : World) (ps : List Nm) (e : TE) (en : Ending) (w' : World) : Prop :=
  Below w.heap.size w w' ∧ ((RG.Good isName ps e ∧ ∃ v, en = .returned (.tuple #[.agg #[.int .i64 ((alloc (F0 ps e)).2 : Nat), v], .int .i64 0]) ∧ VarsAt w' v (pairs (F0 ps e) (alloc (F0 ps e)).1)) ∨
    (¬ RG.Good isName ps e ∧ en = .returned (.tuple #[.agg #[.int .i64 0, .slice none 0 0], .int .i64 160])))
end Go.Proofs.YtnkahlloahgifaaGreatDoor
