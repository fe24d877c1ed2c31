/- CheckOrder as plain data: what the maps hold. No program in sight. The reference's CheckOrder as plain data: rows of registers. No program in sight. -/
import Derived.Test.YtnkahlloahgifaaGreatDoorPl
set_option linter.unusedSimpArgs false
set_option linter.unusedVariables false
namespace RM

/-- What a register has at the start: itself, but the spare one. -/
def sp (spare x : Int) : Int := if x = spare then -1 else x
theorem run_comp (τ : Int → Int) : ∀ (m : List Mv) (σ : Int → Int) (r : Int), run (fun x => τ (σ x)) m r = τ (run σ m r)
  | [], _, _ => rfl
  | a :: m, σ, r => by
    have h1 : run (fun x => τ (σ x)) (a :: m) = run (step (fun x => τ (σ x)) a) m := rfl
    have h2 : run σ (a :: m) = run (step σ a) m := rfl
    have h3 : step (fun x => τ (σ x)) a = fun x => τ (step σ a x) := by
      funext x; unfold step; by_cases e : x = a.1 <;> simp [e]
    rw [h1, h2, h3]
    exact run_comp τ m (step σ a) r
theorem run_sp (spare : Int) (m : List Mv) (r : Int) : run (sp spare) m r = sp spare (run id m r) := run_comp (sp spare) m id r
theorem run_snoc (σ : Int → Int) (a : List Mv) (x : Mv) : run σ (a ++ [x]) = step (run σ a) x := by rw [run_append]; rfl

/-- What is wanted, set move by move. -/
def setTo (σ : Int → Int) (m : Mv) : Int → Int := fun r => if r = m.1 then m.2 else σ r
def wantS (spare : Int) (l : List Mv) : Int → Int := l.foldl setTo (sp spare)
theorem wantS_snoc (spare : Int) (l : List Mv) (x : Mv) : wantS spare (l ++ [x]) = setTo (wantS spare l) x := by unfold wantS; rw [List.foldl_append]; rfl

theorem setTo_fold : ∀ (l : List Mv) (σ : Int → Int) (r : Int), (l.map (·.1)).Nodup → l.foldl setTo σ r = if l.any (fun o => decide (o.1 = r)) then want l r else σ r
  | [], σ, r, _ => rfl
  | m :: l, σ, r, hn => by
    rw [List.map_cons, List.nodup_cons] at hn
    rw [List.foldl_cons, setTo_fold l (setTo σ m) r hn.2, List.any_cons, want]
    cases h : l.any (fun o => decide (o.1 = r)) with
    | true => simp
    | false =>
      simp only [Bool.or_false, Bool.false_eq_true, if_false, decide_eq_true_eq]
      unfold setTo
      by_cases e : m.1 = r
      · simp [e]
      · rw [if_neg (Ne.symm e), if_neg e]

theorem isOf_cases {l : List Mv} {spare r : Int} : isOf l spare r = true ↔ r = spare ∨ ∃ m ∈ l, m.1 = r ∨ m.2 = r := by
  unfold isOf
  rw [Bool.or_eq_true, decide_eq_true_eq, List.any_eq_true]
  simp only [Bool.or_eq_true, decide_eq_true_eq]

theorem wantS_eq {l : List Mv} {spare r : Int} (h : areMoves l spare = true) (hr : r ≠ spare) : wantS spare l r = want l r := by
  obtain ⟨a1, a2, a3, a4⟩ := areMoves_iff.1 h
  unfold wantS
  rw [setTo_fold l _ _ a4]
  split
  · rfl
  · rename_i hn
    have : ∀ m ∈ l, m.1 ≠ r := fun m hm e => hn (List.any_eq_true.2 ⟨m, hm, by simp [e]⟩)
    rw [want_other this]
    unfold sp
    rw [if_neg hr]

theorem want_reg {l : List Mv} {spare r : Int} (h : areMoves l spare = true) (hr : r ≠ spare) (hk : isOf l spare r = true) : want l r ≠ spare ∧ 0 ≤ want l r := by
  obtain ⟨a1, a2, a3, a4⟩ := areMoves_iff.1 h
  have reg : ∀ x, isReg x = true → 0 ≤ x := fun x hx => by unfold isReg at hx; simp at hx; exact hx.1
  by_cases hq : ∃ m ∈ l, m.1 = r
  · obtain ⟨m, hm, rfl⟩ := hq
    rw [want_mem a4 hm]
    exact ⟨(a3 m hm).2.2.2, reg _ (a3 m hm).2.1⟩
  · rw [want_other (fun m hm e => hq ⟨m, hm, e⟩)]
    refine ⟨hr, ?_⟩
    rcases isOf_cases.1 hk with e | ⟨m, hm, e | e⟩
    · exact absurd e hr
    · exact absurd ⟨m, hm, e⟩ hq
    · rw [← e]; exact reg _ (a3 m hm).2.1

/-- What CheckOrder asks, by its maps. -/
theorem good_maps {l m : List Mv} {spare : Int} (h : areMoves l spare = true) :
    good l spare m = true ↔ m.length ≤ 32 ∧ (∀ x ∈ m, isOf l spare x.1 = true ∧ isOf l spare x.2 = true) ∧ ∀ r, isOf l spare r = true → r ≠ spare → run (sp spare) m r = wantS spare l r := by
  obtain ⟨a1, a2, a3, a4⟩ := areMoves_iff.1 h
  have key : ∀ r, isOf l spare r = true → r ≠ spare → (run (sp spare) m r = wantS spare l r ↔ run id m r = want l r) := fun r hk hr => by
    rw [wantS_eq h hr, run_sp]
    obtain ⟨w1, w2⟩ := want_reg h hr hk
    unfold sp
    by_cases e : run id m r = spare
    · rw [if_pos e, e]
      constructor
      · intro e2; omega
      · intro e2; exact absurd e2.symm w1
    · rw [if_neg e]
  constructor
  · intro hg
    unfold good at hg
    simp only [Bool.and_eq_true, decide_eq_true_eq, List.all_eq_true] at hg
    obtain ⟨⟨g1, g2⟩, g3⟩ := hg
    refine ⟨g1, fun x hx => ⟨(g2 x hx).2, (g2 x hx).1⟩, fun r hk hr => (key r hk hr).2 ?_⟩
    rcases isOf_cases.1 hk with e | ⟨x, hx, e | e⟩
    · exact absurd e hr
    · rw [← e]; exact (g3 x hx).1
    · rw [← e]; exact (g3 x hx).2
  · rintro ⟨g1, g2, g3⟩
    unfold good
    simp only [Bool.and_eq_true, decide_eq_true_eq, List.all_eq_true]
    refine ⟨⟨g1, fun x hx => ⟨(g2 x hx).2, (g2 x hx).1⟩⟩, fun x hx => ⟨?_, ?_⟩⟩
    · exact (key _ (isOf_mem hx).1 (a3 x hx).2.2.1).1 (g3 _ (isOf_mem hx).1 (a3 x hx).2.2.1)
    · exact (key _ (isOf_mem hx).2 (a3 x hx).2.2.2).1 (g3 _ (isOf_mem hx).2 (a3 x hx).2.2.2)

theorem isOf_snoc {l : List Mv} {spare r : Int} (x : Mv) : isOf (l ++ [x]) spare r = (isOf l spare r || (decide (x.1 = r) || decide (x.2 = r))) := by
  unfold isOf
  rw [List.any_append, Bool.or_assoc]
  simp
end RM

namespace RM

def movesR (l : List Mv) : Bool := decide (l.length ≤ 16) && ((l.all fun m => isReg m.1 && isReg m.2) && decide ((l.map (·.1)).Nodup))
theorem movesR_iff {l : List Mv} : movesR l = true ↔ l.length ≤ 16 ∧ (∀ m ∈ l, isReg m.1 = true ∧ isReg m.2 = true) ∧ (l.map (·.1)).Nodup := by
  unfold movesR
  simp only [Bool.and_eq_true, decide_eq_true_eq, List.all_eq_true]
theorem nodup_rows {l : List Int} : l.Nodup ↔ ∀ (i k : Nat) (a b : Int), k < i → l[i]? = some a → l[k]? = some b → b ≠ a := by
  rw [List.Nodup, List.pairwise_iff_getElem]
  constructor
  · intro h i k a b hki ha hb
    obtain ⟨h1, rfl⟩ := List.getElem?_eq_some_iff.1 ha
    obtain ⟨h2, rfl⟩ := List.getElem?_eq_some_iff.1 hb
    exact h k i h2 h1 hki
  · intro h i j hi hj hij
    exact h j i _ _ hij (List.getElem?_eq_getElem hj) (List.getElem?_eq_getElem hi)
theorem movesR_done {l : List Mv} (h1 : l.length ≤ 16) (h2 : ∀ (i : Nat) (a : Mv), l[i]? = some a → isReg a.1 = true ∧ isReg a.2 = true) (h3 : ∀ (i k : Nat) (a b : Mv), k < i → l[i]? = some a → l[k]? = some b → b.1 ≠ a.1) : movesR l = true := by
  refine movesR_iff.2 ⟨h1, fun m hm => ?_, nodup_rows.2 fun i k a b hki ha hb => ?_⟩
  · obtain ⟨i, hi⟩ := List.mem_iff_getElem?.1 hm
    exact h2 i m hi
  · rw [List.getElem?_map] at ha hb
    obtain ⟨x, hx, rfl⟩ := Option.map_eq_some_iff.1 ha
    obtain ⟨y, hy, rfl⟩ := Option.map_eq_some_iff.1 hb
    exact h3 i k x y hki hx hy
theorem movesR_bad {l : List Mv} {i : Nat} {a : Mv} (h : l[i]? = some a) (hb : ¬(isReg a.1 = true ∧ isReg a.2 = true)) : movesR l = false := by
  cases hm : movesR l with
  | false => rfl
  | true => exact absurd ((movesR_iff.1 hm).2.1 a (List.mem_of_getElem? h)) hb
theorem movesR_dup {l : List Mv} {i k : Nat} {a b : Mv} (hki : k < i) (h : l[i]? = some a) (h' : l[k]? = some b) (e : b.1 = a.1) : movesR l = false := by
  cases hm : movesR l with
  | false => rfl
  | true =>
    refine absurd e (nodup_rows.1 (movesR_iff.1 hm).2.2 i k a.1 b.1 hki ?_ ?_)
    · rw [List.getElem?_map, h]; rfl
    · rw [List.getElem?_map, h']; rfl
theorem areMoves_movesR {l : List Mv} {spare : Int} : areMoves l spare = true ↔ movesR l = true ∧ isReg spare = true ∧ ∀ m ∈ l, m.1 ≠ spare ∧ m.2 ≠ spare := by
  rw [areMoves_iff, movesR_iff]
  constructor
  · rintro ⟨h1, h2, h3, h4⟩
    exact ⟨⟨h1, fun m hm => ⟨(h3 m hm).1, (h3 m hm).2.1⟩, h4⟩, h2, fun m hm => (h3 m hm).2.2⟩
  · rintro ⟨⟨h1, h2, h3⟩, h4, h5⟩
    exact ⟨h1, h4, fun m hm => ⟨(h2 m hm).1, (h2 m hm).2, h5 m hm⟩, h3⟩
theorem areMoves_no {l : List Mv} {spare : Int} (h : movesR l = false) : areMoves l spare = false := by
  cases hm : areMoves l spare with
  | false => rfl
  | true => rw [(areMoves_movesR.1 hm).1] at h; cases h
theorem areMoves_noSpare {l : List Mv} {spare : Int} (h : isReg spare = false) : areMoves l spare = false := by
  cases hm : areMoves l spare with
  | false => rfl
  | true => rw [(areMoves_movesR.1 hm).2.1] at h; cases h
theorem areMoves_hit {l : List Mv} {spare : Int} {i : Nat} {a : Mv} (h : l[i]? = some a) (hb : a.1 = spare ∨ a.2 = spare) : areMoves l spare = false := by
  cases hm : areMoves l spare with
  | false => rfl
  | true =>
    obtain ⟨x, y⟩ := (areMoves_movesR.1 hm).2.2 a (List.mem_of_getElem? h)
    rcases hb with e | e
    · exact absurd e x
    · exact absurd e y
theorem areMoves_done {l : List Mv} {spare : Int} (h1 : movesR l = true) (h2 : isReg spare = true) (h3 : ∀ (i : Nat) (a : Mv), l[i]? = some a → a.1 ≠ spare ∧ a.2 ≠ spare) : areMoves l spare = true := by
  refine areMoves_movesR.2 ⟨h1, h2, fun m hm => ?_⟩
  obtain ⟨i, hi⟩ := List.mem_iff_getElem?.1 hm
  exact h3 i m hi

/-- The registers, each once, in order. -/
def addR (rs : List Int) (x : Int) : List Int := if x ∈ rs then rs else rs ++ [x]
def regsS (spare : Int) (l : List Mv) : List Int := l.foldl (fun rs m => addR (addR rs m.1) m.2) [spare]
theorem regsS_snoc (spare : Int) (l : List Mv) (m : Mv) : regsS spare (l ++ [m]) = addR (addR (regsS spare l) m.1) m.2 := by unfold regsS; rw [List.foldl_append]; rfl
theorem regsS_take (spare : Int) {l : List Mv} {k : Nat} {m : Mv} (h : l[k]? = some m) : regsS spare (l.take (k + 1)) = addR (addR (regsS spare (l.take k)) m.1) m.2 := by
  rw [List.take_add_one, h]; exact regsS_snoc spare _ m
theorem mem_addR {rs : List Int} {x r : Int} : r ∈ addR rs x ↔ r ∈ rs ∨ r = x := by
  unfold addR
  split
  · rename_i h
    constructor
    · exact .inl
    · rintro (h1 | rfl)
      · exact h1
      · exact h
  · simp
theorem addR_nodup {rs : List Int} {x : Int} (h : rs.Nodup) : (addR rs x).Nodup := by
  unfold addR
  split
  · exact h
  · rename_i hx
    rw [List.nodup_append]
    refine ⟨h, by simp, fun a ha b hb => ?_⟩
    simp at hb
    intro e
    exact hx (by rw [← hb, ← e]; exact ha)
theorem addR_len (rs : List Int) (x : Int) : (addR rs x).length ≤ rs.length + 1 := by
  unfold addR
  split <;> simp
theorem addR_head {rs : List Int} {x a : Int} (h : rs[0]? = some a) : (addR rs x)[0]? = some a := by
  unfold addR
  split
  · exact h
  · rw [List.getElem?_append_left ((List.getElem?_eq_some_iff.1 h).1)]; exact h
theorem fold_mem : ∀ (l : List Mv) (rs : List Int) (r : Int), r ∈ l.foldl (fun rs m => addR (addR rs m.1) m.2) rs ↔ r ∈ rs ∨ ∃ m ∈ l, m.1 = r ∨ m.2 = r
  | [], rs, r => by simp
  | m :: l, rs, r => by
    rw [List.foldl_cons, fold_mem l, mem_addR, mem_addR]
    simp only [List.mem_cons, exists_eq_or_imp]
    constructor
    · rintro (((h | h) | h) | h)
      · exact .inl h
      · exact .inr (.inl (.inl h.symm))
      · exact .inr (.inl (.inr h.symm))
      · exact .inr (.inr h)
    · rintro (h | (h | h) | h)
      · exact .inl (.inl (.inl h))
      · exact .inl (.inl (.inr h.symm))
      · exact .inl (.inr h.symm)
      · exact .inr h
theorem mem_regsS {l : List Mv} {spare r : Int} : r ∈ regsS spare l ↔ isOf l spare r = true := by
  rw [isOf_cases]
  unfold regsS
  rw [fold_mem]
  simp
theorem fold_ok : ∀ (l : List Mv) (rs : List Int) (a : Int), rs.Nodup → rs[0]? = some a → (l.foldl (fun rs m => addR (addR rs m.1) m.2) rs).Nodup ∧ (l.foldl (fun rs m => addR (addR rs m.1) m.2) rs)[0]? = some a ∧ (l.foldl (fun rs m => addR (addR rs m.1) m.2) rs).length ≤ rs.length + 2 * l.length
  | [], rs, a, h1, h2 => ⟨h1, h2, Nat.le_refl _⟩
  | m :: l, rs, a, h1, h2 => by
    obtain ⟨e1, e2, e3⟩ := fold_ok l (addR (addR rs m.1) m.2) a (addR_nodup (addR_nodup h1)) (addR_head (addR_head h2))
    rw [List.foldl_cons]
    refine ⟨e1, e2, Nat.le_trans e3 ?_⟩
    have x1 := addR_len rs m.1
    have x2 := addR_len (addR rs m.1) m.2
    rw [List.length_cons]
    omega
theorem regsS_ok (l : List Mv) (spare : Int) : (regsS spare l).Nodup ∧ (regsS spare l)[0]? = some spare ∧ (regsS spare l).length ≤ 1 + 2 * l.length := fold_ok l [spare] spare (by simp) rfl

/-- The place of a register; -1 : none. -/
def ofZ (rs : List Int) (x : Int) : Int := if x ∈ rs then (rs.idxOf x : Int) else -1
theorem ofZ_none {rs : List Int} {x : Int} (h : ∀ (j : Nat) (a : Int), rs[j]? = some a → a ≠ x) : ofZ rs x = -1 := by
  unfold ofZ
  rw [if_neg]
  intro hm
  obtain ⟨j, hj⟩ := List.mem_iff_getElem?.1 hm
  exact h j x hj rfl
theorem ofZ_neg {rs : List Int} {x : Int} : ofZ rs x < 0 ↔ x ∉ rs := by
  unfold ofZ
  split
  · rename_i h
    constructor
    · intro h'; omega
    · intro h'; exact absurd h h'
  · rename_i h
    constructor
    · intro _; exact h
    · intro _; omega
theorem ofZ_at {rs : List Int} {x : Int} {i : Nat} (hi : rs[i]? = some x) (h : ∀ (j : Nat) (a : Int), j < i → rs[j]? = some a → a ≠ x) : ofZ rs x = i := by
  unfold ofZ
  have hm : x ∈ rs := List.mem_of_getElem? hi
  rw [if_pos hm]
  have hl : rs.idxOf x < rs.length := List.idxOf_lt_length_of_mem hm
  have he : rs[rs.idxOf x]? = some x := by rw [List.getElem?_eq_getElem hl, List.getElem_idxOf]
  have h1 : ¬ rs.idxOf x < i := fun hlt => h _ x hlt he rfl
  have h2 : rs.idxOf x ≤ i := by
    apply Nat.le_of_not_lt
    intro hlt
    have := List.not_of_lt_findIdx (p := (· == x)) (xs := rs) (i := i) hlt
    obtain ⟨hh, hx⟩ := List.getElem?_eq_some_iff.1 hi
    simp [hx] at this
  omega
theorem ofZ_mem {rs : List Int} {x : Int} (h : x ∈ rs) : ∃ i, ofZ rs x = (i : Nat) ∧ rs[i]? = some x := by
  refine ⟨rs.idxOf x, if_pos h, ?_⟩
  rw [List.getElem?_eq_getElem (List.idxOf_lt_length_of_mem h), List.getElem_idxOf]

/-- What the registers have behind some moves, row by row. -/
def hadS (rs : List Int) (ms : List Mv) : List Int := rs.map (run id ms)
theorem hadS_nil (rs : List Int) : hadS rs [] = rs := by unfold hadS run; simp
theorem hadS_at {rs : List Int} {ms : List Mv} {i : Nat} {x : Int} (h : rs[i]? = some x) : (hadS rs ms)[i]? = some (run id ms x) := by unfold hadS; rw [List.getElem?_map, h]; rfl
theorem hadS_step {rs : List Int} {ms : List Mv} (hn : rs.Nodup) {a b : Int} {i j : Nat} (hi : rs[i]? = some a) (hj : rs[j]? = some b) : hadS rs (ms ++ [(a, b)]) = (hadS rs ms).set i (run id ms b) := by
  apply List.ext_getElem?
  intro k
  rw [List.getElem?_set]
  unfold hadS
  simp only [List.getElem?_map, List.length_map]
  by_cases e : i = k
  · subst e
    have hl := (List.getElem?_eq_some_iff.1 hi).1
    rw [if_pos rfl, if_pos hl, hi, run_snoc]
    simp [step]
  · rw [if_neg e]
    cases hk : rs[k]? with
    | none => rfl
    | some r =>
      simp only [Option.map_some, Option.some.injEq]
      rw [run_snoc]
      unfold step
      rw [if_neg]
      intro er
      simp only at er
      subst er
      rcases Nat.lt_trichotomy i k with h | h | h
      · exact nodup_rows.1 hn k i r r h hk hi rfl
      · exact e h
      · exact nodup_rows.1 hn i k r r h hi hk rfl

theorem good_rows {l m : List Mv} {spare : Int} (h : areMoves l spare = true) :
    good l spare m = true ↔ m.length ≤ 32 ∧ (∀ x ∈ m, isOf l spare x.1 = true ∧ isOf l spare x.2 = true) ∧ ∀ r, isOf l spare r = true → r ≠ spare → run id m r = wantS spare l r := by
  rw [good_maps h]
  refine and_congr Iff.rfl (and_congr Iff.rfl (forall_congr' fun r => forall_congr' fun hk => forall_congr' fun hr => ?_))
  rw [run_sp, wantS_eq h hr]
  obtain ⟨w1, w2⟩ := want_reg h hr hk
  unfold sp
  by_cases e : run id m r = spare
  · rw [if_pos e, e]
    constructor
    · intro e2; omega
    · intro e2; exact absurd e2.symm w1
  · rw [if_neg e]
theorem wantS_take (spare : Int) {l : List Mv} {k : Nat} {m : Mv} (h : l[k]? = some m) (r : Int) : wantS spare (l.take (k + 1)) r = if r = m.1 then m.2 else wantS spare (l.take k) r := by
  rw [List.take_add_one, h]
  show wantS spare (l.take k ++ [m]) r = _
  rw [wantS_snoc]; rfl
theorem regs_other {l : List Mv} {spare r : Int} {i : Nat} (hi : 0 < i) (h : (regsS spare l)[i]? = some r) : r ≠ spare := by
  obtain ⟨h1, h2, h3⟩ := regsS_ok l spare
  exact fun e => nodup_rows.1 h1 i 0 r spare hi h h2 e.symm
end RM

