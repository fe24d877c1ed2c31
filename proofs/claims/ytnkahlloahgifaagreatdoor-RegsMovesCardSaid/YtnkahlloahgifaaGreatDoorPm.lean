/- CheckOrder as plain data: what the maps hold. No program in sight. -/
import Derived.Test.YtnkahlloahgifaaGreatDoorPl
set_option linter.unusedSimpArgs false
set_option linter.unusedVariables false
namespace RM

/-- What a register has at the start: itself, but the spare one. -/
def sp (spare x : Int) : Int := if x = spare then -1 else x
theorem run_comp (τ : Int → Int) : ∀ (m : List Mv) (σ : Int → Int) (r : Int), run (fun x => τ (σ x)) m r = τ (run σ m r)
  | [], _, _ => rfl
  | a :: m, σ, r => by
    have h1 : run (fun x => τ (σ x)) (a :: m) = run (step (fun x => τ (σ x)) a) m := rfl
    have h2 : run σ (a :: m) = run (step σ a) m := rfl
    have h3 : step (fun x => τ (σ x)) a = fun x => τ (step σ a x) := by
      funext x; unfold step; by_cases e : x = a.1 <;> simp [e]
    rw [h1, h2, h3]
    exact run_comp τ m (step σ a) r
theorem run_sp (spare : Int) (m : List Mv) (r : Int) : run (sp spare) m r = sp spare (run id m r) := run_comp (sp spare) m id r
theorem run_snoc (σ : Int → Int) (a : List Mv) (x : Mv) : run σ (a ++ [x]) = step (run σ a) x := by rw [run_append]; rfl

/-- What is wanted, set move by move. -/
def setTo (σ : Int → Int) (m : Mv) : Int → Int := fun r => if r = m.1 then m.2 else σ r
def wantS (spare : Int) (l : List Mv) : Int → Int := l.foldl setTo (sp spare)
theorem wantS_snoc (spare : Int) (l : List Mv) (x : Mv) : wantS spare (l ++ [x]) = setTo (wantS spare l) x := by unfold wantS; rw [List.foldl_append]; rfl

theorem setTo_fold : ∀ (l : List Mv) (σ : Int → Int) (r : Int), (l.map (·.1)).Nodup → l.foldl setTo σ r = if l.any (fun o => decide (o.1 = r)) then want l r else σ r
  | [], σ, r, _ => rfl
  | m :: l, σ, r, hn => by
    rw [List.map_cons, List.nodup_cons] at hn
    rw [List.foldl_cons, setTo_fold l (setTo σ m) r hn.2, List.any_cons, want]
    cases h : l.any (fun o => decide (o.1 = r)) with
    | true => simp
    | false =>
      simp only [Bool.or_false, Bool.false_eq_true, if_false, decide_eq_true_eq]
      unfold setTo
      by_cases e : m.1 = r
      · simp [e]
      · rw [if_neg (Ne.symm e), if_neg e]

theorem isOf_cases {l : List Mv} {spare r : Int} : isOf l spare r = true ↔ r = spare ∨ ∃ m ∈ l, m.1 = r ∨ m.2 = r := by
  unfold isOf
  rw [Bool.or_eq_true, decide_eq_true_eq, List.any_eq_true]
  simp only [Bool.or_eq_true, decide_eq_true_eq]

theorem wantS_eq {l : List Mv} {spare r : Int} (h : areMoves l spare = true) (hr : r ≠ spare) : wantS spare l r = want l r := by
  obtain ⟨a1, a2, a3, a4⟩ := areMoves_iff.1 h
  unfold wantS
  rw [setTo_fold l _ _ a4]
  split
  · rfl
  · rename_i hn
    have : ∀ m ∈ l, m.1 ≠ r := fun m hm e => hn (List.any_eq_true.2 ⟨m, hm, by simp [e]⟩)
    rw [want_other this]
    unfold sp
    rw [if_neg hr]

theorem want_reg {l : List Mv} {spare r : Int} (h : areMoves l spare = true) (hr : r ≠ spare) (hk : isOf l spare r = true) : want l r ≠ spare ∧ 0 ≤ want l r := by
  obtain ⟨a1, a2, a3, a4⟩ := areMoves_iff.1 h
  have reg : ∀ x, isReg x = true → 0 ≤ x := fun x hx => by unfold isReg at hx; simp at hx; exact hx.1
  by_cases hq : ∃ m ∈ l, m.1 = r
  · obtain ⟨m, hm, rfl⟩ := hq
    rw [want_mem a4 hm]
    exact ⟨(a3 m hm).2.2.2, reg _ (a3 m hm).2.1⟩
  · rw [want_other (fun m hm e => hq ⟨m, hm, e⟩)]
    refine ⟨hr, ?_⟩
    rcases isOf_cases.1 hk with e | ⟨m, hm, e | e⟩
    · exact absurd e hr
    · exact absurd ⟨m, hm, e⟩ hq
    · rw [← e]; exact reg _ (a3 m hm).2.1

/-- What CheckOrder asks, by its maps. -/
theorem good_maps {l m : List Mv} {spare : Int} (h : areMoves l spare = true) :
    good l spare m = true ↔ m.length ≤ 32 ∧ (∀ x ∈ m, isOf l spare x.1 = true ∧ isOf l spare x.2 = true) ∧ ∀ r, isOf l spare r = true → r ≠ spare → run (sp spare) m r = wantS spare l r := by
  obtain ⟨a1, a2, a3, a4⟩ := areMoves_iff.1 h
  have key : ∀ r, isOf l spare r = true → r ≠ spare → (run (sp spare) m r = wantS spare l r ↔ run id m r = want l r) := fun r hk hr => by
    rw [wantS_eq h hr, run_sp]
    obtain ⟨w1, w2⟩ := want_reg h hr hk
    unfold sp
    by_cases e : run id m r = spare
    · rw [if_pos e, e]
      constructor
      · intro e2; omega
      · intro e2; exact absurd e2.symm w1
    · rw [if_neg e]
  constructor
  · intro hg
    unfold good at hg
    simp only [Bool.and_eq_true, decide_eq_true_eq, List.all_eq_true] at hg
    obtain ⟨⟨g1, g2⟩, g3⟩ := hg
    refine ⟨g1, fun x hx => ⟨(g2 x hx).2, (g2 x hx).1⟩, fun r hk hr => (key r hk hr).2 ?_⟩
    rcases isOf_cases.1 hk with e | ⟨x, hx, e | e⟩
    · exact absurd e hr
    · rw [← e]; exact (g3 x hx).1
    · rw [← e]; exact (g3 x hx).2
  · rintro ⟨g1, g2, g3⟩
    unfold good
    simp only [Bool.and_eq_true, decide_eq_true_eq, List.all_eq_true]
    refine ⟨⟨g1, fun x hx => ⟨(g2 x hx).2, (g2 x hx).1⟩⟩, fun x hx => ⟨?_, ?_⟩⟩
    · exact (key _ (isOf_mem hx).1 (a3 x hx).2.2.1).1 (g3 _ (isOf_mem hx).1 (a3 x hx).2.2.1)
    · exact (key _ (isOf_mem hx).2 (a3 x hx).2.2.2).1 (g3 _ (isOf_mem hx).2 (a3 x hx).2.2.2)

theorem isOf_snoc {l : List Mv} {spare r : Int} (x : Mv) : isOf (l ++ [x]) spare r = (isOf l spare r || (decide (x.1 = r) || decide (x.2 = r))) := by
  unfold isOf
  rw [List.any_append, Bool.or_assoc]
  simp
end RM
