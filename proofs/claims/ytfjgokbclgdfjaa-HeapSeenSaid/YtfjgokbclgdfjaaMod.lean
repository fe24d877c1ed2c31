/- Mod. -/
import Derived.Test.YtfjgokbclgdfjaaCell
set_option linter.unusedSimpArgs false
set_option linter.unusedVariables false
namespace Go.Proofs.Ytfjgokbclgdfjaa
open Go.RowKit HM

/-- What a slot is as a word. -/
def slotW (hs : List (Option Nat)) (r : Bool) (m : Int) : Option W := if r then (atH hs m).map W.obj else some (.num m)

def wval (A : Ad) (x : W) : Value := .agg #[.int .i64 (wnum x), wptr A x]

theorem word_any {w : World} {ρ : Nat → Nat} {A : Ad} {s : S} (h : Rep w ρ A s) (hl : s.handles.length < 60000) (r : Bool) (m : Int) (x : W) (hx : slotW s.handles r m = some x) :
    Calls Try.prog 48 #[.pointer (some ⟨A.hb, 0, none⟩), slotV r m] w fun e w' => e = .returned (.tuple #[wval A x, .bool true]) ∧ Ch (fun _ => False) ρ ρ w w' := by
  unfold slotW at hx
  cases r with
  | false =>
    simp at hx
    subst hx
    exact word_num h.rho _ m
  | true =>
    simp only [if_true] at hx
    obtain ⟨i, hi, rfl⟩ := Option.map_eq_some_iff.1 hx
    obtain ⟨kk, e, hk⟩ := atH_some hi
    have h1 := (List.getElem?_eq_some_iff.1 hk).1
    have := word_ref h m (by omega)
    rw [hi] at this
    exact this

theorem slotW_ref {hs : List (Option Nat)} {r : Bool} {m : Int} {q : Nat} (h : slotW hs r m = some (.obj q)) : ∃ j : Nat, hs[j]? = some (some q) := by
  unfold slotW at h
  cases r with
  | false => simp at h
  | true =>
    simp only [if_true] at h
    obtain ⟨i, hi, e⟩ := Option.map_eq_some_iff.1 h
    simp at e
    subst e
    obtain ⟨kk, _, hk⟩ := atH_some hi
    exact ⟨kk, hk⟩

set_option maxHeartbeats 800000 in
set_option maxRecDepth 20000 in
theorem mod_gen {w : World} {ρ : Nat → Nat} {A : Ad} {s : S} (h : Rep w ρ A s) (hw : WF s) (hb : Bd s) (hhl : s.handles.length < 60000) (r : Bool) (m : Int) (x : W) (hx : slotW s.handles r m = some x) (a er : Int) (Post : World → Prop)
    (hmake : ∀ w1 g1, Pre w1 ρ A s [x] g1 0 1 → Ch (fun _ => False) ρ ρ w w1 → Calls Try.prog 49 #[.pointer (some ⟨A.hb, 0, none⟩), .int .i64 (-1), .slice (some ⟨g1, 0, none⟩) 1 1] w1 fun e w' => e = .returned (.tuple #[.int .i64 a, .int .i64 er]) ∧ Post w') :
    Calls Try.prog 44 #[.pointer (some ⟨A.hb, 0, none⟩), slotV r m] w fun e w' => e = .returned (.tuple #[.int .i64 a, .int .i64 er]) ∧ Post w' := by
  have HR := Lib.hid h
  have HW := Lib.hid hw
  have HB := Lib.hid hb
  have HL := Lib.hid hhl
  have HX := Lib.hid hx
  have HM := Lib.hid hmake
  clear h hw hb hhl hx hmake
  obtain ⟨pp, hpp⟩ : ∃ pp, wptr A x = .pointer pp := by cases x <;> exact ⟨_, rfl⟩
  have HPP := Lib.hid hpp
  clear hpp
  unfold slotV
  go_enter Try.func44, Try.ntmps44
  go_wp2_with fail
  refine (word_any (HR.out.alloc (.cells #[.bool r, .int .i64 m] 32)) HL.out r m x HX.out).mono ?_
  rintro e w3 ⟨rfl, hc3⟩
  unfold wval
  rw [HPP.out]
  obtain ⟨y, hy⟩ : ∃ y, y = wnum x := ⟨_, rfl⟩
  rw [← hy]
  have HC := Lib.hid hc3
  have HY := Lib.hid hy
  clear hc3 hy
  go_wp2_with fail
  have hcw : Ch (fun _ => False) ρ ρ w ((w3.alloc (.cells #[.int .i64 y, .pointer pp] 85)).alloc (.cells #[.int .i64 y, .pointer pp] 85)) := ((((Ch.refl HR.out.rho).alloc _).trans HC.out).alloc _).alloc _
  have hg : ((w3.alloc (.cells #[.int .i64 y, .pointer pp] 85)).alloc (.cells #[.int .i64 y, .pointer pp] 85)).heap[w3.heap.size + 1]? = some (.cells #[.int .i64 y, .pointer pp] 85 (0, 0)) := by
    have := heap_alloc_new (w3.alloc (.cells #[.int .i64 y, .pointer pp] 85)) (.cells #[.int .i64 y, .pointer pp] 85)
    simpa using this
  have hpre : Pre ((w3.alloc (.cells #[.int .i64 y, .pointer pp] 85)).alloc (.cells #[.int .i64 y, .pointer pp] 85)) ρ A s [x] (w3.heap.size + 1) 0 1 := by
    refine ⟨HR.out.frame hcw (fun _ h => h.elim), HW.out, HB.out, HL.out, rfl, by decide, fun j x' hx' => ?_, HR.out.rho _ (by have := HC.out.size; simp at this; omega), (Array.getElem?_eq_some_iff.1 hg).1, fun q hq => ?_⟩
    · cases j with
      | zero =>
        simp at hx'
        subst hx'
        rw [cell_of_row _ _ _ _ _ _ hg, cell_of_row _ _ _ _ _ _ hg, HPP.out, ← HY.out]
        exact ⟨rfl, rfl⟩
      | succ j => simp at hx'
    · simp at hq
      exact slotW_ref (by rw [HX.out, ← hq])
  have N1 := Lib.hid (HM.out _ _ hpre hcw)
  clear hpre hcw hg
  refine (N1.out).mono ?_
  rintro e w4 ⟨rfl, hpost⟩
  have N2 := Lib.hid hpost
  clear hpost
  go_wp2_with fail
  go_returns
  exact ⟨rfl, N2.out⟩
end Go.Proofs.Ytfjgokbclgdfjaa
