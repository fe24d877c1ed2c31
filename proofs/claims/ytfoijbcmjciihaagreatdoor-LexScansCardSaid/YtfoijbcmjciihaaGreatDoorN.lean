/- Long and Scan: walked. -/
import Derived.Test.YtfoijbcmjciihaaGreatDoorM
set_option linter.unusedSimpArgs false
set_option linter.unusedVariables false
namespace Go.Proofs.YtfoijbcmjciihaaGreatDoor
namespace LX
def Res.toks : Res → List Tok
  | .ok l _ => l
  | .bad _ _ => []
def Res.spot : Res → Nat
  | .ok _ _ => 0
  | .bad p _ => p
def Res.err : Res → Nat
  | .ok _ _ => 0
  | .bad _ e => e
/-- What a text of at most so many bytes has. -/
def up (most : Nat) (l : List Nat) : Res := if most < l.length then .bad 0 2 else scan l
end LX
open Go.RowKit

/-- What Scan and Long leave. -/
def TkPost (w : World) (r : LX.Res) (e : Ending) (w' : World) : Prop :=
  ∃ a c, e = .returned (.tuple #[.slice a r.toks.length c, .int .i64 r.spot, .int .i64 r.err]) ∧ w'.ownsRow w.heap.size 42 4 (.slice a r.toks.length c) r.toks.length (flatT r.toks) ∧ Below w.heap.size w w'

theorem tk_bad {w w' : World} (p e : Nat) (h : Below w.heap.size w w') : TkPost w (.bad p e) (.returned (.tuple #[.slice none 0 0, .int .i64 p, .int .i64 e])) w' :=
  ⟨none, 0, rfl, World.ownsRow_nil _ _ _ _, h⟩

theorem owns_slice {w : World} {base e size n : Nat} {v : Value} {xs : List Value} (h : w.ownsRow base e size v n xs) : ∃ a c, v = .slice a n c := by
  rcases h.2 with ⟨rfl, h0⟩ | ⟨g, cap, cur, rfl, _⟩
  · rw [h0]; exact ⟨_, _, rfl⟩
  · exact ⟨_, _, rfl⟩

set_option maxHeartbeats 400000 in
set_option maxRecDepth 20000 in
theorem long_any {w : World} (henv : Env w) (s : ByteArray) (hmax : s.size ≤ 9223372036854775807) : Calls Tryz.prog 11 #[.string s] w (TkPost w (LX.up 400000 (bts s))) := by
  obtain ⟨r, hr⟩ : ∃ r, r = LX.up 400000 (bts s) := ⟨_, rfl⟩
  rw [← hr]
  unfold LX.up at hr
  rw [bts_length] at hr
  by_cases hs : 400000 < s.size
  · rw [if_pos hs] at hr
    subst hr
    have hz : (400000 : Int) < (s.size : Int) := by omega
    clear hs
    go_enter Tryz.func11, Tryz.ntmps11
    go_wp2_with fail
    go_ret3
    exact tk_bad 0 2 (Below.refl _ _)
  · rw [if_neg hs] at hr
    have hz : (s.size : Int) ≤ 400000 := by omega
    have SC := Lib.hid (scanned_any henv s (by omega))
    have HR := Lib.hid hr
    clear hs hr
    go_enter Tryz.func11, Tryz.ntmps11
    go_wp2_with fail
    refine SC.out.mono ?_
    intro e w1 hp
    unfold SPost at hp
    rw [← HR.out] at hp
    cases r with
    | ok ts cs =>
      obtain ⟨b, mb, i, cv, tv, rfl, _, _, hrow, hb, _, _⟩ := hp
      obtain ⟨a, c, rfl⟩ := owns_slice hrow
      have HB := Lib.hid hb
      have HO := Lib.hid hrow
      obtain ⟨tn, htn⟩ : ∃ n, n = ts.length := ⟨_, rfl⟩
      rw [← htn]
      have TN := Lib.hid htn
      clear hb hrow htn
      go_wp2_with fail
      go_quiet (fail)
      go_wp2_with fail
      go_ret3
      refine ⟨a, c, by rw [TN.out]; rfl, ?_, ?_⟩
      · have h1 := HO.out
        exact owns_keep h1 fun k hk => by
          obtain ⟨_, q, hq⟩ := owns_blk h1 hk
          exact Below.heap_alloc _ _ _ (Array.getElem?_eq_some_iff.1 hq).1
      · exact below_drawn (HB.out.trans ((Below.refl _ _).alloc (HB.out.size) _)) _
    | bad p er =>
      obtain ⟨b, rfl, hb⟩ := hp
      have HB := Lib.hid hb
      clear hb
      go_wp2_with fail
      go_quiet (fail)
      go_wp2_with fail
      go_ret3
      exact tk_bad p er (below_drawn (HB.out.trans ((Below.refl _ _).alloc (HB.out.size) _)) _)

set_option maxHeartbeats 400000 in
theorem scan_any {w : World} (henv : Env w) (s : ByteArray) (hmax : s.size ≤ 9223372036854775807) : Calls Tryz.prog 7 #[.string s] w (TkPost w (LX.up 20000 (bts s))) := by
  by_cases hs : 20000 < s.size
  · have hr : LX.up 20000 (bts s) = .bad 0 2 := by unfold LX.up; rw [bts_length, if_pos hs]
    rw [hr]
    have hz : (20000 : Int) < (s.size : Int) := by omega
    clear hs hr henv
    go_enter Tryz.func7, Tryz.ntmps7
    go_wp2_with fail
    go_ret3
    exact tk_bad 0 2 (Below.refl _ _)
  · have hr : LX.up 20000 (bts s) = LX.up 400000 (bts s) := by
      unfold LX.up; rw [bts_length, if_neg hs, if_neg (by omega)]
    rw [hr]
    have hz : (s.size : Int) ≤ 20000 := by omega
    have LA := Lib.hid (long_any henv s hmax)
    clear hs hr henv
    obtain ⟨r, hr⟩ : ∃ r, r = LX.up 400000 (bts s) := ⟨_, rfl⟩
    rw [← hr] at LA ⊢
    clear hr
    go_enter Tryz.func7, Tryz.ntmps7
    go_wp2_with fail
    refine LA.out.mono ?_
    rintro e w1 ⟨a, c, rfl, hrow, hb⟩
    have HB := Lib.hid hb
    have HO := Lib.hid hrow
    obtain ⟨tn, htn⟩ : ∃ n, n = r.toks.length := ⟨_, rfl⟩
    rw [← htn]
    have TN := Lib.hid htn
    clear hb hrow htn
    go_wp2_with fail
    go_ret3
    exact ⟨a, c, by rw [TN.out]; rfl, HO.out, HB.out⟩
end Go.Proofs.YtfoijbcmjciihaaGreatDoor
