/- The walk of the statement on New. -/
import Derived.Test.YtfjgokbclgdfjaaNa
import Derived.Test.YtfjgokbclgdfjaaGm2
namespace Go.Proofs.Ytfjgokbclgdfjaa
open Go.RowKit HM

set_option maxHeartbeats 1000000 in
set_option maxRecDepth 20000 in
theorem news_walk (a0 : Int) (_ : (Lit.int .i64 a0).wf = true) (w : World) :
    Calls Try.prog 9 #[.int .i64 a0] w fun e w' => e = .returned (.bool true) ∧ ∃ ρ', Ch Mine (fun _ => 0) ρ' w w' := by
  by_cases hok : a0 < 4 ∨ 60000 < a0
  · go_enter Try.func9, Try.ntmps9
    go_wp2_with fail
    refine (sane_any w).mono ?_
    rintro e v1 ⟨rfl, ρ1, hc⟩
    have H1 := Lib.hid hc
    have HO := Lib.hid hok
    clear hc hok
    go_wp2_with fail
    refine (new_err v1 a0 HO.out).mono ?_
    rintro e v1 ⟨rfl, rfl⟩
    go_wp2_with fail
    refine (ref_new_err v1 a0 HO.out).mono ?_
    rintro e v1 ⟨rfl, rfl⟩
    go_wp2_with fail
    go_ret
    exact ⟨rfl, ρ1, H1.out⟩
  · obtain ⟨n, hn⟩ : ∃ n : Nat, (n : Int) = a0 := ⟨a0.toNat, by omega⟩
    have hn4 : 4 ≤ n ∧ n ≤ 60000 := by omega
    subst hn
    go_enter Try.func9, Try.ntmps9
    go_wp2_with fail
    refine (sane_any w).mono ?_
    rintro e v1 ⟨rfl, ρ1, hc⟩
    have H1 := Lib.hid hc
    have HO := Lib.hid hn4
    clear hc hn4 hok
    go_wp2_with fail
    refine (new_rep (w := v1) (ρ := ρ1) H1.out.fresh n HO.out.1 HO.out.2).mono ?_
    rintro e v2 ⟨A, ρ2, rfl, hr, hc⟩
    have G2 : Hid (Gm w v2 ρ2 A (S.new n)) := ⟨hr, wf_new n, ⟨by have := HO.out.2; show n ≤ _; omega, by show (0 : Nat) ≤ _; decide, by show (0 : Nat) ≤ _; decide, by show (0 : Nat) ≤ _; decide⟩, by show (0 : Nat) ≤ 2; decide, H1.out.trans (hc.mono fun _ h => h.elim)⟩
    clear hr hc H1
    go_wp2_with fail
    refine (ref_new_ok G2.out.rep.rho n (by have := HO.out.1; omega) (by have := HO.out.2; omega)).mono ?_
    rintro e v3 ⟨p, rfl, hc⟩
    have G3 := Lib.hid (G2.out.frame hc)
    clear hc G2
    go_wp2_with fail
    refine (used_rep G3.out.rep).mono ?_
    rintro e v3 ⟨rfl, rfl⟩
    rw [show (((S.new n).used : Nat) : Int) = 0 from rfl]
    go_wp2_with fail
    refine (cycles_rep G3.out.rep).mono ?_
    rintro e v3 ⟨rfl, rfl⟩
    rw [show (((S.new n).done : Nat) : Int) = 0 from rfl]
    go_wp2_with fail
    refine (handles_none G3.out.rep rfl).mono ?_
    rintro e v4 ⟨rfl, hc⟩
    have G4 := Lib.hid (G3.out.frame hc)
    clear hc G3
    go_wp2_with fail
    refine (gm_step G4.out).mono ?_
    rintro e v5 ⟨rfl, ρ5, hg, -⟩
    rw [show (S.new n).step.2 = false from rfl]
    have G5 := Lib.hid hg
    clear hg G4
    go_wp2_with fail
    go_ret
    exact ⟨rfl, ρ5, G5.out.ch⟩
end Go.Proofs.Ytfjgokbclgdfjaa
