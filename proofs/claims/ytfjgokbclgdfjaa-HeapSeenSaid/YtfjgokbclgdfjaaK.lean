/- container/heap: up. -/
import Derived.Test.YtfjgokbclgdfjaaL
set_option linter.unusedSimpArgs false
set_option linter.unusedVariables false
namespace Go.Proofs.Ytfjgokbclgdfjaa
open Go.RowKit HM

set_option maxRecDepth 20000 in
theorem up_any {w : World} {ρ : Nat → Nat} {b : Nat} {da : List Int} (h : DA w ρ b da) (hρ : ∀ k, w.heap.size ≤ k → ρ k = 0) (j : Nat) (hj : j < da.length) (hl : da.length < 1000000000) (hi : UpI da da.length j) :
    Calls Try.prog 81 #[.iface 91 (.pointer (some ⟨b, 14, none⟩)), .int .i64 j] w fun e w' => e = .returned (.tuple #[]) ∧ ∃ da', da'.Perm da ∧ Hp da' da'.length ∧ DA w' ρ b da' ∧ Ch (· = 6) ρ ρ w w' := by
  have HD := Lib.hid h
  have HR := Lib.hid hρ
  have HI := Lib.hid hi
  have HJ := Lib.hid hj
  have HL := Lib.hid hl
  clear h hρ hi hj hl
  go_enter Try.func81, Try.ntmps81
  go_wp2
  go_loopg [1] j (fun gk v wr => ∃ (l : List Int), v = .int .i64 gk ∧ gk < da.length ∧ l.Perm da ∧ UpI l da.length gk ∧ DA wr ρ b l ∧ Ch (· = 6) ρ ρ w wr)
  case atStart => exact ⟨da, rfl, HJ.out, .refl _, HI.out, HD.out, Ch.refl HR.out⟩
  case round =>
    obtain ⟨l, rfl, hlt, hperm, hup, hda, hch⟩ := hrel
    have hlen : l.length = da.length := hperm.length_eq
    obtain ⟨hrb, hc, ds, hh, hcs, h14, hrow⟩ := hda
    obtain ⟨ra, rn, rc, rfl⟩ := hrow.shape
    have c14 : wr.cell? ⟨b, 14, none⟩ = some (.slice ra rn rc) := by rw [cell_of_row wr _ 14 _ _ _ hh, h14]
    have H1 := Lib.hid hperm
    have H2 := Lib.hid hup
    have H3 := Lib.hid hrow
    have H4 := Lib.hid hch
    have H5 := Lib.hid hlen
    have H6 := Lib.hid hh
    have H7 := Lib.hid hcs
    have H8 := Lib.hid h14
    have H9 := Lib.hid hrb
    clear hperm hup hrow hch hlen hh hcs h14 hrb
    by_cases h0 : gk = 0
    · subst h0
      go_wp2_with fail
      go_end0
      exact ⟨rfl, l, H1.out, by have := H2.out.stop (.inl rfl); rw [← H5.out] at this; exact this, ⟨H9.out, hc, _, H6.out, H7.out, H8.out, H3.out⟩, H4.out⟩
    · obtain ⟨i, hi⟩ : ∃ i, i = (gk - 1) / 2 := ⟨_, rfl⟩
      have ht : ((gk : Int) - 1).tdiv 2 = (i : Int) := by rw [Int.tdiv_eq_ediv_of_nonneg (by omega)]; omega
      have hig : i < gk := by omega
      have hb : gk < 1000000000 := by have := HL.out; omega
      have m1 := meth_less c14
      have m2 : ∀ k, (method 263 91 (.pointer (some ⟨b, 14, none⟩)) "Swap").run Try.prog (wr.drewN k) = .ok (130, .slice ra rn rc) (wr.drewN k) := fun k => meth_swap (w := wr.drewN k) c14
      have HI' := Lib.hid hi
      have H0 := Lib.hid h0
      clear hi h0
      go_wp2_with fail
      refine (less_any H3.out gk i (by have := H5.out; omega) (by have := H5.out; omega) (by have := H5.out; have := HL.out; omega)).mono ?_
      rintro e w1 ⟨rfl, n1, rfl⟩
      by_cases hless : l.getD gk 0 < l.getD i 0
      · have hlb : decide (l.getD gk 0 < l.getD i 0) = true := by simpa using hless
        have HLB := Lib.hid hless
        rw [hlb]
        clear hlb hless
        go_wp2_with fail
        refine (swap_any (w := wr.drewN n1) H3.out i gk (by have := H5.out; omega) (by have := H5.out; omega) (by have := H5.out; have := HL.out; omega) (H4.out.drewN n1).fresh).mono ?_
        rintro e w2 ⟨rfl, hr2, hc2⟩
        have G1 := Lib.hid hr2
        have G2 := Lib.hid hc2
        clear hr2 hc2
        go_wp2_with fail
        go_roundg i
        case measure => exact hig
        case rel =>
          have hl := H5.out
          have hi := HI'.out
          have h0 := H0.out
          have hup := H2.out
          rw [← hl] at hup
          have hlt2 := HLB.out
          rw [hi] at hlt2
          have hgo := hup.go (Nat.le_refl _) (by omega) (by omega) hlt2
          rw [← hi, hl] at hgo
          refine ⟨swapL l i gk, rfl, by omega, (swapL_perm l i gk (by omega) (by omega)).trans H1.out, hgo, ⟨H9.out, hc, _, G2.out.keep (w := wr.drewN n1) H6.out (by rw [H9.out]; decide), H7.out, H8.out, G1.out⟩, (H4.out.drewN n1).trans G2.out⟩
      · have hlb : decide (l.getD gk 0 < l.getD i 0) = false := by simpa using hless
        have HLB := Lib.hid hless
        rw [hlb]
        clear hlb hless
        go_wp2_with fail
        go_end0
        have hl := H5.out
        have hi := HI'.out
        have hup := H2.out
        rw [← hl] at hup
        refine ⟨rfl, l, H1.out, hup.stop (.inr ?_), ⟨H9.out, hc, _, H6.out, H7.out, H8.out, H3.out.keep ((Ch.refl (M := fun _ => False) (H4.out).fresh).drewN n1) (by simp)⟩, H4.out.drewN n1⟩
        rw [← hi]
        have := HLB.out
        omega
end Go.Proofs.Ytfjgokbclgdfjaa
