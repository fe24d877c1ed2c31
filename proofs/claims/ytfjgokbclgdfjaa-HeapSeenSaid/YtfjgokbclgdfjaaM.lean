/- container/heap: down. -/
import Derived.Test.YtfjgokbclgdfjaaL
set_option linter.unusedSimpArgs false
set_option linter.unusedVariables false
namespace Go.Proofs.Ytfjgokbclgdfjaa
open Go.RowKit HM

set_option maxHeartbeats 4000000 in
set_option maxRecDepth 20000 in
theorem down_any {w : World} {ρ : Nat → Nat} {b : Nat} {da : List Int} (h : DA w ρ b da) (hρ : ∀ k, w.heap.size ≤ k → ρ k = 0) (n : Nat) (hn : n ≤ da.length) (hl : da.length < 1000000000) (hi : DnI da n 0) :
    Calls Try.prog 91 #[.iface 91 (.pointer (some ⟨b, 14, none⟩)), .int .i64 0, .int .i64 n] w fun e w' => (∃ v, e = .returned (.bool v)) ∧
      ∃ da', da'.Perm da ∧ (∀ k, n ≤ k → da'.getD k 0 = da.getD k 0) ∧ Hp da' n ∧ DA w' ρ b da' ∧ Ch (· = 6) ρ ρ w w' := by
  have HD := Lib.hid h
  have HR := Lib.hid hρ
  have HI := Lib.hid hi
  have HN := Lib.hid hn
  have HL := Lib.hid hl
  clear h hρ hi hn hl
  go_enter Try.func91, Try.ntmps91
  go_wp2
  go_loopg [7] n (fun gk v wr => ∃ (i : Nat) (l : List Int), v = .int .i64 i ∧ gk = n - i ∧ i ≤ n ∧ l.Perm da ∧ (∀ k, n ≤ k → l.getD k 0 = da.getD k 0) ∧ DnI l n i ∧ DA wr ρ b l ∧ Ch (· = 6) ρ ρ w wr)
  case atStart => exact ⟨0, da, rfl, rfl, Nat.zero_le _, .refl _, fun _ _ => rfl, HI.out, HD.out, Ch.refl HR.out⟩
  case round =>
    obtain ⟨i, l, rfl, hgk, hlt, hperm, hat, hup, hda, hch⟩ := hrel
    have hlen : l.length = da.length := hperm.length_eq
    obtain ⟨hrb, hc, ds, hh, hcs, h14, hrow⟩ := hda
    obtain ⟨ra, rn, rc, rfl⟩ := hrow.shape
    have c14 : wr.cell? ⟨b, 14, none⟩ = some (.slice ra rn rc) := by rw [cell_of_row wr _ 14 _ _ _ hh, h14]
    have hb : n < 1000000000 := by have := HL.out; have := HN.out; omega
    have hnl : n ≤ l.length := by rw [hlen]; exact HN.out
    have H1 := Lib.hid hperm
    have H2 := Lib.hid hup
    have H3 := Lib.hid hrow
    have H4 := Lib.hid hch
    have H5 := Lib.hid hlen
    have H6 := Lib.hid hh
    have H7 := Lib.hid hcs
    have H8 := Lib.hid h14
    have H9 := Lib.hid hrb
    have HA := Lib.hid hat
    have HG := Lib.hid hgk
    have m1 := meth_less c14
    have m2 : ∀ k, (method 263 91 (.pointer (some ⟨b, 14, none⟩)) "Swap").run Try.prog (wr.drewN k) = .ok (130, .slice ra rn rc) (wr.drewN k) := fun k => meth_swap (w := wr.drewN k) c14
    have m3 : ∀ k, (method 263 91 (.pointer (some ⟨b, 14, none⟩)) "Less").run Try.prog (wr.drewN k) = .ok (128, .slice ra rn rc) (wr.drewN k) := fun k => meth_less (w := wr.drewN k) c14
    have m4 : ∀ j k, (method 263 91 (.pointer (some ⟨b, 14, none⟩)) "Swap").run Try.prog ((wr.drewN j).drewN k) = .ok (130, .slice ra rn rc) ((wr.drewN j).drewN k) := fun j k => meth_swap (w := (wr.drewN j).drewN k) c14
    clear hperm hup hrow hch hlen hh hcs h14 hrb hat hgk
    obtain ⟨j, hj⟩ : ∃ j, j = 2 * i + 1 := ⟨_, rfl⟩
    have ej : (2 * (i : Int) + 1) = (j : Int) := by omega
    have hij : i < j := by omega
    have hpj : (j - 1) / 2 = i := by omega
    have hpj2 : ((j + 1) - 1) / 2 = i := by omega
    have hpk : ∀ k, 0 < k → (k - 1) / 2 = i → k = j ∨ k = j + 1 := by intro k h1 h2; omega
    have P1 := Lib.hid hpj
    have P2 := Lib.hid hpj2
    have P3 := Lib.hid hpk
    clear hpj hpj2 hpk hj
    by_cases hjn : j < n
    · by_cases hj2 : j + 1 < n
      · obtain ⟨q, hq⟩ : ∃ q, q = j + 1 := ⟨_, rfl⟩
        have eq : ((j : Int) + 1) = (q : Int) := by omega
        have hqn : q < n := by omega
        have hjq : j < q := by omega
        have P4 := Lib.hid hq
        clear hq hj2
        go_wp2_with fail
        refine (less_any H3.out q j (by omega) (by omega) (by have := H5.out; have := HL.out; omega)).mono ?_
        rintro e w1 ⟨rfl, n1, rfl⟩
        by_cases hless : l.getD q 0 < l.getD j 0
        · have hlb : decide (l.getD q 0 < l.getD j 0) = true := by simpa using hless
          have HLB := Lib.hid hless
          rw [hlb]
          clear hlb hless
          go_wp2_with fail
          refine (less_any (w := (wr.drewN n1)) H3.out q i (by have := H5.out; omega) (by have := H5.out; omega) (by have := H5.out; have := HL.out; omega)).mono ?_
          rintro e w1 ⟨rfl, n2, rfl⟩
          by_cases hl2 : l.getD q 0 < l.getD i 0
          · have hlb : decide (l.getD q 0 < l.getD i 0) = true := by simpa using hl2
            have HL2 := Lib.hid hl2
            rw [hlb]
            clear hlb hl2
            go_wp2_with fail
            refine (swap_any (w := (wr.drewN (n1 + n2))) H3.out i q (by have := H5.out; omega) (by have := H5.out; omega) (by have := H5.out; have := HL.out; omega) (H4.out.drewN (n1 + n2)).fresh).mono ?_
            rintro e w2 ⟨rfl, hr2, hc2⟩
            have G1 := Lib.hid hr2
            have G2 := Lib.hid hc2
            clear hr2 hc2
            go_wp2_with fail
            go_roundg (n - q)
            case measure => have := HG.out; omega
            case rel =>
              have hl := H5.out
              have hup := H2.out
              have hlt2 := HL2.out
              have hgo := hup.go (by omega) (by omega) (by omega) (by omega) hlt2 (fun k h1 h2 h3 => by rcases P3.out k h1 h3 with e | e <;> (have := P4.out; have := HLB.out; subst e; first | omega | (rw [← P4.out]; omega)))
              have hat := HA.out
              refine ⟨q, swapL l i q, rfl, rfl, by omega, (swapL_perm l i q (by omega) (by omega)).trans H1.out, fun k hk => ?_, hgo, ⟨H9.out, hc, _, G2.out.keep (w := (wr.drewN (n1 + n2))) H6.out (by rw [H9.out]; decide), H7.out, H8.out, G1.out⟩, (H4.out.drewN (n1 + n2)).trans G2.out⟩
              rw [swapL_at l i q k (by omega) (by omega), if_neg (by omega), if_neg (by omega)]
              exact hat k hk
          · have hlb : decide (l.getD q 0 < l.getD i 0) = false := by simpa using hl2
            have HL2 := Lib.hid hl2
            rw [hlb]
            clear hlb hl2
            go_wp2_with fail
            go_ret
            refine ⟨⟨_, rfl⟩, l, H1.out, HA.out, H2.out.stop (fun k h1 h2 h3 => ?_), ⟨H9.out, hc, _, H6.out, H7.out, H8.out, H3.out⟩, H4.out.drewN (n1 + n2)⟩
            have hmm := (fun k h1 h2 h3 => by rcases P3.out k h1 h3 with e | e <;> (have := P4.out; have := HLB.out; subst e; first | omega | (rw [← P4.out]; omega)) : ∀ k, 0 < k → k < n → (k - 1) / 2 = i → l.getD q 0 ≤ l.getD k 0) k h1 h2 h3
            have := HL2.out
            omega
        · have hlb : decide (l.getD q 0 < l.getD j 0) = false := by simpa using hless
          have HLB := Lib.hid hless
          rw [hlb]
          clear hlb hless
          go_wp2_with fail
          refine (less_any (w := (wr.drewN n1)) H3.out j i (by have := H5.out; omega) (by have := H5.out; omega) (by have := H5.out; have := HL.out; omega)).mono ?_
          rintro e w1 ⟨rfl, n2, rfl⟩
          by_cases hl2 : l.getD j 0 < l.getD i 0
          · have hlb : decide (l.getD j 0 < l.getD i 0) = true := by simpa using hl2
            have HL2 := Lib.hid hl2
            rw [hlb]
            clear hlb hl2
            go_wp2_with fail
            refine (swap_any (w := (wr.drewN (n1 + n2))) H3.out i j (by have := H5.out; omega) (by have := H5.out; omega) (by have := H5.out; have := HL.out; omega) (H4.out.drewN (n1 + n2)).fresh).mono ?_
            rintro e w2 ⟨rfl, hr2, hc2⟩
            have G1 := Lib.hid hr2
            have G2 := Lib.hid hc2
            clear hr2 hc2
            go_wp2_with fail
            go_roundg (n - j)
            case measure => have := HG.out; omega
            case rel =>
              have hl := H5.out
              have hup := H2.out
              have hlt2 := HL2.out
              have hgo := hup.go (by omega) (by omega) (by omega) (by omega) hlt2 (fun k h1 h2 h3 => by rcases P3.out k h1 h3 with e | e <;> (have := P4.out; have := HLB.out; subst e; first | omega | (rw [← P4.out]; omega)))
              have hat := HA.out
              refine ⟨j, swapL l i j, rfl, rfl, by omega, (swapL_perm l i j (by omega) (by omega)).trans H1.out, fun k hk => ?_, hgo, ⟨H9.out, hc, _, G2.out.keep (w := (wr.drewN (n1 + n2))) H6.out (by rw [H9.out]; decide), H7.out, H8.out, G1.out⟩, (H4.out.drewN (n1 + n2)).trans G2.out⟩
              rw [swapL_at l i j k (by omega) (by omega), if_neg (by omega), if_neg (by omega)]
              exact hat k hk
          · have hlb : decide (l.getD j 0 < l.getD i 0) = false := by simpa using hl2
            have HL2 := Lib.hid hl2
            rw [hlb]
            clear hlb hl2
            go_wp2_with fail
            go_ret
            refine ⟨⟨_, rfl⟩, l, H1.out, HA.out, H2.out.stop (fun k h1 h2 h3 => ?_), ⟨H9.out, hc, _, H6.out, H7.out, H8.out, H3.out⟩, H4.out.drewN (n1 + n2)⟩
            have hmm := (fun k h1 h2 h3 => by rcases P3.out k h1 h3 with e | e <;> (have := P4.out; have := HLB.out; subst e; first | omega | (rw [← P4.out]; omega)) : ∀ k, 0 < k → k < n → (k - 1) / 2 = i → l.getD j 0 ≤ l.getD k 0) k h1 h2 h3
            have := HL2.out
            omega
      · have hdf : decide ((j : Int) + 1 < (n : Int)) = false := by simp; omega
        go_wp2_with fail
        refine (less_any (w := wr) H3.out j i (by have := H5.out; omega) (by have := H5.out; omega) (by have := H5.out; have := HL.out; omega)).mono ?_
        rintro e w1 ⟨rfl, n2, rfl⟩
        by_cases hl2 : l.getD j 0 < l.getD i 0
        · have hlb : decide (l.getD j 0 < l.getD i 0) = true := by simpa using hl2
          have HL2 := Lib.hid hl2
          rw [hlb]
          clear hlb hl2
          go_wp2_with fail
          refine (swap_any (w := (wr.drewN n2)) H3.out i j (by have := H5.out; omega) (by have := H5.out; omega) (by have := H5.out; have := HL.out; omega) (H4.out.drewN n2).fresh).mono ?_
          rintro e w2 ⟨rfl, hr2, hc2⟩
          have G1 := Lib.hid hr2
          have G2 := Lib.hid hc2
          clear hr2 hc2
          go_wp2_with fail
          go_roundg (n - j)
          case measure => have := HG.out; omega
          case rel =>
            have hl := H5.out
            have hup := H2.out
            have hlt2 := HL2.out
            have hgo := hup.go (by omega) (by omega) (by omega) (by omega) hlt2 (fun k h1 h2 h3 => by rcases P3.out k h1 h3 with e | e <;> (subst e; omega))
            have hat := HA.out
            refine ⟨j, swapL l i j, rfl, rfl, by omega, (swapL_perm l i j (by omega) (by omega)).trans H1.out, fun k hk => ?_, hgo, ⟨H9.out, hc, _, G2.out.keep (w := (wr.drewN n2)) H6.out (by rw [H9.out]; decide), H7.out, H8.out, G1.out⟩, (H4.out.drewN n2).trans G2.out⟩
            rw [swapL_at l i j k (by omega) (by omega), if_neg (by omega), if_neg (by omega)]
            exact hat k hk
        · have hlb : decide (l.getD j 0 < l.getD i 0) = false := by simpa using hl2
          have HL2 := Lib.hid hl2
          rw [hlb]
          clear hlb hl2
          go_wp2_with fail
          go_ret
          refine ⟨⟨_, rfl⟩, l, H1.out, HA.out, H2.out.stop (fun k h1 h2 h3 => ?_), ⟨H9.out, hc, _, H6.out, H7.out, H8.out, H3.out⟩, H4.out.drewN n2⟩
          have hmm := (fun k h1 h2 h3 => by rcases P3.out k h1 h3 with e | e <;> (subst e; omega) : ∀ k, 0 < k → k < n → (k - 1) / 2 = i → l.getD j 0 ≤ l.getD k 0) k h1 h2 h3
          have := HL2.out
          omega
    · go_wp2_with fail
      go_ret
      refine ⟨⟨_, rfl⟩, l, H1.out, HA.out, H2.out.stop (fun k h1 h2 h3 => ?_), ⟨H9.out, hc, _, H6.out, H7.out, H8.out, H3.out⟩, H4.out⟩
      rcases P3.out k h1 h3 with e | e <;> omega
end Go.Proofs.Ytfjgokbclgdfjaa
