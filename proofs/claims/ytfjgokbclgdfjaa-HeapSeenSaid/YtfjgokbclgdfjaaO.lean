/- Pop and Push of container/heap. -/
import Derived.Test.YtfjgokbclgdfjaaK
import Derived.Test.YtfjgokbclgdfjaaM
import Derived.Test.YtfjgokbclgdfjaaN
set_option linter.unusedSimpArgs false
set_option linter.unusedVariables false
namespace Go.Proofs.Ytfjgokbclgdfjaa
open Go.RowKit HM

theorem DA.cell {w : World} {ρ : Nat → Nat} {b : Nat} {da : List Int} (h : DA w ρ b da) : ∃ a c, w.cell? ⟨b, 14, none⟩ = some (.slice a da.length c) ∧ RowAt w ρ 6 3 (.slice a da.length c) (da.map (Value.int .i64)) := by
  obtain ⟨hrb, hc, ds, hh, hcs, h14, hrow⟩ := h
  have h0 := hrow
  rcases hrow with ⟨rfl, hn⟩ | ⟨g, off, cap, cur, rfl, _⟩
  · have : da = [] := by simpa using hn
    subst this
    exact ⟨none, 0, by rw [cell_of_row w _ 14 _ _ _ hh, h14]; rfl, h0⟩
  · refine ⟨_, cap, by rw [cell_of_row w _ 14 _ _ _ hh, h14]; simp; rfl, by simpa using h0⟩

theorem DA.swap {w w' : World} {ρ : Nat → Nat} {b : Nat} {da l : List Int} {a : Option Addr} {n c : Nat} (h : DA w ρ b da) (h14 : w.cell? ⟨b, 14, none⟩ = some (.slice a n c)) (hr : RowAt w' ρ 6 3 (.slice a n c) (l.map (Value.int .i64))) (hc : Ch (· = 6) ρ ρ w w') : DA w' ρ b l := by
  obtain ⟨hrb, cs, ds, hh, hcs, g14, hrow⟩ := h
  refine ⟨hrb, cs, .slice a n c, hc.keep hh (by rw [hrb]; decide), hcs, ?_, hr⟩
  rw [cell_of_row w _ 14 _ _ _ hh] at h14
  exact h14

theorem DnI.ofHp {l : List Int} {m : Nat} (h : Hp l l.length) (hm : l.length = m + 1) : DnI (swapL l 0 m) m 0 := by
  refine ⟨fun k h1 h2 h3 => ?_, fun _ _ _ _ h => by omega⟩
  rw [swapL_at l 0 m _ (by omega) (by omega), swapL_at l 0 m _ (by omega) (by omega), if_neg (by omega), if_neg h3, if_neg (by omega), if_neg (by omega)]
  exact h k h1 (by omega)

theorem take_last (l : List Int) (m : Nat) (hm : l.length = m + 1) : l.take m ++ [l.getD m 0] = l := by
  conv => rhs; rw [← List.take_append_drop m l]
  congr 1
  rw [List.drop_eq_getElem_cons (by omega), List.drop_eq_nil_of_le (by omega)]
  simp [List.getD, hm]

set_option maxRecDepth 20000 in
theorem hpop_any {w : World} {ρ : Nat → Nat} {b : Nat} {da : List Int} (h : DA w ρ b da) (hρ : ∀ k, w.heap.size ≤ k → ρ k = 0) (m : Nat) (hm : da.length = m + 1) (hl : da.length < 1000000000) (hp : Hp da da.length) (x : Int) (hx : da.getD 0 0 = x) :
    Calls Try.prog 83 #[.iface 91 (.pointer (some ⟨b, 14, none⟩))] w fun e w' => e = .returned (.iface 3 (.int .i64 x)) ∧
      ∃ da', (x :: da').Perm da ∧ Hp da' da'.length ∧ DA w' ρ b da' ∧ Ch (fun r => r = 1 ∨ r = 6) ρ ρ w w' ∧ Only14 b w w' := by
  obtain ⟨a, c, c14, hrow⟩ := h.cell
  obtain ⟨n, hn⟩ : ∃ n, n = da.length := ⟨_, rfl⟩
  rw [← hn] at c14 hrow hl
  have em : (n : Int) - 1 = (m : Int) := by omega
  have m1 := meth_len c14
  have m2 := meth_swap c14
  have m3 : ∀ v, (method 263 91 (.pointer (some ⟨b, 14, none⟩)) "Pop").run Try.prog v = .ok (131, .pointer (some ⟨b, 14, none⟩)) v := fun v => meth_pop v b
  have H1 := Lib.hid h
  have H2 := Lib.hid hρ
  have H3 := Lib.hid hm
  have H4 := Lib.hid hrow
  have H5 := Lib.hid hp
  have H6 := Lib.hid hn
  have H7 := Lib.hid c14
  have HX := Lib.hid hx
  clear hx h hρ hm hrow hp hn
  go_enter Try.func83, Try.ntmps83
  go_wp2_with fail
  refine (len_any a n c).mono ?_
  rintro e w1 ⟨rfl, rfl⟩
  go_wp2_with fail
  refine (swap_any (da := da) H4.out 0 m (by have := H3.out; omega) (by have := H3.out; omega) (by have := H6.out; omega) H2.out).mono ?_
  rintro e w2 ⟨rfl, hr2, hc2⟩
  have hd2 := H1.out.swap H7.out hr2 hc2
  have G1 := Lib.hid hd2
  have G2 := Lib.hid hc2
  clear hr2 hc2 hd2
  go_wp2_with fail
  have hlen : (swapL da 0 m).length = m + 1 := (swapL_length _ _ _).trans H3.out
  have G3 := Lib.hid hlen
  clear hlen
  refine (down_any G1.out G2.out.fresh m (by have := G3.out; omega) (by have := G3.out; omega) (DnI.ofHp H5.out H3.out)).mono ?_
  rintro e w3 ⟨⟨v, rfl⟩, da2, hp2, hat2, hhp2, hd3, hc3⟩
  have G4 := Lib.hid hp2
  have G5 := Lib.hid hat2
  have G6 := Lib.hid hhp2
  have G7 := Lib.hid hd3
  have G8 := Lib.hid hc3
  have hlen2 : da2.length = m + 1 := hp2.length_eq.trans G3.out
  have G9 := Lib.hid hlen2
  clear hp2 hat2 hhp2 hd3 hc3 hlen2
  go_wp2_with fail
  refine (mpop_any G7.out G8.out.fresh m G9.out (by have := G9.out; omega)).mono ?_
  rintro e w4 ⟨rfl, hd4, hc4, ho4⟩
  have KO := Lib.hid (ho4.after ((G2.out.trans G8.out).block b (Array.getElem?_eq_some_iff.1 H1.out.2.choose_spec.choose_spec.1).1 (by rw [H1.out.1]; decide)))
  clear ho4
  have e1 : da2.getD m 0 = x := by
    rw [← HX.out, G5.out m (Nat.le_refl _), swapL_at da 0 m m (by have := H3.out; omega) (by have := H3.out; omega), if_pos rfl]
  rw [e1]
  have K1 := Lib.hid hd4
  have K2 := Lib.hid hc4
  have K3 := Lib.hid e1
  clear hd4 hc4 e1
  go_wp2_with fail
  go_ret
  refine ⟨rfl, da2.take m, ?_, ?_, K1.out, ((G2.out.trans G8.out).mono fun r hr => .inr hr).trans (K2.out.mono fun r hr => .inl hr), KO.out⟩
  · have e2 := take_last da2 m G9.out
    rw [K3.out] at e2
    have p1 : (x :: da2.take m).Perm (da2.take m ++ [x]) := (List.perm_append_singleton x _).symm
    rw [e2] at p1
    exact (p1.trans G4.out).trans (swapL_perm da 0 m (by have := H3.out; omega) (by have := H3.out; omega))
  · intro k h1 h2
    have hl2 := G9.out
    simp only [List.length_take] at h2
    have := G6.out k h1 (by omega)
    simp only [List.getD_eq_getElem?_getD] at this ⊢
    rw [List.getElem?_take, List.getElem?_take, if_pos (by omega), if_pos (by omega)]
    exact this

set_option maxRecDepth 20000 in
theorem hpush_any {w : World} {ρ : Nat → Nat} {b : Nat} {da : List Int} (h : DA w ρ b da) (hρ : ∀ k, w.heap.size ≤ k → ρ k = 0) (x : Int) (hl : da.length < 100000000) (hp : Hp da da.length) :
    Calls Try.prog 50 #[.iface 91 (.pointer (some ⟨b, 14, none⟩)), .iface 3 (.int .i64 x)] w fun e w' => e = .returned (.tuple #[]) ∧
      ∃ da' ρ', da'.Perm (da ++ [x]) ∧ Hp da' da'.length ∧ DA w' ρ' b da' ∧ Ch (fun r => r = 1 ∨ r = 6) ρ ρ' w w' ∧ Only14 b w w' := by
  have m3 : ∀ v, (method 263 91 (.pointer (some ⟨b, 14, none⟩)) "Push").run Try.prog v = .ok (132, .pointer (some ⟨b, 14, none⟩)) v := fun v => meth_push v b
  have H1 := Lib.hid h
  have H2 := Lib.hid hρ
  have H3 := Lib.hid hl
  have H5 := Lib.hid hp
  clear h hρ hp hl
  go_enter Try.func50, Try.ntmps50
  go_wp2_with fail
  refine (mpush_any H1.out H2.out x (by have := H3.out; omega)).mono ?_
  rintro e w1 ⟨rfl, ρ1, hd1, hc1, ho1⟩
  have KO := Lib.hid ho1
  clear ho1
  obtain ⟨a, c, c14, _⟩ := hd1.cell
  obtain ⟨n, hn⟩ : ∃ n, n = (da ++ [x]).length := ⟨_, rfl⟩
  rw [← hn] at c14
  have hn2 : n = da.length + 1 := by rw [hn]; simp
  have hn3 : n < 1000000000 := by have := H3.out; omega
  have hn4 : 0 < n := by omega
  obtain ⟨m, hm⟩ : ∃ m, m = da.length := ⟨_, rfl⟩
  have em : (n : Int) - 1 = (m : Int) := by omega
  have m1 := meth_len c14
  have G1 := Lib.hid hd1
  have G2 := Lib.hid hc1
  have G3 := Lib.hid hn
  have G4 := Lib.hid hn2
  have G5 := Lib.hid hm
  clear hd1 hc1 hn hn2 hm
  go_wp2_with fail
  refine (len_any a n c).mono ?_
  rintro e w2 ⟨rfl, rfl⟩
  go_wp2_with fail
  refine (up_any G1.out G2.out.fresh m (by have := G5.out; have := G4.out; have := G3.out; omega) (by have := G3.out; omega) ?_).mono ?_
  · have hm := G5.out
    have hup := H5.out
    refine ⟨fun k h1 h2 h3 => ?_, fun k h1 h2 h3 => ?_⟩
    · simp only [List.length_append, List.length_cons, List.length_nil] at h2
      have := hup k h1 (by omega)
      simp only [List.getD_eq_getElem?_getD] at this ⊢
      rw [List.getElem?_append_left (by omega), List.getElem?_append_left (by omega)]
      exact this
    · simp only [List.length_append, List.length_cons, List.length_nil] at h2
      omega
  · rintro e w3 ⟨rfl, da', h1, h2, h3, h4⟩
    have K1 := Lib.hid h1
    have K2 := Lib.hid h2
    have K3 := Lib.hid h3
    have K4 := Lib.hid h4
    clear h1 h2 h3 h4
    go_wp2_with fail
    go_end0
    exact ⟨rfl, da', ρ1, K1.out, K2.out, K3.out, G2.out.trans (K4.out.mono fun r hr => .inr hr), KO.out.same (K4.out.block b (Array.getElem?_eq_some_iff.1 G1.out.2.choose_spec.choose_spec.1).1 (by rw [G1.out.1]; decide))⟩
end Go.Proofs.Ytfjgokbclgdfjaa
