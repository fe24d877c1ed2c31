/- LexParts, where both texts have tokens: walked. -/
import Derived.Test.YtfoijbcmjciihaaDoorH5
import Derived.Test.YtfoijbcmjciihaaDoorTk
set_option linter.unusedSimpArgs false
set_option linter.unusedVariables false
namespace Go.Proofs.YtfoijbcmjciihaaDoor
open Go.RowKit

set_option maxHeartbeats 2000000 in
set_option maxRecDepth 20000 in
theorem parts_good {w : World} (henv : Env w) (a b : ByteArray) (h : a.size + 1 + b.size ≤ 20000) {X Y : List LX.Tok} {cs cs2 : List (Nat × Nat)} (hr : LX.scan (bts a) = .ok X cs) (hr2 : LX.scan (bts b) = .ok Y cs2) : Calls Tryd.prog 5 #[.string a, .string b] w (TrueP w) := by
  have z1 : (a.size : Int) ≤ 20000 := by omega
  have z2 : (b.size : Int) ≤ 20000 := by omega
  have z3 : (a.size : Int) + 1 + (b.size : Int) ≤ 20000 := by omega
  have SA := Lib.hid (sane_any henv)
  have HE := Lib.hid henv
  have hcs := cat_size a b
  have S1 : Hid (∀ W, Env W → Calls Tryd.prog 20 #[.string a] W (TkPost W (LX.scan (bts a)))) := fun W hW => by
    have := scan_any hW a (by omega); rwa [up_small (by omega)] at this
  have S2 : Hid (∀ W, Env W → Calls Tryd.prog 20 #[.string b] W (TkPost W (LX.scan (bts b)))) := fun W hW => by
    have := scan_any hW b (by omega); rwa [up_small (by omega)] at this
  have S3 : Hid (∀ W, Env W → Calls Tryd.prog 20 #[.string (a ++ ⟨#[10]⟩ ++ b)] W (TkPost W (LX.scan (bts a ++ 10 :: bts b)))) := fun W hW => by
    have := scan_any hW (cat a b) (by omega)
    rw [up_small (by omega), cat_bts] at this; exact this
  have hal : (bts a).length = a.size := bts_length a
  clear henv hcs
  have hr3 := LX.parts_ok (x := 10) rfl (bts b) hr
  rw [hr2] at hr3
  rw [hr] at S1
  rw [hr2] at S2
  rw [hr3] at S3
  have lenX := (LX.scan_len hr).2
  have lenY := (LX.scan_len hr2).2
  have plY := LX.lies_end (LX.scan_strip hr2).2
  rw [bts_length] at lenX lenY plY
  rw [hal] at S3
  obtain ⟨Z, hZ⟩ : ∃ Z, Z = X ++ Y.map fun t => { t with place := t.place + (a.size + 1) } := ⟨_, rfl⟩
  obtain ⟨lx, hlx⟩ : ∃ n, n = X.length := ⟨_, rfl⟩
  obtain ⟨ly, hly⟩ : ∃ n, n = Y.length := ⟨_, rfl⟩
  obtain ⟨lz, hlz⟩ : ∃ n, n = Z.length := ⟨_, rfl⟩
  have hsum : lz = lx + ly := by rw [hlz, hlx, hly, hZ]; simp
  have hsumz : (lx : Int) + (ly : Int) = (lz : Int) := by omega
  have hwl : IntKind.i64.wrap ((lx : Int) + (ly : Int)) = (lz : Int) := by rw [wrap_in _ (by omega)]; exact hsumz
  have hlz4 : (lz : Int) ≤ 20000 := by omega
  have hlx4 : (lx : Int) ≤ (lz : Int) := by omega
  have LX0 := Lib.hid hlx
  have LY0 := Lib.hid hly
  have LZ0 := Lib.hid hlz
  have HZ := Lib.hid hZ
  have HSUM := Lib.hid hsum
  have PY := Lib.hid plY
  have SA1 : Hid (∀ W, Env W → Calls Tryd.prog 20 #[.string a] W fun e w' => ∃ ad c, e = .returned (.tuple #[.slice ad lx c, .int .i64 0, .int .i64 0]) ∧ w'.ownsRow W.heap.size 39 4 (.slice ad lx c) lx (flatT X) ∧ Below W.heap.size W w') := by rw [hlx]; exact fun W h => (S1.out W h).mono fun e w' ⟨ad, c, h1, h2, h3⟩ => ⟨ad, c, h1, h2, h3⟩
  have SA2 : Hid (∀ W, Env W → Calls Tryd.prog 20 #[.string b] W fun e w' => ∃ ad c, e = .returned (.tuple #[.slice ad ly c, .int .i64 0, .int .i64 0]) ∧ w'.ownsRow W.heap.size 39 4 (.slice ad ly c) ly (flatT Y) ∧ Below W.heap.size W w') := by rw [hly]; exact fun W h => (S2.out W h).mono fun e w' ⟨ad, c, h1, h2, h3⟩ => ⟨ad, c, h1, h2, h3⟩
  have SA3 : Hid (∀ W, Env W → Calls Tryd.prog 20 #[.string (a ++ ⟨#[10]⟩ ++ b)] W fun e w' => ∃ ad c, e = .returned (.tuple #[.slice ad lz c, .int .i64 0, .int .i64 0]) ∧ w'.ownsRow W.heap.size 39 4 (.slice ad lz c) lz (flatT Z) ∧ Below W.heap.size W w') := by rw [hlz, hZ]; exact fun W h => (S3.out W h).mono fun e w' ⟨ad, c, h1, h2, h3⟩ => ⟨ad, c, h1, h2, h3⟩
  clear hr3 S3 S1 S2 hr hr2 h lenX lenY plY hlx hly hlz hZ hsum hal
  go_enter Tryd.func5, Tryd.ntmps5
  go_wp2_with fail
  refine SA.out.mono ?_
  rintro e w1 ⟨rfl, hb⟩
  have HB := Lib.hid hb
  clear hb
  go_wp2_with fail
  refine (SA1.out _ (HE.out.on HB.out)).mono ?_
  rintro e w2 ⟨ax, cx, rfl, hx, hb⟩
  have HB2 : Hid (Below w.heap.size w w2) := HB.out.trans (hb.mono HB.out.size)
  clear hb
  have HX : Hid (TkS w2 (.slice ax lx cx) (X.map tkv)) := by rw [LX0.out] at hx ⊢; exact tks_of_owns hx
  clear hx
  go_wp2_with fail
  refine (SA2.out _ (HE.out.on HB2.out)).mono ?_
  rintro e w3 ⟨ay, cy, rfl, hy, hb⟩
  have HX3 := Lib.hid (HX.out.keep hb)
  have HB3 : Hid (Below w.heap.size w w3) := HB2.out.trans (hb.mono HB2.out.size)
  clear hb
  have HY : Hid (TkS w3 (.slice ay ly cy) (Y.map tkv)) := by rw [LY0.out] at hy ⊢; exact tks_of_owns hy
  clear hy HX
  go_wp2_with fail
  refine (SA3.out _ (HE.out.on HB3.out)).mono ?_
  rintro e w4 ⟨az, cz, rfl, hz, hb⟩
  have HX4 := Lib.hid (HX3.out.keep hb)
  have HY4 := Lib.hid (HY.out.keep hb)
  have HB4 : Hid (Below w.heap.size w w4) := HB3.out.trans (hb.mono HB3.out.size)
  clear hb
  have HZ4 : Hid (TkS w4 (.slice az lz cz) (Z.map tkv)) := by rw [LZ0.out] at hz ⊢; exact tks_of_owns hz
  clear hz HX3 HY
  go_wp2_with fail
  clear HB HB2 HB3 SA SA1 SA2 SA3 hwl hsumz
  go_loopw [15] (fun v wr => ∃ n : Nat, n ≤ lz ∧ v = .int .i64 n ∧ Below w4.heap.size w4 wr) (fun v _ => lz - (intOf v).toNat)
  case atStart => exact ⟨0, Nat.zero_le _, rfl, Below.refl _ _⟩
  case round =>
    obtain ⟨n, hn, rfl, hbl⟩ := hrel
    have HBL := Lib.hid hbl
    clear hbl
    by_cases hnz : n < lz
    · have hnz' : (n : Int) < (lz : Int) := by omega
      have HLT := Lib.hid hnz
      obtain ⟨q, hq⟩ : ∃ q, Z[n]? = some q := ⟨_, List.getElem?_eq_getElem (by have := LZ0.out; omega)⟩
      obtain ⟨gz, oz, rfl, c0, c1, c2, c3⟩ := tks_get (HZ4.out.keep HBL.out) hq
      have HQ := Lib.hid hq
      by_cases hnx : n < lx
      · have hnx' : (n : Int) < (lx : Int) := by omega
        have hqx : X[n]? = some q := by
          have := HQ.out
          rw [HZ.out, List.getElem?_append_left (by have := LX0.out; omega)] at this
          exact this
        obtain ⟨gx, ox, rfl, d0, d1, d2, d3⟩ := tks_get (HX4.out.keep HBL.out) hqx
        obtain ⟨qk, qv, qt, qp⟩ := q
        obtain ⟨tx, htx⟩ : ∃ t, t = ofB qt := ⟨_, rfl⟩
        simp only [← htx] at c0 c1 c2 c3 d0 d1 d2 d3
        have he := fun m => eq39t m qk qv qp tx
        clear hqx hq hnx hnz hn HQ htx
        go_wp2_with fail
        go_quiet (fail)
        go_wp2_with fail
        go_roundw
        case rel => exact ⟨n + 1, HLT.out, by go_num, below_drawn HBL.out _⟩
        case measure => have := HLT.out; simp [intOf]; omega
      · have hnx' : (lx : Int) ≤ (n : Int) := by omega
        obtain ⟨j, hj⟩ : ∃ j, n = lx + j := ⟨n - lx, by omega⟩
        have hsub : (n : Int) - (lx : Int) = (j : Int) := by omega
        have hjy : (j : Int) < (ly : Int) := by have := HSUM.out; omega
        obtain ⟨u, hu⟩ : ∃ u, Y[j]? = some u := ⟨_, List.getElem?_eq_getElem (by have := LY0.out; omega)⟩
        have hqu : q = { u with place := u.place + (a.size + 1) } := by
          have := HQ.out
          rw [HZ.out, List.getElem?_append_right (by have := LX0.out; omega), List.getElem?_map, show n - X.length = j from by have := LX0.out; omega, hu] at this
          exact (Option.some.inj this).symm
        obtain ⟨gy, oy, rfl, d0, d1, d2, d3⟩ := tks_get (HY4.out.keep HBL.out) hu
        have hpl := PY.out u (List.mem_of_getElem? hu)
        obtain ⟨qk, qv, qt, qp⟩ := u
        subst hqu
        obtain ⟨tx, htx⟩ : ∃ t, t = ofB qt := ⟨_, rfl⟩
        obtain ⟨pz, hpz⟩ : ∃ p, p = qp + (a.size + 1) := ⟨_, rfl⟩
        simp only [← htx, ← hpz] at c0 c1 c2 c3 d0 d1 d2 d3 hpl
        have hp4 : (qp : Int) ≤ 20000 := by omega
        have hpz' : (pz : Int) = (qp : Int) + (a.size : Int) + 1 := by omega
        have he := fun m => eq39t m qk qv pz tx
        have HPZ := Lib.hid hpz'
        have hw1 : IntKind.i64.wrap ((qp : Int) + (a.size : Int)) = (qp : Int) + (a.size : Int) := wrap_in _ (by omega)
        have hw2 : IntKind.i64.wrap ((qp : Int) + (a.size : Int) + 1) = (qp : Int) + (a.size : Int) + 1 := wrap_in _ (by omega)
        have GZ : Hid (gz < wr.heap.size) := tks_lt (HZ4.out.keep HBL.out) HQ.out
        have hdx : decide ((n : Int) < (lx : Int)) = false := by simp; omega
        have hdy : decide (n < lx) = false := by simp; omega
        clear hu hq hnx hnz hn HQ htx hpz hpl hj hpz'
        go_wp2_with fail
        go_quiet (fail)
        generalize hV : wr.drewN nq = V
        have BV : Hid (Below w4.heap.size w4 V) := by rw [← hV]; exact below_drawn HBL.out _
        have GV : Hid (gz < V.heap.size) := by rw [← hV]; exact GZ.out
        have v0 : V.cell? ⟨gy, oy + j * 4, none⟩ = some (.int .i64 qk) := by rw [← hV]; exact d0
        have v1 : V.cell? ⟨gy, oy + j * 4 + 1, none⟩ = some (.int .i64 qv) := by rw [← hV]; exact d1
        have v2 : V.cell? ⟨gy, oy + j * 4 + 2, none⟩ = some (.string tx) := by rw [← hV]; exact d2
        have v3 : V.cell? ⟨gy, oy + j * 4 + 3, none⟩ = some (.int .i64 qp) := by rw [← hV]; exact d3
        have C0 : Hid (V.cell? ⟨gz, oz + n * 4, none⟩ = some (.int .i64 qk)) := by rw [← hV]; exact c0
        have C1 : Hid (V.cell? ⟨gz, oz + n * 4 + 1, none⟩ = some (.int .i64 qv)) := by rw [← hV]; exact c1
        have C2 : Hid (V.cell? ⟨gz, oz + n * 4 + 2, none⟩ = some (.string tx)) := by rw [← hV]; exact c2
        have C3 : Hid (V.cell? ⟨gz, oz + n * 4 + 3, none⟩ = some (.int .i64 pz)) := by rw [← hV]; exact c3
        clear hV c0 c1 c2 c3 d0 d1 d2 d3
        go_wp2_with fail
        have hnew := heap_alloc_new V (.cells #[.int .i64 qk, .int .i64 qv, .string tx, .int .i64 ((qp : Int) + (a.size : Int) + 1)] 39)
        have BU : Hid (Below w4.heap.size w4 (V.alloc (.cells #[.int .i64 qk, .int .i64 qv, .string tx, .int .i64 ((qp : Int) + (a.size : Int) + 1)] 39))) := BV.out.alloc BV.out.size _
        have kU : Below V.heap.size V (V.alloc (.cells #[.int .i64 qk, .int .i64 qv, .string tx, .int .i64 ((qp : Int) + (a.size : Int) + 1)] 39)) := (Below.refl _ _).alloc (Nat.le_refl _) _
        obtain ⟨y, hy⟩ : ∃ y, y = V.heap.size := ⟨_, rfl⟩
        generalize hU : V.alloc (.cells #[.int .i64 qk, .int .i64 qv, .string tx, .int .i64 ((qp : Int) + (a.size : Int) + 1)] 39) = U
        rw [hU] at BU hnew kU
        have c0 := (kU.cell (p := ⟨gz, oz + n * 4, none⟩) GV.out).trans C0.out
        have c1 := (kU.cell (p := ⟨gz, oz + n * 4 + 1, none⟩) GV.out).trans C1.out
        have c2 := (kU.cell (p := ⟨gz, oz + n * 4 + 2, none⟩) GV.out).trans C2.out
        have c3 := (kU.cell (p := ⟨gz, oz + n * 4 + 3, none⟩) GV.out).trans C3.out
        rw [← hy] at hnew ⊢
        have d0 : U.cell? ⟨y, 0, none⟩ = some (.int .i64 qk) := by rw [cell_of_row _ _ 0 _ _ _ hnew]; rfl
        have d1 : U.cell? ⟨y, 1, none⟩ = some (.int .i64 qv) := by rw [cell_of_row _ _ 1 _ _ _ hnew]; rfl
        have d2 : U.cell? ⟨y, 2, none⟩ = some (.string tx) := by rw [cell_of_row _ _ 2 _ _ _ hnew]; rfl
        have d3 : U.cell? ⟨y, 3, none⟩ = some (.int .i64 pz) := by rw [cell_of_row _ _ 3 _ _ _ hnew, HPZ.out]; rfl
        clear hU hnew hy kU v0 v1 v2 v3
        go_quiet (fail)
        go_wp2_with fail
        go_roundw
        case rel => exact ⟨n + 1, HLT.out, by go_num, below_drawn BU.out _⟩
        case measure => have := HLT.out; simp [intOf]; omega
    · have hnz' : (lz : Int) ≤ (n : Int) := by omega
      clear hnz hn
      go_wp2_with fail
      go_ret
      exact ⟨rfl, HB4.out.trans (HBL.out.mono HB4.out.size)⟩

theorem parts_walk {w : World} (henv : Env w) (a b : ByteArray) (ha : a.size ≤ 9223372036854775807) (hb : b.size ≤ 9223372036854775807) : Calls Tryd.prog 5 #[.string a, .string b] w (TrueP w) := by
  by_cases h : 20000 < a.size + 1 + b.size
  · exact parts_long henv a b ha hb h
  · cases hr : LX.scan (bts a) with
    | bad p er => exact parts_bad1 henv a b (by omega) hr
    | ok X cs =>
      cases hr2 : LX.scan (bts b) with
      | bad p er => exact parts_bad2 henv a b (by omega) hr hr2
      | ok Y cs2 => exact parts_good henv a b (by omega) hr hr2
end Go.Proofs.YtfoijbcmjciihaaDoor
