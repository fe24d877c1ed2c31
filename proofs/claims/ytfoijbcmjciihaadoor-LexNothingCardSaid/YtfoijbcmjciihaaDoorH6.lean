/- LexNothing: walked. -/
import Derived.Test.YtfoijbcmjciihaaDoorH5
import Derived.Test.YtfoijbcmjciihaaDoorTk
import Derived.Test.YtfoijbcmjciihaaDoorZ1
set_option linter.unusedSimpArgs false
set_option linter.unusedVariables false
namespace Go.Proofs.YtfoijbcmjciihaaDoor
open Go.RowKit

theorem slice_mid (s : ByteArray) (i n : Nat) (h : i + n ≤ s.size) (m : World) : (Instr.slice 9 (.string s) (some (.int .i64 i)) (some (.int .i64 ((i : Int) + (n : Int)))) none).run Tryd.prog m = .ok (.string (s.extract i (i + n))) m := by
  have := run_slice_string (P := Tryd.prog) m 9 s .i64 .i64 i ((i : Int) + (n : Int)) Tryd.underlying9 (by omega) (by omega) (by omega)
  rw [this]
  have e : ((i : Int) + (n : Int)).toNat = i + n := by omega
  rw [e]
  simp

theorem up_cases (s : ByteArray) : (∃ p er : Nat, LX.up 20000 (bts s) = .bad p er ∧ er ≠ 0 ∧ er ≤ 13) ∨ (s.size ≤ 20000 ∧ ∃ ts cs, LX.up 20000 (bts s) = .ok ts cs ∧ LX.scan (bts s) = .ok ts cs) := by
  by_cases h : 20000 < s.size
  · left
    exact ⟨0, 2, by unfold LX.up; rw [bts_length, if_pos h], by decide, by decide⟩
  · have hu := up_small (s := s) (by omega)
    cases hr : LX.scan (bts s) with
    | ok ts cs => exact .inr ⟨by omega, ts, cs, by rw [hu, hr], rfl⟩
    | bad p er =>
      obtain ⟨hee, _⟩ := LX.scan_bad hr
      exact .inl ⟨p, er, by rw [hu, hr], by omega, by omega⟩

set_option maxHeartbeats 1000000 in
set_option maxRecDepth 20000 in
theorem nothing_bad {w : World} (henv : Env w) (s : ByteArray) (hmax : s.size ≤ 9223372036854775807) {p er : Nat} (hr : LX.up 20000 (bts s) = .bad p er) (h0 : er ≠ 0) : Calls Tryd.prog 6 #[.string s] w (TrueP w) := by
  have SA := Lib.hid (sane_any henv)
  have HE := Lib.hid henv
  have S1 : Hid (∀ W, Env W → Calls Tryd.prog 20 #[.string s] W fun e w' => ∃ ad c, e = .returned (.tuple #[.slice ad 0 c, .int .i64 p, .int .i64 er]) ∧ True ∧ Below W.heap.size W w') := fun W hW => by
    have := scan_any hW s hmax
    rw [hr] at this
    exact this.mono fun e w' ⟨ad, c, h1, _, h3⟩ => ⟨ad, c, h1, trivial, h3⟩
  have S2 : Hid (∀ W, Env W → Calls Tryd.prog 21 #[.string s] W fun e w' => e = .returned (.tuple #[.string (ofB []), .int .i64 p, .int .i64 er]) ∧ Below W.heap.size W w') := fun W hW => by
    have := strip_any hW s hmax
    unfold StPost LX.stripT at this
    rw [hr] at this
    exact this
  have hne : ((er : Int) == 0) = false := by simp; omega
  have hem : (ofB []).toList = [] := by kernel_rfl
  clear hr h0 henv hmax
  go_enter Tryd.func6, Tryd.ntmps6
  go_wp2_with fail
  refine SA.out.mono ?_
  rintro e w1 ⟨rfl, hb⟩
  have HB := Lib.hid hb
  clear hb
  go_wp2_with fail
  refine (S1.out _ (HE.out.on HB.out)).mono ?_
  rintro e w2 ⟨ax, cx, rfl, -, hb⟩
  have HB2 : Hid (Below w.heap.size w w2) := HB.out.trans (hb.mono HB.out.size)
  clear hb
  go_wp2_with fail
  refine (S2.out _ (HE.out.on HB2.out)).mono ?_
  rintro e w3 ⟨rfl, hb⟩
  have HB3 : Hid (Below w.heap.size w w3) := HB2.out.trans (hb.mono HB2.out.size)
  clear hb
  go_wp2_with fail
  go_ret
  exact ⟨rfl, HB3.out⟩

theorem byte_at (s : ByteArray) {i c : Nat} (h : i < s.size) (hc : (bts s).getD i 0 = c) (m : World) : (Instr.index 9 (.string s) (.int .i64 i)).run Tryd.prog m = .ok (.int .u8 (c : Int)) m := by
  rw [run_byte s i i rfl h m, hc]

theorem tks_cell {W : World} {g off n c : Nat} {ts : List LX.Tok} (h : TkS W (.slice (some ⟨g, off, none⟩) n c) (ts.map tkv)) {i : Nat} {t : LX.Tok} (ht : ts[i]? = some t) :
    W.cell? ⟨g, off + i * 4, none⟩ = some (.int .i64 t.kind) ∧ W.cell? ⟨g, off + i * 4 + 1, none⟩ = some (.int .i64 t.num) ∧ W.cell? ⟨g, off + i * 4 + 2, none⟩ = some (.string (ofB t.text)) ∧ W.cell? ⟨g, off + i * 4 + 3, none⟩ = some (.int .i64 t.place) := by
  obtain ⟨g', off', he, h2⟩ := tks_get h ht
  simp only [Option.some.injEq, Addr.mk.injEq] at he
  obtain ⟨rfl, rfl, _⟩ := he
  exact h2

theorem gap_byte {S T : List Nat} {i : Nat} (h : LX.gap S T i) : ∃ c d : Nat, S.getD i 0 = c ∧ T.getD i 0 = d ∧ (c = 10 ↔ d = 10) ∧ (c = 32 ∨ c = 9 ∨ c = 10 ∨ c = 13) := by
  obtain ⟨h1, h2⟩ := h
  refine ⟨_, _, rfl, rfl, h2, ?_⟩
  unfold LX.space at h1
  simp only [Bool.or_eq_true, beq_iff_eq] at h1
  omega

theorem lies_gap {S T : List Nat} {j : Nat} {ts : List LX.Tok} (h : LX.Lies S T j ts) {i : Nat} (h1 : j ≤ i) (h2 : i < (match ts with | [] => T.length | t :: _ => t.place)) : LX.gap S T i := by
  cases ts with
  | nil => exact h i h1 h2
  | cons t r => exact h.2.2.2.2.1 i h1 h2

set_option maxHeartbeats 4000000 in
set_option maxRecDepth 20000 in
theorem nothing_good {w : World} (henv : Env w) (s : ByteArray) (hz : s.size ≤ 20000) {ts : List LX.Tok} {cs : List (Nat × Nat)} (hu : LX.up 20000 (bts s) = .ok ts cs) (hr : LX.scan (bts s) = .ok ts cs) : Calls Tryd.prog 6 #[.string s] w (TrueP w) := by
  have SA := Lib.hid (sane_any henv)
  have HE := Lib.hid henv
  obtain ⟨S, hS⟩ : ∃ S, S = ofB (LX.blankAll cs (bts s)) := ⟨_, rfl⟩
  have hbS : bts S = LX.blankAll cs (bts s) := by rw [hS]; exact bts_ofB (LX.blankAll_small cs _ (bts_small s))
  have hSz : S.size = s.size := by rw [← bts_length S, hbS, LX.blankAll_length, bts_length]
  obtain ⟨hsc, hlies⟩ := LX.scan_strip hr
  rw [← hbS] at hsc hlies
  have S1 : Hid (∀ W, Env W → Calls Tryd.prog 20 #[.string s] W fun e w' => ∃ ad c, e = .returned (.tuple #[.slice ad ts.length c, .int .i64 0, .int .i64 0]) ∧ w'.ownsRow W.heap.size 39 4 (.slice ad ts.length c) ts.length (flatT ts) ∧ Below W.heap.size W w') := fun W hW => by
    have := scan_any hW s (by omega)
    rw [hu] at this
    exact this.mono fun e w' ⟨ad, c, h1, h2, h3⟩ => ⟨ad, c, h1, h2, h3⟩
  have S2 : Hid (∀ W, Env W → Calls Tryd.prog 21 #[.string s] W fun e w' => e = .returned (.tuple #[.string S, .int .i64 0, .int .i64 0]) ∧ Below W.heap.size W w') := fun W hW => by
    have := strip_any hW s (by omega)
    unfold StPost LX.stripT at this
    rw [hu] at this
    rw [hS]
    exact this
  have S3 : Hid (∀ W, Env W → Calls Tryd.prog 20 #[.string S] W fun e w' => ∃ ad c, e = .returned (.tuple #[.slice ad ts.length c, .int .i64 0, .int .i64 0]) ∧ w'.ownsRow W.heap.size 39 4 (.slice ad ts.length c) ts.length (flatT ts) ∧ Below W.heap.size W w') := fun W hW => by
    have := scan_any hW S (by omega)
    rw [up_small (by omega), hsc] at this
    exact this.mono fun e w' ⟨ad, c, h1, h2, h3⟩ => ⟨ad, c, h1, h2, h3⟩
  have hln : ts.length ≤ 20000 := by have := (LX.scan_len hr).2; rw [bts_length] at this; omega
  obtain ⟨lt, hlt⟩ : ∃ n, n = ts.length := ⟨_, rfl⟩
  rw [← hlt] at S1 S3 hln
  obtain ⟨z, hz'⟩ : ∃ z, z = s.size := ⟨_, rfl⟩
  have z1 : (z : Int) ≤ 20000 := by omega
  have z2 : ((S.size : Int) == (s.size : Int)) = true := by simp; omega
  have z3 : ((S.size : Int) != (s.size : Int)) = false := by simp; omega
  have z4 : (lt : Int) ≤ 20000 := by omega
  have HLT := Lib.hid hlt
  have HSZ : Hid (S.size = z) := by rw [hz']; exact hSz
  have HTZ : Hid (s.size = z) := hz'.symm
  have HLI := Lib.hid hlies
  have HZ : Hid (z ≤ 20000) := by show z ≤ 20000; omega
  clear hu hr hS hbS hSz hsc hlies henv hz hlt hz' hln
  go_enter Tryd.func6, Tryd.ntmps6
  go_wp2_with fail
  refine SA.out.mono ?_
  rintro e w1 ⟨rfl, hb⟩
  have HB := Lib.hid hb
  clear hb
  go_wp2_with fail
  refine (S1.out _ (HE.out.on HB.out)).mono ?_
  rintro e w2 ⟨ax, cx, rfl, hx, hb⟩
  have HB2 : Hid (Below w.heap.size w w2) := HB.out.trans (hb.mono HB.out.size)
  clear hb
  have HX : Hid (TkS w2 (.slice ax lt cx) (ts.map tkv)) := by rw [HLT.out] at hx ⊢; exact tks_of_owns hx
  clear hx
  go_wp2_with fail
  refine (S2.out _ (HE.out.on HB2.out)).mono ?_
  rintro e w3 ⟨rfl, hb⟩
  have HX3 := Lib.hid (HX.out.keep hb)
  have HB3 : Hid (Below w.heap.size w w3) := HB2.out.trans (hb.mono HB2.out.size)
  clear hb HX
  go_wp2_with fail
  refine (S3.out _ (HE.out.on HB3.out)).mono ?_
  rintro e w4 ⟨ay, cy, rfl, hy, hb⟩
  have HX4 := Lib.hid (HX3.out.keep hb)
  have HB4 : Hid (Below w.heap.size w w4) := HB3.out.trans (hb.mono HB3.out.size)
  clear hb HX3
  have HY4 : Hid (TkS w4 (.slice ay lt cy) (ts.map tkv)) := by rw [HLT.out] at hy ⊢; exact tks_of_owns hy
  clear hy
  go_wp2_with fail
  clear HB HB2 HB3 SA S1 S2 S3 z2 z3
  go_loopw [13, 14] (fun a i wr => ∃ n j : Nat, n ≤ lt + 1 ∧ j ≤ z ∧ i = .int .i64 n ∧ a = .int .i64 j ∧ (n ≤ lt → LX.Lies (bts S) (bts s) j (ts.drop n)) ∧ Below w4.heap.size w4 wr) (fun _ i _ => lt + 1 - (intOf i).toNat)
  case atStart => exact ⟨0, 0, Nat.zero_le _, Nat.zero_le _, rfl, rfl, fun _ => HLI.out, Below.refl _ _⟩
  case round =>
    obtain ⟨n, j, hn, hjz, rfl, rfl, hl, hbl⟩ := hrel
    have HBL := Lib.hid hbl
    have HL := Lib.hid hl
    have HN := Lib.hid hn
    have HJZ := Lib.hid hjz
    clear hbl hl hn hjz
    rcases Nat.lt_trichotomy n lt with h1 | h1 | h1
    · have hn1 : (n : Int) < (lt : Int) := by omega
      have hn2 : (n : Int) ≤ (lt : Int) := by omega
      obtain ⟨q, hq⟩ : ∃ q, ts[n]? = some q := ⟨_, List.getElem?_eq_getElem (by have := HLT.out; omega)⟩
      have hdr : ts.drop n = q :: ts.drop (n + 1) := by
        obtain ⟨h2, h3⟩ := List.getElem?_eq_some_iff.1 hq
        rw [List.drop_eq_getElem_cons h2, h3]
      have hli := HL.out (by omega)
      rw [hdr] at hli
      obtain ⟨gx, ox, rfl, c0, c1, c2, c3⟩ := tks_get (HX4.out.keep HBL.out) hq
      obtain ⟨gy, oy, rfl, d0, d1, d2, d3⟩ := tks_get (HY4.out.keep HBL.out) hq
      have HQC : Hid (∀ W, Below w4.heap.size w4 W → W.cell? ⟨gx, ox + n * 4 + 2, none⟩ = some (.string (ofB q.text))) := fun W hW => (tks_cell (HX4.out.keep hW) hq).2.2.1
      obtain ⟨qk, qv, qt, qp⟩ := q
      obtain ⟨l1, l2, l3, l4, l5, l6⟩ := hli
      simp only [] at l1 l2 l3 l4 l5 l6 HQC
      rw [bts_length, HTZ.out] at l2
      obtain ⟨tx, htx⟩ : ∃ t, t = ofB qt := ⟨_, rfl⟩
      simp only [← htx] at c0 c1 c2 c3 d0 d1 d2 d3 HQC
      have htl : qt.length = tx.size := by rw [htx]; unfold ofB; show _ = (List.map UInt8.ofNat qt).length; rw [List.length_map]
      have hex : ∀ R : ByteArray, ((bts R).drop qp).take qt.length = qt → R.extract qp (qp + tx.size) = tx := fun R hR => bts_inj (by
        rw [bts_extract, Nat.add_sub_cancel_left, ← htl, hR, htx, bts_ofB]
        intro c hc
        rw [← hR] at hc
        exact bts_small R c (List.mem_of_mem_drop (List.mem_of_mem_take hc)))
      have he := fun m => eq39t m qk qv qp tx
      have sl1 := slice_mid S qp tx.size (by have := HSZ.out; omega)
      have sl2 := slice_mid s qp tx.size (by have := HTZ.out; omega)
      rw [hex S l3] at sl1
      rw [hex s l4] at sl2
      have k1 : decide ((qp : Int) < (j : Int)) = false := by simp; omega
      have k1' : decide (qp < j) = false := by simp; omega
      have k4 : decide ((S.size : Int) < (qp : Int) + (tx.size : Int)) = false := by simp; have := HSZ.out; omega
      have k2 : (qp : Int) + (tx.size : Int) ≤ (S.size : Int) := by have := HSZ.out; omega
      have k3 : (qp : Int) + (tx.size : Int) ≤ 20000 := by have := HZ.out; omega
      have hw1 : IntKind.i64.wrap ((qp : Int) + (tx.size : Int)) = (qp : Int) + (tx.size : Int) := wrap_in _ (by omega)
      have L6 : Hid (LX.Lies (bts S) (bts s) (qp + tx.size) (ts.drop (n + 1))) := by rw [← htl]; exact l6
      have L5 := Lib.hid l5
      have K1 : Hid (j ≤ qp) := l1
      have K2 : Hid (qp + tx.size ≤ z) := by show qp + tx.size ≤ z; omega
      clear hq hdr l1 l2 l3 l4 l5 l6 htx htl hex HL
      have H1 := Lib.hid h1
      clear h1
      go_wp2_with fail
      go_quiet (fail)
      go_wp2_with fail
      clear c0 c1 c2 c3 d0 d1 d2 d3 he sl1 sl2 k1 k1' k4
      go_loopw [13] (fun a wv => ∃ i : Nat, j ≤ i ∧ i ≤ qp ∧ a = .int .i64 i ∧ Below w4.heap.size w4 wv) (fun a _ => qp - (intOf a).toNat)
      case atStart => exact ⟨j, Nat.le_refl _, K1.out, rfl, below_drawn HBL.out _⟩
      case round =>
        obtain ⟨i, hi1, hi2, rfl, hbv⟩ := hrel
        have HBV := Lib.hid hbv
        clear hbv
        by_cases hi : i < qp
        · have hiz : (i : Int) < (qp : Int) := by omega
          obtain ⟨c, d, hc, hd, hcd, hcc⟩ := gap_byte (L5.out i hi1 hi)
          have iS : i < S.size := by have := HSZ.out; have := K2.out; omega
          have iT : i < s.size := by have := HTZ.out; have := K2.out; omega
          have b2 := byte_at s iT hd
          have b1 := byte_at S iS hc
          have HI : Hid (i < qp) := hi
          have HI1 : Hid (j ≤ i) := hi1
          clear hc hd iS iT hi hi1 hi2
          rcases hcc with rfl | rfl | rfl | rfl
          all_goals
            first
            | (obtain rfl : d = 10 := hcd.1 rfl)
            | (have hd10 : ((d : Int) == 10) = false := by (simp; omega))
          all_goals
            clear hcd
            go_wp2_with fail
            go_quiet (fail)
            go_wp2_with fail
            go_roundw
            case rel => exact ⟨i + 1, by have := HI1.out; omega, HI.out, by go_num, below_drawn HBV.out _⟩
            case measure => have := HI.out; simp [intOf]; omega
        · have hiz : (qp : Int) ≤ (i : Int) := by omega
          have c2 := HQC.out _ HBV.out
          clear hi hi1 hi2
          go_wp2_with fail
          go_roundw
          case rel => exact ⟨n + 1, qp + tx.size, by have := H1.out; omega, K2.out, by go_num, by go_num, fun _ => L6.out, HBV.out⟩
          case measure => have := H1.out; simp [intOf]; omega
    · have hn1 : decide (n < lt) = false := by simp; omega
      have hn2 : (n : Int) ≤ (lt : Int) := by omega
      have hn3 : decide ((n : Int) < (lt : Int)) = false := by simp; omega
      have hli := HL.out (by omega)
      rw [List.drop_of_length_le (by have := HLT.out; omega)] at hli
      have L5 : Hid (∀ i, j ≤ i → i < z → LX.gap (bts S) (bts s) i) := fun i a b => hli i a (by rw [bts_length, HTZ.out]; exact b)
      have k2 : (S.size : Int) = (z : Int) := by have := HSZ.out; omega
      have K2 := Lib.hid k2
      have H1 := Lib.hid h1
      clear hli k2 h1 HL
      go_wp2_with fail
      go_loopw [13] (fun a wv => ∃ i : Nat, j ≤ i ∧ i ≤ z ∧ a = .int .i64 i ∧ Below w4.heap.size w4 wv) (fun a _ => z - (intOf a).toNat)
      case atStart => exact ⟨j, Nat.le_refl _, HJZ.out, rfl, HBL.out⟩
      case round =>
        obtain ⟨i, hi1, hi2, rfl, hbv⟩ := hrel
        have HBV := Lib.hid hbv
        clear hbv
        by_cases hi : i < z
        · have hiz : (i : Int) < (S.size : Int) := by have := K2.out; omega
          obtain ⟨c, d, hc, hd, hcd, hcc⟩ := gap_byte (L5.out i hi1 hi)
          have iS : i < S.size := by have := HSZ.out; omega
          have iT : i < s.size := by have := HTZ.out; omega
          have b2 := byte_at s iT hd
          have b1 := byte_at S iS hc
          have i4 : (i : Int) ≤ 20000 := by omega
          have HI : Hid (i < z) := hi
          have HI1 : Hid (j ≤ i) := hi1
          clear hc hd iS iT hi hi1 hi2
          rcases hcc with rfl | rfl | rfl | rfl
          all_goals
            first
            | (obtain rfl : d = 10 := hcd.1 rfl)
            | (have hd10 : ((d : Int) == 10) = false := by (simp; omega))
          all_goals
            clear hcd
            go_wp2_with fail
            go_quiet (fail)
            go_wp2_with fail
            go_roundw
            case rel => exact ⟨i + 1, by have := HI1.out; omega, HI.out, by go_num, below_drawn HBV.out _⟩
            case measure => have := HI.out; simp [intOf]; omega
        · have hiz : (S.size : Int) ≤ (i : Int) := by have := K2.out; omega
          have HI1 : Hid (i ≤ z) := hi2
          clear hi hi1 hi2
          go_wp2_with fail
          go_roundw
          case rel => exact ⟨n + 1, i, by have := H1.out; omega, HI1.out, by go_num, rfl, fun h => absurd h (by have := H1.out; omega), HBV.out⟩
          case measure => have := H1.out; simp [intOf]; omega
    · have hn1 : (lt : Int) < (n : Int) := by omega
      have HL2 := Lib.hid h1
      clear h1 HL
      go_wp2_with fail
      go_ret
      exact ⟨rfl, HB4.out.trans (HBL.out.mono HB4.out.size)⟩

theorem nothing_walk {w : World} (henv : Env w) (s : ByteArray) (hmax : s.size ≤ 9223372036854775807) : Calls Tryd.prog 6 #[.string s] w (TrueP w) := by
  rcases up_cases s with ⟨p, er, h1, h2, _⟩ | ⟨h1, ts, cs, h2, h3⟩
  · exact nothing_bad henv s hmax h1 h2
  · exact nothing_good henv s h1 h2 h3
end Go.Proofs.YtfoijbcmjciihaaDoor
