/- LexParts: walked. -/
import Derived.Test.YtfoijbcmjciihaaDoorH7
import Derived.Test.YtfoijbcmjciihaaDoorPp
import Derived.Test.YtfoijbcmjciihaaDoorEq
set_option linter.unusedSimpArgs false
set_option linter.unusedVariables false
namespace Go.Proofs.YtfoijbcmjciihaaDoor
open Go.RowKit

theorem up_small {s : ByteArray} (h : s.size ≤ 20000) : LX.up 20000 (bts s) = LX.scan (bts s) := by
  unfold LX.up; rw [bts_length, if_neg (by omega)]

/-- A text, a line feed, and another one. -/
def cat (a b : ByteArray) : ByteArray := a ++ ⟨#[10]⟩ ++ b

theorem cat_bts (a b : ByteArray) : bts (cat a b) = bts a ++ 10 :: bts b := by
  unfold cat bts
  rw [ByteArray.data_append, ByteArray.data_append, Array.toList_append, Array.toList_append, List.map_append, List.map_append]
  simp

theorem cat_size (a b : ByteArray) : (cat a b).size = a.size + 1 + b.size := by
  unfold cat
  rw [ByteArray.size_append, ByteArray.size_append]
  rfl

/-- A scan, whatever it has. -/
theorem tk_some {s : ByteArray} {r : LX.Res} (h : ∀ W, Env W → Calls Tryd.prog 20 #[.string s] W (TkPost W r)) : ∃ (n p er : Nat), ∀ W, Env W → Calls Tryd.prog 20 #[.string s] W fun e w' => ∃ ad c, e = .returned (.tuple #[.slice ad n c, .int .i64 p, .int .i64 er]) ∧ True ∧ Below W.heap.size W w' :=
  ⟨r.toks.length, r.spot, r.err, fun W hW => (h W hW).mono fun e w' ⟨ad, c, h1, _, h3⟩ => ⟨ad, c, h1, trivial, h3⟩⟩

set_option maxHeartbeats 1000000 in
set_option maxRecDepth 20000 in
theorem parts_long {w : World} (henv : Env w) (a b : ByteArray) (ha : a.size ≤ 9223372036854775807) (hb : b.size ≤ 9223372036854775807) (h : 20000 < a.size + 1 + b.size) : Calls Tryd.prog 5 #[.string a, .string b] w (TrueP w) := by
  have SA := Lib.hid (sane_any henv)
  clear henv
  by_cases h1 : 20000 < a.size
  · have z1 : (20000 : Int) < (a.size : Int) := by omega
    clear h h1 hb ha
    go_enter Tryd.func5, Tryd.ntmps5
    go_wp2_with fail
    refine SA.out.mono ?_
    rintro e w1 ⟨rfl, hb⟩
    have HB := Lib.hid hb
    clear hb
    go_wp2_with fail
    go_ret
    exact ⟨rfl, HB.out⟩
  · have z1 : (a.size : Int) ≤ 20000 := by omega
    by_cases h2 : 20000 < b.size
    · have z2 : (20000 : Int) < (b.size : Int) := by omega
      clear h h1 h2 hb ha
      go_enter Tryd.func5, Tryd.ntmps5
      go_wp2_with fail
      refine SA.out.mono ?_
      rintro e w1 ⟨rfl, hb⟩
      have HB := Lib.hid hb
      clear hb
      go_wp2_with fail
      go_ret
      exact ⟨rfl, HB.out⟩
    · have z2 : (b.size : Int) ≤ 20000 := by omega
      have z3 : (20000 : Int) < (a.size : Int) + 1 + (b.size : Int) := by omega
      clear h h1 h2 hb ha
      go_enter Tryd.func5, Tryd.ntmps5
      go_wp2_with fail
      refine SA.out.mono ?_
      rintro e w1 ⟨rfl, hb⟩
      have HB := Lib.hid hb
      clear hb
      go_wp2_with fail
      go_ret
      exact ⟨rfl, HB.out⟩

set_option maxHeartbeats 1000000 in
set_option maxRecDepth 20000 in
theorem parts_bad1 {w : World} (henv : Env w) (a b : ByteArray) (h : a.size + 1 + b.size ≤ 20000) {p er : Nat} (hr : LX.scan (bts a) = .bad p er) : Calls Tryd.prog 5 #[.string a, .string b] w (TrueP w) := by
  have z1 : (a.size : Int) ≤ 20000 := by omega
  have z2 : (b.size : Int) ≤ 20000 := by omega
  have z3 : (a.size : Int) + 1 + (b.size : Int) ≤ 20000 := by omega
  have SA := Lib.hid (sane_any henv)
  have HE := Lib.hid henv
  have hcs := cat_size a b
  have S1 : Hid (∀ W, Env W → Calls Tryd.prog 20 #[.string a] W (TkPost W (LX.scan (bts a)))) := fun W hW => by
    have := scan_any hW a (by omega); rwa [up_small (by omega)] at this
  have S2 : Hid (∀ W, Env W → Calls Tryd.prog 20 #[.string b] W (TkPost W (LX.scan (bts b)))) := fun W hW => by
    have := scan_any hW b (by omega); rwa [up_small (by omega)] at this
  have S3 : Hid (∀ W, Env W → Calls Tryd.prog 20 #[.string (a ++ ⟨#[10]⟩ ++ b)] W (TkPost W (LX.scan (bts a ++ 10 :: bts b)))) := fun W hW => by
    have := scan_any hW (cat a b) (by omega)
    rw [up_small (by omega), cat_bts] at this; exact this
  have hal : (bts a).length = a.size := bts_length a
  clear henv hcs
  rw [hr] at S1
  have SA1 : Hid (∀ W, Env W → Calls Tryd.prog 20 #[.string a] W fun e w' => ∃ ad c, e = .returned (.tuple #[.slice ad 0 c, .int .i64 p, .int .i64 er]) ∧ True ∧ Below W.heap.size W w') := fun W h => (S1.out W h).mono fun e w' ⟨ad, c, h1, _, h3⟩ => ⟨ad, c, h1, trivial, h3⟩
  obtain ⟨hee, _⟩ := LX.scan_bad hr
  have hne : ((er : Int) == 0) = false := by simp; omega
  obtain ⟨ny, py, ey, T2⟩ := tk_some S2.out
  have SA2 := Lib.hid T2
  clear T2 S2
  by_cases h12 : er = 12
  · have SB1 : Hid (∀ W, Env W → Calls Tryd.prog 20 #[.string a] W fun e w' => ∃ ad c, e = .returned (.tuple #[.slice ad 0 c, .int .i64 p, .int .i64 12]) ∧ True ∧ Below W.heap.size W w') := by
      rw [h12] at SA1; exact SA1
    clear SA1
    have SA1 := SB1
    obtain ⟨nz, pz, ez, T3⟩ := tk_some S3.out
    have SA3 := Lib.hid T3
    clear T3 S3 S1 hr hee hne h hal h12 SB1
    go_enter Tryd.func5, Tryd.ntmps5
    go_wp2_with fail
    refine SA.out.mono ?_
    rintro e w1 ⟨rfl, hb⟩
    have HB := Lib.hid hb
    clear hb
    go_wp2_with fail
    refine (SA1.out _ (HE.out.on HB.out)).mono ?_
    rintro e w2 ⟨ax, cx, rfl, -, hb⟩
    have HB2 : Hid (Below w.heap.size w w2) := HB.out.trans (hb.mono HB.out.size)
    clear hb
    go_wp2_with fail
    refine (SA2.out _ (HE.out.on HB2.out)).mono ?_
    rintro e w3 ⟨ay, cy, rfl, -, hb⟩
    have HB3 : Hid (Below w.heap.size w w3) := HB2.out.trans (hb.mono HB2.out.size)
    clear hb
    go_wp2_with fail
    refine (SA3.out _ (HE.out.on HB3.out)).mono ?_
    rintro e w4 ⟨az, cz, rfl, -, hb⟩
    have HB4 : Hid (Below w.heap.size w w4) := HB3.out.trans (hb.mono HB3.out.size)
    clear hb
    go_wp2_with fail
    go_ret
    exact ⟨rfl, HB4.out⟩
  · have hr3 := LX.parts_bad (x := 10) rfl (bts b) hr h12
    rw [hr3] at S3
    have hn12 : ((er : Int) == 12) = false := by simp; omega
    have SA3 : Hid (∀ W, Env W → Calls Tryd.prog 20 #[.string (a ++ ⟨#[10]⟩ ++ b)] W fun e w' => ∃ ad c, e = .returned (.tuple #[.slice ad 0 c, .int .i64 p, .int .i64 er]) ∧ True ∧ Below W.heap.size W w') := fun W h => (S3.out W h).mono fun e w' ⟨ad, c, h1, _, h3⟩ => ⟨ad, c, h1, trivial, h3⟩
    clear hr3 S3 S1 hr hee h h12 hal
    go_enter Tryd.func5, Tryd.ntmps5
    go_wp2_with fail
    refine SA.out.mono ?_
    rintro e w1 ⟨rfl, hb⟩
    have HB := Lib.hid hb
    clear hb
    go_wp2_with fail
    refine (SA1.out _ (HE.out.on HB.out)).mono ?_
    rintro e w2 ⟨ax, cx, rfl, -, hb⟩
    have HB2 : Hid (Below w.heap.size w w2) := HB.out.trans (hb.mono HB.out.size)
    clear hb
    go_wp2_with fail
    refine (SA2.out _ (HE.out.on HB2.out)).mono ?_
    rintro e w3 ⟨ay, cy, rfl, -, hb⟩
    have HB3 : Hid (Below w.heap.size w w3) := HB2.out.trans (hb.mono HB2.out.size)
    clear hb
    go_wp2_with fail
    refine (SA3.out _ (HE.out.on HB3.out)).mono ?_
    rintro e w4 ⟨az, cz, rfl, -, hb⟩
    have HB4 : Hid (Below w.heap.size w w4) := HB3.out.trans (hb.mono HB3.out.size)
    clear hb
    go_wp2_with fail
    go_ret
    exact ⟨rfl, HB4.out⟩

set_option maxHeartbeats 1000000 in
set_option maxRecDepth 20000 in
theorem parts_bad2 {w : World} (henv : Env w) (a b : ByteArray) (h : a.size + 1 + b.size ≤ 20000) {ts : List LX.Tok} {cs : List (Nat × Nat)} (hr : LX.scan (bts a) = .ok ts cs) {p er : Nat} (hr2 : LX.scan (bts b) = .bad p er) : Calls Tryd.prog 5 #[.string a, .string b] w (TrueP w) := by
  have z1 : (a.size : Int) ≤ 20000 := by omega
  have z2 : (b.size : Int) ≤ 20000 := by omega
  have z3 : (a.size : Int) + 1 + (b.size : Int) ≤ 20000 := by omega
  have SA := Lib.hid (sane_any henv)
  have HE := Lib.hid henv
  have hcs := cat_size a b
  have S1 : Hid (∀ W, Env W → Calls Tryd.prog 20 #[.string a] W (TkPost W (LX.scan (bts a)))) := fun W hW => by
    have := scan_any hW a (by omega); rwa [up_small (by omega)] at this
  have S2 : Hid (∀ W, Env W → Calls Tryd.prog 20 #[.string b] W (TkPost W (LX.scan (bts b)))) := fun W hW => by
    have := scan_any hW b (by omega); rwa [up_small (by omega)] at this
  have S3 : Hid (∀ W, Env W → Calls Tryd.prog 20 #[.string (a ++ ⟨#[10]⟩ ++ b)] W (TkPost W (LX.scan (bts a ++ 10 :: bts b)))) := fun W hW => by
    have := scan_any hW (cat a b) (by omega)
    rw [up_small (by omega), cat_bts] at this; exact this
  have hal : (bts a).length = a.size := bts_length a
  clear henv hcs
  have hr3 := LX.parts_ok (x := 10) rfl (bts b) hr
  rw [hr2] at hr3
  obtain ⟨hee, _⟩ := LX.scan_bad hr2
  have hne : ((er : Int) == 0) = false := by simp; omega
  rw [hr] at S1
  rw [hr2] at S2
  rw [hr3] at S3
  obtain ⟨pz, hpz⟩ : ∃ pz, pz = p + ((bts a).length + 1) := ⟨_, rfl⟩
  obtain ⟨nx, hnx⟩ : ∃ nx, nx = ts.length := ⟨_, rfl⟩
  have hpe : ((pz : Int) == (p : Int) + (a.size : Int) + 1) = true := by simp; omega
  have hpl : (p : Int) < (b.size : Int) := by have := (LX.scan_bad hr2).2; rw [bts_length] at this; omega
  have SA1 : Hid (∀ W, Env W → Calls Tryd.prog 20 #[.string a] W fun e w' => ∃ ad c, e = .returned (.tuple #[.slice ad nx c, .int .i64 0, .int .i64 0]) ∧ True ∧ Below W.heap.size W w') := by rw [hnx]; exact fun W h => (S1.out W h).mono fun e w' ⟨ad, c, h1, _, h3⟩ => ⟨ad, c, h1, trivial, h3⟩
  have SA2 : Hid (∀ W, Env W → Calls Tryd.prog 20 #[.string b] W fun e w' => ∃ ad c, e = .returned (.tuple #[.slice ad 0 c, .int .i64 p, .int .i64 er]) ∧ True ∧ Below W.heap.size W w') := fun W h => (S2.out W h).mono fun e w' ⟨ad, c, h1, _, h3⟩ => ⟨ad, c, h1, trivial, h3⟩
  have SA3 : Hid (∀ W, Env W → Calls Tryd.prog 20 #[.string (a ++ ⟨#[10]⟩ ++ b)] W fun e w' => ∃ ad c, e = .returned (.tuple #[.slice ad 0 c, .int .i64 pz, .int .i64 er]) ∧ True ∧ Below W.heap.size W w') := by rw [hpz]; exact fun W h => (S3.out W h).mono fun e w' ⟨ad, c, h1, _, h3⟩ => ⟨ad, c, h1, trivial, h3⟩
  clear hr3 S3 S1 S2 hr hr2 hee h hpz hnx hal
  go_enter Tryd.func5, Tryd.ntmps5
  go_wp2_with fail
  refine SA.out.mono ?_
  rintro e w1 ⟨rfl, hb⟩
  have HB := Lib.hid hb
  clear hb
  go_wp2_with fail
  refine (SA1.out _ (HE.out.on HB.out)).mono ?_
  rintro e w2 ⟨ax, cx, rfl, -, hb⟩
  have HB2 : Hid (Below w.heap.size w w2) := HB.out.trans (hb.mono HB.out.size)
  clear hb
  go_wp2_with fail
  refine (SA2.out _ (HE.out.on HB2.out)).mono ?_
  rintro e w3 ⟨ay, cy, rfl, -, hb⟩
  have HB3 : Hid (Below w.heap.size w w3) := HB2.out.trans (hb.mono HB2.out.size)
  clear hb
  go_wp2_with fail
  refine (SA3.out _ (HE.out.on HB3.out)).mono ?_
  rintro e w4 ⟨az, cz, rfl, -, hb⟩
  have HB4 : Hid (Below w.heap.size w w4) := HB3.out.trans (hb.mono HB3.out.size)
  clear hb
  go_wp2_with fail
  go_ret
  exact ⟨rfl, HB4.out⟩

end Go.Proofs.YtfoijbcmjciihaaDoor
