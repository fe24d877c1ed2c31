/- LexPrefix: walked. -/
import Derived.Test.YtfoijbcmjciihaaDoorH7
import Derived.Test.YtfoijbcmjciihaaDoorPx
import Derived.Test.YtfoijbcmjciihaaDoorZ0
set_option linter.unusedSimpArgs false
set_option linter.unusedVariables false
namespace Go.Proofs.YtfoijbcmjciihaaDoor
open Go.RowKit

theorem slice_to (s : ByteArray) (p : Nat) (hp : p ≤ s.size) (m : World) : (Instr.slice 9 (.string s) none (some (.int .i64 p)) none).run Tryd.prog m = .ok (.string (s.extract 0 p)) m := by
  have := run_slice_string_to_if (P := Tryd.prog) m 9 s .i64 p Tryd.underlying9
  rw [this]
  simp [show (p : Int) ≤ (s.size : Int) from by omega]

theorem bts_take (s : ByteArray) (p : Nat) : bts (s.extract 0 p) = (bts s).take p := by
  rw [bts_extract, List.drop_zero, Nat.sub_zero]

theorem up_small {s : ByteArray} (h : s.size ≤ 20000) : LX.up 20000 (bts s) = LX.scan (bts s) := by
  unfold LX.up; rw [bts_length, if_neg (by omega)]

theorem ofB_size (l : List Nat) : (ofB l).size = l.length := by
  show ((l.map UInt8.ofNat).toArray).size = _
  simp

set_option maxHeartbeats 1000000 in
set_option maxRecDepth 20000 in
theorem prefix_walk {w : World} (henv : Env w) (s : ByteArray) (hmax : s.size ≤ 9223372036854775807) : Calls Tryd.prog 8 #[.string s] w (TrueP w) := by
  have SA := Lib.hid (sane_any henv)
  have HE := Lib.hid henv
  clear henv
  by_cases hs : 5000 < s.size
  · have hz : (5000 : Int) < (s.size : Int) := by omega
    clear hs
    go_enter Tryd.func8, Tryd.ntmps8
    go_wp2_with fail
    refine SA.out.mono ?_
    rintro e w1 ⟨rfl, hb⟩
    have HB := Lib.hid hb
    clear hb
    go_wp2_with fail
    go_ret
    exact ⟨rfl, HB.out⟩
  · have hz : (s.size : Int) ≤ 5000 := by omega
    have hs2 : s.size ≤ 20000 := by omega
    obtain ⟨r, hr⟩ : ∃ r, r = LX.scan (bts s) := ⟨_, rfl⟩
    have SC : Hid (∀ W, Env W → Calls Tryd.prog 20 #[.string s] W (TkPost W r)) := fun W h => by
      have := scan_any h s hmax
      rw [up_small hs2, ← hr] at this
      exact this
    cases r with
    | ok ts cs =>
      clear hs hs2 hr
      go_enter Tryd.func8, Tryd.ntmps8
      go_wp2_with fail
      refine SA.out.mono ?_
      rintro e w1 ⟨rfl, hb⟩
      have HB := Lib.hid hb
      clear hb
      go_wp2_with fail
      refine (SC.out _ (HE.out.on HB.out)).mono ?_
      rintro e w2 ⟨a, c, rfl, -, hb⟩
      have HB2 : Hid (Below w.heap.size w w2) := HB.out.trans (hb.mono HB.out.size)
      obtain ⟨tn, htn⟩ : ∃ n, n = (LX.Res.ok ts cs).toks.length := ⟨_, rfl⟩
      rw [← htn, show ((LX.Res.ok ts cs).spot : Int) = 0 from rfl, show ((LX.Res.ok ts cs).err : Int) = 0 from rfl]
      clear hb htn
      go_wp2_with fail
      go_ret
      exact ⟨rfl, HB2.out⟩
    | bad p er =>
      obtain ⟨he, hp⟩ := LX.scan_bad hr.symm
      rw [bts_length] at hp
      have hsl := slice_to s p (by omega)
      have hcut := LX.sc_cut (bts s) p er _ 0 rfl hr.symm
      rw [← bts_take] at hcut
      have hxs : (s.extract 0 p).size = p := by rw [ByteArray.size_extract]; omega
      obtain ⟨x, hx⟩ : ∃ x, x = s.extract 0 p := ⟨_, rfl⟩
      rw [← hx] at hsl hcut hxs
      have SX : Hid (∀ W, Env W → Calls Tryd.prog 20 #[.string x] W (TkPost W (LX.sc (bts x) 0))) := fun W h => by
        have := scan_any h x (by omega)
        rw [up_small (by omega)] at this
        exact this
      have hp0 : (0 : Int) ≤ (p : Int) := by omega
      have hpz : (p : Int) < (s.size : Int) := by omega
      have hx5 : x.size ≤ 5000 := by omega
      clear hr hx hxs hs hs2 hp
      have hne : ((er : Int) == 0) = false := by simp; omega
      by_cases h6 : er = 6
      · obtain ⟨q, hq, hqp⟩ := hcut.2 h6
        rw [hq] at SX
        have hqz : (q : Int) < (p : Int) := by omega
        subst h6
        have SC2 : Hid (∀ W, Env W → Calls Tryd.prog 20 #[.string s] W fun e w' => ∃ a c, e = .returned (.tuple #[.slice a 0 c, .int .i64 p, .int .i64 6]) ∧ Below W.heap.size W w') := fun W h => (SC.out W h).mono fun e w' ⟨a, c, h1, _, h3⟩ => ⟨a, c, h1, h3⟩
        have SX2 : Hid (∀ W, Env W → Calls Tryd.prog 20 #[.string x] W fun e w' => ∃ a c, e = .returned (.tuple #[.slice a 0 c, .int .i64 q, .int .i64 12]) ∧ Below W.heap.size W w') := fun W h => (SX.out W h).mono fun e w' ⟨a, c, h1, _, h3⟩ => ⟨a, c, h1, h3⟩
        clear hcut he hq hqp hne SC SX hx5
        go_enter Tryd.func8, Tryd.ntmps8
        go_wp2_with fail
        refine SA.out.mono ?_
        rintro e w1 ⟨rfl, hb⟩
        have HB := Lib.hid hb
        clear hb
        go_wp2_with fail
        refine (SC2.out _ (HE.out.on HB.out)).mono ?_
        rintro e w2 ⟨a, c, rfl, hb⟩
        have HB2 : Hid (Below w.heap.size w w2) := HB.out.trans (hb.mono HB.out.size)
        clear hb
        go_wp2_with fail
        refine (SX2.out _ (HE.out.on HB2.out)).mono ?_
        rintro e w3 ⟨a2, c2, rfl, hb⟩
        have HB3 : Hid (Below w.heap.size w w3) := HB2.out.trans (hb.mono HB2.out.size)
        clear hb
        go_wp2_with fail
        go_ret
        exact ⟨rfl, HB3.out⟩
      · obtain ⟨ts, cs, hq, hts⟩ := hcut.1 h6
        rw [hq] at SX
        have hn6 : ((er : Int) == 6) = false := by simp; omega
        have SC2 : Hid (∀ W, Env W → Calls Tryd.prog 20 #[.string s] W fun e w' => ∃ a c, e = .returned (.tuple #[.slice a 0 c, .int .i64 p, .int .i64 er]) ∧ Below W.heap.size W w') := fun W h => (SC.out W h).mono fun e w' ⟨a, c, h1, _, h3⟩ => ⟨a, c, h1, h3⟩
        have SX2 : Hid (∀ W, Env W → Calls Tryd.prog 20 #[.string x] W fun e w' => ∃ a c, e = .returned (.tuple #[.slice a ts.length c, .int .i64 0, .int .i64 0]) ∧ w'.ownsRow W.heap.size 39 4 (.slice a ts.length c) ts.length (flatT ts) ∧ Below W.heap.size W w') := fun W h => (SX.out W h).mono fun e w' ⟨a, c, h1, h2, h3⟩ => ⟨a, c, h1, h2, h3⟩
        have htsl : ts.length ≤ 5000 := by
          have h1 := (LX.scan_len (T := bts x) hq).2
          rw [bts_length] at h1
          omega
        clear hcut he hq SC SX h6 hx5
        rcases List.eq_nil_or_concat ts with rfl | ⟨init, t, rfl⟩
        · clear hts htsl
          go_enter Tryd.func8, Tryd.ntmps8
          go_wp2_with fail
          refine SA.out.mono ?_
          rintro e w1 ⟨rfl, hb⟩
          have HB := Lib.hid hb
          clear hb
          go_wp2_with fail
          refine (SC2.out _ (HE.out.on HB.out)).mono ?_
          rintro e w2 ⟨a, c, rfl, hb⟩
          have HB2 : Hid (Below w.heap.size w w2) := HB.out.trans (hb.mono HB.out.size)
          clear hb
          go_wp2_with fail
          refine (SX2.out _ (HE.out.on HB2.out)).mono ?_
          rintro e w3 ⟨a2, c2, rfl, -, hb⟩
          have HB3 : Hid (Below w.heap.size w w3) := HB2.out.trans (hb.mono HB2.out.size)
          clear hb
          rw [show ([] : List LX.Tok).length = 0 from rfl]
          go_wp2_with fail
          go_quiet (fail)
          go_wp2_with fail
          go_ret
          exact ⟨rfl, below_drawn HB3.out _⟩
        · rw [List.concat_eq_append] at SX2 hts
          have hlast := hts t (by simp)
          obtain ⟨m, hm⟩ : ∃ m, m = init.length := ⟨_, rfl⟩
          obtain ⟨tn, htn⟩ : ∃ n, n = (init ++ [t]).length := ⟨_, rfl⟩
          have htm : tn = m + 1 := by rw [htn, hm]; simp
          rw [List.concat_eq_append, ← htn] at htsl
          rw [← htn] at SX2
          have HTN := Lib.hid htn
          have hix : (tn : Int) - 1 = (m : Int) := by omega
          have hmt : (m : Int) < (tn : Int) := by omega
          have hmn : (m : Int) ≤ 5000 := by omega
          have hne0 : ((tn : Int) == 0) = false := by simp; omega
          have hget : (init ++ [t])[m]? = some t := by rw [hm]; simp
          have HG := Lib.hid (flatT_get _ m t hget)
          have HPOS : Hid (0 < tn) := by show _ < _; omega
          have hsz : (ofB t.text).size = t.text.length := ofB_size _
          obtain ⟨tx, htx⟩ : ∃ x, x = ofB t.text := ⟨_, rfl⟩
          rw [← htx] at hsz HG
          obtain ⟨tp, htp⟩ : ∃ x, x = t.place := ⟨_, rfl⟩
          rw [← htp] at hlast HG
          have hle : (tp : Int) + (tx.size : Int) ≤ (p : Int) := by omega
          have hwr : IntKind.i64.wrap ((tp : Int) + (tx.size : Int)) = (tp : Int) + (tx.size : Int) := wrap_in _ (by omega)
          clear htsl hts hlast hm htn htm hget htx htp hsz
          go_enter Tryd.func8, Tryd.ntmps8
          go_wp2_with fail
          refine SA.out.mono ?_
          rintro e w1 ⟨rfl, hb⟩
          have HB := Lib.hid hb
          clear hb
          go_wp2_with fail
          refine (SC2.out _ (HE.out.on HB.out)).mono ?_
          rintro e w2 ⟨a, c, rfl, hb⟩
          have HB2 : Hid (Below w.heap.size w w2) := HB.out.trans (hb.mono HB.out.size)
          clear hb
          go_wp2_with fail
          refine (SX2.out _ (HE.out.on HB2.out)).mono ?_
          rintro e w3 ⟨a2, c2, rfl, hrow, hb⟩
          have HB3 : Hid (Below w.heap.size w w3) := HB2.out.trans (hb.mono HB2.out.size)
          obtain ⟨g, rfl, -, -, hcap, hcells⟩ := owns_cells hrow HPOS.out
          have k2 : w3.cell? ⟨g, m * 4 + 2, none⟩ = some (.string tx) := hcells _ _ HG.out.2.2.1
          have k3 : w3.cell? ⟨g, m * 4 + 3, none⟩ = some (.int .i64 tp) := hcells _ _ HG.out.2.2.2
          clear hb hrow hcells hcap
          go_wp2_with fail
          go_quiet (fail)
          go_wp2_with fail
          go_ret
          exact ⟨rfl, below_drawn HB3.out _⟩
end Go.Proofs.YtfoijbcmjciihaaDoor
