/- Strip: walked. -/
import Derived.Test.YtfoijbcmjciihaaGreatDoorZ0
import Derived.Test.YtfoijbcmjciihaaGreatDoorP
import Derived.Test.YtfoijbcmjciihaaGreatDoorX
import Derived.Lib.ConvBytes
import Derived.Laws.IdiomStrings
set_option linter.unusedSimpArgs false
set_option linter.unusedVariables false
namespace Go.Proofs.YtfoijbcmjciihaaGreatDoor
open Go.RowKit

theorem heap_setCell_fr (w : World) (g i : Nat) (cs : Array Value) (t : TypeId) (fr : Nat × Nat) (v : Value) (hg : w.heap[g]? = some (.cells cs t fr)) : (w.setCell ⟨g, i, none⟩ v).heap[g]? = some (.cells (cs.setIfInBounds i v) t fr) := by
  rw [setCell_eq_setRow w g i cs t fr v hg]
  exact setRow_heap w g cs _ t _ hg

/-- Bytes in a row of one's own. -/
def Bw (W : World) (g : Nat) (l : List Nat) : Prop := ∃ C m, W.heap[g]? = some (.cells C 5 (m, m + 1)) ∧ l.length ≤ m ∧ l.length ≤ C.size ∧ ∀ j, j < l.length → C[j]? = some (.int .u8 ((l.getD j 0 : Nat) : Int))

theorem Bw.cell {W : World} {g : Nat} {l : List Nat} (h : Bw W g l) {j : Nat} (hj : j < l.length) : W.cell? ⟨g, j, none⟩ = some (.int .u8 ((l.getD j 0 : Nat) : Int)) := by
  obtain ⟨C, m, h1, _, _, h4⟩ := h
  rw [cell_of_row W g j C 5 _ h1]
  exact h4 j hj

theorem Bw.frozen {W : World} {g : Nat} {l : List Nat} (h : Bw W g l) {j : Nat} (hj : j < l.length) : W.frozen? ⟨g, j, none⟩ = false := by
  obtain ⟨C, m, h1, h2, _, _⟩ := h
  simp only [World.frozen?, h1]
  have : decide (m ≤ j) = false := by simp; omega
  rw [this, Bool.false_and]

theorem Bw.set {W : World} {g : Nat} {l : List Nat} (h : Bw W g l) {j : Nat} (hj : j < l.length) (c : Nat) : Bw (W.setCell ⟨g, j, none⟩ (.int .u8 c)) g (l.set j c) := by
  obtain ⟨C, m, h1, h2, h3, h4⟩ := h
  refine ⟨_, m, heap_setCell_fr W g j C 5 _ (.int .u8 c) h1, by rw [List.length_set]; exact h2, by rw [List.length_set, Array.size_setIfInBounds]; exact h3, fun k hk => ?_⟩
  rw [List.length_set] at hk
  by_cases e : k = j
  · subst e
    rw [Array.getElem?_setIfInBounds_self_of_lt (by omega), List.getD_eq_getElem?_getD, List.getElem?_set_self hk]
    rfl
  · rw [Array.getElem?_setIfInBounds_ne (Ne.symm e), List.getD_eq_getElem?_getD, List.getElem?_set_ne (Ne.symm e), ← List.getD_eq_getElem?_getD]
    exact h4 k hk

theorem Bw.keep {W W' : World} {g : Nat} {l : List Nat} (h : Bw W g l) (hk : W'.heap[g]? = W.heap[g]?) : Bw W' g l := by
  obtain ⟨C, m, h1, h2⟩ := h
  exact ⟨C, m, hk.trans h1, h2⟩

theorem Bw.lt {W : World} {g : Nat} {l : List Nat} (h : Bw W g l) : g < W.heap.size := by
  obtain ⟨C, m, h1, _⟩ := h
  exact (Array.getElem?_eq_some_iff.1 h1).1

/-- The text as bytes. -/
theorem conv_bytes (V : World) (s : ByteArray) : ∃ cap V2, (convert 9 55 (.string s)).run Tryz.prog V = .ok (.slice (some ⟨V.heap.size, 0, none⟩) s.size cap) V2 ∧ Bw V2 V.heap.size (bts s) ∧ Below V.heap.size V V2 ∧ s.size ≤ cap := by
  refine ⟨_, _, Lib.run_convert_string_bytes V 9 55 5 s Tryz.underlying9 Tryz.underlying55 Tryz.underlying5, ⟨_, _, Lib.bytesWorld_at_new V 5 s, ?_, ?_, ?_⟩, ?_, ?_⟩
  · simp [Lib.bytesCells, bts_length]
  · simp [Lib.bytesCells, bts_length]
  · intro j hj
    rw [bts_length] at hj
    have h1 := Lib.bytesWorld_cell V 5 s j hj
    rw [cell_of_row _ _ j _ _ _ (Lib.bytesWorld_at_new V 5 s)] at h1
    rw [h1, getD_byte s hj]
    congr 3
    rw [List.getD_eq_getElem?_getD]
    have h2 : j < s.data.size := hj
    rw [Array.getElem?_toList, Array.getElem?_eq_getElem h2, getElem!_pos s.data j h2]
    rfl
  · exact ⟨rfl, rfl, rfl, by rw [Lib.bytesWorld_size]; omega, fun k hk => Lib.bytesWorld_at_old V 5 s k hk⟩
  · exact grownCap_ge V s.size 0 5

/-- What Strip leaves. -/
def StPost (w : World) (s : ByteArray) (e : Ending) (w' : World) : Prop :=
  e = .returned (.tuple #[.string (ofB (LX.stripT (bts s))), .int .i64 (LX.up 20000 (bts s)).spot, .int .i64 (LX.up 20000 (bts s)).err]) ∧ Below w.heap.size w w'

/-- The bytes as a text. -/
theorem conv_back (V : World) (g cap n : Nat) (l : List Nat) (h : Bw V g l) (hn : n = l.length) (hl : ∀ c ∈ l, c < 256) : (convert 55 9 (.slice (some ⟨g, 0, none⟩) n cap)).run Tryz.prog V = .ok (.string (ofB l)) V := by
  have := run_convert_bytes_back (P := Tryz.prog) V 55 9 5 ⟨g, 0, none⟩ cap (l.map UInt8.ofNat) Tryz.underlying55 Tryz.underlying5 Tryz.underlying9 (fun j hj => by
    rw [List.length_map] at hj
    rw [Addr.add_lit, Nat.zero_add, h.cell hj, List.getElem_map, List.getD_eq_getElem?_getD, List.getElem?_eq_getElem hj]
    congr 3
    rw [UInt8.toNat_ofNat']
    exact (Nat.mod_eq_of_lt (hl _ (List.getElem_mem hj))).symm)
  rw [List.length_map, ← hn] at this
  exact this

theorem flatP_get : ∀ (cs : List (Nat × Nat)) (n p q : Nat), cs[n]? = some (p, q) → (flatP cs)[n * 2]? = some (.int .i64 p) ∧ (flatP cs)[n * 2 + 1]? = some (.int .i64 q)
  | [], n, p, q, h => by cases h
  | (a, b) :: cs, 0, p, q, h => by cases h; exact ⟨rfl, rfl⟩
  | (a, b) :: cs, n + 1, p, q, h => by
    have := flatP_get cs n p q h
    rw [show (n + 1) * 2 = n * 2 + 1 + 1 from by omega]
    exact this

set_option maxHeartbeats 2000000 in
set_option maxRecDepth 20000 in
theorem strip_any {w : World} (henv : Env w) (s : ByteArray) (hmax : s.size ≤ 9223372036854775807) : Calls Tryz.prog 9 #[.string s] w (StPost w s) := by
  by_cases hs : 20000 < s.size
  · have hr : LX.up 20000 (bts s) = .bad 0 2 := by unfold LX.up; rw [bts_length, if_pos hs]
    unfold StPost LX.stripT
    rw [hr]
    have hz : (20000 : Int) < (s.size : Int) := by omega
    clear hs hr henv
    go_enter Tryz.func9, Tryz.ntmps9
    go_wp2_with fail
    go_ret3
    exact ⟨rfl, Below.refl _ _⟩
  · have hr : LX.up 20000 (bts s) = LX.scan (bts s) := by unfold LX.up; rw [bts_length, if_neg hs]
    unfold StPost LX.stripT
    rw [hr]
    have hz : (s.size : Int) ≤ 20000 := by omega
    have SC := Lib.hid (scanned_any henv s (by omega))
    clear hs hr henv
    obtain ⟨r, hr⟩ : ∃ r, r = LX.scan (bts s) := ⟨_, rfl⟩
    rw [← hr]
    have HR := Lib.hid hr
    clear hr
    go_enter Tryz.func9, Tryz.ntmps9
    go_wp2_with fail
    refine SC.out.mono ?_
    intro e w1 hp
    unfold SPost at hp
    rw [← HR.out] at hp
    cases r with
    | bad p er =>
      have he := (LX.scan_bad HR.out.symm).1
      have e1 : ((er : Int) != 0) = true := by simp; omega
      have e2 : ((er : Int) == 0) = false := by simp; omega
      obtain ⟨b, rfl, hb⟩ := hp
      have HB := Lib.hid hb
      clear hb he
      go_wp2_with fail
      go_quiet (fail)
      go_wp2_with fail
      go_ret3
      exact ⟨rfl, below_drawn (HB.out.trans ((Below.refl _ _).alloc HB.out.size _)) _⟩
    | ok ts cs =>
      obtain ⟨b, mb, i, cv, tv, rfl, hsc, hcm, hrow, hb, hwb, hcb⟩ := hp
      obtain ⟨a, c, rfl⟩ := owns_slice hrow
      have HCS := Lib.hid (LX.scan_cmts HR.out.symm)
      have hlen := (LX.scan_len HR.out.symm).1
      rw [bts_length] at hlen
      obtain ⟨tn, htn⟩ : ∃ n, n = ts.length := ⟨_, rfl⟩
      rw [← htn]
      have HSC := Lib.hid hsc
      have HCM := Lib.hid hcm
      have HB := Lib.hid hb
      clear hrow htn hsc hcm hb hwb hcb
      go_upto_region 6 with (fail)
      obtain ⟨V, hV⟩ : ∃ V, V = w1.alloc (.cells #[.int .i64 0, .int .i64 0] 52) := ⟨_, rfl⟩
      rw [← hV]
      obtain ⟨g, hg⟩ : ∃ g, g = V.heap.size := ⟨_, rfl⟩
      obtain ⟨cap, V2, hconv, hbw, hbl, hcap⟩ := conv_bytes V s
      rw [← hg] at hconv hbw hbl
      have hV1 : V.heap.size = w1.heap.size + 1 := by rw [hV]; simp
      have b1 : Below w1.heap.size w1 V2 := by
        have : Below w1.heap.size w1 V := by rw [hV]; exact (Below.refl _ _).alloc (Nat.le_refl _) _
        exact this.trans (hbl.mono (by omega))
      have sc2 : Sc V2 b s i mb cv := ⟨(b1.block _ (Array.getElem?_eq_some_iff.1 HSC.out.1).1).trans HSC.out.1, HSC.out.2⟩
      have cm2 : Cm V2 b cv cs := HCM.out.keep fun q hq _ => b1.block q hq
      obtain ⟨ca, cc, hcv⟩ := cm2.shape
      obtain ⟨cn, hcn⟩ : ∃ n, n = cs.length := ⟨_, rfl⟩
      rw [← hcn] at hcv
      subst hcv
      have c3 : V2.cell? ⟨b, 3, none⟩ = some (.slice ca cn cc) := by rw [cell_of_row _ _ 3 _ _ _ sc2.1]; rfl
      have HCN := Lib.hid hcn
      have hcn4 : (cn : Int) ≤ 20000 := by omega
      have HBW := Lib.hid hbw
      have B1 := Lib.hid b1
      have CM2 := Lib.hid cm2
      have HCAP := Lib.hid hcap
      have HG : Hid (w.heap.size ≤ g ∧ w1.heap.size < g) := ⟨by have := HB.out.size; omega, by omega⟩
      clear hV hg hbw hbl hV1 b1 sc2 cm2 hcn hcap hlen
      go_wp2_with fail
      clear c3
      have HN := Lib.hid (show cn = cs.length from HCN.out)
      go_loopg [35] cn (fun gk v wr => ∃ n : Nat, n ≤ cn ∧ gk = cn - n ∧ v = .int .i64 n ∧ Bw wr g (LX.blankAll (cs.take n) (bts s)) ∧ Below g V2 wr)
      case atStart => exact ⟨0, Nat.zero_le _, rfl, rfl, HBW.out, Below.refl _ _⟩
      case round =>
        obtain ⟨n, hn, hgk, rfl, hbw, hbl⟩ := hrel
        have hsn : s.size ≤ 20000 := by omega
        by_cases hlt : n < cn
        · have hrow2 : V2.ownsRow 0 63 2 (.slice ca cn cc) cn (flatP cs) := by
            have := CM2.out.row
            rwa [← HN.out] at this
          obtain ⟨h, rfl, hh0, hhlt, hhc, hcells⟩ := owns_cells hrow2 (show 0 < cn by omega)
          obtain ⟨⟨p, q⟩, hpq⟩ : ∃ x, cs[n]? = some x := ⟨_, List.getElem?_eq_getElem (by have := HN.out; omega)⟩
          have hfl := flatP_get cs n p q hpq
          have hcs := HCS.out (p, q) (List.mem_of_getElem? hpq)
          rw [bts_length] at hcs
          have hhg : h < g := Nat.lt_trans (HCM.out.lt (k := h) rfl) HG.out.2
          have x0 : wr.cell? ⟨h, n * 2, none⟩ = some (.int .i64 p) := (hbl.cell (p := ⟨h, n * 2, none⟩) hhg).trans (hcells _ _ hfl.1)
          have x1 : wr.cell? ⟨h, n * 2 + 1, none⟩ = some (.int .i64 q) := (hbl.cell (p := ⟨h, n * 2 + 1, none⟩) hhg).trans (hcells _ _ hfl.2)
          have hnz : (n : Int) < (cn : Int) := by omega
          have hpz : (p : Int) ≤ 20000 := by have := hcs.1; have := hcs.2; omega
          have hqz : (q : Int) ≤ 20000 := by have := hcs.2; omega
          have HP := Lib.hid hcs
          have HL := Lib.hid hlt
          have HPQ := Lib.hid hpq
          have H1 := Lib.hid hbw
          have H2 := Lib.hid hbl
          have H3 := Lib.hid hgk
          clear hrow2 hh0 hhlt hcells hfl hcs hhg hlt hpq hbw hbl hgk hn
          go_wp2_with fail
          obtain ⟨z, hz⟩ : ∃ z, z = wr.heap.size := ⟨_, rfl⟩
          obtain ⟨U, hU⟩ : ∃ U, U = wr.alloc (.cells #[.int .i64 p, .int .i64 q] 63) := ⟨_, rfl⟩
          rw [← hU, ← hz]
          have hgz : g < z := by have := H1.out.lt; omega
          obtain ⟨l, hl⟩ : ∃ l, l = LX.blankAll (cs.take n) (bts s) := ⟨_, rfl⟩
          have hll : l.length = s.size := by rw [hl, LX.blankAll_length, bts_length]
          have U0 : Hid (Bw U g (LX.blank1 p p l)) := by
            rw [hU, hl, LX.blank1_self]
            exact H1.out.keep (Below.heap_alloc _ _ _ H1.out.lt)
          have U1 : Hid (U.heap[z]? = some (.cells #[.int .i64 p, .int .i64 q] 63 (0, 0))) := by rw [hU, hz]; exact heap_alloc_new wr _
          have U2 : Hid (Below g V2 U) := by rw [hU]; exact H2.out.trans ((Below.refl g wr).alloc (Nat.le_of_lt H1.out.lt) _)
          have HLL := Lib.hid hll
          have HLD := Lib.hid hl
          have HGZ := Lib.hid hgz
          clear hU hz hgz hl hll x0 x1
          obtain ⟨wo, rfl⟩ : ∃ wo : World, wo = wr := ⟨_, rfl⟩
          go_loopg [11] (q - p) (fun gk v wi => ∃ i : Nat, p ≤ i ∧ i ≤ q ∧ gk = q - i ∧ v = .int .i64 i ∧ Bw wi g (LX.blank1 p i l) ∧ Below g V2 wi ∧ wi.heap[z]? = some (.cells #[.int .i64 p, .int .i64 q] 63 (0, 0)))
          case atStart => exact ⟨p, Nat.le_refl _, HP.out.1, rfl, rfl, U0.out, U2.out, U1.out⟩
          case round =>
            obtain ⟨i, hpi, hiq, hgk2, rfl, ibw, ibl, iz⟩ := hrel
            have z1 : wr.cell? ⟨z, 1, none⟩ = some (.int .i64 q) := by rw [cell_of_row _ _ 1 _ _ _ iz]; rfl
            have hi4 : (i : Int) ≤ 20000 := by omega
            have G1 := Lib.hid ibw
            have G2 := Lib.hid ibl
            have G3 := Lib.hid iz
            have G4 := Lib.hid hgk2
            have G5 := Lib.hid hpi
            by_cases hlt : i < q
            · have hiz : (i : Int) < (q : Int) := by omega
              have his : i < (LX.blank1 p i l).length := by rw [LX.blank1_length, HLL.out]; have := HP.out.2; omega
              have hisz : (i : Int) < (s.size : Int) := by have := HP.out.2; omega
              have y0 := ibw.cell his
              rw [LX.blank1_at] at y0
              have yf := ibw.frozen his
              have G6 := Lib.hid his
              have G7 := Lib.hid hlt
              have hst := @LX.blank1_step p i l hpi (by rw [LX.blank1_length] at his; exact his)
              obtain ⟨ch, hch⟩ : ∃ c, c = l.getD i 0 := ⟨_, rfl⟩
              rw [← hch] at y0 hst
              have HST := Lib.hid hst
              have hcap2 : (i : Int) < (cap : Int) := by have := HCAP.out; omega
              clear ibw ibl iz hgk2 hpi his hlt hst hch hiq
              by_cases hten : ch = 10
              · have y0' : wr.cell? ⟨g, i, none⟩ = some (.int .u8 10) := by rw [y0, hten]; rfl
                have HT := Lib.hid hten
                clear y0 hten
                go_wp2_with fail
                go_roundg (q - (i + 1))
                case measure => have := G4.out; have := G7.out; omega
                case rel =>
                  refine ⟨i + 1, by have := G5.out; omega, G7.out, rfl, by go_num, ?_, G2.out, G3.out⟩
                  rw [HST.out, if_pos HT.out]
                  exact G1.out
              · have t1 : ((ch : Int) != 10) = true := by simp; omega
                have t2 : ((ch : Int) == 10) = false := by simp; omega
                have HT := Lib.hid hten
                clear hten
                go_wp2_with fail
                go_roundg (q - (i + 1))
                case measure => have := G4.out; have := G7.out; omega
                case rel =>
                  refine ⟨i + 1, by have := G5.out; omega, G7.out, rfl, by go_num, ?_, G2.out.setCell (p := ⟨g, i, none⟩) (Nat.le_refl _) _, ?_⟩
                  · rw [HST.out, if_neg HT.out]
                    exact G1.out.set G6.out 32
                  · rw [Below.heap_setCell _ _ _ z (fun e => by have := HGZ.out; have e : z = g := e; omega)]
                    exact G3.out
            · have hge : (q : Int) ≤ (i : Int) := by omega
              obtain rfl : i = q := by omega
              clear ibw ibl iz hgk2 hpi hlt hiq
              go_wp2_with fail
              go_roundg (cn - (n + 1))
              case measure => have := H3.out; have := HL.out; omega
              case rel =>
                refine ⟨n + 1, HL.out, rfl, by go_num, ?_, G2.out⟩
                have e : cs.take (n + 1) = cs.take n ++ [(p, i)] := by rw [List.take_add_one, HPQ.out]; rfl
                rw [e, LX.blankAll_snoc, ← HLD.out]
                exact G1.out
        · have hge : (cn : Int) ≤ (n : Int) := by omega
          obtain rfl : n = cn := by omega
          have hL : (LX.blankAll (cs.take n) (bts s)) = LX.blankAll cs (bts s) := by rw [HN.out, List.take_of_length_le (Nat.le_refl _)]
          rw [hL] at hbw
          have hback := conv_back wr g cap s.size _ hbw (by rw [LX.blankAll_length, bts_length]) (LX.blankAll_small cs _ (bts_small s))
          obtain ⟨L, hLL⟩ : ∃ L, L = ofB (LX.blankAll cs (bts s)) := ⟨_, rfl⟩
          rw [← hLL] at hback
          have HLL := Lib.hid hLL
          have H2 := Lib.hid hbl
          clear hbw hbl hlt hn hgk hL hLL
          go_wp2_with fail
          go_ret3
          refine ⟨?_, ?_⟩
          · show Ending.returned (Value.tuple #[.string L, _, _]) = _
            rw [HLL.out]; rfl
          · exact HB.out.trans ((B1.out.mono HB.out.size).trans (H2.out.mono HG.out.1))
end Go.Proofs.YtfoijbcmjciihaaGreatDoor
