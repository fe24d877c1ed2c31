/- Line and At of the program: walked. -/
import Derived.Test.YtfoijbcmjciihaaGreatDoorX
set_option linter.unusedSimpArgs false
set_option linter.unusedVariables false
namespace Go.Proofs.YtfoijbcmjciihaaGreatDoor
open Go.RowKit

theorem line_in (w : World) (s : ByteArray) (i : Nat) (hi : i ≤ s.size) (hs : s.size ≤ 400000) :
    Calls Tryz.prog 29 #[.string s, .int .i64 i] w fun e w' => e = .returned (.tuple #[.int .i64 (LX.posP (bts s) i).1, .int .i64 (LX.posP (bts s) i).2, .int .i64 0]) ∧ w' = w := by
  have h0 : (0 : Int) ≤ (i : Int) := by omega
  have h1 : (i : Int) ≤ (s.size : Int) := by omega
  have hsz : (s.size : Int) ≤ 400000 := by omega
  have d0 : decide ((i : Int) < 0) = false := by simp
  have d1 : decide ((s.size : Int) < (i : Int)) = false := by simp; omega
  have hsl : ∀ m : World, (Instr.slice 9 (.string s) none (some (.int .i64 i)) none).run Tryz.prog m = .ok (.string (s.extract 0 i)) m := fun m => by
    have := run_slice_string_to_if (P := Tryz.prog) m 9 s .i64 i Tryz.underlying9
    rw [this]
    simp [h1]
  have C1 := Lib.hid (count_extract s i hi)
  have C2 := Lib.hid (col_eq s i hi)
  have C3 := Lib.hid (last_extract s i hi)
  obtain ⟨t, ht⟩ : ∃ t, t = s.extract 0 i := ⟨_, rfl⟩
  rw [← ht] at hsl C1 C3
  have T0 : Hid (t.size ≤ 400000) := by rw [ht, ByteArray.size_extract]; show _ ≤ _; omega
  obtain ⟨a, ha⟩ : ∃ a, a = (LX.posP (bts s) i).1 := ⟨_, rfl⟩
  obtain ⟨b, hb⟩ : ∃ b, b = (LX.posP (bts s) i).2 := ⟨_, rfl⟩
  have hge := LX.posP_ge (bts s) i (by rw [bts_length]; exact hi)
  have hle : a ≤ i + 1 := by
    rw [ha, LX.posP_line (bts s) i (by rw [bts_length]; exact hi)]
    have := List.count_le_length (l := (bts s).take i) (a := 10)
    have := List.length_take_le i (bts s)
    omega
  rw [← ha, ← hb] at hge ⊢
  rw [← ha] at C1
  rw [← hb] at C2
  clear ha hb ht hi hs
  obtain ⟨cn, hcn⟩ : ∃ c : Int, c = (Lib.countByte t.data.toList 10 : Int) := ⟨_, rfl⟩
  have C4 : Hid (cn + 1 = a) := by rw [hcn]; exact C1.out
  have hc0 : 0 ≤ cn := by omega
  have hc1 : cn ≤ 400000 := by have := C4.out; omega
  have CN := Lib.hid hcn
  clear hcn
  go_enter Tryz.func29, Tryz.ntmps29
  go_wp2_with fail
  have SC := Tryz.strings_Count_one t 10 w
  refine SC.mono ?_
  clear SC
  rintro e w1 ⟨rfl, rfl⟩
  rw [← CN.out]
  go_wp2_with fail
  refine (Tryz.strings_LastIndexByte t 10 (by have := T0.out; omega) w1).mono ?_
  rintro e w2 ⟨rfl, rfl⟩
  rw [C3.out]
  obtain ⟨lx, hlx⟩ : ∃ x : Int, x = Lib.lastIdx s 10 i := ⟨_, rfl⟩
  have C5 : Hid ((b : Int) = (i : Int) - lx) := by rw [hlx]; exact C2.out
  rw [← hlx]
  have b1 : lx ≤ (i : Int) := by have := C5.out; omega
  have b2 : -1 ≤ lx := by
    rw [hlx]
    rcases Lib.lastIdx_spec s 10 i with ⟨e, _⟩ | ⟨q, _, e, _⟩ <;> omega
  clear hlx
  go_wp2_with fail
  go_ret3
  refine ⟨?_, rfl⟩
  rw [C5.out, ← C4.out]
  rfl

theorem line_out (w : World) (s : ByteArray) (i : Int) (hi : i < 0 ∨ (s.size : Int) < i) :
    Calls Tryz.prog 29 #[.string s, .int .i64 i] w fun e w' => e = .returned (.tuple #[.int .i64 0, .int .i64 0, .int .i64 1]) ∧ w' = w := by
  by_cases h0 : i < 0
  · clear hi
    go_enter Tryz.func29, Tryz.ntmps29
    go_wp2_with fail
    go_ret3
    exact ⟨rfl, rfl⟩
  · have h1 : (s.size : Int) < i := by omega
    have h2 : 0 ≤ i := by omega
    clear hi h0
    go_enter Tryz.func29, Tryz.ntmps29
    go_wp2_with fail
    go_ret3
    exact ⟨rfl, rfl⟩

theorem getD_extract (s : ByteArray) (f q : Nat) (hf : f ≤ s.size) : (s.extract f s.size).data.toList[q]? = if f + q < s.size then some (s.data[f + q]!) else none := by
  rw [extract_bytes, List.take_of_length_le (by rw [List.length_drop]; exact Nat.le_refl _), List.getElem?_drop]
  split
  · rename_i h
    have h' : f + q < s.data.size := h
    rw [getElem!_pos s.data _ h', Array.getElem?_toList, Array.getElem?_eq_getElem h']
  · rename_i h
    exact List.getElem?_eq_none (by show s.data.size ≤ f + q; have : s.data.size = s.size := rfl; omega)

theorem idx_none {s : ByteArray} {f : Nat} (hf : f ≤ s.size) (h : Lib.indexByte (s.extract f s.size).data.toList 10 = -1) : ∀ q, f + q < (bts s).length → (bts s).getD (f + q) 0 ≠ 10 := by
  intro q hq
  rw [bts_length] at hq
  rw [getD_byte s hq]
  have := Lib.indexByte_none h q
  rw [getD_extract s f q hf, if_pos hq] at this
  intro e
  exact this (by rw [show s.data[f + q]! = 10 from UInt8.toNat_inj.1 e])

theorem idx_some {s : ByteArray} {f o : Nat} (hf : f ≤ s.size) (h : Lib.indexByte (s.extract f s.size).data.toList 10 = (o : Int)) : f + o < s.size ∧ (bts s).getD (f + o) 0 = 10 ∧ ∀ q, q < o → (bts s).getD (f + q) 0 ≠ 10 := by
  obtain ⟨h1, h2⟩ := Lib.indexByte_some h
  rw [getD_extract s f o hf] at h1
  split at h1
  · rename_i hlt
    refine ⟨hlt, ?_, fun q hq => ?_⟩
    · rw [getD_byte s hlt]
      simp only [Option.some.injEq] at h1
      rw [h1]; rfl
    · rw [getD_byte s (by omega)]
      have h3 := h2 q hq
      rw [getD_extract s f q hf, if_pos (by omega)] at h3
      intro e
      exact h3 (by rw [show s.data[f + q]! = 10 from UInt8.toNat_inj.1 e])
  · cases h1

def atV (r : Option Nat) : Value := .tuple #[.int .i64 ((r.getD 0 : Nat) : Int), .int .i64 (if r.isSome then 0 else 1)]

theorem slice_from (s : ByteArray) (f : Nat) (hf : f ≤ s.size) (m : World) : (Instr.slice 9 (.string s) (some (.int .i64 f)) none none).run Tryz.prog m = .ok (.string (s.extract f s.size)) m := by
  have := run_slice_string_from_if (P := Tryz.prog) m 9 s .i64 f Tryz.underlying9
  rw [this, if_pos ⟨by omega, by omega⟩]
  simp

set_option maxHeartbeats 2000000 in
set_option maxRecDepth 20000 in
theorem at_any (w : World) (s : ByteArray) (hs : s.size ≤ 400000) (a b : Int) (hb : b ≤ 9223372036854775807) :
    Calls Tryz.prog 30 #[.string s, .int .i64 a, .int .i64 b] w fun e w' => e = .returned (atV (LX.atP (bts s) a b)) ∧ w' = w := by
  obtain ⟨r, hr⟩ : ∃ r, r = LX.atP (bts s) a b := ⟨_, rfl⟩
  rw [← hr]
  have HR := Lib.hid hr
  have HS := Lib.hid hs
  clear hr hs
  go_enter Tryz.func30, Tryz.ntmps30
  go_wp2_with fail
  go_loop [8, 9] (fun fv kv => ∃ f k : Nat, f ≤ s.size ∧ fv = .int .i64 f ∧ kv = .int .i64 k ∧ 1 ≤ k ∧ k ≤ f + 1 ∧ LX.posP (bts s) f = (k, 1) ∧ (k = 1 ∨ (k : Int) ≤ a)) (fun fv _ => s.size + 1 - (intOf fv).toNat)
  case atStart => exact ⟨0, 1, Nat.zero_le _, rfl, rfl, by decide, by decide, rfl, .inl rfl⟩
  case round =>
    obtain ⟨f, k, hf, rfl, rfl, hk1, hkf, hp, hka⟩ := hrel
    have hsl := slice_from s f hf
    have H1 := Lib.hid hp
    have H2 := Lib.hid hka
    have hf4 : (f : Int) ≤ 400000 := by have := HS.out; omega
    have hk4 : (k : Int) ≤ 400001 := by omega
    have H3 := Lib.hid (And.intro hf (And.intro hk1 hkf))
    have IB := Lib.hid (Tryz.strings_IndexByte (s.extract f s.size) 10 w)
    have I1 := Lib.hid (@idx_none s f hf)
    have I2 := Lib.hid (@idx_some s f · hf)
    have hge := Lib.indexByte_ge (s.extract f s.size).data.toList 10
    obtain ⟨n, hn⟩ : ∃ n, n = Lib.indexByte (s.extract f s.size).data.toList 10 := ⟨_, rfl⟩
    have IB2 : Hid (Calls Tryz.prog 47 #[.string (s.extract f s.size), .int .u8 10] w fun e w' => e = .returned (.int .i64 n) ∧ w' = w) := by rw [hn]; exact IB.out
    rw [← hn] at hge I1 I2
    obtain ⟨tx, htx⟩ : ∃ t, t = s.extract f s.size := ⟨_, rfl⟩
    rw [← htx] at hsl IB2
    clear hp hka hf hk1 hkf IB hn htx
    by_cases hlt : (k : Int) < a
    · by_cases hneg : n = -1
      · subst hneg
        have HL := Lib.hid hlt
        go_wp2_with fail
        refine IB2.out.mono ?_
        rintro e w1 ⟨rfl, rfl⟩
        go_wp2_with fail
        go_ret2
        refine ⟨?_, rfl⟩
        rw [HR.out, LX.atP_last (by rw [bts_length]; exact H3.out.1) H1.out (I1.out (by trivial)) HL.out]
        rfl
      · obtain ⟨o, rfl⟩ := Int.eq_ofNat_of_zero_le (show 0 ≤ n by omega)
        have hi := I2.out o rfl
        have HI := Lib.hid hi
        have ho4 : (f : Int) + (o : Int) ≤ 400000 := by have := HS.out; omega
        have HL := Lib.hid hlt
        clear hi hneg
        go_wp2_with fail
        refine IB2.out.mono ?_
        rintro e w1 ⟨rfl, rfl⟩
        go_wp2_with fail
        go_round
        case rel =>
          have hnx := LX.posP_next (l := bts s) (i := f + o) (by rw [bts_length]; exact HI.out.1) HI.out.2.1
          rw [LX.posP_run (bts s) f o (by rw [bts_length]; have := HI.out.1; omega) (fun q hq => HI.out.2.2 q hq), H1.out] at hnx
          refine ⟨f + o + 1, k + 1, HI.out.1, by go_num, by go_num, by omega, by have := H3.out; omega, hnx, .inr (by have := HL.out; push_cast; omega)⟩
        case measure => have := HI.out.1; simp [intOf]; omega
    · have hlt2 : a ≤ (k : Int) := by omega
      have H4 : Hid (a < 1 ∨ a = k) := by
        show _ ∨ _
        rcases H2.out with h | h <;> omega
      clear hlt
      by_cases ha : a < 1
      · have hr0 : r = none := by rw [HR.out]; exact LX.atP_low (.inl ha)
        subst hr0
        by_cases hneg : n = -1
        · subst hneg
          go_wp2_with fail
          refine IB2.out.mono ?_
          rintro e w1 ⟨rfl, rfl⟩
          go_wp2_with fail
          go_ret2
          exact ⟨rfl, rfl⟩
        · have hn0 : 0 ≤ n := by omega
          clear hneg
          go_wp2_with fail
          refine IB2.out.mono ?_
          rintro e w1 ⟨rfl, rfl⟩
          go_wp2_with fail
          go_ret2
          exact ⟨rfl, rfl⟩
      · have ha1 : 1 ≤ a := by omega
        have hak : a = k := by rcases H4.out with h | h <;> omega
        clear ha
        obtain ⟨room, hroom, hend, hnl⟩ : ∃ room : Nat, (n = -1 ∧ room = s.size - f ∨ n = (room : Int)) ∧ (f + room = s.size ∨ (f + room < s.size ∧ (bts s).getD (f + room) 0 = 10)) ∧ ∀ q, q < room → (bts s).getD (f + q) 0 ≠ 10 := by
          have hf := H3.out.1
          by_cases hneg : n = -1
          · exact ⟨s.size - f, .inl ⟨hneg, rfl⟩, .inl (by omega), fun q hq => I1.out hneg q (by rw [bts_length]; omega)⟩
          · obtain ⟨o, rfl⟩ := Int.eq_ofNat_of_zero_le (show 0 ≤ n by omega)
            obtain ⟨h1, h2, h3⟩ := I2.out o rfl
            exact ⟨o, .inr rfl, .inr ⟨h1, h2⟩, h3⟩
        have hfr : f + room ≤ s.size := by omega
        have hat := LX.atP_line (l := bts s) (b := b) (a := a) (by rw [bts_length]; exact hfr) H1.out hnl (by rw [bts_length]; rcases hend with h | h; exact .inl h; exact .inr h.2) hak
        rw [← HR.out] at hat
        have HA := Lib.hid hat
        have hr4 : (f : Int) + (room : Int) ≤ 400000 := by have := HS.out; omega
        have HF := Lib.hid hfr
        clear hat hend hnl hak hfr
        rcases hroom with ⟨hneg, hroom⟩ | hroom
        · subst hneg
          have hrz : (room : Int) = (s.size : Int) - (f : Int) := by have := H3.out.1; omega
          have hrz2 : (s.size : Int) - (f : Int) = (room : Int) := by omega
          have hsz4 : (s.size : Int) ≤ 400000 := by have := HS.out; omega
          clear hroom hrz
          by_cases hb1 : b < 1
          · have hr0 : r = none := by rw [HA.out, if_neg (by omega)]
            subst hr0
            go_wp2_with fail
            refine IB2.out.mono ?_
            rintro e w1 ⟨rfl, rfl⟩
            go_wp2_with fail
            go_ret2
            exact ⟨rfl, rfl⟩
          · have hb2 : 1 ≤ b := by omega
            have hwr : IntKind.i64.wrap (b - 1) = b - 1 := wrap_in _ (by omega)
            clear hb1
            by_cases hb3 : (room : Int) < b - 1
            · have hr0 : r = none := by rw [HA.out, if_neg (by omega)]
              subst hr0
              go_wp2_with fail
              refine IB2.out.mono ?_
              rintro e w1 ⟨rfl, rfl⟩
              go_wp2_with fail
              go_ret2
              exact ⟨rfl, rfl⟩
            · have hb4 : b - 1 ≤ (room : Int) := by omega
              have hr0 : r = some (f + (b - 1).toNat) := by rw [HA.out, if_pos ⟨hb2, hb4⟩]
              have HRR := Lib.hid hr0
              have hb5 : b ≤ 400001 := by omega
              clear hb3 hr0
              go_wp2_with fail
              refine IB2.out.mono ?_
              rintro e w1 ⟨rfl, rfl⟩
              go_wp2_with fail
              go_ret2
              refine ⟨?_, rfl⟩
              rw [HRR.out]
              show Ending.returned (Value.tuple #[.int .i64 _, .int .i64 _]) = _
              unfold atV
              congr 5
              simp only [Option.getD_some]
              push_cast
              omega
        · subst hroom
          have hroom0 : (0 : Int) ≤ (room : Int) := by omega
          by_cases hb1 : b < 1
          · have hr0 : r = none := by rw [HA.out, if_neg (by omega)]
            subst hr0
            go_wp2_with fail
            refine IB2.out.mono ?_
            rintro e w1 ⟨rfl, rfl⟩
            go_wp2_with fail
            go_ret2
            exact ⟨rfl, rfl⟩
          · have hb2 : 1 ≤ b := by omega
            have hwr : IntKind.i64.wrap (b - 1) = b - 1 := wrap_in _ (by omega)
            clear hb1
            by_cases hb3 : (room : Int) < b - 1
            · have hr0 : r = none := by rw [HA.out, if_neg (by omega)]
              subst hr0
              go_wp2_with fail
              refine IB2.out.mono ?_
              rintro e w1 ⟨rfl, rfl⟩
              go_wp2_with fail
              go_ret2
              exact ⟨rfl, rfl⟩
            · have hb4 : b - 1 ≤ (room : Int) := by omega
              have hr0 : r = some (f + (b - 1).toNat) := by rw [HA.out, if_pos ⟨hb2, hb4⟩]
              have HRR := Lib.hid hr0
              have hb5 : b ≤ 400001 := by omega
              clear hb3 hr0
              go_wp2_with fail
              refine IB2.out.mono ?_
              rintro e w1 ⟨rfl, rfl⟩
              go_wp2_with fail
              go_ret2
              refine ⟨?_, rfl⟩
              rw [HRR.out]
              show Ending.returned (Value.tuple #[.int .i64 _, .int .i64 _]) = _
              unfold atV
              congr 5
              simp only [Option.getD_some]
              push_cast
              omega
end Go.Proofs.YtfoijbcmjciihaaGreatDoor
