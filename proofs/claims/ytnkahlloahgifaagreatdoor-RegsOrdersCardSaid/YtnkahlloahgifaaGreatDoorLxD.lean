/- A byte of the text, what stands here, how many bytes are of a kind: walked. How many bytes from a place on are of a kind: the walk. A comment: walked. -/
import Derived.Test.YtnkahlloahgifaaGreatDoorLxA
import Derived.Test.YtnkahlloahgifaaGreatDoorShelf
import Derived.WalkSmall
set_option linter.unusedSimpArgs false
set_option linter.unusedVariables false
namespace Go.Proofs.YtnkahlloahgifaaGreatDoor.Lx
open Go.RowKit

/-- The bytes of a text. -/
def bts (s : ByteArray) : List Nat := s.data.toList.map UInt8.toNat

theorem bts_length (s : ByteArray) : (bts s).length = s.size := by simp only [bts, List.length_map]; rfl

theorem bts_get (s : ByteArray) {i : Nat} (h : i < s.size) : (bts s)[i]? = some (s[i]'h).toNat := by
  simp only [bts, List.getElem?_map]
  rw [List.getElem?_eq_getElem (show i < s.data.toList.length from h)]
  rfl

theorem run_byte (s : ByteArray) (i : Int) (j : Nat) (hij : i = j) (h : j < s.size) (m : World) : (Instr.index 9 (.string s) (.int .i64 i)).run Tryz.prog m = .ok (.int .u8 ((bts s).getD j 0 : Nat)) m := by
  rw [run_index_string m 9 s .i64 i Tryz.underlying9, dif_pos (by omega)]
  subst hij
  rw [List.getD_eq_getElem?_getD, bts_get s h]
  rfl

/-- Where a text and an index lie. -/
structure At (w : World) (b : Nat) (s : ByteArray) (i : Nat) : Prop where
  c0 : w.cell? ⟨b, 0, none⟩ = some (.string s)
  c1 : w.cell? ⟨b, 1, none⟩ = some (.int .i64 i)
  lt : b < w.heap.size
  le : i ≤ s.size
  sz : s.size ≤ 400000

theorem peek_any {w : World} {b : Nat} {s : ByteArray} {i : Nat} (h : At w b s i) (k : Nat) (hk : k ≤ 1000000) :
    Calls Tryz.prog 148 #[.pointer (some ⟨b, 0, none⟩), .int .i64 k] w fun e w' => e = .returned (.int .u8 ((bts s).getD (i + k) 0 : Nat)) ∧ ∃ m, w' = w.drewN m := by
  obtain ⟨c0, c1, lt, le, sz⟩ := h
  have hi : (i : Int) ≤ 400000 := by omega
  have hk' : (k : Int) ≤ 1000000 := by omega
  by_cases hlt : i + k < s.size
  · have hltz : (i : Int) + (k : Int) < (s.size : Int) := by omega
    have hix := fun m => run_byte s ((i : Int) + (k : Int)) (i + k) (by omega) hlt m
    go_enter Tryz.func148, Tryz.ntmps148
    go_wp2_with fail
    go_quiet (fail)
    go_wp2_with fail
    go_quiet (fail)
    go_wp2_with fail
    go_ret
    exact ⟨rfl, _, World.drewN_drewN _ _ _⟩
  · have hltz : (s.size : Int) ≤ (i : Int) + (k : Int) := by omega
    go_enter Tryz.func148, Tryz.ntmps148
    go_wp2_with fail
    go_quiet (fail)
    go_wp2_with fail
    go_ret
    refine ⟨?_, _, rfl⟩
    rw [List.getD_eq_getElem?_getD, List.getElem?_eq_none (by rw [bts_length]; omega)]
    rfl

theorem isPrefixOf_map (p l : List UInt8) : (p.map UInt8.toNat).isPrefixOf (l.map UInt8.toNat) = p.isPrefixOf l := by
  induction p generalizing l with
  | nil => simp
  | cons a t ih =>
    cases l with
    | nil => rfl
    | cons b r =>
      simp only [List.map_cons, List.isPrefixOf, ih]
      congr 1
      by_cases h : a = b
      · subst h; simp
      · rw [beq_false_of_ne h, beq_false_of_ne fun e => h (UInt8.toNat_inj.1 e)]

theorem extract_bytes (s : ByteArray) (i j : Nat) : (s.extract i j).data.toList = (s.data.toList.drop i).take (j - i) := by
  rw [ByteArray.data_extract, Array.toList_extract, List.extract]

theorem bts_extract (s : ByteArray) (i j : Nat) : bts (s.extract i j) = ((bts s).drop i).take (j - i) := by
  unfold bts
  rw [extract_bytes, List.map_take, List.map_drop]

theorem starts_any {w : World} {b : Nat} {s : ByteArray} {i : Nat} (h : At w b s i) (p : ByteArray) :
    Calls Tryz.prog 146 #[.pointer (some ⟨b, 0, none⟩), .string p] w fun e w' => e = .returned (.bool ((bts p).isPrefixOf ((bts s).drop i))) ∧ ∃ m, w' = w.drewN m := by
  obtain ⟨c0, c1, lt, le, sz⟩ := h
  have hi : (i : Int) ≤ (s.size : Int) := by omega
  have e : (bts p).isPrefixOf ((bts s).drop i) = Lib.hasPrefix (s.extract i s.size).data.toList p.data.toList := by
    unfold Lib.hasPrefix
    rw [← isPrefixOf_map]
    show _ = (bts p).isPrefixOf (bts (s.extract i s.size))
    rw [bts_extract, List.take_of_length_le (by rw [List.length_drop, bts_length]; omega)]
  rw [e]
  clear e
  go_enter Tryz.func146, Tryz.ntmps146
  go_wp2_with fail
  go_quiet ((go_at_call 157; exact Calls.quiet_of_same (Tryz.strings_HasPrefix _ _ _)))
  go_wp2_with fail
  go_ret
  exact ⟨rfl, _, rfl⟩
end Go.Proofs.YtnkahlloahgifaaGreatDoor.Lx

namespace Go.Proofs.YtnkahlloahgifaaGreatDoor.Lx
open Go.RowKit

theorem wrap_in (x : Int) (h : -9223372036854775808 ≤ x ∧ x ≤ 9223372036854775807) : IntKind.i64.wrap x = x := by
  rw [IntKind.wrap_i64]; omega

theorem run_drop (p : Nat → Bool) (l : List Nat) (j : Nat) (h : j < l.length) : LX.run p (l.drop j) = if p (l.getD j 0) then LX.run p (l.drop (j + 1)) + 1 else 0 := by
  rw [List.drop_eq_getElem_cons h, LX.run]
  rw [List.getD_eq_getElem?_getD, List.getElem?_eq_getElem h]
  rfl

theorem run_end (p : Nat → Bool) (l : List Nat) (j : Nat) (h : l.length ≤ j) : LX.run p (l.drop j) = 0 := by
  rw [List.drop_of_length_le h]; rfl

theorem run_le (p : Nat → Bool) (l : List Nat) : LX.run p l ≤ l.length := by
  induction l with
  | nil => exact Nat.le_refl _
  | cons c t ih =>
    rw [LX.run]
    split
    · simp; exact ih
    · simp

set_option maxHeartbeats 1000000 in
set_option maxRecDepth 20000 in
theorem run_space {w : World} {b : Nat} {s : ByteArray} {i : Nat} (h : At w b s i) (k : Nat) (hk : k ≤ 500000) :
    Calls Tryz.prog 144 #[.pointer (some ⟨b, 0, none⟩), .int .i64 k, .func (.func 145) #[] #[]] w fun e w' => e = .returned (.int .i64 (LX.run LX.space ((bts s).drop (i + k)))) ∧ ∃ m, w' = w.drewN m := by
  obtain ⟨c0, c1, lt, le, sz⟩ := h
  have hi : (i : Int) ≤ 400000 := by omega
  have hk' : (k : Int) ≤ 500000 := by omega
  have HS := Lib.hid (show i ≤ s.size ∧ s.size ≤ 400000 from ⟨le, sz⟩)
  clear le sz
  have eg : ∀ (args : Array Value) (w : World), (callFunc 145 args).run Tryz.prog w = .ok (.enter 145 args) w := enters_of Tryz.func145 (by kernel_rfl) rfl
  go_enter Tryz.func144, Tryz.ntmps144
  go_wp2_with fail
  go_loopg [7] (s.size + 1) (fun gk v wr => ∃ n m : Nat, n ≤ s.size ∧ gk = s.size + 1 - n ∧ v = .int .i64 n ∧ wr = w.drewN m ∧ LX.run LX.space ((bts s).drop (i + k)) = n + LX.run LX.space ((bts s).drop (i + k + n)))
  case atStart => exact ⟨0, 0, Nat.zero_le _, rfl, rfl, rfl, by simp⟩
  case round =>
    obtain ⟨n, m, hn, hgk, rfl, rfl, hrun⟩ := hrel
    have H1 := Lib.hid hgk
    have H2 := Lib.hid hrun
    have hn4 : (n : Int) ≤ 400000 := by have := HS.out; omega
    clear hgk hrun hn
    have hw1 : IntKind.i64.wrap ((i : Int) + (k : Int)) = (i : Int) + (k : Int) := wrap_in _ (by omega)
    have hw2 : IntKind.i64.wrap ((i : Int) + (k : Int) + (n : Int)) = (i : Int) + (k : Int) + (n : Int) := wrap_in _ (by omega)
    by_cases hlt : i + k + n < s.size
    · have hltz : (i : Int) + (k : Int) + (n : Int) < (s.size : Int) := by omega
      have hix := fun m => run_byte s ((i : Int) + (k : Int) + (n : Int)) (i + k + n) (by omega) hlt m
      obtain ⟨c, hc⟩ : ∃ c, c = (bts s).getD (i + k + n) 0 := ⟨_, rfl⟩
      rw [← hc] at hix
      have HL := Lib.hid hlt
      have HC := Lib.hid hc
      clear hlt hc
      cases hp : LX.space c with
      | true =>
        have law : Hid (∀ W : World, Calls Tryz.prog 145 #[.int .u8 c] W fun e w' => e = .returned (.bool true) ∧ w' = W) := fun W => by have := space_any W c; rw [hp] at this; exact this
        have HP := Lib.hid hp
        clear hp
        go_wp2_with fail
        refine wp_region_quiet_lit (by kernel_rfl) (by kernel_rfl) ?_
        repeat (quiet_step ((go_at_call 145; exact (law.out _).mono fun e w'' ⟨he, hw⟩ => ⟨he, _, hw⟩)))
        refine wpQuiet_nil ?_
        intro _ hw'
        obtain ⟨nq, hw''⟩ := hw'
        subst hw''
        go_wp2_with fail
        go_roundg (s.size + 1 - (n + 1))
        case measure => have := H1.out; have := HL.out; omega
        case rel =>
          refine ⟨n + 1, _, by have := HL.out; omega, rfl, by go_num, by first | rfl | exact World.drewN_drewN _ _ _, ?_⟩
          have e := run_drop LX.space (bts s) (i + k + n) (by rw [bts_length]; exact HL.out)
          rw [← HC.out, if_pos HP.out] at e
          rw [H2.out, e]
          have e2 : i + k + (n + 1) = i + k + n + 1 := by omega
          rw [e2]
          omega
      | false =>
        have law : Hid (∀ W : World, Calls Tryz.prog 145 #[.int .u8 c] W fun e w' => e = .returned (.bool false) ∧ w' = W) := fun W => by have := space_any W c; rw [hp] at this; exact this
        have HP := Lib.hid hp
        clear hp
        go_wp2_with fail
        refine wp_region_quiet_lit (by kernel_rfl) (by kernel_rfl) ?_
        repeat (quiet_step ((go_at_call 145; exact (law.out _).mono fun e w'' ⟨he, hw⟩ => ⟨he, _, hw⟩)))
        refine wpQuiet_nil ?_
        intro _ hw'
        obtain ⟨nq, hw''⟩ := hw'
        subst hw''
        go_wp2_with fail
        go_ret
        refine ⟨?_, _, by first | rfl | exact World.drewN_drewN _ _ _⟩
        have e := run_drop LX.space (bts s) (i + k + n) (by rw [bts_length]; exact HL.out)
        rw [← HC.out, if_neg (by rw [HP.out]; decide)] at e
        rw [H2.out, e]
        rfl
    · have hltz : (s.size : Int) ≤ (i : Int) + (k : Int) + (n : Int) := by omega
      have hdec : ¬ (i : Int) + (k : Int) + (n : Int) < (s.size : Int) := by omega
      have hdec2 : decide ((i : Int) + (k : Int) + (n : Int) < (s.size : Int)) = false := decide_eq_false hdec
      clear hdec
      have HL := Lib.hid hlt
      clear hlt
      go_wp2_with fail
      go_quiet (fail)
      go_wp2_with fail
      go_ret
      refine ⟨?_, _, by first | rfl | exact World.drewN_drewN _ _ _⟩
      have e := run_end LX.space (bts s) (i + k + n) (by rw [bts_length]; have := HL.out; omega)
      rw [H2.out, e]
      rfl

set_option maxHeartbeats 1000000 in
set_option maxRecDepth 20000 in
theorem run_digit {w : World} {b : Nat} {s : ByteArray} {i : Nat} (h : At w b s i) (k : Nat) (hk : k ≤ 500000) :
    Calls Tryz.prog 144 #[.pointer (some ⟨b, 0, none⟩), .int .i64 k, .func (.func 149) #[] #[]] w fun e w' => e = .returned (.int .i64 (LX.run LX.digit ((bts s).drop (i + k)))) ∧ ∃ m, w' = w.drewN m := by
  obtain ⟨c0, c1, lt, le, sz⟩ := h
  have hi : (i : Int) ≤ 400000 := by omega
  have hk' : (k : Int) ≤ 500000 := by omega
  have HS := Lib.hid (show i ≤ s.size ∧ s.size ≤ 400000 from ⟨le, sz⟩)
  clear le sz
  have eg : ∀ (args : Array Value) (w : World), (callFunc 149 args).run Tryz.prog w = .ok (.enter 149 args) w := enters_of Tryz.func149 (by kernel_rfl) rfl
  go_enter Tryz.func144, Tryz.ntmps144
  go_wp2_with fail
  go_loopg [7] (s.size + 1) (fun gk v wr => ∃ n m : Nat, n ≤ s.size ∧ gk = s.size + 1 - n ∧ v = .int .i64 n ∧ wr = w.drewN m ∧ LX.run LX.digit ((bts s).drop (i + k)) = n + LX.run LX.digit ((bts s).drop (i + k + n)))
  case atStart => exact ⟨0, 0, Nat.zero_le _, rfl, rfl, rfl, by simp⟩
  case round =>
    obtain ⟨n, m, hn, hgk, rfl, rfl, hrun⟩ := hrel
    have H1 := Lib.hid hgk
    have H2 := Lib.hid hrun
    have hn4 : (n : Int) ≤ 400000 := by have := HS.out; omega
    clear hgk hrun hn
    have hw1 : IntKind.i64.wrap ((i : Int) + (k : Int)) = (i : Int) + (k : Int) := wrap_in _ (by omega)
    have hw2 : IntKind.i64.wrap ((i : Int) + (k : Int) + (n : Int)) = (i : Int) + (k : Int) + (n : Int) := wrap_in _ (by omega)
    by_cases hlt : i + k + n < s.size
    · have hltz : (i : Int) + (k : Int) + (n : Int) < (s.size : Int) := by omega
      have hix := fun m => run_byte s ((i : Int) + (k : Int) + (n : Int)) (i + k + n) (by omega) hlt m
      obtain ⟨c, hc⟩ : ∃ c, c = (bts s).getD (i + k + n) 0 := ⟨_, rfl⟩
      rw [← hc] at hix
      have HL := Lib.hid hlt
      have HC := Lib.hid hc
      clear hlt hc
      cases hp : LX.digit c with
      | true =>
        have law : Hid (∀ W : World, Calls Tryz.prog 149 #[.int .u8 c] W fun e w' => e = .returned (.bool true) ∧ w' = W) := fun W => by have := digit_any W c; rw [hp] at this; exact this
        have HP := Lib.hid hp
        clear hp
        go_wp2_with fail
        refine wp_region_quiet_lit (by kernel_rfl) (by kernel_rfl) ?_
        repeat (quiet_step ((go_at_call 149; exact (law.out _).mono fun e w'' ⟨he, hw⟩ => ⟨he, _, hw⟩)))
        refine wpQuiet_nil ?_
        intro _ hw'
        obtain ⟨nq, hw''⟩ := hw'
        subst hw''
        go_wp2_with fail
        go_roundg (s.size + 1 - (n + 1))
        case measure => have := H1.out; have := HL.out; omega
        case rel =>
          refine ⟨n + 1, _, by have := HL.out; omega, rfl, by go_num, by first | rfl | exact World.drewN_drewN _ _ _, ?_⟩
          have e := run_drop LX.digit (bts s) (i + k + n) (by rw [bts_length]; exact HL.out)
          rw [← HC.out, if_pos HP.out] at e
          rw [H2.out, e]
          have e2 : i + k + (n + 1) = i + k + n + 1 := by omega
          rw [e2]
          omega
      | false =>
        have law : Hid (∀ W : World, Calls Tryz.prog 149 #[.int .u8 c] W fun e w' => e = .returned (.bool false) ∧ w' = W) := fun W => by have := digit_any W c; rw [hp] at this; exact this
        have HP := Lib.hid hp
        clear hp
        go_wp2_with fail
        refine wp_region_quiet_lit (by kernel_rfl) (by kernel_rfl) ?_
        repeat (quiet_step ((go_at_call 149; exact (law.out _).mono fun e w'' ⟨he, hw⟩ => ⟨he, _, hw⟩)))
        refine wpQuiet_nil ?_
        intro _ hw'
        obtain ⟨nq, hw''⟩ := hw'
        subst hw''
        go_wp2_with fail
        go_ret
        refine ⟨?_, _, by first | rfl | exact World.drewN_drewN _ _ _⟩
        have e := run_drop LX.digit (bts s) (i + k + n) (by rw [bts_length]; exact HL.out)
        rw [← HC.out, if_neg (by rw [HP.out]; decide)] at e
        rw [H2.out, e]
        rfl
    · have hltz : (s.size : Int) ≤ (i : Int) + (k : Int) + (n : Int) := by omega
      have hdec : ¬ (i : Int) + (k : Int) + (n : Int) < (s.size : Int) := by omega
      have hdec2 : decide ((i : Int) + (k : Int) + (n : Int) < (s.size : Int)) = false := decide_eq_false hdec
      clear hdec
      have HL := Lib.hid hlt
      clear hlt
      go_wp2_with fail
      go_quiet (fail)
      go_wp2_with fail
      go_ret
      refine ⟨?_, _, by first | rfl | exact World.drewN_drewN _ _ _⟩
      have e := run_end LX.digit (bts s) (i + k + n) (by rw [bts_length]; have := HL.out; omega)
      rw [H2.out, e]
      rfl

set_option maxHeartbeats 1000000 in
set_option maxRecDepth 20000 in
theorem run_part {w : World} {b : Nat} {s : ByteArray} {i : Nat} (h : At w b s i) (k : Nat) (hk : k ≤ 500000) :
    Calls Tryz.prog 144 #[.pointer (some ⟨b, 0, none⟩), .int .i64 k, .func (.func 155) #[] #[]] w fun e w' => e = .returned (.int .i64 (LX.run LX.part ((bts s).drop (i + k)))) ∧ ∃ m, w' = w.drewN m := by
  obtain ⟨c0, c1, lt, le, sz⟩ := h
  have hi : (i : Int) ≤ 400000 := by omega
  have hk' : (k : Int) ≤ 500000 := by omega
  have HS := Lib.hid (show i ≤ s.size ∧ s.size ≤ 400000 from ⟨le, sz⟩)
  clear le sz
  have eg : ∀ (args : Array Value) (w : World), (callFunc 155 args).run Tryz.prog w = .ok (.enter 155 args) w := enters_of Tryz.func155 (by kernel_rfl) rfl
  go_enter Tryz.func144, Tryz.ntmps144
  go_wp2_with fail
  go_loopg [7] (s.size + 1) (fun gk v wr => ∃ n m : Nat, n ≤ s.size ∧ gk = s.size + 1 - n ∧ v = .int .i64 n ∧ wr = w.drewN m ∧ LX.run LX.part ((bts s).drop (i + k)) = n + LX.run LX.part ((bts s).drop (i + k + n)))
  case atStart => exact ⟨0, 0, Nat.zero_le _, rfl, rfl, rfl, by simp⟩
  case round =>
    obtain ⟨n, m, hn, hgk, rfl, rfl, hrun⟩ := hrel
    have H1 := Lib.hid hgk
    have H2 := Lib.hid hrun
    have hn4 : (n : Int) ≤ 400000 := by have := HS.out; omega
    clear hgk hrun hn
    have hw1 : IntKind.i64.wrap ((i : Int) + (k : Int)) = (i : Int) + (k : Int) := wrap_in _ (by omega)
    have hw2 : IntKind.i64.wrap ((i : Int) + (k : Int) + (n : Int)) = (i : Int) + (k : Int) + (n : Int) := wrap_in _ (by omega)
    by_cases hlt : i + k + n < s.size
    · have hltz : (i : Int) + (k : Int) + (n : Int) < (s.size : Int) := by omega
      have hix := fun m => run_byte s ((i : Int) + (k : Int) + (n : Int)) (i + k + n) (by omega) hlt m
      obtain ⟨c, hc⟩ : ∃ c, c = (bts s).getD (i + k + n) 0 := ⟨_, rfl⟩
      rw [← hc] at hix
      have HL := Lib.hid hlt
      have HC := Lib.hid hc
      clear hlt hc
      cases hp : LX.part c with
      | true =>
        have law : Hid (∀ W : World, Calls Tryz.prog 155 #[.int .u8 c] W fun e w' => e = .returned (.bool true) ∧ w' = W) := fun W => by have := part_any W c; rw [hp] at this; exact this
        have HP := Lib.hid hp
        clear hp
        go_wp2_with fail
        refine wp_region_quiet_lit (by kernel_rfl) (by kernel_rfl) ?_
        repeat (quiet_step ((go_at_call 155; exact (law.out _).mono fun e w'' ⟨he, hw⟩ => ⟨he, _, hw⟩)))
        refine wpQuiet_nil ?_
        intro _ hw'
        obtain ⟨nq, hw''⟩ := hw'
        subst hw''
        go_wp2_with fail
        go_roundg (s.size + 1 - (n + 1))
        case measure => have := H1.out; have := HL.out; omega
        case rel =>
          refine ⟨n + 1, _, by have := HL.out; omega, rfl, by go_num, by first | rfl | exact World.drewN_drewN _ _ _, ?_⟩
          have e := run_drop LX.part (bts s) (i + k + n) (by rw [bts_length]; exact HL.out)
          rw [← HC.out, if_pos HP.out] at e
          rw [H2.out, e]
          have e2 : i + k + (n + 1) = i + k + n + 1 := by omega
          rw [e2]
          omega
      | false =>
        have law : Hid (∀ W : World, Calls Tryz.prog 155 #[.int .u8 c] W fun e w' => e = .returned (.bool false) ∧ w' = W) := fun W => by have := part_any W c; rw [hp] at this; exact this
        have HP := Lib.hid hp
        clear hp
        go_wp2_with fail
        refine wp_region_quiet_lit (by kernel_rfl) (by kernel_rfl) ?_
        repeat (quiet_step ((go_at_call 155; exact (law.out _).mono fun e w'' ⟨he, hw⟩ => ⟨he, _, hw⟩)))
        refine wpQuiet_nil ?_
        intro _ hw'
        obtain ⟨nq, hw''⟩ := hw'
        subst hw''
        go_wp2_with fail
        go_ret
        refine ⟨?_, _, by first | rfl | exact World.drewN_drewN _ _ _⟩
        have e := run_drop LX.part (bts s) (i + k + n) (by rw [bts_length]; exact HL.out)
        rw [← HC.out, if_neg (by rw [HP.out]; decide)] at e
        rw [H2.out, e]
        rfl
    · have hltz : (s.size : Int) ≤ (i : Int) + (k : Int) + (n : Int) := by omega
      have hdec : ¬ (i : Int) + (k : Int) + (n : Int) < (s.size : Int) := by omega
      have hdec2 : decide ((i : Int) + (k : Int) + (n : Int) < (s.size : Int)) = false := decide_eq_false hdec
      clear hdec
      have HL := Lib.hid hlt
      clear hlt
      go_wp2_with fail
      go_quiet (fail)
      go_wp2_with fail
      go_ret
      refine ⟨?_, _, by first | rfl | exact World.drewN_drewN _ _ _⟩
      have e := run_end LX.part (bts s) (i + k + n) (by rw [bts_length]; have := HL.out; omega)
      rw [H2.out, e]
      rfl

end Go.Proofs.YtnkahlloahgifaaGreatDoor.Lx

namespace Go.Proofs.YtnkahlloahgifaaGreatDoor.Lx
open Go.RowKit

/-- From one world to another the index in the scanner at b has become v; all else lies as it lay. -/
structure Mv (w w' : World) (b : Nat) (v : Int) : Prop where
  os : w'.os = w.os
  tape : w'.tape = w.tape
  output : w'.output = w.output
  size : w'.heap.size = w.heap.size
  block : ∀ k, k ≠ b → w'.heap[k]? = w.heap[k]?
  cell : ∀ c T, w.heap[b]? = some (.cells c T (0, 0)) → w'.heap[b]? = some (.cells (c.set! 1 (.int .i64 v)) T (0, 0))

theorem Mv.drewN {w w' : World} {b : Nat} {v : Int} (h : Mv w w' b v) (m : Nat) : Mv w (w'.drewN m) b v := ⟨h.os, h.tape, h.output, h.size, h.block, h.cell⟩

theorem Mv.of_set (w : World) (b : Nat) (v : Int) : Mv w (w.setCell ⟨b, 1, none⟩ (.int .i64 v)) b v :=
  ⟨rfl, rfl, rfl, by simp, fun k hk => Below.heap_setCell w _ _ k hk, fun c T h => heap_setCell_same w b 1 _ _ _ h⟩

theorem Mv.trans {w w1 w2 : World} {b : Nat} {u v : Int} (h : Mv w w1 b u) (k : Mv w1 w2 b v) : Mv w w2 b v :=
  ⟨k.os.trans h.os, k.tape.trans h.tape, k.output.trans h.output, k.size.trans h.size, fun q hq => (k.block q hq).trans (h.block q hq), fun c T hc => by
    have := k.cell _ T (h.cell c T hc)
    simpa using this⟩

/-- The scanner. -/
def Sc (w : World) (b : Nat) (s : ByteArray) (i : Nat) (mb : Nat) (cv : Value) : Prop :=
  w.heap[b]? = some (.cells #[.string s, .int .i64 i, .map (some mb), cv] 222 (0, 0)) ∧ i ≤ s.size ∧ s.size ≤ 400000

theorem Sc.at' {w : World} {b : Nat} {s : ByteArray} {i mb : Nat} {cv : Value} (h : Sc w b s i mb cv) : At w b s i :=
  ⟨by rw [cell_of_row w b 0 _ _ _ h.1]; rfl, by rw [cell_of_row w b 1 _ _ _ h.1]; rfl, (Array.getElem?_eq_some_iff.1 h.1).1, h.2.1, h.2.2⟩

theorem Sc.mv {w w' : World} {b : Nat} {s : ByteArray} {i j mb : Nat} {cv : Value} (h : Sc w b s i mb cv) (k : Mv w w' b j) (hj : j ≤ s.size) : Sc w' b s j mb cv :=
  ⟨k.cell _ _ h.1, hj, h.2.2⟩

def thrown (i e : Int) : Ending := .panicked [{ v := .iface 203 (.agg #[.int .i64 i, .int .i64 e]), recovered := false }]

theorem prefix2 {a b : Nat} {l : List Nat} (h : [a, b].isPrefixOf l = true) : ∃ t, l = a :: b :: t := by
  match l, h with
  | [], h => simp [List.isPrefixOf] at h
  | [x], h => simp [List.isPrefixOf] at h
  | x :: y :: t, h => simp [List.isPrefixOf] at h; obtain ⟨rfl, rfl⟩ := h; exact ⟨t, rfl⟩

theorem cmt_open (l : List Nat) (d n : Nat) (h : [40, 42].isPrefixOf l = true) : LX.cmt l d n = if 100 ≤ d then .deep n else LX.cmt (l.drop 2) (d + 1) (n + 2) := by
  obtain ⟨t, rfl⟩ := prefix2 h
  rw [LX.cmt, if_pos ⟨rfl, rfl⟩]; rfl

theorem cmt_close (l : List Nat) (d n : Nat) (h : [42, 41].isPrefixOf l = true) : LX.cmt l d n = if d = 1 then .fin (n + 2) else LX.cmt (l.drop 2) (d - 1) (n + 2) := by
  obtain ⟨t, rfl⟩ := prefix2 h
  rw [LX.cmt, if_neg (by decide), if_pos ⟨rfl, rfl⟩]; rfl

theorem cmt_skip (l : List Nat) (d n : Nat) (h1 : [40, 42].isPrefixOf l = false) (h2 : [42, 41].isPrefixOf l = false) : LX.cmt l d n = LX.cmt (l.drop 1) d (n + 1) := by
  match l, h1, h2 with
  | [], _, _ => rfl
  | [x], _, _ => rfl
  | x :: y :: t, h1, h2 =>
    rw [LX.cmt, if_neg, if_neg]
    · rfl
    · rintro ⟨rfl, rfl⟩; simp [List.isPrefixOf] at h2
    · rintro ⟨rfl, rfl⟩; simp [List.isPrefixOf] at h1

theorem opens_prefix {l : List Nat} (h : LX.opens l = true) : [40, 42].isPrefixOf l = true := by
  match l, h with
  | [], h => exact absurd h (by decide)
  | [x], h => exact absurd h (by simp [LX.opens])
  | x :: y :: t, h =>
    by_cases e : x = 40 ∧ y = 42
    · obtain ⟨rfl, rfl⟩ := e; simp [List.isPrefixOf]
    · unfold LX.opens at h
      split at h
      · rename_i heq; simp at heq; exact absurd ⟨heq.1, heq.2.1⟩ e
      · exact absurd h (by decide)

theorem prefix2_length {a b : Nat} {l : List Nat} (h : [a, b].isPrefixOf l = true) : 2 ≤ l.length := by
  obtain ⟨t, rfl⟩ := prefix2 h
  simp

def CPost (w : World) (b : Nat) (s : ByteArray) (i : Nat) : LX.CR → Ending → World → Prop
  | .fin n, e, w' => e = .returned (.tuple #[]) ∧ Mv w w' b (i + n : Nat) ∧ i + n ≤ s.size
  | .deep n, e, w' => e = thrown (i + n : Nat) 6 ∧ ∃ v, Mv w w' b v
  | .never, e, w' => e = thrown i 12 ∧ ∃ v, Mv w w' b v

set_option maxHeartbeats 4000000 in
set_option maxRecDepth 20000 in
theorem comment_any {w : World} {b : Nat} {s : ByteArray} {i mb : Nat} {cv : Value} (h : Sc w b s i mb cv) (ho : LX.opens ((bts s).drop i) = true) :
    Calls Tryz.prog 147 #[.pointer (some ⟨b, 0, none⟩)] w (CPost w b s i (LX.cmt ((bts s).drop i) 0 0)) := by
  obtain ⟨c0, c1, lt, le, sz⟩ := h.at'
  have hi : (i : Int) ≤ 400000 := by omega
  have hi2 : i ≤ s.size := le
  obtain ⟨r, hr⟩ : ∃ r, r = LX.cmt ((bts s).drop i) 0 0 := ⟨_, rfl⟩
  rw [← hr]
  have HS := Lib.hid h
  have HO := Lib.hid (opens_prefix ho)
  have HR := Lib.hid hr
  have HZ := Lib.hid sz
  clear h ho le sz hr
  go_enter Tryz.func147, Tryz.ntmps147
  go_wp2_with fail
  go_loopg [3] (s.size - i) (fun gk v wr => ∃ j d : Nat, i ≤ j ∧ j ≤ s.size ∧ gk = s.size - j ∧ v = .int .i64 d ∧ d ≤ 100 ∧ (∃ m, Mv w wr b m ∧ Sc wr b s j mb cv) ∧ (1 ≤ d ∨ j = i) ∧ r = LX.cmt ((bts s).drop j) d (j - i))
  case atStart => exact ⟨i, 0, Nat.le_refl _, hi2, rfl, rfl, by decide, ⟨i, ⟨rfl, rfl, rfl, rfl, fun _ _ => rfl, fun c T hc => by
    rw [HS.out.1] at hc
    simp only [Option.some.injEq, Obj.cells.injEq] at hc
    obtain ⟨rfl, rfl, _⟩ := hc
    rw [HS.out.1]; rfl⟩, HS.out⟩, .inr rfl, by rw [Nat.sub_self]; exact HR.out⟩
  case round =>
    obtain ⟨j, d, hij, hjs, hgk, rfl, hd, ⟨mv, hmv, hsc⟩, hdj, hrj⟩ := hrel
    obtain ⟨e0, e1, elt, ele, esz⟩ := hsc.at'
    have ef : wr.frozen? ⟨b, 1, none⟩ = false := frozen_of_row wr b 1 _ _ hsc.1
    have H1 := Lib.hid hgk
    have H2 := Lib.hid hmv
    have H3 := Lib.hid hsc
    have H4 := Lib.hid hdj
    have H5 := Lib.hid hrj
    have H6 := Lib.hid (And.intro hij hjs)
    have hj4 : (j : Int) ≤ 400000 := by omega
    have hd4 : (d : Int) ≤ 100 := by omega
    have hd0 : (0 : Int) ≤ (d : Int) := by omega
    have lt' := lt
    clear c0 c1 lt HS hgk hmv hsc hdj hrj ele esz hd
    by_cases hend : j = s.size
    · have hlz : (s.size : Int) ≤ (j : Int) := by omega
      have HE := Lib.hid hend
      clear hend hij hjs
      go_wp2_with fail
      go_quiet (fail)
      go_wp2_with fail
      refine ⟨rfl, ?_⟩
      have er : r = .never := by
        rw [H5.out, List.drop_of_length_le (by rw [bts_length, HE.out]; exact Nat.le_refl _)]; rfl
      rw [er]
      exact ⟨rfl, mv, H2.out.drewN _⟩
    · have hlz : (j : Int) < (s.size : Int) := by omega
      have HLT := Lib.hid (show j < s.size by omega)
      clear hend hij hjs
      cases hb1 : [40, 42].isPrefixOf ((bts s).drop j) with
      | true =>
        have S1 : Hid (∀ m, Calls Tryz.prog 146 #[.pointer (some ⟨b, 0, none⟩), .string ⟨#[40, 42]⟩] (wr.drewN m) fun e w' => e = .returned (.bool true) ∧ ∃ q, w' = (wr.drewN m).drewN q) := fun m => by
          have := starts_any (w := wr.drewN m) ⟨e0, e1, elt, H6.out.2, HZ.out⟩ ⟨#[40, 42]⟩
          rw [show bts ⟨#[40, 42]⟩ = [40, 42] from rfl, hb1] at this
          exact this
        have HB := Lib.hid hb1
        have HLEN : Hid (j + 2 ≤ s.size) := by
          have := prefix2_length hb1
          rw [List.length_drop, bts_length] at this
          show _ ≤ _
          omega
        clear hb1
        go_wp2_with fail
        go_quiet (fail)
        go_wp2_with fail
        refine (S1.out _).mono ?_
        rintro e w2 ⟨rfl, q, rfl⟩
        by_cases hdd : 100 ≤ d
        · have hdz : (100 : Int) ≤ (d : Int) := by omega
          go_wp2_with fail
          refine ⟨rfl, ?_⟩
          have er : r = .deep (j - i) := by rw [H5.out, cmt_open _ _ _ HB.out, if_pos hdd]
          rw [er]
          refine ⟨?_, mv, H2.out.drewN _⟩
          have e3 : i + (j - i) = j := by have := H6.out.1; omega
          rw [e3]
          rfl
        · have hdz : (d : Int) < 100 := by omega
          have HDD := Lib.hid hdd
          clear hdd
          go_wp2_with fail
          go_roundg (s.size - (j + 2))
          case measure => have := H1.out; have := HLT.out; omega
          case rel =>
            have e2 : ((j + 2 : Nat) : Int) = (j : Int) + 2 := by push_cast; rfl
            have hmv2 := (H2.out.drewN (nq + q)).trans (Mv.of_set (wr.drewN (nq + q)) b ((j : Int) + 2))
            have hsc2 : Sc ((wr.drewN (nq + q)).setCell ⟨b, 1, none⟩ (.int .i64 ((j : Int) + 2))) b s (j + 2) mb cv := by
              have h0 : Sc (wr.drewN (nq + q)) b s j mb cv := H3.out
              refine h0.mv ?_ HLEN.out
              rw [e2]; exact Mv.of_set _ _ _
            refine ⟨j + 2, d + 1, by have := H6.out.1; omega, HLEN.out, rfl, by push_cast; rfl, by omega, ⟨_, hmv2, hsc2⟩, .inl (by omega), ?_⟩
            rw [H5.out, cmt_open _ _ _ HB.out, if_neg HDD.out, List.drop_drop]
            congr 1
            have := H6.out.1
            omega
      | false =>
        have S1 : Hid (∀ m, Calls Tryz.prog 146 #[.pointer (some ⟨b, 0, none⟩), .string ⟨#[40, 42]⟩] (wr.drewN m) fun e w' => e = .returned (.bool false) ∧ ∃ q, w' = (wr.drewN m).drewN q) := fun m => by
          have := starts_any (w := wr.drewN m) ⟨e0, e1, elt, H6.out.2, HZ.out⟩ ⟨#[40, 42]⟩
          rw [show bts ⟨#[40, 42]⟩ = [40, 42] from rfl, hb1] at this
          exact this
        have hd1 : 1 ≤ d := by
          rcases H4.out with h | h
          · exact h
          · rw [h, HO.out] at hb1; exact absurd hb1 (by decide)
        obtain ⟨d', rfl⟩ : ∃ d', d = d' + 1 := ⟨d - 1, by omega⟩
        have HB := Lib.hid hb1
        clear hb1 hd1
        cases hb2 : [42, 41].isPrefixOf ((bts s).drop j) with
        | true =>
          have S2 : Hid (∀ m, Calls Tryz.prog 146 #[.pointer (some ⟨b, 0, none⟩), .string ⟨#[42, 41]⟩] (wr.drewN m) fun e w' => e = .returned (.bool true) ∧ ∃ q, w' = (wr.drewN m).drewN q) := fun m => by
            have := starts_any (w := wr.drewN m) ⟨e0, e1, elt, H6.out.2, HZ.out⟩ ⟨#[42, 41]⟩
            rw [show bts ⟨#[42, 41]⟩ = [42, 41] from rfl, hb2] at this
            exact this
          have HB2 := Lib.hid hb2
          have HLEN : Hid (j + 2 ≤ s.size) := by
            have := prefix2_length hb2
            rw [List.length_drop, bts_length] at this
            show _ ≤ _
            omega
          clear hb2
          go_wp2_with fail
          go_quiet (fail)
          go_wp2_with fail
          refine (S1.out _).mono ?_
          rintro e w2 ⟨rfl, q, rfl⟩
          go_wp2_with fail
          refine (S2.out _).mono ?_
          rintro e w2 ⟨rfl, q2, rfl⟩
          by_cases hdd : d' = 0
          · subst hdd
            go_wp2_with fail
            (try simp only [Exit.inBlock, Exit.then])
            refine bodyPost_ret (results_none rfl _ _ _) rfl ?_
            have er : r = .fin (j - i + 2) := by rw [H5.out, cmt_close _ _ _ HB2.out, if_pos rfl]
            rw [er]
            have e3 : i + (j - i + 2) = j + 2 := by have := H6.out.1; omega
            refine ⟨rfl, ?_, by rw [e3]; exact HLEN.out⟩
            rw [e3, show ((j + 2 : Nat) : Int) = (j : Int) + 2 from by push_cast; rfl]
            exact (H2.out.drewN _).trans (Mv.of_set _ _ _)
          · have hdz : ¬ (d' : Int) = 0 := by omega
            have HDD := Lib.hid hdd
            clear hdd
            go_wp2_with fail
            go_roundg (s.size - (j + 2))
            case measure => have := H1.out; have := HLT.out; omega
            case rel =>
              have e2 : ((j + 2 : Nat) : Int) = (j : Int) + 2 := by push_cast; rfl
              have hmv2 := (H2.out.drewN (nq + q + q2)).trans (Mv.of_set (wr.drewN (nq + q + q2)) b ((j : Int) + 2))
              have hsc2 : Sc ((wr.drewN (nq + q + q2)).setCell ⟨b, 1, none⟩ (.int .i64 ((j : Int) + 2))) b s (j + 2) mb cv := by
                have h0 : Sc (wr.drewN (nq + q + q2)) b s j mb cv := H3.out
                refine h0.mv ?_ HLEN.out
                rw [e2]; exact Mv.of_set _ _ _
              refine ⟨j + 2, d', by have := H6.out.1; omega, HLEN.out, rfl, rfl, by omega, ⟨_, hmv2, hsc2⟩, .inl (by have := HDD.out; omega), ?_⟩
              rw [H5.out, cmt_close _ _ _ HB2.out, if_neg (by have := HDD.out; omega), List.drop_drop]
              congr 1
              have := H6.out.1
              omega
        | false =>
          have S2 : Hid (∀ m, Calls Tryz.prog 146 #[.pointer (some ⟨b, 0, none⟩), .string ⟨#[42, 41]⟩] (wr.drewN m) fun e w' => e = .returned (.bool false) ∧ ∃ q, w' = (wr.drewN m).drewN q) := fun m => by
            have := starts_any (w := wr.drewN m) ⟨e0, e1, elt, H6.out.2, HZ.out⟩ ⟨#[42, 41]⟩
            rw [show bts ⟨#[42, 41]⟩ = [42, 41] from rfl, hb2] at this
            exact this
          have HB2 := Lib.hid hb2
          clear hb2
          go_wp2_with fail
          go_quiet (fail)
          go_wp2_with fail
          refine (S1.out _).mono ?_
          rintro e w2 ⟨rfl, q, rfl⟩
          go_wp2_with fail
          refine (S2.out _).mono ?_
          rintro e w2 ⟨rfl, q2, rfl⟩
          go_wp2_with fail
          go_roundg (s.size - (j + 1))
          case measure => have := H1.out; have := HLT.out; omega
          case rel =>
            have e2 : ((j + 1 : Nat) : Int) = (j : Int) + 1 := by push_cast; rfl
            have hmv2 := (H2.out.drewN (nq + q + q2)).trans (Mv.of_set (wr.drewN (nq + q + q2)) b ((j : Int) + 1))
            have hsc2 : Sc ((wr.drewN (nq + q + q2)).setCell ⟨b, 1, none⟩ (.int .i64 ((j : Int) + 1))) b s (j + 1) mb cv := by
              have h0 : Sc (wr.drewN (nq + q + q2)) b s j mb cv := H3.out
              refine h0.mv ?_ HLT.out
              rw [e2]; exact Mv.of_set _ _ _
            refine ⟨j + 1, d' + 1, by have := H6.out.1; omega, HLT.out, rfl, by push_cast; rfl, by omega, ⟨_, hmv2, hsc2⟩, .inl (by omega), ?_⟩
            rw [H5.out, cmt_skip _ _ _ HB.out HB2.out, List.drop_drop]
            congr 1
            have := H6.out.1
            omega
end Go.Proofs.YtnkahlloahgifaaGreatDoor.Lx

