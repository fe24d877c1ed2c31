/- A byte of the text, what stands here, how many bytes are of a kind: walked. -/
import Derived.Test.YtfoijbcmjciihaaGreatDoorA
import Derived.Test.YtfoijbcmjciihaaGreatDoorShelf
set_option linter.unusedSimpArgs false
set_option linter.unusedVariables false
namespace Go.Proofs.YtfoijbcmjciihaaGreatDoor
open Go.RowKit

/-- The bytes of a text. -/
def bts (s : ByteArray) : List Nat := s.data.toList.map UInt8.toNat

theorem bts_length (s : ByteArray) : (bts s).length = s.size := by simp only [bts, List.length_map]; rfl

theorem bts_get (s : ByteArray) {i : Nat} (h : i < s.size) : (bts s)[i]? = some (s[i]'h).toNat := by
  simp only [bts, List.getElem?_map]
  rw [List.getElem?_eq_getElem (show i < s.data.toList.length from h)]
  rfl

theorem run_byte (s : ByteArray) (i : Int) (j : Nat) (hij : i = j) (h : j < s.size) (m : World) : (Instr.index 9 (.string s) (.int .i64 i)).run Tryz.prog m = .ok (.int .u8 ((bts s).getD j 0 : Nat)) m := by
  rw [run_index_string m 9 s .i64 i Tryz.underlying9, dif_pos (by omega)]
  subst hij
  rw [List.getD_eq_getElem?_getD, bts_get s h]
  rfl

/-- Where a text and an index lie. -/
structure At (w : World) (b : Nat) (s : ByteArray) (i : Nat) : Prop where
  c0 : w.cell? ⟨b, 0, none⟩ = some (.string s)
  c1 : w.cell? ⟨b, 1, none⟩ = some (.int .i64 i)
  lt : b < w.heap.size
  le : i ≤ s.size
  sz : s.size ≤ 400000

theorem peek_any {w : World} {b : Nat} {s : ByteArray} {i : Nat} (h : At w b s i) (k : Nat) (hk : k ≤ 1000000) :
    Calls Tryz.prog 89 #[.pointer (some ⟨b, 0, none⟩), .int .i64 k] w fun e w' => e = .returned (.int .u8 ((bts s).getD (i + k) 0 : Nat)) ∧ ∃ m, w' = w.drewN m := by
  obtain ⟨c0, c1, lt, le, sz⟩ := h
  have hi : (i : Int) ≤ 400000 := by omega
  have hk' : (k : Int) ≤ 1000000 := by omega
  by_cases hlt : i + k < s.size
  · have hltz : (i : Int) + (k : Int) < (s.size : Int) := by omega
    have hix := fun m => run_byte s ((i : Int) + (k : Int)) (i + k) (by omega) hlt m
    go_enter Tryz.func89, Tryz.ntmps89
    go_wp2_with fail
    go_quiet (fail)
    go_wp2_with fail
    go_quiet (fail)
    go_wp2_with fail
    go_ret
    exact ⟨rfl, _, World.drewN_drewN _ _ _⟩
  · have hltz : (s.size : Int) ≤ (i : Int) + (k : Int) := by omega
    go_enter Tryz.func89, Tryz.ntmps89
    go_wp2_with fail
    go_quiet (fail)
    go_wp2_with fail
    go_ret
    refine ⟨?_, _, rfl⟩
    rw [List.getD_eq_getElem?_getD, List.getElem?_eq_none (by rw [bts_length]; omega)]
    rfl

theorem isPrefixOf_map (p l : List UInt8) : (p.map UInt8.toNat).isPrefixOf (l.map UInt8.toNat) = p.isPrefixOf l := by
  induction p generalizing l with
  | nil => simp
  | cons a t ih =>
    cases l with
    | nil => rfl
    | cons b r =>
      simp only [List.map_cons, List.isPrefixOf, ih]
      congr 1
      by_cases h : a = b
      · subst h; simp
      · rw [beq_false_of_ne h, beq_false_of_ne fun e => h (UInt8.toNat_inj.1 e)]

theorem extract_bytes (s : ByteArray) (i j : Nat) : (s.extract i j).data.toList = (s.data.toList.drop i).take (j - i) := by
  rw [ByteArray.data_extract, Array.toList_extract, List.extract]

theorem bts_extract (s : ByteArray) (i j : Nat) : bts (s.extract i j) = ((bts s).drop i).take (j - i) := by
  unfold bts
  rw [extract_bytes, List.map_take, List.map_drop]

theorem starts_any {w : World} {b : Nat} {s : ByteArray} {i : Nat} (h : At w b s i) (p : ByteArray) :
    Calls Tryz.prog 87 #[.pointer (some ⟨b, 0, none⟩), .string p] w fun e w' => e = .returned (.bool ((bts p).isPrefixOf ((bts s).drop i))) ∧ ∃ m, w' = w.drewN m := by
  obtain ⟨c0, c1, lt, le, sz⟩ := h
  have hi : (i : Int) ≤ (s.size : Int) := by omega
  have e : (bts p).isPrefixOf ((bts s).drop i) = Lib.hasPrefix (s.extract i s.size).data.toList p.data.toList := by
    unfold Lib.hasPrefix
    rw [← isPrefixOf_map]
    show _ = (bts p).isPrefixOf (bts (s.extract i s.size))
    rw [bts_extract, List.take_of_length_le (by rw [List.length_drop, bts_length]; omega)]
  rw [e]
  clear e
  go_enter Tryz.func87, Tryz.ntmps87
  go_wp2_with fail
  go_quiet ((go_at_call 108; exact Calls.quiet_of_same (Tryz.strings_HasPrefix _ _ _)))
  go_wp2_with fail
  go_ret
  exact ⟨rfl, _, rfl⟩
end Go.Proofs.YtfoijbcmjciihaaGreatDoor
