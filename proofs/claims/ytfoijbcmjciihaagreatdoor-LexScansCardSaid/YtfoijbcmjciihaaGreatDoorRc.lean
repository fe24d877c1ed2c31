/- The reference's words and signs: walked. -/
import Derived.Test.YtfoijbcmjciihaaGreatDoorRa
import Derived.Test.YtfoijbcmjciihaaGreatDoorK
import Derived.Test.YtfoijbcmjciihaaGreatDoorH
set_option linter.unusedSimpArgs false
set_option linter.unusedVariables false
namespace Go.Proofs.YtfoijbcmjciihaaGreatDoor
open Go.RowKit

theorem bytes_neq {s t : ByteArray} (h : ¬ s = t) : (s.toList == t.toList) = false := beq_false_of_ne fun e => h (by
  rw [ByteArray.toList_eq, ByteArray.toList_eq] at e
  exact bts_inj (by unfold bts; rw [e]))

theorem wordBs_size : wordBs.length = 15 := rfl

set_option maxHeartbeats 1000000 in
theorem rword_any (w : World) (s : ByteArray) : Calls Tryz.prog 58 #[.string s] w fun e w' => e = .returned (.bool (LX.words.contains (bts s))) ∧ Below w.heap.size w w' := by
  rw [← words_contains]
  obtain ⟨r, hr⟩ : ∃ r, r = (wordBs.take 15).contains s := ⟨_, rfl⟩
  rw [← hr]
  have hr2 : r = (wordBs.drop 0).contains s := hr
  have HR := Lib.hid hr2
  clear hr hr2
  obtain ⟨W, hW⟩ : ∃ W, w.alloc (.cells (wordBs.map Value.string).toArray 9) = W := ⟨_, rfl⟩
  have hW2 : w.alloc (.cells #[Value.string { data := #[97, 110, 100] }, Value.string { data := #[99, 97, 115, 101] }, Value.string { data := #[100, 97, 116, 97] }, Value.string { data := #[101, 108, 115, 101] }, Value.string { data := #[101, 110, 100] }, Value.string { data := #[102, 110] }, Value.string { data := #[102, 117, 110] }, Value.string { data := #[105, 102] }, Value.string { data := #[105, 110] }, Value.string { data := #[105, 110, 112, 117, 116] }, Value.string { data := #[108, 101, 116] }, Value.string { data := #[111, 102] }, Value.string { data := #[111, 117, 116, 112, 117, 116] }, Value.string { data := #[116, 104, 101, 110] }, Value.string { data := #[118, 97, 108] }] 9) = W := hW
  obtain ⟨z, hz⟩ : ∃ z, z = w.heap.size := ⟨_, rfl⟩
  have hblk : W.heap[z]? = some (.cells (wordBs.map Value.string).toArray 9 (0, 0)) := by rw [← hW, hz]; exact heap_alloc_new w _
  have BW : Hid (Below w.heap.size w W) := by rw [← hW]; exact (Below.refl _ _).alloc (Nat.le_refl _) _
  have HB := Lib.hid hblk
  have HW2 := Lib.hid hW2
  have HZ := Lib.hid hz
  clear hblk hW hW2 hz
  go_enter Tryz.func58, Tryz.ntmps58
  go_wp2_with fail
  rw [HW2.out, ← HZ.out]
  go_loop [4] (fun i => ∃ k : Nat, k ≤ 15 ∧ i = .int .i64 k ∧ r = (wordBs.drop k).contains s) (fun i => 15 - (intOf i).toNat)
  case atStart => exact ⟨0, by decide, rfl, HR.out⟩
  case round =>
    obtain ⟨k, hk, rfl, hrk⟩ := hrel
    have HRK := Lib.hid hrk
    clear hrk
    by_cases hlt : k < 15
    · have hlz : (k : Int) < 15 := by omega
      obtain ⟨x, hx⟩ : ∃ x, wordBs[k]? = some x := ⟨_, List.getElem?_eq_getElem (show k < wordBs.length from hlt)⟩
      have hc : W.cell? ⟨z, k, none⟩ = some (.string x) := by
        rw [cell_of_row _ _ k _ _ _ HB.out]
        simp [hx]
      have hdrop : wordBs.drop k = x :: wordBs.drop (k + 1) := by
        obtain ⟨h1, h2⟩ := List.getElem?_eq_some_iff.1 hx
        rw [List.drop_eq_getElem_cons h1, h2]
      have HD := Lib.hid hdrop
      have HLT := Lib.hid hlt
      clear hdrop hlt hk hx
      by_cases hs : x = s
      · have HS := Lib.hid hs
        have hb : (x.toList == s.toList) = true := by rw [hs]; simp
        clear hs
        go_wp2_with fail
        go_ret
        refine ⟨?_, BW.out⟩
        have hb2 : (s == x) = true := (Go.MapKept.bytes_beq s x).2 HS.out.symm
        rw [HRK.out, HD.out, List.contains_cons, hb2, Bool.true_or]
        rfl
      · have hb := bytes_neq hs
        have hb2 : (s == x) = false := by
          cases hq : (s == x) with
          | false => rfl
          | true => exact absurd ((Go.MapKept.bytes_beq s x).1 hq).symm hs
        have HB2 := Lib.hid hb2
        clear hs hb2
        go_wp2_with fail
        go_round
        case rel => exact ⟨k + 1, HLT.out, by go_num, by rw [HRK.out, HD.out, List.contains_cons, HB2.out, Bool.false_or]⟩
        case measure => have := HLT.out; simp [intOf]; omega
    · obtain rfl : k = 15 := by omega
      clear hlt hk
      go_wp2_with fail
      go_ret
      refine ⟨?_, BW.out⟩
      rw [HRK.out]
      rfl

def signBs : ByteArray := ⟨#[40, 41, 44, 59, 58, 124, 61, 60, 43, 45, 42, 47, 37, 95]⟩
theorem signs_bts : bts signBs = LX.signs := by decide +kernel

/-- The length of the sign at a place; 0: there is none. -/
def signLen (l : List Nat) : Nat := if (LX.head0 l = 61 ∨ LX.head0 l = 45) ∧ LX.head0 l.tail = 62 then 2 else if LX.signs.contains (LX.head0 l) then 1 else 0

theorem two_at (s : ByteArray) {i c d : Nat} (h : i + 1 < s.size) (hc : (bts s).getD i 0 = c) (hd : (bts s).getD (i + 1) 0 = d) : ∃ x : ByteArray, bts x = [c, d] ∧ ∀ m, (Instr.slice 9 (.string s) (some (.int .i64 i)) (some (.int .i64 ((i : Int) + 2))) none).run Tryz.prog m = .ok (.string x) m := by
  refine ⟨s.extract i (i + 2), ?_, fun m => slice_mid s i 2 (by omega) m⟩
  rw [bts_extract, Nat.add_sub_cancel_left, LX.drop_get (by rw [bts_length]; omega), hc, LX.drop_get (by rw [bts_length]; omega), hd]
  rfl

theorem two_eq {x : ByteArray} {c d a b : Nat} (h : bts x = [c, d]) (y : ByteArray) (hy : bts y = [a, b]) : (x.toList == y.toList) = (c == a && d == b) := by
  by_cases h1 : c = a ∧ d = b
  · obtain ⟨rfl, rfl⟩ := h1
    rw [bts_inj (h.trans hy.symm)]; simp
  · have : ¬ x = y := fun e => h1 (by rw [e, hy] at h; simp at h; exact ⟨h.1.symm, h.2.symm⟩)
    rw [bytes_neq this]
    by_cases h2 : c = a
    · have h3 : ¬ d = b := fun e => h1 ⟨h2, e⟩
      simp [h3]
    · simp [h2]
end Go.Proofs.YtfoijbcmjciihaaGreatDoor
