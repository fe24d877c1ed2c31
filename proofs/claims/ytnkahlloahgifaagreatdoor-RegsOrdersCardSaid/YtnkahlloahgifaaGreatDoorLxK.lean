/- A new scanner: walked. -/
import Derived.Test.YtnkahlloahgifaaGreatDoorLxF
import Derived.Test.YtnkahlloahgifaaGreatDoorLxK0
import Derived.Test.YtnkahlloahgifaaGreatDoorLxNum
import Derived.Outline
set_option linter.unusedSimpArgs false
set_option linter.unusedVariables false
namespace Go.Proofs.YtnkahlloahgifaaGreatDoor.Lx
open Go.RowKit

def NPost (w : World) (s : ByteArray) (e : Ending) (w' : World) : Prop :=
  e = .returned (.pointer (some ⟨w.heap.size + 1, 0, none⟩)) ∧ Sc w' (w.heap.size + 1) s 0 w.heap.size (.slice none 0 0) ∧ Wd w' w.heap.size ∧ Below w.heap.size w w' ∧ w'.heap.size = w.heap.size + 2

theorem words_bts : wordBs.map bts = LX.words := by decide +kernel

theorem words_contains (t : ByteArray) : (wordBs.take 15).contains t = LX.words.contains (bts t) := by
  rw [← words_bts, show wordBs.take 15 = wordBs from rfl]
  generalize wordBs = l
  induction l with
  | nil => rfl
  | cons a l ih =>
    rw [List.map_cons, List.contains_cons, List.contains_cons, ih]
    congr 1
    rw [Bool.eq_iff_iff, Go.MapKept.bytes_beq, beq_iff_eq]
    exact ⟨fun h => by rw [h], fun h => bts_inj h⟩

theorem wd_of_words {w : World} {mb : Nat} (h : w.heap[mb]? = some (.map (wordEs 15) 15)) : Wd w mb :=
  ⟨_, _, h, fun W t hW => by
    have := look_words W mb 15 t hW
    rw [words_contains] at this
    exact this⟩

structure NW (w wr : World) (s : ByteArray) (z k : Nat) : Prop where
  map : wr.heap[z]? = some (.map (wordEs k) k)
  blk : wr.heap[z + 1]? = some (.cells #[.string s, .int .i64 0, .map (some z), .slice none 0 0] 222 (0, 0))
  below : Below z w wr
  size : wr.heap.size = z + 2

theorem NW.store {w wr : World} {s : ByteArray} {z k : Nat} (h : NW w wr s z k) (hz : z = w.heap.size) : NW w (wr.putObj z (.map (wordEs (k + 1)) (k + 1))) s z (k + 1) := by
  have hlt : z < wr.heap.size := (Array.getElem?_eq_some_iff.1 h.map).1
  refine ⟨World.putObj_heap_same hlt, (World.putObj_heap_other (by omega)).trans h.blk, ?_, by rw [World.putObj_size]; exact h.size⟩
  exact ⟨h.below.os, h.below.tape, h.below.output, by rw [World.putObj_size]; exact h.below.size, fun k hk => (World.putObj_heap_other (by omega)).trans (h.below.block k hk)⟩

set_option maxHeartbeats 800000 in
set_option maxRecDepth 20000 in
theorem newScanner_any (w : World) (s : ByteArray) (hs : s.size ≤ 400000) : Calls Tryz.prog 137 #[.string s] w (NPost w s) := by
  have hmm := @run_makeMap Tryz.prog
  have HS := Lib.hid hs
  clear hs
  go_enter Tryz.func137, Tryz.ntmps137
  go_wp2_with fail
  clear hmm
  obtain ⟨A, hA⟩ : ∃ A, A = Value.agg #[Value.string { data := #[97, 110, 100] }, Value.string { data := #[99, 97, 115, 101] }, Value.string { data := #[100, 97, 116, 97] }, Value.string { data := #[101, 108, 115, 101] }, Value.string { data := #[101, 110, 100] }, Value.string { data := #[102, 110] }, Value.string { data := #[102, 117, 110] }, Value.string { data := #[105, 102] }, Value.string { data := #[105, 110] }, Value.string { data := #[105, 110, 112, 117, 116] }, Value.string { data := #[108, 101, 116] }, Value.string { data := #[111, 102] }, Value.string { data := #[111, 117, 116, 112, 117, 116] }, Value.string { data := #[116, 104, 101, 110] }, Value.string { data := #[118, 97, 108] }] := ⟨_, rfl⟩
  rw [← hA]
  obtain ⟨z, hz⟩ : ∃ z, z = w.heap.size := ⟨_, rfl⟩
  obtain ⟨W0, hW0⟩ : ∃ W, W = (w.alloc (.map #[] 0)).alloc (.cells #[.string s, .int .i64 0, .map (some w.heap.size), .slice none 0 0] 222) := ⟨_, rfl⟩
  rw [← hW0]
  have N0 : Hid (NW w W0 s z 0) := by
    rw [hW0, hz]
    refine ⟨?_, ?_, ((Below.refl _ _).alloc (Nat.le_refl _) _).alloc (by simp) _, by simp⟩
    · rw [Below.heap_alloc _ _ _ (by simp)]; exact heap_alloc_new w _
    · have := heap_alloc_new (w.alloc (.map #[] 0)) (.cells #[.string s, .int .i64 0, .map (some w.heap.size), .slice none 0 0] 222)
      rwa [World.size_alloc] at this
  rw [← hz]
  have HA : Hid (A = Value.agg (wordBs.map Value.string).toArray) := hA
  have HZ := Lib.hid hz
  have HX : Hid (z = w.heap.size → ∀ wr, NW w wr s z 15 → NPost w s (.returned (.pointer (some ⟨z + 1, 0, none⟩))) wr) := by
    rintro rfl wr h
    exact ⟨rfl, ⟨h.blk, Nat.zero_le _, HS.out⟩, wd_of_words h.map, h.below, h.size⟩
  clear hA hz hW0
  go_loopw [12] (fun v wr => ∃ k : Nat, k ≤ 15 ∧ v = .int .i64 k ∧ NW w wr s z k) (fun v _ => 15 - (intOf v).toNat)
  case atStart => exact ⟨0, by decide, rfl, N0.out⟩
  case round =>
    obtain ⟨k, hk, rfl, hN⟩ := hrel
    by_cases hk15 : k < 15
    · have hkz : (k : Int) < 15 := by omega
      obtain ⟨x, hx⟩ : ∃ x, wordBs[k]? = some x := ⟨_, List.getElem?_eq_getElem (show k < wordBs.length from hk15)⟩
      have hi : (Instr.index 223 A (.int .i64 k)).run Tryz.prog wr = .ok (.string x) wr := by rw [HA.out]; exact word_at wr k x hx
      have hst := store_word wr z k x hN.map hk15 hx
      have hc2 : wr.cell? ⟨z + 1, 2, none⟩ = some (.map (some z)) := by rw [cell_of_row _ _ 2 _ _ _ hN.blk]; rfl
      have H1 := Lib.hid hN
      have H2 := Lib.hid hk15
      clear hN hk15 hx hk
      go_wp2_with fail
      go_roundw
      case rel => exact ⟨k + 1, H2.out, by go_num, H1.out.store HZ.out⟩
      case measure => have := H2.out; simp [intOf]; omega
    · have hkz : (15 : Int) ≤ (k : Int) := by omega
      have H1 : Hid (NW w wr s z 15) := by
        obtain rfl : k = 15 := by omega
        exact hN
      clear hN hk15 hk
      go_wp2_with fail
      go_ret
      exact HX.out HZ.out wr H1.out
end Go.Proofs.YtnkahlloahgifaaGreatDoor.Lx
