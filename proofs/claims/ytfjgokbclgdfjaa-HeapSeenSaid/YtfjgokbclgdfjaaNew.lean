/- New. -/
import Derived.Test.YtfjgokbclgdfjaaMod
set_option linter.unusedSimpArgs false
set_option linter.unusedVariables false
namespace Go.Proofs.Ytfjgokbclgdfjaa
open Go.RowKit HM

namespace HM
def S.new (n : Nat) : S := ⟨n, 0, 0, 0, 0, [], 0, 0, 0, 0, [], [], []⟩
end HM

theorem made_space (n : Nat) (hn : n ≤ 60000) : ∃ cz : Array Value, cz.size = n * 2 ∧ ∀ m : World, (Instr.makeSlice 39 (.int .i64 n) (.int .i64 n)).run Try.prog m = .ok (.slice (some ⟨m.heap.size, 0, none⟩) n n) (m.alloc (.cells cz 85)) := by
  obtain ⟨i, hi, hz, hs, hb⟩ := info_parts Try.info85
  refine ⟨madeCells #[.int .i64 0, .pointer none] (n * 2), size_madeCells _ _, fun m => ?_⟩
  have := run_make (P := Try.prog) m 39 85 i _ Try.underlying39 hi hz .i64 .i64 n n (by omega) (Int.le_refl _) (by rw [hb]; omega) (by omega)
  rw [hs] at this
  simpa [Value.cells] using this

theorem new_map {V : World} {b : Nat} (h : V.heap[b]? = some (.map #[] 0)) (blk : Nat → Nat) : MapAt V b blk [] := by
  have h0 := World.ownsMap_made V Try.prog 3 (ptrR)
  obtain ⟨es, clock, h1, h2, h3, h4⟩ := h0
  rw [heap_alloc_new] at h1
  simp only [Option.some.injEq, Obj.map.injEq] at h1
  obtain ⟨rfl, rfl⟩ := h1
  refine ⟨.map [], ⟨#[], 0, h, h2, by simp, h4⟩, rfl, fun k hk => by simp [Maps.has] at hk, fun j i hj => by simp at hj⟩

theorem new_mem {w V : World} {ρ : Nat → Nat} {n hb s0 s1 mb : Nat} (c : Ch (fun _ => False) ρ ρ w V) (b0 : w.heap.size ≤ hb) (b1 : hb < V.heap.size) (b2 : w.heap.size ≤ s0) (b3 : s0 < V.heap.size) (b4 : w.heap.size ≤ s1) (b5 : s1 < V.heap.size) (b6 : w.heap.size ≤ mb) (b7 : mb < V.heap.size)
    (d1 : hb ≠ s0) (d2 : hb ≠ s1) (d3 : hb ≠ mb) (d4 : s0 ≠ s1) (d5 : s0 ≠ mb) (d6 : s1 ≠ mb)
    (hh : V.heap[hb]? = some (.cells (hcells ⟨hb, s0, s1, mb, []⟩ (S.new n) (.slice none 0 0) (.slice none 0 0) (.slice none 0 0)) 49 (0, 0)))
    {cz : Array Value} (hcz : cz.size = n * 2) (h0 : V.heap[s0]? = some (.cells cz 85 (0, 0))) (h1 : V.heap[s1]? = some (.cells cz 85 (0, 0))) (hm : V.heap[mb]? = some (.map #[] 0)) :
    ∃ ρ', Rep V ρ' ⟨hb, s0, s1, mb, []⟩ (S.new n) ∧ Ch (fun _ => False) ρ ρ' w V := by
  have c' : Ch (fun _ => False) ρ (roleAt (roleAt (roleAt (roleAt ρ hb 1) s0 2) s1 3) mb 4) w V := (((c.named hb 1 b0 b1).named s0 2 b2 b3).named s1 3 b4 b5).named mb 4 b6 b7
  refine ⟨_, ⟨c'.fresh, ?_, ?_, ?_, ?_, rfl, fun i hi => by simp [S.new] at hi, ⟨_, _, _, hh, .inl ⟨rfl, rfl⟩, ⟨[], .inl ⟨rfl, rfl⟩, ⟨fun k h1 h2 => by simp at h2, List.nodup_nil, fun x => ⟨fun h => by simp at h, fun ⟨j, _, hj⟩ => by simp [S.new] at hj⟩⟩⟩, .inl ⟨rfl, rfl⟩⟩, ?_, fun i o hi => by simp [S.new] at hi, fun k => ?_, fun i o hi => by simp [S.new] at hi⟩, c'⟩
  · rw [roleAt_other _ _ _ d3, roleAt_other _ _ _ d2, roleAt_other _ _ _ d1, roleAt_same]
  · rw [roleAt_other _ _ _ d5, roleAt_other _ _ _ d4, roleAt_same]
  · rw [roleAt_other _ _ _ d6, roleAt_same]
  · rw [roleAt_same]
  · exact new_map hm _
  · unfold Ad.sp
    split
    · exact ⟨cz, h0, by simp [S.new, hcz]; omega⟩
    · exact ⟨cz, h1, by simp [S.new, hcz]; omega⟩

theorem four (w : World) (o0 o1 o2 o3 : Obj) (ρ : Nat → Nat) (hρ : ∀ k, w.heap.size ≤ k → ρ k = 0) :
    (((((w.alloc o0).alloc o1).alloc o2).alloc o3).drew).heap[w.heap.size]? = some o0 ∧ (((((w.alloc o0).alloc o1).alloc o2).alloc o3).drew).heap[w.heap.size + 1]? = some o1 ∧ (((((w.alloc o0).alloc o1).alloc o2).alloc o3).drew).heap[w.heap.size + 1 + 1]? = some o2 ∧
      (((((w.alloc o0).alloc o1).alloc o2).alloc o3).drew).heap[w.heap.size + 1 + 1 + 1]? = some o3 ∧ (((((w.alloc o0).alloc o1).alloc o2).alloc o3).drew).heap.size = w.heap.size + 4 ∧ Ch (fun _ => False) ρ ρ w (((((w.alloc o0).alloc o1).alloc o2).alloc o3).drew) := by
  have s1 : (w.alloc o0).heap.size = w.heap.size + 1 := by simp
  have s2 : ((w.alloc o0).alloc o1).heap.size = w.heap.size + 1 + 1 := by simp
  have s3 : (((w.alloc o0).alloc o1).alloc o2).heap.size = w.heap.size + 1 + 1 + 1 := by simp
  have s4 : ((((w.alloc o0).alloc o1).alloc o2).alloc o3).heap.size = w.heap.size + 4 := by simp
  have e0 := heap_alloc_new w o0
  have e1 := heap_alloc_new (w.alloc o0) o1
  have e2 := heap_alloc_new ((w.alloc o0).alloc o1) o2
  have e3 := heap_alloc_new (((w.alloc o0).alloc o1).alloc o2) o3
  rw [s1] at e1
  rw [s2] at e2
  rw [s3] at e3
  refine ⟨(Below.heap_alloc _ o3 _ (by omega)).trans ((Below.heap_alloc _ o2 _ (by omega)).trans ((Below.heap_alloc _ o1 _ (by omega)).trans e0)), (Below.heap_alloc _ o3 _ (by omega)).trans ((Below.heap_alloc _ o2 _ (by omega)).trans e1),
    (Below.heap_alloc _ o3 _ (by omega)).trans e2, e3, s4, (((((Ch.refl hρ).alloc _).alloc _).alloc _).alloc _).drew⟩

set_option maxHeartbeats 800000 in
set_option maxRecDepth 20000 in
theorem new_rep {w : World} {ρ : Nat → Nat} (hρ : ∀ k, w.heap.size ≤ k → ρ k = 0) (n : Nat) (h4 : 4 ≤ n) (hn : n ≤ 60000) :
    Calls Try.prog 14 #[.int .i64 n] w fun e w' => ∃ A ρ', e = .returned (.tuple #[.pointer (some ⟨A.hb, 0, none⟩), .int .i64 0]) ∧ Rep w' ρ' A (S.new n) ∧ Ch (fun _ => False) ρ ρ' w w' := by
  obtain ⟨cz, hcz, hmk⟩ := made_space n hn
  have hmm : ∀ m : World, (Instr.makeMap 41 none).run Try.prog m = .ok (.map (some m.heap.size)) (m.alloc (.map #[] 0)) := fun m => rfl
  have HR := Lib.hid hρ
  have HC := Lib.hid hcz
  clear hρ hcz
  go_enter Try.func14, Try.ntmps14
  go_wp2_with fail
  go_region
  · go_wp2_with fail
    go_returns
    obtain ⟨f0, f1, f2, f3, f4, f5⟩ := four w (.cells #[.int .i64 n, .slice (some ⟨w.heap.size + 1, 0, none⟩) n n, .slice (some ⟨w.heap.size + 1 + 1, 0, none⟩) n n, .int .i64 0, .int .i64 0, .int .i64 0, .int .i64 0, .int .i64 0, .map (some (w.heap.size + 1 + 1 + 1)), .int .i64 0, .int .i64 0, .int .i64 0, .int .i64 0, .slice none 0 0, .slice none 0 0, .slice none 0 0] 49)
      (.cells cz 85) (.cells cz 85) (.map #[] 0) ρ HR.out
    obtain ⟨ρ', r1, r2⟩ := new_mem f5 (Nat.le_refl _) (by omega) (by omega) (by omega) (by omega) (by omega) (by omega) (by omega) (by omega) (by omega) (by omega) (by omega) (by omega) (by omega) f0 HC.out f1 f2 f3
    exact ⟨_, ρ', rfl, r1, r2⟩
  · go_wp2_with fail
    go_returns
    obtain ⟨f0, f1, f2, f3, f4, f5⟩ := four w (.cells #[.int .i64 n, .slice (some ⟨w.heap.size + 1 + 1, 0, none⟩) n n, .slice (some ⟨w.heap.size + 1, 0, none⟩) n n, .int .i64 0, .int .i64 0, .int .i64 0, .int .i64 0, .int .i64 0, .map (some (w.heap.size + 1 + 1 + 1)), .int .i64 0, .int .i64 0, .int .i64 0, .int .i64 0, .slice none 0 0, .slice none 0 0, .slice none 0 0] 49)
      (.cells cz 85) (.cells cz 85) (.map #[] 0) ρ HR.out
    obtain ⟨ρ', r1, r2⟩ := new_mem f5 (Nat.le_refl _) (by omega) (by omega) (by omega) (by omega) (by omega) (by omega) (by omega) (by omega) (by omega) (by omega) (by omega) (by omega) (by omega) f0 HC.out f2 f1 f3
    exact ⟨_, ρ', rfl, r1, r2⟩
end Go.Proofs.Ytfjgokbclgdfjaa
