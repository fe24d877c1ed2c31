/- Drop, Tag. -/
import Derived.Test.YtfjgokbclgdfjaaR
set_option linter.unusedSimpArgs false
set_option linter.unusedVariables false
namespace Go.Proofs.Ytfjgokbclgdfjaa
open Go.RowKit HM

namespace HM
def S.drop (s : S) (k : Nat) : S := { s with handles := s.handles.set k none }
end HM

theorem atH_some {hs : List (Option Nat)} {n : Int} {i : Nat} (h : atH hs n = some i) : ∃ k : Nat, n = k ∧ hs[k]? = some (some i) := by
  unfold atH at h
  split at h
  · simp at h
  · refine ⟨n.toNat, by omega, ?_⟩
    simp only [List.getD_eq_getElem?_getD] at h
    cases hq : hs[n.toNat]? with
    | none => rw [hq] at h; simp at h
    | some x => rw [hq] at h; simp at h; rw [h]

theorem drops_dropped {da da' : List Int} {hs : List (Option Nat)} {k i : Nat} (h : Drops da hs) (hk : hs[k]? = some (some i)) (hp : da'.Perm (da ++ [(k : Int)])) (hh : Hp da' da'.length) : Drops da' (hs.set k none) := by
  have hkl : k < hs.length := (List.getElem?_eq_some_iff.1 hk).1
  refine ⟨hh, hp.nodup_iff.2 ?_, fun y => ?_⟩
  · rw [List.nodup_append]
    refine ⟨h.nodup, by simp, fun a ha b hb e => ?_⟩
    simp at hb
    subst hb e
    obtain ⟨j, e, hj⟩ := (h.mem _).1 ha
    have : j = k := by omega
    subst this
    rw [hk] at hj; simp at hj
  · rw [hp.mem_iff, List.mem_append, h.mem]
    constructor
    · rintro (⟨j, e, hj⟩ | e)
      · refine ⟨j, e, ?_⟩
        rw [List.getElem?_set]
        by_cases e1 : k = j
        · subst e1; simp [hkl]
        · rw [if_neg e1]; exact hj
      · simp at e
        exact ⟨k, e, by rw [List.getElem?_set, if_pos rfl, if_pos hkl]⟩
    · rintro ⟨j, e, hj⟩
      rw [List.getElem?_set] at hj
      by_cases e1 : k = j
      · subst e1; exact .inr (by simp [e])
      · rw [if_neg e1] at hj; exact .inl ⟨j, e, hj⟩

set_option maxRecDepth 20000 in
theorem drop_rep {w : World} {ρ : Nat → Nat} {A : Ad} {s : S} (h : Rep w ρ A s) {k i : Nat} (hk : s.handles[k]? = some (some i)) (hlen : s.handles.length < 100000000) :
    Calls Try.prog 18 #[.pointer (some ⟨A.hb, 0, none⟩), .int .i64 k] w fun e w' => e = .returned (.int .i64 0) ∧ ∃ ρ', Rep w' ρ' A (s.drop k) ∧ Ch Mine ρ ρ' w w' := by
  have hkl : k < s.handles.length := (List.getElem?_eq_some_iff.1 hk).1
  have hlk := run_lookup h.map k (by omega)
  have hat : atH s.handles k = some i := by rw [atH_nat]; simp [List.getD, hk]
  rw [hat] at hlk
  simp only [found, Ad.ptr] at hlk
  obtain ⟨gs, ds, ks, hh, hgr, ⟨da, hd, hdr⟩, hks⟩ := h.head
  have hda : DA w ρ A.hb da := ⟨h.rh, _, ds, hh, rfl, rfl, hd⟩
  have c8 : w.cell? ⟨A.hb, 8, none⟩ = some (.map (some A.mb)) := by rw [cell_of_row w _ 8 _ _ _ hh]; rfl
  have hblt : A.hb < w.heap.size := h.lt (by simp [h.rh])
  obtain ⟨D, hown, hsz, hm1, hm2⟩ := h.map
  have hkb : k < 100000000 := by omega
  have G1 := Lib.hid h
  have G2 := Lib.hid hk
  have G3 := Lib.hid hlen
  have G4 := Lib.hid hda
  have G5 := Lib.hid hdr
  have G6 := Lib.hid hh
  have G7 := Lib.hid hown
  have G8 := Lib.hid hsz
  have G9 := Lib.hid hm1
  have G10 := Lib.hid hm2
  clear h hk hlen hda hdr hh hown hsz hm1 hm2 hgr hks hd hkl hat
  go_enter Try.func18, Try.ntmps18
  go_wp2_with (at_delete; refine wpList_delete_own _ rfl _ _ 41 3 rfl 83 keyed3 Try.underlying41 ptrR A.mb _ D rfl G7.out _ (.int .i64 k) rfl (key3 k (by omega)) ?_; intro w1 hown1 hturn1)
  have hda1 : DA w1 ρ A.hb da := by
    obtain ⟨a, c, c14, hrow⟩ := G4.out.cell
    have ht := turned_ch hturn1 G1.out.rho G1.out.rm
    obtain ⟨hr, hc, ds, hh, hcs, h14, hrow⟩ := G4.out
    exact ⟨hr, hc, ds, ht.keep hh (by rw [hr]; decide), hcs, h14, hrow.keep ht (by decide)⟩
  have ht := turned_ch hturn1 G1.out.rho G1.out.rm
  have hblt1 : A.hb < w1.heap.size := Nat.lt_of_lt_of_le hblt ht.size
  have G11 := Lib.hid hown1
  have G12 := Lib.hid ht
  have G13 := Lib.hid hda1
  clear hown1 hturn1 ht hda1
  refine (hpush_any G13.out G12.out.fresh k (by have := G5.out.bound; have := G3.out; omega) G5.out.heap).mono ?_
  rintro e w2 ⟨rfl, da', ρ', hp, hhp, hda2, hch2, ho2⟩
  have L1 := Lib.hid hp
  have L2 := Lib.hid hhp
  have L3 := Lib.hid hda2
  have L4 := Lib.hid hch2
  have L5 := Lib.hid ho2
  clear hp hhp hda2 hch2 ho2
  go_wp2_with fail
  go_ret
  have cA : Ch (fun r => r = 1 ∨ r = 4 ∨ r = 6) ρ ρ' w w2 := (G12.out.mono fun r hr => by omega).trans (L4.out.mono fun r hr => by omega)
  refine ⟨rfl, ρ', G1.out.hand (hs' := s.handles.set k none) cA (fun gs' ds' ks' hh' => ?_) (MapAt.drop (n := Maps.size D) k i G2.out G8.out G9.out G10.out G7.out ?_), cA.mono fun r hr => by unfold Mine; omega⟩
  · have h1 : w1.heap[A.hb]? = some (.cells (hcells A s gs' ds' ks') 49 (0, 0)) := G12.out.keep hh' (by rw [G1.out.rh]; decide)
    obtain ⟨ds2, hh2⟩ := L5.out _ h1
    obtain ⟨_, hc', ds3, hh3, _, h14, hrow3⟩ := L3.out
    have e3 := hh3
    rw [hh2] at e3
    simp only [Option.some.injEq, Obj.cells.injEq, and_true, true_and] at e3
    rw [← e3] at h14
    have e4 : ds2 = ds3 := by simpa [hcells] using h14
    subst e4
    refine ⟨ds2, da', ?_, hrow3, drops_dropped G5.out G2.out L1.out L2.out⟩
    rw [hh2]
    simp [hcells]
  · obtain ⟨es, clock, g1, g2⟩ := G11.out
    exact ⟨es, clock, L4.out.keep g1 (by rw [G1.out.rm]; decide), g2⟩

set_option maxRecDepth 20000 in
theorem tag_rep {w : World} {ρ : Nat → Nat} {A : Ad} {s : S} (h : Rep w ρ A s) {k i : Nat} (hk : s.handles[k]? = some (some i)) (hlen : s.handles.length < 100000000) {o : O} (ho : s.objs[i]? = some o) (ht : o.tag ≠ -1) (hb : o.size ≤ 60000) :
    Calls Try.prog 46 #[.pointer (some ⟨A.hb, 0, none⟩), .int .i64 k] w fun e w' => e = .returned (.tuple #[.int .i64 o.tag, .int .i64 (o.size - 1), .int .i64 0]) ∧ ∃ n, w' = w.drewN n := by
  have hkl : k < s.handles.length := (List.getElem?_eq_some_iff.1 hk).1
  have hlk := run_lookup h.map k (by omega)
  have hat : atH s.handles k = some i := by rw [atH_nat]; simp [List.getD, hk]
  rw [hat] at hlk
  simp only [found, Ad.ptr] at hlk
  obtain ⟨gs, ds, ks, hh⟩ := h.hcell
  have c8 : w.cell? ⟨A.hb, 8, none⟩ = some (.map (some A.mb)) := by rw [cell_of_row w _ 8 _ _ _ hh]; rfl
  have hblt : A.hb < w.heap.size := h.lt (by simp [h.rh])
  have ho1 := h.objs i o ho
  have o0 : w.cell? ⟨A.obj i, 0, none⟩ = some (.int .i64 o.tag) := by rw [cell_of_row w _ 0 _ _ _ ho1]; rfl
  have o1 : w.cell? ⟨A.obj i, 1, none⟩ = some (.int .i64 o.size) := by rw [cell_of_row w _ 1 _ _ _ ho1]; rfl
  have hoblt : A.obj i < w.heap.size := (Array.getElem?_eq_some_iff.1 ho1).1
  have G1 := Lib.hid h
  clear h hk hlen hh hat ho1 ho
  obtain ⟨z, hz⟩ : ∃ z : Nat, z = o.size := ⟨_, rfl⟩
  rw [← hz] at o1 hb ⊢
  obtain ⟨tg, htg⟩ : ∃ t : Int, t = o.tag := ⟨_, rfl⟩
  rw [← htg] at o0 ht ⊢
  clear hz htg
  go_enter Try.func46, Try.ntmps46
  go_wp2
  go_quiet (fail)
  go_wp2
  go_returns
  exact ⟨rfl, _, rfl⟩
end Go.Proofs.Ytfjgokbclgdfjaa
