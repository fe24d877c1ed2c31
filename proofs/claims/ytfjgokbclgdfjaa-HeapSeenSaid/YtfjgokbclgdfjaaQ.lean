/- handle. -/
import Derived.Test.YtfjgokbclgdfjaaP
set_option linter.unusedSimpArgs false
set_option linter.unusedVariables false
namespace Go.Proofs.Ytfjgokbclgdfjaa
open Go.RowKit HM

theorem Rep.da {w : World} {ρ : Nat → Nat} {A : Ad} {s : S} (h : Rep w ρ A s) : ∃ da, DA w ρ A.hb da ∧ Drops da s.handles := by
  obtain ⟨gs, ds, ks, hh, hgr, ⟨da, hd, hdr⟩, hk⟩ := h.head
  exact ⟨da, ⟨h.rh, _, ds, hh, rfl, rfl, hd⟩, hdr⟩

theorem Rep.hand {w w' : World} {ρ ρ' : Nat → Nat} {A : Ad} {s : S} {hs' : List (Option Nat)} (h : Rep w ρ A s) (c : Ch (fun r => r = 1 ∨ r = 4 ∨ r = 6) ρ ρ' w w')
    (hh' : ∀ gs ds ks, w.heap[A.hb]? = some (.cells (hcells A s gs ds ks) 49 (0, 0)) → ∃ ds' da, w'.heap[A.hb]? = some (.cells (hcells A { s with handles := hs' } gs ds' ks) 49 (0, 0)) ∧ RowAt w' ρ' 6 3 ds' (da.map (Value.int .i64)) ∧ Drops da hs')
    (map : MapAt w' A.mb A.obj hs') : Rep w' ρ' A { s with handles := hs' } := by
  obtain ⟨gs, ds, ks, hh, hgr, _, hk⟩ := h.head
  obtain ⟨ds', da, k1, k2, k3⟩ := hh' gs ds ks hh
  refine h.turn (s' := { s with handles := hs' }) c (by decide) (by decide) rfl rfl ⟨gs, ds', ks, k1, hgr.keep c (by decide), ⟨da, k2, k3⟩, hk.keep c (by decide)⟩ map
    (fun i o ho => ?_) (fun j o hj hd => ⟨o, hj, hd, rfl, rfl, rfl⟩)
  have hil : i < s.objs.length := (List.getElem?_eq_some_iff.1 ho).1
  exact c.keep (h.objs i o ho) (by rw [h.ro i hil]; omega)

theorem Rep.mb_ne {w : World} {ρ : Nat → Nat} {A : Ad} {s : S} (h : Rep w ρ A s) : A.mb ≠ A.hb := by
  intro e
  have h1 := h.rh
  have h2 := h.rm
  rw [e, h1] at h2
  exact absurd h2 (by decide)

theorem hp_min {l : List Int} (h : Hp l l.length) : ∀ k, k < l.length → l.getD 0 0 ≤ l.getD k 0 := by
  intro k
  induction k using Nat.strongRecOn with
  | _ k ih =>
    intro hk
    by_cases h0 : k = 0
    · subst h0; exact Int.le_refl _
    · have := ih ((k - 1) / 2) (by omega) (by omega)
      have := h k (by omega) hk
      omega

/-- The dropped handles are none: a new one is behind them all. -/
theorem Drops.none {hs : List (Option Nat)} (h : Drops [] hs) : slotOf hs = hs.length := by
  have h1 := slotOf_le hs
  rcases Nat.lt_or_ge (slotOf hs) hs.length with hl | hl
  · have := (h.mem (slotOf hs)).2 ⟨slotOf hs, rfl, slotOf_none hl⟩
    simp at this
  · omega

theorem Drops.some {da : List Int} {hs : List (Option Nat)} (h : Drops da hs) (hd : 0 < da.length) : da.getD 0 0 = slotOf hs ∧ slotOf hs < hs.length := by
  have hm : da.getD 0 0 ∈ da := by
    cases da with
    | nil => simp at hd
    | cons a r => simp
  obtain ⟨j, e, hj⟩ := (h.mem _).1 hm
  have hjl : j < hs.length := (List.getElem?_eq_some_iff.1 hj).1
  have hle : slotOf hs ≤ j := by
    rcases Nat.lt_or_ge j (slotOf hs) with hl | hl
    · obtain ⟨i, hi⟩ := slotOf_some hl
      rw [hi] at hj; simp at hj
    · exact hl
  have hsl : slotOf hs < hs.length := by omega
  have hin := (h.mem (slotOf hs)).2 ⟨slotOf hs, rfl, slotOf_none hsl⟩
  obtain ⟨k, hk, hkx⟩ := List.getElem_of_mem hin
  have := hp_min h.heap k hk
  have e2 : da.getD k 0 = (slotOf hs : Int) := by simp [List.getD, List.getElem?_eq_getElem hk, hkx]
  exact ⟨by omega, hsl⟩

theorem Drops.bound {da : List Int} {hs : List (Option Nat)} (h : Drops da hs) : da.length ≤ hs.length := by
  have h1 := nodup_bound hs.length (da.map Int.toNat) (by
    have hn := h.nodup
    unfold List.Nodup at hn ⊢
    rw [List.pairwise_map]
    refine hn.imp_of_mem ?_
    intro a b ha hb hne e
    obtain ⟨j, e1, _⟩ := (h.mem a).1 ha
    obtain ⟨k, e2, _⟩ := (h.mem b).1 hb
    omega) (fun i hi => by
    obtain ⟨a, ha, e⟩ := List.mem_map.1 hi
    obtain ⟨j, e1, hj⟩ := (h.mem a).1 ha
    have := (List.getElem?_eq_some_iff.1 hj).1
    omega)
  simpa using h1

theorem Drops.after {da da' : List Int} {hs : List (Option Nat)} {x : Int} (h : Drops da hs) (hx : x = slotOf hs) (hp : (x :: da').Perm da) (hh : Hp da' da'.length) (i : Nat) : Drops da' (handIn hs i) := by
  have hnd : (x :: da').Nodup := hp.nodup_iff.2 h.nodup
  rw [List.nodup_cons] at hnd
  refine ⟨hh, hnd.2, fun y => ⟨fun hy => ?_, fun ⟨j, e, hj⟩ => ?_⟩⟩
  · obtain ⟨j, e, hj⟩ := (h.mem y).1 (hp.mem_iff.1 (List.mem_cons_of_mem _ hy))
    refine ⟨j, e, ?_⟩
    rw [handIn_at, if_neg]
    · exact hj
    · rintro rfl
      exact hnd.1 (by rw [hx, ← e]; exact hy)
  · rw [handIn_at] at hj
    by_cases e1 : j = slotOf hs
    · rw [if_pos e1] at hj; simp at hj
    · rw [if_neg e1] at hj
      have := hp.mem_iff.2 ((h.mem y).2 ⟨j, e, hj⟩)
      rcases List.mem_cons.1 this with e2 | e2
      · omega
      · exact e2

theorem Drops.pushed {hs : List (Option Nat)} (h : Drops [] hs) (i : Nat) : Drops [] (handIn hs i) := by
  refine ⟨h.heap, h.nodup, fun y => ⟨fun hy => by simp at hy, fun ⟨j, e, hj⟩ => ?_⟩⟩
  rw [handIn_at] at hj
  by_cases e1 : j = slotOf hs
  · rw [if_pos e1] at hj; simp at hj
  · rw [if_neg e1] at hj
    exact (h.mem y).2 ⟨j, e, hj⟩

set_option maxRecDepth 20000 in
set_option maxHeartbeats 2000000 in
theorem handle_rep {w : World} {ρ : Nat → Nat} {A : Ad} {s : S} (h : Rep w ρ A s) {i : Nat} {o : O} (hi : s.objs[i]? = some o) (hl : s.done ≤ o.epoch) (hg : s.grey.length < 1000000000) (hlen : s.handles.length < 100000000) :
    Calls Try.prog 56 #[.pointer (some ⟨A.hb, 0, none⟩), A.ptr i] w fun e w' => e = .returned (.int .i64 (slotOf s.handles)) ∧ ∃ ρ', Rep w' ρ' A (s.give i) ∧ Ch Mine ρ ρ' w w' := by
  have HR := Lib.hid h
  have HI := Lib.hid hi
  have HL := Lib.hid hl
  have HG := Lib.hid hg
  have HN := Lib.hid hlen
  clear h hi hl hg hlen
  go_enter Try.func56, Try.ntmps56
  go_wp2_with fail
  refine (shade_rep HR.out HI.out HL.out HG.out).mono ?_
  rintro e w1 ⟨rfl, ρ1, hrep, hch⟩
  have hhs : (s.shade i).handles = s.handles := (shade_same s i).2.2.2.2.2.1
  obtain ⟨gs, ds, ks, hh, hgr, ⟨da, hd, hdr⟩, hk⟩ := hrep.head
  have hda : DA w1 ρ1 A.hb da := ⟨hrep.rh, _, ds, hh, rfl, rfl, hd⟩
  obtain ⟨a, c, c14, _⟩ := hda.cell
  have c7 : w1.cell? ⟨A.hb, 7, none⟩ = some (.int .i64 s.handles.length) := by rw [cell_of_row w1 _ 7 _ _ _ hh, ← hhs]; rfl
  have c8 : w1.cell? ⟨A.hb, 8, none⟩ = some (.map (some A.mb)) := by rw [cell_of_row w1 _ 8 _ _ _ hh]; rfl
  have f7 : w1.frozen? ⟨A.hb, 7, none⟩ = false := frozen_of_row w1 _ 7 _ _ hh
  have hblt : A.hb < w1.heap.size := hrep.lt (by simp [hrep.rh])
  rw [hhs] at hdr
  obtain ⟨D, hown, hsz, hm1, hm2⟩ := hrep.map
  rw [hhs] at hsz hm1 hm2
  have G1 := Lib.hid hrep
  have G2 := Lib.hid hch
  have G3 := Lib.hid hhs
  have G4 := Lib.hid hda
  have G5 := Lib.hid hdr
  have G6 := Lib.hid hh
  have G7 := Lib.hid hown
  have G8 := Lib.hid hsz
  have G9 := Lib.hid hm1
  have G10 := Lib.hid hm2
  have G11 := Lib.hid hd
  have GM : Hid (Maps.size D < maxLen) := by
    have h1 := List.length_filter_le Option.isSome s.handles
    have h2 := HN.out
    show _ < _
    unfold maxLen
    omega
  have hta : ∀ x m, (Instr.typeAssert (.iface 3 (.int .i64 x)) 20 3 false).run Try.prog m = .ok (.int .i64 x) m := fun x m => by kernel_rfl
  have HT := Lib.hid hta
  clear hrep hch hhs hda hdr hh hown hsz hm1 hm2 hd hgr hk hta
  by_cases hd0 : da.length = 0
  · obtain rfl : da = [] := List.eq_nil_of_length_eq_zero hd0
    rw [List.length_nil] at c14
    obtain ⟨n, hn⟩ : ∃ n, n = s.handles.length := ⟨_, rfl⟩
    rw [← hn] at c7
    have hnb : n < 100000000 := by rw [hn]; exact HN.out
    have K1 := Lib.hid hn
    clear hd0 hn
    go_wp2_with fail
    refine (len_any a 0 c).mono ?_
    rintro e w2 ⟨rfl, rfl⟩
    have hownW : (w2.setCell ⟨A.hb, 7, none⟩ (.int .i64 (n + 1))).ownsMap Try.prog 3 ptrR A.mb (Maps.size D) D := G7.out.setCell G1.out.mb_ne _
    have K2 := Lib.hid hownW
    clear hownW
    go_wp2_with (at_mapUpdate; refine wpList_mapUpdate_in _ rfl _ _ _ 41 rfl 3 83 keyed3 Try.underlying41 ptrR A.mb _ D rfl K2.out GM.out _ _ (.int .i64 n) rfl rfl (key3 n (by omega)) (.lit (.int .i64 (A.obj i))) [] rfl ?_; intro w3 hown3 hturn3)
    go_ret
    have hsl := G5.out.none
    have hK1 := K1.out
    have hcA : Ch (fun r => r = 1 ∨ r = 4) ρ1 ρ1 w2 w3 := (((Ch.refl G2.out.fresh).setCell _ _ fun _ => .inl G1.out.rh) : Ch (fun r => r = 1 ∨ r = 4) ρ1 ρ1 w2 (w2.setCell ⟨A.hb, 7, none⟩ (.int .i64 (n + 1)))).trans
      ((turned_ch hturn3 (fun k hk => G2.out.fresh k (by simpa using hk)) G1.out.rm).mono fun r hr => .inr hr)
    have cA : Ch (fun r => r = 1 ∨ r = 4 ∨ r = 6) ρ1 ρ1 w2 w3 := hcA.mono fun r hr => by omega
    refine ⟨by rw [hsl, hK1]; rfl, ρ1, ?_, (G2.out.mono fun r hr => by unfold Mine; omega).trans (cA.mono fun r hr => by unfold Mine; omega)⟩
    refine G1.out.hand (hs' := handIn s.handles i) cA (fun gs' ds' ks' hh' => ?_) (MapAt.store i (by have := HN.out; omega) G8.out G9.out G10.out G7.out (by rw [hsl, ← hK1]; exact hown3))
    have hh6 := G6.out
    rw [hh6] at hh'
    simp only [Option.some.injEq, Obj.cells.injEq, and_true, true_and] at hh'
    have e14 := congrArg (fun x : Array Value => x[13]?) hh'
    have e15 := congrArg (fun x : Array Value => x[14]?) hh'
    have e16 := congrArg (fun x : Array Value => x[15]?) hh'
    simp [hcells] at e14 e15 e16
    subst e14 e15 e16
    refine ⟨ds, [], ?_, (G11.out).keep hcA (by decide), G5.out.pushed i⟩
    rw [turned_other hturn3 G1.out.mb_ne.symm, heap_setCell_same w2 A.hb 7 _ _ _ hh6]
    have : (handIn s.handles i).length = n + 1 := by rw [handIn_length, if_neg (by omega)]; omega
    simp [hcells, this]
  · obtain ⟨m, hm⟩ : ∃ m, da.length = m + 1 := ⟨da.length - 1, by omega⟩
    obtain ⟨x, hx⟩ : ∃ x, da.getD 0 0 = x := ⟨_, rfl⟩
    obtain ⟨n, hn⟩ : ∃ n, n = da.length := ⟨_, rfl⟩
    rw [← hn] at c14
    have hn0 : (0 : Int) < (n : Int) := by omega
    have hxs : x = slotOf s.handles ∧ slotOf s.handles < s.handles.length := by rw [← hx]; exact G5.out.some (by omega)
    have hdl : da.length < 1000000000 := by have := G5.out.bound; have := HN.out; omega
    have K1 := Lib.hid hm
    have K2 := Lib.hid hx
    have K3 := Lib.hid hn
    have K4 := Lib.hid hxs
    have K5 := Lib.hid hdl
    have hxb : -9223372036854775808 ≤ x ∧ x ≤ 9223372036854775807 := by have := HN.out; omega
    clear hm hx hn hxs hdl hd0
    go_wp2_with fail
    refine (len_any a n c).mono ?_
    rintro e w2 ⟨rfl, rfl⟩
    go_wp2_with fail
    refine (hpop_any G4.out G2.out.fresh m K1.out K5.out G5.out.heap x K2.out).mono ?_
    rintro e w2b ⟨rfl, da', hp, hhp, hda2, hch2, ho2⟩
    obtain ⟨ds2, hh2⟩ := ho2 _ G6.out
    have e8 : w2b.cell? ⟨A.hb, 8, none⟩ = some (.map (some A.mb)) := by rw [cell_of_row w2b _ 8 _ _ _ hh2]; simp [hcells]
    have hblt2 : A.hb < w2b.heap.size := (Array.getElem?_eq_some_iff.1 hh2).1
    have hown2 : w2b.ownsMap Try.prog 3 ptrR A.mb (Maps.size D) D := by
      obtain ⟨es, clock, g1, g2⟩ := G7.out
      exact ⟨es, clock, hch2.keep g1 (by rw [G1.out.rm]; decide), g2⟩
    have L1 := Lib.hid hp
    have L2 := Lib.hid hhp
    have L3 := Lib.hid hda2
    have L4 := Lib.hid hch2
    have L5 := Lib.hid hh2
    have L6 := Lib.hid hown2
    have hta := HT.out x
    clear hp hhp hda2 hch2 hh2 hown2 ho2 c14 c7 c8 f7
    go_wp2_with (at_mapUpdate; refine wpList_mapUpdate_in _ rfl _ _ _ 41 rfl 3 83 keyed3 Try.underlying41 ptrR A.mb _ D rfl L6.out GM.out _ _ (.int .i64 x) rfl rfl (key3 x hxb) (.lit (.int .i64 (A.obj i))) [] rfl ?_; intro w3 hown3 hturn3)
    go_ret
    obtain ⟨hxs, hxl⟩ := K4.out
    have cA : Ch (fun r => r = 1 ∨ r = 4 ∨ r = 6) ρ1 ρ1 w2 w3 := (L4.out.mono fun r hr => by omega).trans ((turned_ch hturn3 (L4.out.fresh) G1.out.rm).mono fun r hr => by omega)
    refine ⟨by rw [hxs]; rfl, ρ1, ?_, (G2.out.mono fun r hr => by unfold Mine; omega).trans (cA.mono fun r hr => by unfold Mine; omega)⟩
    refine G1.out.hand (hs' := handIn s.handles i) cA (fun gs' ds' ks' hh' => ?_) (MapAt.store i (by have := HN.out; omega) G8.out G9.out G10.out L6.out (by rw [← hxs]; exact hown3))
    have hh6 := G6.out
    rw [hh6] at hh'
    simp only [Option.some.injEq, Obj.cells.injEq, and_true, true_and] at hh'
    have e14 := congrArg (fun x : Array Value => x[13]?) hh'
    have e15 := congrArg (fun x : Array Value => x[14]?) hh'
    have e16 := congrArg (fun x : Array Value => x[15]?) hh'
    simp [hcells] at e14 e15 e16
    subst e14 e15 e16
    obtain ⟨_, hc', ds3, hh3, _, h14, hrow3⟩ := L3.out
    have hh2 := L5.out
    have e3 := hh3
    rw [hh2] at e3
    simp only [Option.some.injEq, Obj.cells.injEq, and_true, true_and] at e3
    rw [← e3] at h14
    have e4 : ds2 = ds3 := by simpa [hcells] using h14
    subst e4
    refine ⟨ds2, da', ?_, hrow3.keep (turned_ch hturn3 (L4.out.fresh) G1.out.rm) (by decide), G5.out.after hxs L1.out L2.out i⟩
    rw [turned_other hturn3 G1.out.mb_ne.symm, hh2]
    have : (handIn s.handles i).length = s.handles.length := by rw [handIn_length, if_pos hxl]
    have h3 := G3.out
    simp [hcells, this, h3]
end Go.Proofs.Ytfjgokbclgdfjaa
