/- trace. -/
import Derived.Test.YtfjgokbclgdfjaaH
set_option linter.unusedSimpArgs false
set_option linter.unusedVariables false
namespace Go.Proofs.Ytfjgokbclgdfjaa
open Go.RowKit HM

theorem RowAt.cons {w : World} {ρ : Nat → Nat} {r : Nat} {T : TypeId} {v x : Value} {xs : List Value} (h : RowAt w ρ r T v (x :: xs)) :
    ∃ g off cap, v = .slice (some ⟨g, off, none⟩) (xs.length + 1) cap ∧ ρ g = r ∧ xs.length + 1 ≤ cap ∧ w.cell? ⟨g, off, none⟩ = some x := by
  obtain ⟨g, off, cap, h1, h2, h3, _, h5⟩ := h.cell (i := 0) (x := x) rfl
  exact ⟨g, off, cap, h1, h2, h3, h5⟩

set_option maxHeartbeats 1000000 in
theorem trace_rep {w : World} {ρ : Nat → Nat} {A : Ad} {s : S} (h : Rep w ρ A s) {i : Nat} {o : O} {rest : List Nat} (hgrey : s.grey = i :: rest) (hi : s.objs[i]? = some o) (hod : s.done ≤ o.epoch) (hde : s.done ≤ s.epoch) (hosp : o.space ≤ 1) (hcur : s.cur ≤ 1) (hne : o.space ≠ s.cur)
    (hsz : 0 < o.size) (hpl : o.place + o.size ≤ s.room) (hbump : s.bump + o.size ≤ s.room) (hst : o.size ≤ s.stay) (hroom : s.room ≤ 1000000000) (hstay : s.stay ≤ 1000000000)
    (hdisj : ∀ (k : Nat) (o' : O), s.objs[k]? = some o' → s.done ≤ o'.epoch → k ≠ i → o'.space ≤ 1 ∧ (o'.space = s.cur → o'.place + o'.size ≤ s.bump))
    (hglen : s.grey.length + o.size < 1000000000) (hrefs : ∀ j, W.obj j ∈ o.ws.tail → s.Alive j) :
    Calls Try.prog 52 #[.pointer (some ⟨A.hb, 0, none⟩)] w fun e w' => e = .returned (.bool true) ∧ ∃ ρ', Rep w' ρ' A ((moved s i o rest).shades o.ws.tail) ∧ Ch Mine ρ ρ' w w' := by
  have hil : i < s.objs.length := (List.getElem?_eq_some_iff.1 hi).1
  obtain ⟨gs, ds, ks, hh, hgr, hd, hk⟩ := h.head
  rw [hgrey] at hgr
  obtain ⟨g, off, cap, rfl, hgrole, hcap, hg0⟩ := RowAt.cons (x := A.ptr i) (xs := rest.map A.ptr) hgr
  rw [List.length_map] at hcap hh hgr
  obtain ⟨i0, hi0, hz0, hz1, hz2⟩ := info_parts Try.info83
  obtain ⟨i5, hi5, hy0, hy1, hy2⟩ := info_parts Try.info85
  obtain ⟨ta, hta, hsl⟩ := run_slice1 42 83 i0 Try.underlying42 hi0 1 hz1 ⟨g, off, none⟩ rest.length cap hcap
  have hgr' : RowAt w ρ 5 83 (.slice (some ta) rest.length (cap - 1)) (rest.map A.ptr) := by
    have := RowAt.tail (x := A.ptr i) (xs := rest.map A.ptr) (by simpa using hgr)
    rw [hta, Addr.add_lit]
    simpa using this
  obtain ⟨n1, hn1⟩ : ∃ n1, o.size = n1 + 1 := ⟨o.size - 1, by omega⟩
  obtain ⟨ta2, hta2, hsl2⟩ := run_slice1 39 85 i5 Try.underlying39 hi5 2 hy1 ⟨A.sp o.space, o.place * 2, none⟩ n1 (s.room - o.place) (by omega)
  rw [← hn1] at hsl2
  obtain ⟨cl, hcl0, hclN⟩ := h.sp s.cur
  have hcl : w.heap[A.sp s.cur]? = some (.cells cl.toList.toArray 85 (0, 0)) := by simpa using hcl0
  have hcln : cl.toList.length = 2 * s.room := by simpa using hclN
  have ho := h.objs i o hi
  have hbo := h.hb_ne_obj hil
  have hob : A.obj i ≠ A.hb := fun e => hbo e.symm
  have hgb : g ≠ A.hb := fun e => by rw [e, h.rh] at hgrole; omega
  have hgo : g ≠ A.obj i := fun e => by rw [e, h.ro i hil] at hgrole; omega
  have h13 : w.cell? ⟨A.hb, 13, none⟩ = some (.slice (some ⟨g, off, none⟩) (rest.length + 1) cap) := by rw [cell_of_row w _ 13 _ _ _ hh]; rfl
  have h3 : w.cell? ⟨A.hb, 3, none⟩ = some (.int .i64 s.cur) := by rw [cell_of_row w _ 3 _ _ _ hh]; rfl
  have h5 : w.cell? ⟨A.hb, 5, none⟩ = some (.int .i64 s.bump) := by rw [cell_of_row w _ 5 _ _ _ hh]; rfl
  have h6 : w.cell? ⟨A.hb, 6, none⟩ = some (.int .i64 s.stay) := by rw [cell_of_row w _ 6 _ _ _ hh]; rfl
  have hs : ∀ k, k ≤ 1 → w.cell? ⟨A.hb, 1 + k, none⟩ = some (.slice (some ⟨A.sp k, 0, none⟩) s.room s.room) := fun k hk => by
    rw [cell_of_row w _ _ _ _ _ hh]
    have : k = 0 ∨ k = 1 := by omega
    rcases this with e | e <;> simp [e, hcells, Ad.sp]
  have o1 : w.cell? ⟨A.obj i, 1, none⟩ = some (.int .i64 o.size) := by rw [cell_of_row w _ 1 _ _ _ ho]; rfl
  have o2 : w.cell? ⟨A.obj i, 2, none⟩ = some (.int .i64 o.space) := by rw [cell_of_row w _ 2 _ _ _ ho]; rfl
  have o3 : w.cell? ⟨A.obj i, 3, none⟩ = some (.int .i64 o.place) := by rw [cell_of_row w _ 3 _ _ _ ho]; rfl
  have f : ∀ j, w.frozen? ⟨A.hb, j, none⟩ = false := fun j => frozen_of_row w _ j _ _ hh
  have fo : ∀ j, w.frozen? ⟨A.obj i, j, none⟩ = false := fun j => frozen_of_row w _ j _ _ ho
  have hs1 := hs o.space hosp
  have hs2 := hs s.cur hcur
  have hg0' : w.cell? ⟨g, off, none⟩ = some (.pointer (some ⟨A.obj i, 0, none⟩)) := hg0
  have HM := trace_moved h hi hod hosp hcur hne hbump hst hdisj hh hgr' hd hk hcl hcln
  have HMH := Lib.hid HM
  have HW := Lib.hid (h.words i o hi hod)
  have HH := Lib.hid h
  have HA := Lib.hid hrefs
  have HT2 := Lib.hid hta2
  have HN := Lib.hid hn1
  have HCL := Lib.hid hcl
  have HCN := Lib.hid hcln
  have HI := Lib.hid hi
  have HGL := Lib.hid hglen
  have HGR := Lib.hid hgrey
  clear HM h hgrey hrefs hta2 hn1 hcl hcln hi hglen hgr hgr' hd hk hcl0 hclN hs hta hdisj ho hh hi0 hz0 hz1 hz2 hi5 hy0 hy1 hy2 hg0
  go_enter Try.func52, Try.ntmps52
  go_wp2_with fail
  refine (words_any _ A.hb (A.obj i) (A.sp o.space) o.space o.place o.size s.room hosp ?_ ?_ ?_ ?_ hsz hpl hroom).mono ?_
  · rw [World.cell?_setCell_other _ _ _ _ (by simp [hbo]), o1]
  · rw [World.cell?_setCell_other _ _ _ _ (by simp [hbo]), o2]
  · rw [World.cell?_setCell_other _ _ _ _ (by simp [hbo]), o3]
  · rw [cell_set_other w A.hb 13 (1 + o.space) _ (by omega), hs1]
  rintro e w1 ⟨rfl, k, rfl⟩
  go_wp2
  go_region
  go_wp2
  go_region
  go_wp2
  go_region
  go_wp2_with fail
  obtain ⟨V, hV⟩ : ∃ V, V = ((((w.setCell ⟨A.hb, 13, none⟩ (.slice (some ta) rest.length (cap - 1))).setCell ⟨A.obj i, 2, none⟩ (.int .i64 s.cur)).setCell ⟨A.obj i, 3, none⟩ (.int .i64 s.bump)).setCell ⟨A.hb, 5, none⟩ (.int .i64 (s.bump + o.size))).setCell ⟨A.hb, 6, none⟩ (.int .i64 (s.stay - o.size)) := ⟨_, rfl⟩
  have hbig : ((((((w.setCell ⟨A.hb, 13, none⟩ (.slice (some ta) rest.length (cap - 1))).drewN (k + 1)).setCell ⟨A.obj i, 2, none⟩ (.int .i64 s.cur)).setCell ⟨A.obj i, 3, none⟩ (.int .i64 s.bump)).setCell ⟨A.hb, 5, none⟩ (.int .i64 (s.bump + o.size))).setCell ⟨A.hb, 6, none⟩ (.int .i64 (s.stay - o.size))).drew.drew = V.drewN (k + 3) := by rw [hV]; rfl
  rw [hbig]
  clear hbig
  have v1 : V.cell? ⟨A.obj i, 1, none⟩ = some (.int .i64 o.size) := by
    rw [hV, World.cell?_setCell_other _ _ _ _ (by simp [hbo]), World.cell?_setCell_other _ _ _ _ (by simp [hbo]), cell_set_other _ _ 3 1 _ (by decide), cell_set_other _ _ 2 1 _ (by decide), World.cell?_setCell_other _ _ _ _ (by simp [hbo]), o1]
  have u2 : V.cell? ⟨A.obj i, 2, none⟩ = some (.int .i64 s.cur) := by
    rw [hV, World.cell?_setCell_other _ _ _ _ (by simp [hbo]), World.cell?_setCell_other _ _ _ _ (by simp [hbo]), cell_set_other _ _ 3 2 _ (by decide)]
    exact World.cell?_setCell_same _ _ _ ((World.cell?_setCell_other _ _ _ _ (by simp [hbo])).trans o2)
  have v3 : V.cell? ⟨A.obj i, 3, none⟩ = some (.int .i64 s.bump) := by
    rw [hV, World.cell?_setCell_other _ _ _ _ (by simp [hbo]), World.cell?_setCell_other _ _ _ _ (by simp [hbo])]
    exact World.cell?_setCell_same _ _ _ ((cell_set_other _ _ 2 3 _ (by decide)).trans ((World.cell?_setCell_other _ _ _ _ (by simp [hbo])).trans o3))
  have v4 : V.cell? ⟨A.hb, 1 + s.cur, none⟩ = some (.slice (some ⟨A.sp s.cur, 0, none⟩) s.room s.room) := by
    rw [hV, cell_set_other _ _ 6 _ _ (by omega), cell_set_other _ _ 5 _ _ (by omega), World.cell?_setCell_other _ _ _ _ (by simp [hob]), World.cell?_setCell_other _ _ _ _ (by simp [hob]), cell_set_other _ _ 13 _ _ (by omega), hs2]
  have HV := Lib.hid hV
  clear hV h13 h3 h5 h6 hs1 hs2 o1 o2 o3 f fo hg0' hsl
  refine (words_any (V.drewN (k + 3)) A.hb (A.obj i) (A.sp s.cur) s.cur s.bump o.size s.room hcur v1 u2 v3 v4 hsz hbump hroom).mono ?_
  rintro e w2 ⟨rfl, k2, rfl⟩
  clear v1 u2 v3 v4
  have hspb : ∀ k, A.sp k ≠ A.hb := fun k e => by rcases HH.out.sp_role k with e1 | e1 <;> rw [e, HH.out.rh] at e1 <;> omega
  have hspo : ∀ k, A.sp k ≠ A.obj i := fun k e => by rcases HH.out.sp_role k with e1 | e1 <;> rw [e, HH.out.ro i hil] at e1 <;> omega
  have hVo : ∀ g, g ≠ A.hb → g ≠ A.obj i → V.heap[g]? = w.heap[g]? := fun g h1 h2 => by
    rw [HV.out, Below.heap_setCell _ _ _ _ h1, Below.heap_setCell _ _ _ _ h1, Below.heap_setCell _ _ _ _ h2, Below.heap_setCell _ _ _ _ h2, Below.heap_setCell _ _ _ _ h1]
  have hVc : V.heap[A.sp s.cur]? = some (.cells cl.toList.toArray 85 (0, 0)) := (hVo _ (hspb _) (hspo _)).trans HCL.out
  have hVw : ∀ (j : Nat) (x : W), o.ws[j]? = some x → V.cell? ⟨A.sp o.space, o.place * 2 + j * 2, none⟩ = some (.int .i64 (wnum x)) ∧ V.cell? ⟨A.sp o.space, o.place * 2 + j * 2 + 1, none⟩ = some (wptr A x) := fun j x hx => by
    have hw := HW.out j x hx
    have e1 : o.place * 2 + j * 2 = 2 * (o.place + j) := by omega
    have hb : V.heap[A.sp o.space]? = w.heap[A.sp o.space]? := hVo _ (hspb _) (hspo _)
    rw [e1]
    exact ⟨(World.cell?_of_block (w := w) hb).trans hw.1, (World.cell?_of_block (w := w) hb).trans hw.2⟩
  have hlen : (wcells A o.ws).length = o.size * 2 := wcells_length A o.ws
  have hcp : ∀ (ty : TypeId) (m : Nat), (Builtin.copy_ #[39, 39] ty #[.slice (some ⟨A.sp s.cur, s.bump * 2, none⟩) o.size (s.room - s.bump), .slice (some ⟨A.sp o.space, o.place * 2, none⟩) o.size (s.room - o.place)]).run Try.prog (V.drewN m) =
      .ok (.int .i64 o.size) ((V.drewN m).setRow (A.sp s.cur) (laidOver cl.toList (s.bump * 2) (wcells A o.ws)).toArray) := fun ty m =>
    run_copy2 (w := V.drewN m) ty _ _ (A.sp s.cur) (s.bump * 2) o.size _ _ (fun _ => rfl) cl.toList hVc (wcells A o.ws) hlen (wcells_at hVw) (by have := HCN.out; omega) (wcells_one A o.ws)
  have HVW := Lib.hid hVw
  clear hVc hVw hlen hspb hspo hVo
  go_wp2_with fail
  obtain ⟨V', hV'⟩ : ∃ V', V' = (V.drewN (k + 3 + k2)).setRow (A.sp s.cur) (laidOver cl.toList (s.bump * 2) (wcells A o.ws)).toArray := ⟨_, rfl⟩
  rw [← hV']
  obtain ⟨hR, hC⟩ := HMH.out (k + 3 + k2) HV.out hV'
  have hVW' : ∀ (j : Nat) (x : W), o.ws[j]? = some x → V'.cell? ⟨A.sp o.space, o.place * 2 + j * 2, none⟩ = some (.int .i64 (wnum x)) ∧ V'.cell? ⟨A.sp o.space, o.place * 2 + j * 2 + 1, none⟩ = some (wptr A x) := fun j x hx => by
    have hw := HVW.out j x hx
    have hb : V'.heap[A.sp o.space]? = V.heap[A.sp o.space]? := by rw [hV', setRow_other _ _ _ _ (HH.out.sp_ne hosp hcur hne)]; rfl
    exact ⟨(World.cell?_of_block (w := V) hb).trans hw.1, (World.cell?_of_block (w := V) hb).trans hw.2⟩
  have htl : o.ws.tail.length = n1 := by have := HN.out; simp only [O.size] at this; simp; omega
  have hn1b : n1 ≤ 1000000000 := by have := HN.out; omega
  have HR := Lib.hid hR
  have HC := Lib.hid hC
  have HVV := Lib.hid hVW'
  have HTL := Lib.hid htl
  clear hV' hR hC hVW' hcp hsl2 htl HVW HV HMH HW HCL HCN
  go_loopg [74] n1 (fun gk v wr => ∃ (j : Nat) (ρ' : Nat → Nat), j ≤ n1 ∧ gk = n1 - j ∧ v = .int .i64 j ∧ Rep wr ρ' A ((moved s i o rest).shades (o.ws.tail.take j)) ∧ Ch (fun r => r = 1 ∨ r = 5 ∨ 8 ≤ r) ρ ρ' V' wr)
  case atStart => exact ⟨0, ρ, Nat.zero_le _, rfl, rfl, by simpa [S.shades] using HR.out, Ch.refl HR.out.rho⟩
  case round =>
    obtain ⟨j, ρ', hj, hgk, rfl, hrep, hch⟩ := hrel
    have H1 := Lib.hid hgk
    have H2 := Lib.hid hrep
    have H3 := Lib.hid hch
    clear hgk hrep hch
    by_cases hlt : j < n1
    · have hx : o.ws.tail[j]? = some (o.ws.tail[j]'(by rw [HTL.out]; exact hlt)) := List.getElem?_eq_getElem _
      generalize hxx : o.ws.tail[j]'(by rw [HTL.out]; exact hlt) = x at hx
      have hta : ta2 = ⟨A.sp o.space, o.place * 2 + 2, none⟩ := by
        have h1 := HT2.out
        have h2 := HN.out
        rw [if_neg (by omega), Addr.add_lit] at h1
        exact h1
      have hcells := HVV.out (j + 1) x (by simpa using hx)
      have hb : wr.heap[A.sp o.space]? = V'.heap[A.sp o.space]? := H3.out.block _ (HR.out.lt (by rcases HH.out.sp_role o.space with e | e <;> rw [e] <;> decide)) (by rcases HH.out.sp_role o.space with e | e <;> rw [e] <;> omega)
      have c1 : wr.cell? ⟨A.sp o.space, o.place * 2 + 2 + j * 2, none⟩ = some (.int .i64 (wnum x)) := by
        rw [World.cell?_of_block (w := V') hb, show o.place * 2 + 2 + j * 2 = o.place * 2 + (j + 1) * 2 from by omega]; exact hcells.1
      have c2 : wr.cell? ⟨A.sp o.space, o.place * 2 + 2 + j * 2 + 1, none⟩ = some (wptr A x) := by
        rw [World.cell?_of_block (w := V') hb, show o.place * 2 + 2 + j * 2 + 1 = o.place * 2 + (j + 1) * 2 + 1 from by omega]; exact hcells.2
      have hltz : (j : Int) < (n1 : Int) := by omega
      have HX := Lib.hid hx
      have HT := Lib.hid hta
      clear hx hxx hta hcells hb
      subst HT
      have HLT := Lib.hid hlt
      have hnext : Hid ((moved s i o rest).shades (o.ws.tail.take (j + 1)) = ((moved s i o rest).shades (o.ws.tail.take j)).shadeW x) := by
        have e : o.ws.tail.take (j + 1) = o.ws.tail.take j ++ [x] := by rw [List.take_add_one, HX.out]; rfl
        show _ = _
        rw [e, shades_snoc]
      cases x with
      | num n =>
        simp only [wnum, wptr] at c1 c2
        go_wp2_with fail
        refine (shade_nil _ A.hb).mono ?_
        rintro e w3 ⟨rfl, k3, rfl⟩
        go_wp2
        go_roundg (n1 - (j + 1))
        case measure => have := H1.out; have := HLT.out; omega
        case rel =>
          refine ⟨j + 1, ρ', HLT.out, rfl, by go_num, ?_, ?_⟩
          · rw [hnext.out]
            exact (H2.out.frame (M := fun _ => False) (((Ch.refl H2.out.rho).alloc _)) (fun _ h => h.elim)).drewN _
          · exact ((H3.out).alloc _).drewN _
      | obj q =>
        simp only [wnum, wptr, Ad.ptr] at c1 c2
        have hal : S.Alive ((moved s i o rest).shades (o.ws.tail.take j)) q := by
          refine alive_shades _ ?_ ?_
          · obtain ⟨oq, h1, h2⟩ := HA.out q (List.mem_of_getElem? HX.out)
            by_cases hqi : i = q
            · subst hqi
              exact ⟨_, by simp [moved, hil]; rfl, by rw [HI.out] at h1; obtain rfl := Option.some.inj h1; exact h2⟩
            · exact ⟨oq, by simp [moved, List.getElem?_set, hqi, h1], h2⟩
          · exact hde
        obtain ⟨oq, hq1, hq2⟩ := hal
        have HQ1 := Lib.hid hq1
        have HQ2 := Lib.hid hq2
        have hgl : ((moved s i o rest).shades (o.ws.tail.take j)).grey.length < 1000000000 := by
          have h1 := (shades_same (o.ws.tail.take j) (moved s i o rest)).2.2.2.2.2.2.2.2.2.2.2.2
          have h2 := HGL.out
          have h3 : (o.ws.tail.take j).length ≤ n1 := by simp; omega
          have h4 := HN.out
          have h5 : (moved s i o rest).grey.length + 1 = s.grey.length := by rw [HGR.out]; simp [moved]
          omega
        have HGL2 := Lib.hid hgl
        clear hq1 hq2 hgl
        go_wp2_with fail
        have hfr : Rep (wr.alloc (.cells #[.int .i64 0, .pointer (some ⟨A.obj q, 0, none⟩)] 85)) ρ' A ((moved s i o rest).shades (o.ws.tail.take j)) :=
          H2.out.frame (M := fun _ => False) (((Ch.refl H2.out.rho).alloc _)) (fun _ h => h.elim)
        refine (shade_rep hfr HQ1.out HQ2.out HGL2.out).mono ?_
        rintro e w3 ⟨rfl, ρ3, hr3, hc3⟩
        have H5 := Lib.hid hr3
        have H6 := Lib.hid hc3
        clear hr3 hc3 hfr c1 c2
        go_wp2
        go_roundg (n1 - (j + 1))
        case measure => have := H1.out; have := HLT.out; omega
        case rel =>
          refine ⟨j + 1, ρ3, HLT.out, rfl, by go_num, ?_, ?_⟩
          · rw [hnext.out]; exact H5.out
          · exact ((H3.out).alloc _).trans (H6.out.mono fun r hr => by omega)
    · have hge : decide ((j : Int) < (n1 : Int)) = false := by simp; omega
      obtain rfl : j = n1 := by omega
      go_wp2
      go_ret
      have e : o.ws.tail.take j = o.ws.tail := List.take_of_length_le (by rw [HTL.out]; exact Nat.le_refl _)
      have h2 := H2.out
      rw [e] at h2
      exact ⟨rfl, ρ', h2, (HC.out.mono fun r hr => by unfold Mine; omega).trans (H3.out.mono fun r hr => by unfold Mine; omega)⟩

end Go.Proofs.Ytfjgokbclgdfjaa
