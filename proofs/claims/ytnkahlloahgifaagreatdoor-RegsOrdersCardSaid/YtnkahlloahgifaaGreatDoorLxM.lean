/- A text is scanned: walked. -/
import Derived.Test.YtnkahlloahgifaaGreatDoorLxK
import Derived.Test.YtnkahlloahgifaaGreatDoorLxL
import Derived.Test.YtnkahlloahgifaaGreatDoorLxM0
import Derived.Test.YtnkahlloahgifaaGreatDoorLxM2
import Derived.Shelf.Abstract
import Derived.Maps.AppendAt
set_option linter.unusedSimpArgs false
set_option linter.unusedVariables false
namespace Go.Proofs.YtnkahlloahgifaaGreatDoor.Lx
open Go.RowKit
attribute [local go_sem] Oper.semAt_some

/-- What a scan leaves. -/
def SPost (w : World) (s : ByteArray) (e : Ending) (w' : World) : Prop :=
  match LX.scan (bts s) with
  | .ok ts cs => ∃ b mb i cv tv, e = .returned (.tuple #[.pointer (some ⟨b, 0, none⟩), tv, .agg #[.int .i64 0, .int .i64 0]]) ∧ Sc w' b s i mb cv ∧ Cm w' b cv cs ∧ w'.ownsRow w.heap.size 154 4 tv ts.length (flatT ts) ∧
      Below w.heap.size w w' ∧ w.heap.size ≤ b ∧ ∀ k, cv.ownBlock = some k → w.heap.size ≤ k
  | .bad p er => ∃ b, e = .returned (.tuple #[.pointer (some ⟨b, 0, none⟩), .slice none 0 0, .agg #[.int .i64 p, .int .i64 er]]) ∧ Below w.heap.size w w'

theorem Tryz.info154 : (Tryz.prog.info? 154).map (fun i => (i.zero, i.size, i.bytes)) = some (some (.agg #[.int .i64 0, .int .i64 0, .string ⟨#[]⟩, .int .i64 0]), 4, 40) := by kernel_rfl

set_option maxHeartbeats 1000000 in
set_option maxRecDepth 20000 in
theorem scanned_any {w : World} (henv : Env w) (s : ByteArray) (hs : s.size ≤ 400000) : Calls Tryz.prog 130 #[.string s] w (SPost w s) := by
  have HS := Lib.hid hs
  have HE := Lib.hid henv
  clear hs henv
  refine (callsIn_wide (n := 3)).1 (callsIn_of_wp_marks Tryz.func130 rfl trivial ?_ rfl)
  refine wpIn_wide.2 ?_
  simp only [Tryz.ntmps130, List.size_toArray, List.length_cons, List.length_nil, Nat.reduceAdd, Nat.reduceSub, Array.replicate_succ, Array.replicate_zero, List.push_toArray, List.append_toArray, List.nil_append, List.cons_append]
  go_wp2_with fail
  obtain ⟨lb, hlb⟩ : ∃ z, z = w.heap.size := ⟨_, rfl⟩
  obtain ⟨W0, hW0⟩ : ∃ W, W = (w.alloc (.cells #[.slice none 0 0] 201)).alloc (.cells #[.int .i64 0, .int .i64 0] 203) := ⟨_, rfl⟩
  rw [← hW0, ← hlb]
  have B0 : Hid (Below w.heap.size w W0) := by rw [hW0]; exact ((Below.refl _ _).alloc (Nat.le_refl _) _).alloc (by simp) _
  have Z0 : Hid (W0.heap.size = lb + 2) := by rw [hW0, hlb]; show _ = _; simp
  have L0 : Hid (W0.heap[lb]? = some (.cells #[.slice none 0 0] 201 (0, 0))) := by
    rw [hW0, hlb]
    show _ = _
    rw [Below.heap_alloc _ _ _ (by simp)]; exact heap_alloc_new w _
  have R0 : Hid (W0.heap[lb + 1]? = some (.cells #[.int .i64 0, .int .i64 0] 203 (0, 0))) := by
    rw [hW0, hlb]
    have := heap_alloc_new (w.alloc (.cells #[.slice none 0 0] 201)) (.cells #[.int .i64 0, .int .i64 0] 203)
    rw [World.size_alloc] at this
    exact this
  have HL := Lib.hid hlb
  clear hlb hW0
  refine (newScanner_any W0 s HS.out).mono ?_
  rintro e W1 ⟨rfl, hsc, hwd, hb1, hz1⟩
  obtain ⟨b, hb⟩ : ∃ b, b = W0.heap.size + 1 := ⟨_, rfl⟩
  obtain ⟨mb, hmb⟩ : ∃ m, m = W0.heap.size := ⟨_, rfl⟩
  rw [← hb]
  have hlb : w.heap.size = lb := HL.out.symm
  have hz0 : W0.heap.size = lb + 2 := Z0.out
  obtain ⟨ib, hib⟩ : ∃ i, i = W1.heap.size := ⟨_, rfl⟩
  obtain ⟨W2, hW2⟩ : ∃ W, W = W1.alloc (.cells #[.pointer (some ⟨b, 0, none⟩)] 200) := ⟨_, rfl⟩
  have b12 : Below W1.heap.size W1 W2 := by rw [hW2]; exact (Below.refl _ _).alloc (Nat.le_refl _) _
  have bb : Below w.heap.size w W2 := B0.out.trans ((hb1.mono (by omega)).trans (b12.mono (by omega)))
  have I2 : Hid (It w.heap.size W2 b mb ib s 0 (.slice none 0 0) []) := by
    refine ⟨?_, ⟨World.ownsRow_nil _ _ _ _, by simp [Value.ownBlock]⟩, by omega, by simp [Value.ownBlock], ?_, HE.out.keep bb HE.out.size, by omega, ?_, HE.out.size, bb.size⟩
    · rw [hmb, hb]
      exact ⟨(b12.block _ (by omega)).trans hsc.1, hsc.2⟩
    · rw [hmb]
      exact hwd.keep fun o ho _ => (b12.block _ (by omega)).trans ho
    · rw [hW2, hib]; exact heap_alloc_new W1 _
  have V2 : Hid (Boxed W2 lb 201 (.slice none 0 0)) := (b12.block _ (by omega)).trans ((hb1.block _ (by omega)).trans L0.out)
  have R2 : Hid (W2.heap[lb + 1]? = some (.cells #[.int .i64 0, .int .i64 0] 203 (0, 0))) := (b12.block _ (by omega)).trans ((hb1.block _ (by omega)).trans R0.out)
  have BB := Lib.hid bb
  have HW2 := Lib.hid hW2
  have HIB := Lib.hid hib
  clear hsc hwd hb1 hz1 hb hmb hlb hz0 hW2 hib b12 bb
  go_wp2_with fail
  refine (tokens_any W1 b).mono ?_
  rintro e W2' ⟨rfl, rfl⟩
  rw [← HW2.out, ← HIB.out]
  go_wp2_with fail
  refine loop_law (w := w) (lb := lb) (ib := ib) (b := b) (mb := mb) (s := s) rfl I2.out R2.out V2.out BB.out ?round ?done ?thrown
  case round =>
    intro rcd ts k v p tx W hr1 hr2 hJ hlen
    unfold tokV
    simp only [List.setIfInBounds_toArray, List.set_cons_succ, List.set_cons_zero]
    have J0 := Lib.hid hJ
    have HR := Lib.hid (And.intro hr1 hr2)
    have HT : Hid (ts.length < 400000) := Nat.lt_of_lt_of_le hlen HS.out
    have JA := Lib.hid (J0.out.alloc (.cells #[.int .i64 k, .int .i64 v, .string tx, .int .i64 p] 154))
    have LN : Hid (w.heap.size ≤ W2.heap.size + 1) := Nat.le_succ_of_le BB.out.size
    clear hJ hr1 hr2 hlen
    gi_wp2
    obtain ⟨z, hz⟩ : ∃ z, z = W.heap.size := ⟨_, rfl⟩
    obtain ⟨Wa, hWa⟩ : ∃ V, V = W.alloc (.cells #[.int .i64 k, .int .i64 v, .string tx, .int .i64 p] 154) := ⟨_, rfl⟩
    have JA2 := JA.out
    have az : Wa.heap[z]? = some (.cells #[.int .i64 k, .int .i64 v, .string tx, .int .i64 p] 154 (0, 0)) := by rw [hWa, hz]; exact heap_alloc_new W _
    rw [← hWa] at JA2
    rw [← hWa, ← hz]
    refine ⟨_, run_beginRound JA2.1.loop HR.out.1, ?_⟩
    obtain ⟨JB1, JB2⟩ := JA2.1.put { rcd with state := .busy } LN.out
    obtain ⟨Wb, hWb⟩ : ∃ V, V = Wa.putObj (W2.heap.size + 1) (.loop { rcd with state := .busy }) := ⟨_, rfl⟩
    rw [← hWb] at JB1 JB2
    rw [← hWb]
    have bz : Wb.heap[z]? = some (.cells #[.int .i64 k, .int .i64 v, .string tx, .int .i64 p] 154 (0, 0)) := by
      rw [hWb, World.putObj_heap_other (fun e => by rw [e, JA2.1.loop] at az; simp at az)]; exact az
    have KB : Hid (Kb w.heap.size W Wb) := JA2.2.trans JB2
    have JB := Lib.hid JB1
    obtain ⟨sv, hsv, hrow⟩ := JB1.row
    have c0 := hsv.cell
    have cf := hsv.frozen
    have z0 : Wb.cell? ⟨z, 0, none⟩ = some (.int .i64 k) := by rw [cell_of_row _ _ 0 _ _ _ bz]; rfl
    have z1 : Wb.cell? ⟨z, 1, none⟩ = some (.int .i64 v) := by rw [cell_of_row _ _ 1 _ _ _ bz]; rfl
    have z2 : Wb.cell? ⟨z, 2, none⟩ = some (.string tx) := by rw [cell_of_row _ _ 2 _ _ _ bz]; rfl
    have z3 : Wb.cell? ⟨z, 3, none⟩ = some (.int .i64 p) := by rw [cell_of_row _ _ 3 _ _ _ bz]; rfl
    have SV := Lib.hid (And.intro hsv hrow)
    have HO : Hid ((Wb.alloc (.cells #[.int .i64 k, .int .i64 v, .string tx, .int .i64 p] 154)).ownsRow w.heap.size 154 4 sv ts.length (flatT ts)) :=
      owns_keep hrow fun q hq => Below.heap_alloc _ _ _ (by obtain ⟨_, c, hc⟩ := owns_blk hrow hq; exact (Array.getElem?_eq_some_iff.1 hc).1)
    have HN : Hid (∀ j u, [Value.int .i64 k, .int .i64 v, .string tx, .int .i64 p][j]? = some u → (Wb.alloc (.cells #[.int .i64 k, .int .i64 v, .string tx, .int .i64 p] 154)).cell? ((⟨Wb.heap.size, 0, none⟩ : Addr).add j) = some u) := fun j u hu => by
      rw [Addr.add_lit, cell_of_row _ _ _ _ _ _ (heap_alloc_new Wb _)]
      match j, hu with
      | 0, hu => simpa using hu
      | 1, hu => simpa using hu
      | 2, hu => simpa using hu
      | 3, hu => simpa using hu
      | j + 4, hu => simp at hu
    have HBs : Hid (w.heap.size ≤ Wb.heap.size) := JB1.below.size
    obtain ⟨i0, hi0, hz0, hz1, hz2⟩ := info_parts Tryz.info154
    have I0 := Lib.hid (And.intro hi0 (And.intro hz0 (And.intro hz1 hz2)))
    clear JA2 az hWa hWb hz JB1 JB2 bz hsv hrow hi0 hz0 hz1 hz2
    gi_wp2_with (gi_at_builtin; refine wpListIn_append_own _ rfl _ _ 201 rfl w.heap.size 154 i0 _ 4 40 Tryz.underlying201 I0.out.1 I0.out.2.1 I0.out.2.2.1 I0.out.2.2.2 rfl (by decide) sv ts.length (flatT ts) rfl HO.out ⟨Wb.heap.size, 0, none⟩ 1 1 _ rfl rfl HN.out ?c1 ?c2 ?c3 ?c4 ?c5)
    case c1 => intro u hu; simp at hu; rcases hu with rfl | rfl | rfl | rfl <;> rfl
    case c2 => have := HT.out; unfold maxLen; omega
    case c3 => have := HT.out; omega
    case c4 => have := HBs.out; simp; omega
    case c5 =>
      intro v' w1 hown hg hnil
      obtain ⟨M1, M2, M3⟩ := JB.out.more (t := ⟨k, v, bts tx, p⟩) SV.out.1 SV.out.2 (by have := HL.out; omega) (by rw [ofB_bts]; exact hown) hg
      obtain ⟨g, cap, rfl⟩ := ownsRow_succ hown
      have d0 := M1.cell
      have df := M1.frozen
      have N2 := Lib.hid M2
      have N3 := Lib.hid M3
      clear hown hg hnil M1 M2 M3 c0 cf z0 z1 z2 z3
      gi_wp2
      have h := N2.out.put rcd LN.out
      have hr := run_endRound (P := Tryz.prog) none N2.out.loop
      have hq : ({ state := .ready, pending := none, fn := rcd.fn, tmps := rcd.tmps, params := rcd.params, assign := rcd.assign, body := rcd.body, defers := rcd.defers } : Loop) = rcd := by
        have h1 := HR.out.1
        have h2 := HR.out.2
        cases rcd
        simp only at h1 h2
        subst h1
        subst h2
        rfl
      simp only [Option.isNone_none, if_true, hq] at hr
      exact ⟨_, _, hr, rfl, h.1, KB.out.trans (N3.out.trans h.2)⟩
  case done =>
    intro rcd W i cv ts cs hscan hJ hI
    have HSC := Lib.hid hscan
    have HI := Lib.hid hI
    have HJ := Lib.hid hJ
    obtain ⟨sv, hsv, hrow⟩ := hJ.row
    obtain ⟨sa, sc, hslice⟩ : ∃ a c, sv = .slice a ts.length c := by
      rcases hrow.2 with ⟨rfl, h0⟩ | ⟨g, cap, cur, rfl, _⟩
      · rw [h0]; exact ⟨_, _, rfl⟩
      · exact ⟨_, _, rfl⟩
    obtain ⟨tn, htn⟩ : ∃ n, n = ts.length := ⟨_, rfl⟩
    rw [← htn] at hslice
    subst hslice
    have c0 := hsv.cell
    have cf := hsv.frozen
    have d0 : W.cell? ⟨lb + 1, 0, none⟩ = some (.int .i64 0) := by rw [cell_of_row _ _ 0 _ _ _ hJ.wrong]; rfl
    have d1 : W.cell? ⟨lb + 1, 1, none⟩ = some (.int .i64 0) := by rw [cell_of_row _ _ 1 _ _ _ hJ.wrong]; rfl
    have df : ∀ q, W.frozen? ⟨lb + 1, q, none⟩ = false := fun q => frozen_of_row W (lb + 1) q _ _ hJ.wrong
    have SV := Lib.hid (And.intro hsv hrow)
    have TN := Lib.hid htn
    clear hscan hI hJ hsv hrow htn
    go_wp2_with fail
    go_region
    go_wp2_with fail
    obtain ⟨V, hV⟩ : ∃ V, V = (((W.setCell ⟨lb, 0, none⟩ (.slice sa tn sc)).setCell ⟨lb + 1, 0, none⟩ (.int .i64 0)).setCell ⟨lb + 1, 1, none⟩ (.int .i64 0)).drew := ⟨_, rfl⟩
    rw [← hV]
    have same : ∀ k : Nat, V.heap[k]? = W.heap[k]? := fun k => by
      rw [hV]
      show (((W.setCell ⟨lb, 0, none⟩ (.slice sa tn sc)).setCell ⟨lb + 1, 0, none⟩ (.int .i64 0)).setCell ⟨lb + 1, 1, none⟩ (.int .i64 0)).heap[k]? = _
      by_cases h1 : k = lb + 1
      · subst h1
        have e1 : (W.setCell ⟨lb, 0, none⟩ (.slice sa tn sc)).heap[lb + 1]? = some (.cells #[.int .i64 0, .int .i64 0] 203 (0, 0)) := (Below.heap_setCell _ _ _ (lb + 1) (by show lb + 1 ≠ lb; omega)).trans HJ.out.wrong
        rw [HJ.out.wrong]
        exact heap_setCell_same _ (lb + 1) 1 _ _ _ (heap_setCell_same _ (lb + 1) 0 _ _ (.int .i64 0) e1)
      · rw [Below.heap_setCell _ _ _ k h1, Below.heap_setCell _ _ _ k h1]
        by_cases h2 : k = lb
        · subst h2
          rw [show W.heap[k]? = _ from SV.out.1]
          exact heap_setCell_same _ k 0 _ _ _ SV.out.1
        · exact Below.heap_setCell _ _ _ k h2
    have kv : Kb w.heap.size W V := ⟨by rw [hV]; rfl, by rw [hV]; rfl, by rw [hV]; rfl, by rw [hV]; simp, fun k o hk _ => (same k).trans hk⟩
    have hD : V.heap[W2.heap.size]? = some (.deferred (some [])) := (same _).trans HJ.out.blk
    obtain ⟨U, hU⟩ : ∃ U, U = V.putObj W2.heap.size (.deferred none) := ⟨_, rfl⟩
    have hother : ∀ (k : Nat) (o : Obj), W.heap[k]? = some o → (∀ ds : Option (List Deferred), o ≠ Obj.deferred ds) → U.heap[k]? = some o := fun k o hk hne => by
      rw [hU]
      refine (World.putObj_heap_other fun e => ?_).trans ((same k).trans hk)
      subst e
      rw [HJ.out.blk] at hk
      simp only [Option.some.injEq] at hk
      exact hne _ hk.symm
    have ku : Kb w.heap.size W U := by
      refine kv.trans ⟨by rw [hU]; rfl, by rw [hU]; rfl, by rw [hU]; rfl, by rw [hU]; simp, fun k o hk hk2 => ?_⟩
      rw [hU]
      refine (World.putObj_heap_other fun e => ?_).trans hk
      subst e
      rcases hk2 with hk2 | hk2
      · have := BB.out.size; omega
      · rw [hD] at hk
        simp only [Option.some.injEq] at hk
        subst hk
        rcases hk2 with ⟨c, e⟩ | ⟨c, e⟩ | ⟨es, cl, e⟩ | ⟨c, e⟩ <;> cases e
    have u0 : U.cell? ⟨lb, 0, none⟩ = some (.slice sa tn sc) := by rw [cell_of_row _ _ 0 _ _ _ (hother _ _ SV.out.1 nofun)]; rfl
    have u1 : U.cell? ⟨lb + 1, 0, none⟩ = some (.int .i64 0) := by rw [cell_of_row _ _ 0 _ _ _ (hother _ _ HJ.out.wrong nofun)]; rfl
    have u2 : U.cell? ⟨lb + 1, 1, none⟩ = some (.int .i64 0) := by rw [cell_of_row _ _ 1 _ _ _ (hother _ _ HJ.out.wrong nofun)]; rfl
    have IU := HI.out.kb ku
    refine ⟨by simp, .inl ⟨_, _, rfl, run_takeDeferred hD, ?_⟩⟩
    rw [← hU]
    refine ⟨by simp, .inr ⟨fun _ => by decide, .func 138, #[.pointer (some ⟨lb, 0, none⟩), .pointer (some ⟨lb + 1, 0, none⟩)], 138, #[.pointer (some ⟨lb, 0, none⟩), .pointer (some ⟨lb + 1, 0, none⟩)], rfl, ?_, fun _ _ => trivial, ?_⟩⟩
    · have eg := enters_of Tryz.func138 (by kernel_rfl) rfl
      simp [invoke, go_sem, eg]
    · refine (caught_idle _ lb (lb + 1) U).mono ?_
      rintro e u' w' ⟨rfl, rfl, rfl⟩
      refine ⟨.tuple #[.pointer (some ⟨b, 0, none⟩), .slice sa tn sc, .agg #[.int .i64 0, .int .i64 0]], ?_, ?_⟩
      · simp [results, Tryz.results130, go_sem, u0, u1, u2]
      · unfold SPost
        rw [HSC.out]
        refine ⟨b, mb, i, cv, .slice sa tn sc, rfl, IU.sc, IU.cm, owns_keep SV.out.2 fun k hk => ?_, HJ.out.below.trans (ku.below HJ.out.below.size), IU.hb, IU.hcv⟩
        obtain ⟨_, c, hc⟩ := owns_blk SV.out.2 hk
        rw [hc]
        exact hother _ _ hc nofun
  case thrown =>
    intro rcd W p er ts hscan hJ
    have HSC := Lib.hid hscan
    have HJ := Lib.hid hJ
    clear hscan hJ
    (try simp only [Exit.inBlock, Exit.then])
    obtain ⟨U, hU⟩ : ∃ U, U = W.putObj W2.heap.size (.deferred none) := ⟨_, rfl⟩
    have hother : ∀ (k : Nat) (o : Obj), W.heap[k]? = some o → (∀ ds : Option (List Deferred), o ≠ Obj.deferred ds) → U.heap[k]? = some o := fun k o hk hne => by
      rw [hU]
      refine (World.putObj_heap_other fun e => ?_).trans hk
      subst e
      rw [HJ.out.blk] at hk
      simp only [Option.some.injEq] at hk
      exact hne _ hk.symm
    have bu : Below w.heap.size w U := HJ.out.below.trans ⟨by rw [hU]; rfl, by rw [hU]; rfl, by rw [hU]; rfl, by rw [hU]; simp, fun k hk => by rw [hU]; exact World.putObj_heap_other (by have := BB.out.size; omega)⟩
    obtain ⟨sv, hsv, hrow⟩ := HJ.out.row
    refine ⟨by simp, .inl ⟨_, _, rfl, run_takeDeferred HJ.out.blk, ?_⟩⟩
    rw [← hU]
    refine ⟨by simp, .inr ⟨fun _ => by decide, .func 138, #[.pointer (some ⟨lb, 0, none⟩), .pointer (some ⟨lb + 1, 0, none⟩)], 138, #[.pointer (some ⟨lb, 0, none⟩), .pointer (some ⟨lb + 1, 0, none⟩)], rfl, ?_, fun _ _ => trivial, ?_⟩⟩
    · have eg := enters_of Tryz.func138 (by kernel_rfl) rfl
      simp [invoke, go_sem, eg]
    · refine (caught_thrown _ lb (lb + 1) U p er sv _ _ (hother _ _ hsv nofun) (hother _ _ HJ.out.wrong nofun) (by omega)).mono ?_
      rintro e u' X ⟨rfl, rfl, h2⟩
      have u0 : X.cell? ⟨lb, 0, none⟩ = some (.slice none 0 0) := by rw [cell_of_row _ _ 0 _ _ _ h2.hx]; rfl
      have u1 : X.cell? ⟨lb + 1, 0, none⟩ = some (.int .i64 p) := by rw [cell_of_row _ _ 0 _ _ _ h2.hy]; rfl
      have u2 : X.cell? ⟨lb + 1, 1, none⟩ = some (.int .i64 er) := by rw [cell_of_row _ _ 1 _ _ _ h2.hy]; rfl
      refine ⟨.tuple #[.pointer (some ⟨b, 0, none⟩), .slice none 0 0, .agg #[.int .i64 p, .int .i64 er]], ?_, ?_⟩
      · simp [results, Tryz.results130, go_sem, u0, u1, u2]
      · unfold SPost
        rw [HSC.out]
        refine ⟨b, rfl, bu.trans ⟨h2.os, h2.tape, h2.output, h2.size, fun k hk => h2.block k (Nat.lt_of_lt_of_le hk bu.size) ?_ ?_⟩⟩
        · have := HL.out; omega
        · have := HL.out; omega
end Go.Proofs.YtnkahlloahgifaaGreatDoor.Lx
