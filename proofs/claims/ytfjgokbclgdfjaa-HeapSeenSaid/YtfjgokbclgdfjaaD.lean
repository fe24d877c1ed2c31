/- finish, roots. -/
import Derived.Test.YtfjgokbclgdfjaaC
import Derived.StillTailTactics
import Derived.Deep.LoopGhost
set_option linter.unusedSimpArgs false
set_option linter.unusedVariables false
namespace Go.Proofs.Ytfjgokbclgdfjaa
open Go.RowKit HM

theorem Try.info85 : (Try.prog.info? 85).map (fun i => (i.zero, i.size, i.bytes)) = some (some (.agg #[.int .i64 0, .pointer none]), 2, 16) := by kernel_rfl

/-- clear(s) of a whole space. -/
theorem run_clear_space (w : World) (g n c : Nat) (cur : Array Value) (ty : TypeId) (hg : w.heap[g]? = some (.cells cur 85 (0, 0))) (hc : cur.size = 2 * n) :
    ∃ cs, (Builtin.clear_ #[39] ty #[.slice (some ⟨g, 0, none⟩) n c]).run Try.prog w = .ok (.tuple #[]) (w.setRow g cs) ∧ cs.size = 2 * n := by
  obtain ⟨i, hi, hz, hs, hb⟩ := info_parts Try.info85
  by_cases h0 : n = 0
  · subst h0
    refine ⟨cur, ?_, hc⟩
    rw [setRow_self w g cur 85 (0, 0) hg]
    simp [Builtin.clear_, run_underlying Try.underlying39]
  · have hst := run_storeCells_at Try.prog g 0 85 (Builtin.zeroCells #[.int .i64 0, .pointer none] n).toList 0 cur w hg (by simp [size_zeroCells]; omega) (by
      intro v hv
      simp only [Builtin.zeroCells, Array.toList_map, List.mem_map] at hv
      obtain ⟨j, _, rfl⟩ := hv
      have h2 : j % 2 = 0 ∨ j % 2 = 1 := by omega
      rcases h2 with h2 | h2 <;> simp [h2, Value.oneCell'])
    simp only [Nat.add_zero] at hst
    refine ⟨(cur.toList.take 0 ++ (Builtin.zeroCells #[.int .i64 0, .pointer none] n).toList ++ cur.toList.drop (0 + (Builtin.zeroCells #[.int .i64 0, .pointer none] n).toList.length)).toArray, ?_, ?_⟩
    · obtain ⟨m, rfl⟩ : ∃ m, n = m + 1 := ⟨n - 1, by omega⟩
      simp only [Builtin.clear_, Sem.run_bind, run_underlying Try.underlying39, Result.andThen_ok, zeroValue, typeInfo]
      simp [hi, hz, Value.cells] at hst ⊢
      rw [hst]
      rfl
    · simp [size_zeroCells]; omega

theorem wpList_clear {w : World} {ops : Array Oper} {rest : List Oper} {o : Oper} {a : Act} {Q : Exit → Act → World → Prop} (hgd : o.guard = none) (s : Operand)
    (ho : o.op = .call { callee := .builtin .clear, args := #[s], argTypes := #[39] }) (g n c : Nat) (cur : Array Value) (hs : a.eval s = .slice (some ⟨g, 0, none⟩) n c)
    (hg : w.heap[g]? = some (.cells cur 85 (0, 0))) (hc : cur.size = 2 * n)
    (h : ∀ cs, cs.size = 2 * n → wpList Try.prog ops Q rest (a.put o.dst (.tuple #[])) (w.setRow g cs)) : wpList Try.prog ops Q (o :: rest) a w := by
  refine wpList_plain hgd fun K hK => ?_
  obtain ⟨cs, hr, hsz⟩ := run_clear_space w g n c cur o.type hg hc
  unfold Oper.wp execOp
  simp only [ho, resolve, invoke, builtin, Sem.run_bind, Sem.run_pure, Result.andThen_ok, List.map_toArray, List.map_cons, List.map_nil, hs, hr]
  exact hK _ _ (h cs hsz)

theorem cell_set_other (w : World) (b o o' : Nat) (v : Value) (h : o ≠ o') : (w.setCell ⟨b, o, none⟩ v).cell? ⟨b, o', none⟩ = w.cell? ⟨b, o', none⟩ :=
  World.cell?_setCell_other _ _ _ _ (by intro e; injection e; exact h ‹_›)

set_option maxHeartbeats 400000 in
set_option maxRecDepth 20000 in
theorem finish_any {w : World} (b : Nat) (c11 c10 c4 c6 c13 : Value) (ep bump : Int) (cur oth g n : Nat) (sc : Array Value) (h11 : w.cell? ⟨b, 11, none⟩ = some c11) (h10 : w.cell? ⟨b, 10, none⟩ = some c10) (h9 : w.cell? ⟨b, 9, none⟩ = some (.int .i64 ep))
    (h4 : w.cell? ⟨b, 4, none⟩ = some c4) (h5 : w.cell? ⟨b, 5, none⟩ = some (.int .i64 bump)) (h6 : w.cell? ⟨b, 6, none⟩ = some c6) (h13 : w.cell? ⟨b, 13, none⟩ = some c13) (f : ∀ o, w.frozen? ⟨b, o, none⟩ = false)
    (h3 : w.cell? ⟨b, 3, none⟩ = some (.int .i64 cur)) (hcur : cur ≤ 1) (hoth : oth = 1 - cur) (hsl : w.cell? ⟨b, 1 + oth, none⟩ = some (.slice (some ⟨g, 0, none⟩) n n)) (hgb : g ≠ b) (hg : w.heap[g]? = some (.cells sc 85 (0, 0))) (hsc : sc.size = 2 * n) :
    Calls Try.prog 53 #[.pointer (some ⟨b, 0, none⟩)] w fun e w' => e = .returned (.bool true) ∧ ∃ W cs k, cs.size = 2 * n ∧
      W = ((((w.setCell ⟨b, 11, none⟩ (.int .i64 0)).setCell ⟨b, 10, none⟩ (.int .i64 ep)).setCell ⟨b, 4, none⟩ (.int .i64 bump)).setCell ⟨b, 6, none⟩ (.int .i64 0)).setCell ⟨b, 13, none⟩ (.slice none 0 0) ∧ w' = (W.drewN k).setRow g cs := by
  obtain ⟨W, hW⟩ : ∃ W, W = ((((w.setCell ⟨b, 11, none⟩ (.int .i64 0)).setCell ⟨b, 10, none⟩ (.int .i64 ep)).setCell ⟨b, 4, none⟩ (.int .i64 bump)).setCell ⟨b, 6, none⟩ (.int .i64 0)).setCell ⟨b, 13, none⟩ (.slice none 0 0) := ⟨_, rfl⟩
  have g3 : W.cell? ⟨b, 3, none⟩ = some (.int .i64 cur) := by
    rw [hW]
    exact (((((cell_set_other _ b 13 3 _ (by decide)).trans (cell_set_other _ b 6 3 _ (by decide))).trans (cell_set_other _ b 4 3 _ (by decide))).trans (cell_set_other _ b 10 3 _ (by decide))).trans (cell_set_other _ b 11 3 _ (by decide))).trans h3
  have gsl : W.cell? ⟨b, 1 + oth, none⟩ = some (.slice (some ⟨g, 0, none⟩) n n) := by
    rw [hW]
    exact (((((cell_set_other _ b 13 _ _ (by omega)).trans (cell_set_other _ b 6 _ _ (by omega))).trans (cell_set_other _ b 4 _ _ (by omega))).trans (cell_set_other _ b 10 _ _ (by omega))).trans (cell_set_other _ b 11 _ _ (by omega))).trans hsl
  have gg : W.heap[g]? = some (.cells sc 85 (0, 0)) := by
    rw [hW, Below.heap_setCell _ _ _ _ hgb, Below.heap_setCell _ _ _ _ hgb, Below.heap_setCell _ _ _ _ hgb, Below.heap_setCell _ _ _ _ hgb, Below.heap_setCell _ _ _ _ hgb]
    exact hg
  have hoi : (1 : Int) - (cur : Int) = (oth : Int) := by omega
  have HW := Lib.hid hW
  have HG := Lib.hid gg
  have HS := Lib.hid hsc
  have hol : oth ≤ 1 := by omega
  have hol2 : (oth : Int) < 2 := by omega
  have hwr : IntKind.i64.wrap (oth : Int) = (oth : Int) := IntWalk.i64_in _ (by omega)
  clear hW gg hsc hg hsl hoth hcur
  go_enter Try.func53, Try.ntmps53
  go_wp2
  go_region
  rw [← HW.out]
  clear h11 h10 h9 h4 h5 h6 h13 f h3
  go_wp2
  refine wp_region_still_tail 10 (by kernel_rfl) (by kernel_rfl) ?_
  simp only [List.take_succ_cons, List.take_zero, List.drop_succ_cons, List.drop_zero, World.drew_eq]
  repeat still_step
  refine wpStill_nil ?_
  refine wpList_clear rfl (.tmp 35) rfl g n n sc rfl HG.out HS.out ?_
  intro cs hcs
  have H2 := Lib.hid hcs
  clear hcs g3 gsl hoi hol hol2 hwr
  generalize hW2 : World.setRow W.drew.drew g cs = W2
  have H3 := Lib.hid hW2
  clear hW2
  go_wp2
  go_ret
  exact ⟨rfl, W, cs, 2, H2.out, HW.out, by rw [← H3.out]; rfl⟩

/-- All given anew but the roles. -/
theorem Rep.turn' {M : Nat → Prop} {w w' : World} {ρ ρ' : Nat → Nat} {A : Ad} {s s' : S} (h : Rep w ρ A s) (c : Ch M ρ ρ' w w')
    (hlen : s'.objs.length = s.objs.length)
    (head' : ∃ gs ds ks, w'.heap[A.hb]? = some (.cells (hcells A s' gs ds ks) 49 (0, 0)) ∧ RowAt w' ρ' 5 83 gs (s'.grey.map A.ptr) ∧
      (∃ da : List Int, RowAt w' ρ' 6 3 ds (da.map (Value.int .i64)) ∧ Drops da s'.handles) ∧ RowAt w' ρ' 7 83 ks (s'.weak.map A.ptr))
    (map' : MapAt w' A.mb A.obj s'.handles)
    (objs' : ∀ (i : Nat) (o : O), s'.objs[i]? = some o → w'.heap[A.obj i]? = some (.cells (objCells o) 97 (0, 0)))
    (sp' : ∀ k, ∃ c, w'.heap[A.sp k]? = some (.cells c 85 (0, 0)) ∧ c.size = 2 * s'.room)
    (words' : ∀ (i : Nat) (o : O), s'.objs[i]? = some o → s'.done ≤ o.epoch → ∀ (j : Nat) (x : W), o.ws[j]? = some x →
      w'.cell? ⟨A.sp o.space, 2 * (o.place + j), none⟩ = some (.int .i64 (wnum x)) ∧ w'.cell? ⟨A.sp o.space, 2 * (o.place + j) + 1, none⟩ = some (wptr A x)) : Rep w' ρ' A s' := by
  have hrole : ∀ {k : Nat}, ρ k ≠ 0 → ρ' k = ρ k := fun hk => c.role _ (h.lt hk)
  exact ⟨c.fresh, (hrole (by simp [h.rh])).trans h.rh, (hrole (by simp [h.r0])).trans h.r0, (hrole (by simp [h.r1])).trans h.r1, (hrole (by simp [h.rm])).trans h.rm, h.len.trans hlen.symm,
    fun i hi => (hrole (by rw [h.ro i (by omega)]; omega)).trans (h.ro i (by omega)), head', map', objs', sp', words'⟩

theorem Rep.sp_ne {w : World} {ρ : Nat → Nat} {A : Ad} {s : S} (h : Rep w ρ A s) {j k : Nat} (hj : j ≤ 1) (hk : k ≤ 1) (hne : j ≠ k) : A.sp j ≠ A.sp k := by
  have h0 := h.r0
  have h1 := h.r1
  have h01 : A.s0 ≠ A.s1 := by intro e; rw [e, h1] at h0; omega
  unfold Ad.sp
  split <;> split <;> first | omega | exact h01 | exact fun e => h01 e.symm

theorem Rep.sp_role {w : World} {ρ : Nat → Nat} {A : Ad} {s : S} (h : Rep w ρ A s) (k : Nat) : ρ (A.sp k) = 2 ∨ ρ (A.sp k) = 3 := spRole h.r0 h.r1 k

theorem Rep.keepObjs {M : Nat → Prop} {w w' : World} {ρ ρ' : Nat → Nat} {A : Ad} {s : S} (h : Rep w ρ A s) (c : Ch M ρ ρ' w w') (hm : ∀ i, i < s.objs.length → ¬ M (8 + i)) :
    ∀ (i : Nat) (o : O), s.objs[i]? = some o → w'.heap[A.obj i]? = some (.cells (objCells o) 97 (0, 0)) := fun j o hj => by
  have hjl : j < s.objs.length := (List.getElem?_eq_some_iff.1 hj).1
  rw [c.block _ (h.lt (by rw [h.ro j hjl]; omega)) (by rw [h.ro j hjl]; exact hm j hjl)]
  exact h.objs j o hj

theorem finish_rep {w : World} {ρ : Nat → Nat} {A : Ad} {s : S} (h : Rep w ρ A s) (hcur : s.cur ≤ 1) (hde : s.done ≤ s.epoch) (hsp : ∀ (i : Nat) (o : O), s.objs[i]? = some o → s.epoch ≤ o.epoch → o.space = s.cur) :
    Calls Try.prog 53 #[.pointer (some ⟨A.hb, 0, none⟩)] w fun e w' => e = .returned (.bool true) ∧ Rep w' ρ A s.finish ∧ Ch (fun r => r = 1 ∨ r = 2 ∨ r = 3) ρ ρ w w' := by
  obtain ⟨gs, ds, ks, hh, hgr, ⟨da, hd, hdr⟩, hk⟩ := h.head
  obtain ⟨sc, hsc, hscn⟩ := h.sp (1 - s.cur)
  have hgb : A.sp (1 - s.cur) ≠ A.hb := by
    intro e
    rcases h.sp_role (1 - s.cur) with e1 | e1 <;> rw [e, h.rh] at e1 <;> omega
  have hsl : w.cell? ⟨A.hb, 1 + (1 - s.cur), none⟩ = some (.slice (some ⟨A.sp (1 - s.cur), 0, none⟩) s.room s.room) := by
    rw [cell_of_row w _ _ _ _ _ hh]
    have : s.cur = 0 ∨ s.cur = 1 := by omega
    rcases this with e | e <;> simp [e, hcells, Ad.sp]
  refine (finish_any A.hb (.int .i64 s.phase) (.int .i64 s.done) (.int .i64 s.used) (.int .i64 s.stay) gs s.epoch s.bump s.cur (1 - s.cur) (A.sp (1 - s.cur)) s.room sc
    (by rw [cell_of_row w _ 11 _ _ _ hh]; rfl) (by rw [cell_of_row w _ 10 _ _ _ hh]; rfl) (by rw [cell_of_row w _ 9 _ _ _ hh]; rfl) (by rw [cell_of_row w _ 4 _ _ _ hh]; rfl) (by rw [cell_of_row w _ 5 _ _ _ hh]; rfl)
    (by rw [cell_of_row w _ 6 _ _ _ hh]; rfl) (by rw [cell_of_row w _ 13 _ _ _ hh]; rfl) (fun j => frozen_of_row w _ j _ _ hh) (by rw [cell_of_row w _ 3 _ _ _ hh]; rfl) hcur rfl hsl hgb hsc hscn).mono ?_
  rintro e w' ⟨rfl, W, cs, k, hcs, hW, rfl⟩
  have c1 : Ch (fun r => r = 1 ∨ r = 2 ∨ r = 3) ρ ρ w W := by
    rw [hW]
    exact (((((Ch.refl h.rho).setCell _ _ fun _ => .inl h.rh).setCell _ _ fun _ => .inl h.rh).setCell _ _ fun _ => .inl h.rh).setCell _ _ fun _ => .inl h.rh).setCell _ _ fun _ => .inl h.rh
  have c : Ch (fun r => r = 1 ∨ r = 2 ∨ r = 3) ρ ρ w ((W.drewN k).setRow (A.sp (1 - s.cur)) cs) := (c1.drewN k).setRow _ _ fun _ => .inr (h.sp_role _)
  have hWs : ∀ g, g ≠ A.hb → W.heap[g]? = w.heap[g]? := fun g hg => by
    rw [hW, Below.heap_setCell _ _ _ _ hg, Below.heap_setCell _ _ _ _ hg, Below.heap_setCell _ _ _ _ hg, Below.heap_setCell _ _ _ _ hg, Below.heap_setCell _ _ _ _ hg]
  have hspb : ∀ k, A.sp k ≠ A.hb := fun k e => by rcases h.sp_role k with e1 | e1 <;> rw [e, h.rh] at e1 <;> omega
  refine ⟨rfl, h.turn' c rfl ⟨.slice none 0 0, ds, ks, ?_, RowAt.nil _ _ _ _, ⟨da, hd.keep c (by omega), hdr⟩, hk.keep c (by omega)⟩ (h.map.keep (c.block _ h.map.lt (by rw [h.rm]; omega)))
    (h.keepObjs c (fun i _ => by omega)) (fun m => ?_) (fun i o hi hl j x hx => ?_), c⟩
  · rw [setRow_other _ _ _ _ (fun e => hgb e.symm)]
    show W.heap[A.hb]? = _
    rw [hW, heap_setCell_same _ A.hb 13 _ _ (.slice none 0 0) (heap_setCell_same _ A.hb 6 _ _ (.int .i64 0) (heap_setCell_same _ A.hb 4 _ _ (.int .i64 s.bump) (heap_setCell_same _ A.hb 10 _ _ (.int .i64 s.epoch) (heap_setCell_same w A.hb 11 _ _ (.int .i64 0) hh))))]
    rfl
  · by_cases hm : A.sp m = A.sp (1 - s.cur)
    · rw [hm]
      exact ⟨cs, setRow_heap _ _ sc _ _ _ ((hWs _ hgb).trans hsc), hcs⟩
    · obtain ⟨cc, g1, g2⟩ := h.sp m
      exact ⟨cc, by rw [setRow_other _ _ _ _ hm]; exact (hWs _ (hspb m)).trans g1, g2⟩
  · have hos : o.space = s.cur := hsp i o hi hl
    have hne : A.sp o.space ≠ A.sp (1 - s.cur) := by rw [hos]; exact h.sp_ne hcur (by omega) (by omega)
    have hb : ((W.drewN k).setRow (A.sp (1 - s.cur)) cs).heap[A.sp o.space]? = w.heap[A.sp o.space]? := by
      rw [setRow_other _ _ _ _ hne]; exact hWs _ (hspb _)
    have hw := h.words i o hi (Nat.le_trans hde hl) j x hx
    exact ⟨(World.cell?_of_block (w := w) hb).trans hw.1, (World.cell?_of_block (w := w) hb).trans hw.2⟩

end Go.Proofs.Ytfjgokbclgdfjaa
