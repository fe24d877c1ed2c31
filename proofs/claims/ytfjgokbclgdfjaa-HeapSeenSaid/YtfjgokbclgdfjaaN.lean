/- The methods Pop and Push of the dropped handles. -/
import Derived.Test.YtfjgokbclgdfjaaL
import Derived.Deep.RegionLaw
set_option linter.unusedSimpArgs false
set_option linter.unusedVariables false
namespace Go.Proofs.Ytfjgokbclgdfjaa
open Go.RowKit HM

theorem RowAt.init {w : World} {ρ : Nat → Nat} {r : Nat} {T : TypeId} {g off n c m : Nat} {xs : List Value} (h : RowAt w ρ r T (.slice (some ⟨g, off, none⟩) n c) xs) (hm : m ≤ xs.length) :
    RowAt w ρ r T (.slice (some ⟨g, off, none⟩) m c) (xs.take m) := by
  rcases h with ⟨hv, _⟩ | ⟨g', off', cap', cur, hv, hr, hg, h1, h2, h3, h4⟩
  · simp at hv
  · simp only [Value.slice.injEq, Option.some.injEq, Addr.mk.injEq] at hv
    obtain ⟨⟨rfl, rfl, _⟩, rfl, rfl⟩ := hv
    refine .inr ⟨g, off, c, cur, by simp; omega, hr, hg, by simp; omega, h2, h3, fun i hi => ?_⟩
    simp only [List.length_take] at hi
    rw [h4 i (by omega), List.getElem?_take, if_pos (by omega)]

/-- In the struct at b only the dropped handles have changed. -/
def Only14 (b : Nat) (w w' : World) : Prop := ∀ hc, w.heap[b]? = some (.cells hc 49 (0, 0)) → ∃ ds, w'.heap[b]? = some (.cells (hc.set! 14 ds) 49 (0, 0))

theorem Only14.same {b : Nat} {w w1 w2 : World} (h : Only14 b w w1) (hb : w2.heap[b]? = w1.heap[b]?) : Only14 b w w2 := fun hc hh => by
  obtain ⟨ds, hd⟩ := h hc hh
  exact ⟨ds, hb.trans hd⟩

theorem Only14.after {b : Nat} {w w1 w2 : World} (h : Only14 b w1 w2) (hb : w1.heap[b]? = w.heap[b]?) : Only14 b w w2 := fun hc hh => h hc (hb.trans hh)

theorem mpop_any {w : World} {ρ : Nat → Nat} {b : Nat} {da : List Int} (h : DA w ρ b da) (hρ : ∀ k, w.heap.size ≤ k → ρ k = 0) (m : Nat) (hm : da.length = m + 1) (hl : da.length < 1000000000) :
    Calls Try.prog 131 #[.pointer (some ⟨b, 14, none⟩)] w fun e w' => e = .returned (.iface 3 (.int .i64 (da.getD m 0))) ∧ DA w' ρ b (da.take m) ∧ Ch (· = 1) ρ ρ w w' ∧ Only14 b w w' := by
  obtain ⟨hrb, hc, ds, hh, hcs, h14, hrow⟩ := h
  obtain ⟨g, off, cap, rfl, hr, hcap, hcm, hcell⟩ := hrow.cell (i := m) (x := .int .i64 (da.getD m 0)) (by simp [List.getElem?_map, List.getD, List.getElem?_eq_getElem (show m < da.length by omega)])
  have c14 : w.cell? ⟨b, 14, none⟩ = some (.slice (some ⟨g, off, none⟩) da.length cap) := by rw [cell_of_row w _ 14 _ _ _ hh, h14]; simp
  have f14 : w.frozen? ⟨b, 14, none⟩ = false := frozen_of_row w _ 14 _ _ hh
  obtain ⟨n, hn⟩ : ∃ n, n = da.length := ⟨_, rfl⟩
  have hblt : b < w.heap.size := (Array.getElem?_eq_some_iff.1 hh).1
  simp only [List.length_map] at *
  have hfin : ∀ k, DA (((w.drewN k).setCell ⟨b, 14, none⟩ (.slice (some ⟨g, off, none⟩) m cap))) ρ b (da.take m) ∧ Ch (· = 1) ρ ρ w (((w.drewN k).setCell ⟨b, 14, none⟩ (.slice (some ⟨g, off, none⟩) m cap))) ∧ Only14 b w (((w.drewN k).setCell ⟨b, 14, none⟩ (.slice (some ⟨g, off, none⟩) m cap))) := fun k => by
    have c : Ch (· = 1) ρ ρ w (((w.drewN k).setCell ⟨b, 14, none⟩ (.slice (some ⟨g, off, none⟩) m cap))) := ((((Ch.refl hρ).drewN k).setCell _ _ fun _ => hrb))
    refine ⟨⟨hrb, _, .slice (some ⟨g, off, none⟩) m cap, heap_setCell_same (w.drewN k) b 14 _ _ _ hh, by simpa using hcs, by simp [hcs], ?_⟩, c, fun hc' hh' => ⟨_, heap_setCell_same (w.drewN k) b 14 _ _ _ hh'⟩⟩
    have := (hrow.init (m := m) (by simp; omega)).keep c (by decide)
    rw [← List.map_take] at this
    exact this
  rw [← hn] at c14 hm hl hcap
  have em : (n : Int) - 1 = (m : Int) := by omega
  have hmn : m < n := by omega
  have HF := Lib.hid hfin
  have H1 := Lib.hid hrow
  have H2 := Lib.hid hh
  have H3 := Lib.hid hm
  have H4 := Lib.hid h14
  have H5 := Lib.hid hn
  have H6 := Lib.hid hrb
  generalize hx : da.getD m 0 = x at *
  clear hfin hrow hh hm h14 hn hrb hr hcs hx hρ
  go_enter Try.func131, Try.ntmps131
  go_wp2
  go_quiet (fail)
  go_wp2
  go_region
  go_wp2
  go_ret
  exact ⟨rfl, HF.out _⟩
theorem step_append_row {P : Program} {ops : Array Oper} {o : Oper} {a : Act} {w : World} {K : Act → World → Prop} {Q : Exit → Act → World → Prop} {E : Prop}
    (hg : o.guard = none) (s x : Operand) (t : TypeId) (hop : o.op = Op.call { callee := Callee.builtin Builtin.append, args := #[s, x], argTypes := #[t, t] })
    (e : TypeId) (i : TypeInfo) (z : Value) (ht : P.underlying t = some (.slice e)) (hi : P.info? e = some i) (hz : i.zero = some z)
    (hsize : i.size = 1) (hby : i.bytes = 8) (hzs : z.cells.size = 1) (ρ : Nat → Nat) (r : Nat) (v : Value) (xs : List Value) (hs : a.eval s = v) (hrow : RowAt w ρ r e v xs) (hρ : ∀ k, w.heap.size ≤ k → ρ k = 0)
    (ad : Addr) (c : Nat) (y : Value) (hx : a.eval x = .slice (some ad) 1 c) (hc : w.cell? ad = some y) (h1 : y.oneCell' = true) (hlen : xs.length < 1000000000)
    (hK : ∀ v' w' ρ', RowAt w' ρ' r e v' (xs ++ [y]) → Ch (· = r) ρ ρ' w w' → (∀ k, w.heap.size ≤ k → ρ' k = 0 ∨ ρ' k = r) → K (a.put o.dst v') w') :
    if Region.wanted o (yielded ops a.tmps) = true then Oper.wp P o a w K Q else E := by
  have hw : Region.wanted o (yielded ops a.tmps) = true := by simp [Region.wanted, hg]
  rw [if_pos hw]
  obtain ⟨v', w', ρ', hr, h2, h3, h4⟩ := run_append_row (P := P) w t o.type e i z ht hi hz hsize hby hzs ρ r v xs hrow hρ ad c y hc h1 hlen
  unfold Oper.wp execOp
  simp only [hop, resolve, invoke, builtin, Sem.run_bind, Sem.run_pure, Result.andThen_ok, List.map_toArray, List.map_cons, List.map_nil, hs, hx, hr]
  exact hK _ _ _ h2 h3 h4

theorem mpush_any {w : World} {ρ : Nat → Nat} {b : Nat} {da : List Int} (h : DA w ρ b da) (hρ : ∀ k, w.heap.size ≤ k → ρ k = 0) (x : Int) (hl : da.length < 1000000000) :
    Calls Try.prog 132 #[.pointer (some ⟨b, 14, none⟩), .iface 3 (.int .i64 x)] w fun e w' => e = .returned (.tuple #[]) ∧ ∃ ρ', DA w' ρ' b (da ++ [x]) ∧ Ch (fun r => r = 1 ∨ r = 6) ρ ρ' w w' ∧ Only14 b w w' := by
  obtain ⟨hrb, hc, ds, hh, hcs, h14, hrow⟩ := h
  obtain ⟨ra, rn, rc, rfl⟩ := hrow.shape
  have c14 : w.cell? ⟨b, 14, none⟩ = some (.slice ra rn rc) := by rw [cell_of_row w _ 14 _ _ _ hh, h14]
  have f14 : w.frozen? ⟨b, 14, none⟩ = false := frozen_of_row w _ 14 _ _ hh
  have hblt : b < w.heap.size := (Array.getElem?_eq_some_iff.1 hh).1
  have HR' : Hid (RowAt (w.drew.alloc (.cells #[.int .i64 x] 3)) ρ 6 3 (.slice ra rn rc) (da.map (Value.int .i64))) := hrow.keep (((Ch.refl (M := fun _ => False) hρ).drew).alloc _) (by simp)
  have HP' : Hid (∀ k, (w.drew.alloc (.cells #[.int .i64 x] 3)).heap.size ≤ k → ρ k = 0) := fun k hk => hρ k (by simp at hk; have : w.drew.heap.size = w.heap.size := rfl; omega)
  have hta : ∀ m, (Instr.typeAssert (.iface 3 (.int .i64 x)) 20 3 false).run Try.prog m = .ok (.int .i64 x) m := fun m => by kernel_rfl
  obtain ⟨i0, hi, hz0, hz1, hz2⟩ := info_parts Try.info3
  have H2 := Lib.hid hh
  have H4 := Lib.hid h14
  have H5 := Lib.hid hcs
  have H6 := Lib.hid hrb
  have HP := Lib.hid hρ
  have HI := Lib.hid hi
  have HZ0 := Lib.hid hz0
  have HZ1 := Lib.hid hz1
  have HZ2 := Lib.hid hz2
  clear hrow hh h14 hrb hcs hρ hi hz0 hz1 hz2
  go_enter Try.func132, Try.ntmps132
  go_wp2
  go_region_law (
                    refine step_append_row rfl _ _ 45 rfl 3 i0 (.int .i64 0) Try.underlying45 HI.out HZ0.out HZ1.out HZ2.out rfl ρ 6 (.slice ra rn rc) (da.map (Value.int .i64)) rfl HR'.out HP'.out ⟨w.heap.size, 0, none⟩ 1 (.int .i64 x) rfl (by simp) rfl (by simpa using hl) ?_
                    intro v' w2 ρ' hr2 hc2 hx2
                    obtain ⟨a', n', c', rfl⟩ := hr2.shape
                    have k0 : w2.heap[b]? = w.heap[b]? := by rw [hc2.block b (by simp; omega) (by rw [H6.out]; decide)]; exact Below.heap_alloc _ _ _ hblt
                    have k1 : w2.cell? ⟨b, 14, none⟩ = some (.slice ra rn rc) := by rw [World.cell?_of_block (w := w) k0]; exact c14
                    have k2 : w2.frozen? ⟨b, 14, none⟩ = false := by rw [World.frozen?_of_block (w := w) k0]; exact f14
                    have G0 := Lib.hid k0
                    have G1 := Lib.hid hr2
                    have G2 := Lib.hid hc2
                    clear k0 hr2 hc2 hx2)
  all_goals
    go_end0
    have hb1 : ρ' b = 1 := by rw [G2.out.role b (by show b < (w.alloc _).heap.size; simp; omega)]; exact H6.out
    have c1 : Ch (fun r => r = 1 ∨ r = 6) ρ ρ' w w2 := (((Ch.refl HP.out).alloc _).drew).trans (G2.out.mono fun r hr => .inr hr)
    have c2 : Ch (· = 1) ρ' ρ' w2 (w2.setCell ⟨b, 14, none⟩ (.slice a' n' c')) := (Ch.refl G2.out.fresh).setCell _ _ fun _ => hb1
    refine ⟨rfl, ρ', ⟨hb1, _, .slice a' n' c', heap_setCell_same w2 b 14 _ _ _ (G0.out.trans H2.out), by simpa using H5.out, by simp [H5.out], ?_⟩, c1.trans (c2.mono fun r hr => .inl hr), fun hc' hh' => ⟨_, heap_setCell_same w2 b 14 _ _ _ (G0.out.trans hh')⟩⟩
    have := (G1.out).keep c2 (by decide)
    simpa using this
end Go.Proofs.Ytfjgokbclgdfjaa
