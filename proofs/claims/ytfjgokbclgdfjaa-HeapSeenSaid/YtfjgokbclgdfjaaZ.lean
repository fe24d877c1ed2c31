/- make. -/
import Derived.Test.YtfjgokbclgdfjaaY
set_option linter.unusedSimpArgs false
set_option linter.unusedVariables false
namespace Go.Proofs.Ytfjgokbclgdfjaa
open Go.RowKit HM

namespace HM
def S.fitsB (s : S) (n : Nat) : Prop := s.bump + s.stay + n ≤ s.room
instance (s : S) (n : Nat) : Decidable (s.fitsB n) := by unfold S.fitsB; infer_instance
/-- The state when an object is made. -/
def S.made (s : S) (tag : Int) (ws : List W) : S := ((s.place (s.newO tag ws)).shades ws).give s.objs.length
end HM

/-- What must be known of the state in which an object is made, and of its words. -/
structure Pre (w : World) (ρ : Nat → Nat) (A : Ad) (s : S) (ws : List W) (g off n : Nat) : Prop where
  rep : Rep w ρ A s
  wf : WF s
  bd : Bd s
  hl : s.handles.length < 60000
  wn : ws.length = n
  n16 : n ≤ 16
  cells : ∀ (j : Nat) (x : W), ws[j]? = some x → w.cell? ⟨g, off + j * 2, none⟩ = some (.int .i64 (wnum x)) ∧ w.cell? ⟨g, off + j * 2 + 1, none⟩ = some (wptr A x)
  g0 : ρ g = 0
  gl : g < w.heap.size
  refs : ∀ q : Nat, W.obj q ∈ ws → ∃ j : Nat, s.handles[j]? = some (some q)

theorem Pre.keep {w w' : World} {ρ ρ' : Nat → Nat} {A : Ad} {s s' : S} {ws : List W} {g off n : Nat} (h : Pre w ρ A s ws g off n) (c : Ch Mine ρ ρ' w w') (hr : Rep w' ρ' A s') (hw : WF s') (hb : Bd s') (hh : s'.handles = s.handles) : Pre w' ρ' A s' ws g off n := by
  have hg : w'.heap[g]? = w.heap[g]? := c.block _ h.gl (by rw [h.g0]; simp [Mine])
  refine ⟨hr, hw, hb, by rw [hh]; exact h.hl, h.wn, h.n16, fun j x hx => ?_, (c.role _ h.gl).trans h.g0, Nat.lt_of_lt_of_le h.gl c.size, fun q hq => by rw [hh]; exact h.refs q hq⟩
  exact ⟨(World.cell?_of_block (w := w) hg).trans (h.cells j x hx).1, (World.cell?_of_block (w := w) hg).trans (h.cells j x hx).2⟩

theorem Pre.fits {w : World} {ρ : Nat → Nat} {A : Ad} {s : S} {ws : List W} {g off n : Nat} (h : Pre w ρ A s ws g off n) (b : Bool) (hb : decide (s.fitsB (1 + n)) = b) :
    Calls Try.prog 78 #[.pointer (some ⟨A.hb, 0, none⟩), .int .i64 (1 + n)] w fun e w' => e = .returned (.bool b) ∧ ∃ k, w' = w.drewN k := by
  obtain ⟨gs, ds, ks, hh⟩ := h.rep.hcell
  have hr := h.wf.room
  have hr2 := h.bd.room
  refine (fits_any w A.hb (1 + n) s.bump s.stay s.room (by rw [cell_of_row w _ 5 _ _ _ hh]; rfl) (by rw [cell_of_row w _ 6 _ _ _ hh]; rfl) (by rw [cell_of_row w _ 0 _ _ _ hh]; rfl) (by omega) (by omega) (by omega) (by omega) (by omega) (by have := h.n16; omega)).mono ?_
  rintro e w' ⟨rfl, k, rfl⟩
  refine ⟨ret_bool ?_, k, rfl⟩
  rw [← hb]
  unfold S.fitsB
  have : ((s.bump : Int) + s.stay + (1 + n) ≤ s.room) ↔ (s.bump + s.stay + (1 + n) ≤ s.room) := by omega
  simp [this]

theorem Rep.drewN' {w : World} {ρ : Nat → Nat} {A : Ad} {s : S} {ws : List W} {g off n : Nat} (h : Pre w ρ A s ws g off n) (k : Nat) : Pre (w.drewN k) ρ A s ws g off n :=
  ⟨h.rep.drewN k, h.wf, h.bd, h.hl, h.wn, h.n16, h.cells, h.g0, h.gl, h.refs⟩

theorem Pre.box {w : World} {ρ : Nat → Nat} {A : Ad} {s : S} {ws : List W} {g off n : Nat} (h : Pre w ρ A s ws g off n) (o : Obj) : Pre (w.alloc o) ρ A s ws g off n :=
  h.keep (((Ch.refl h.rep.rho).alloc o)) (h.rep.alloc o) h.wf h.bd rfl


/-- The world when a new object has its words' place. -/
def plc (w : World) (b ob : Nat) (s : S) (n : Nat) : World :=
  ((((w.setCell ⟨ob, 2, none⟩ (.int .i64 s.cur)).setCell ⟨ob, 3, none⟩ (.int .i64 s.bump)).setCell ⟨ob, 4, none⟩ (.int .i64 s.epoch)).setCell ⟨b, 5, none⟩ (.int .i64 (s.bump + (1 + n)))).setCell ⟨b, 4, none⟩ (.int .i64 (s.used + (1 + n)))

theorem plc_ob {wr : World} {A : Ad} {s : S} {ob n : Nat} {ws : List W} {tag : Int} (hn : ws.length = n) (hne : ob ≠ A.hb)
    (h : wr.heap[ob]? = some (.cells #[.int .i64 tag, .int .i64 (1 + n), .int .i64 0, .int .i64 0, .int .i64 0] 97 (0, 0))) : (plc wr A.hb ob s n).heap[ob]? = some (.cells (objCells (s.newO tag ws)) 97 (0, 0)) := by
  unfold plc
  rw [Below.heap_setCell _ _ _ _ hne, Below.heap_setCell _ _ _ _ hne]
  rw [heap_setCell_same _ ob 4 _ _ _ (heap_setCell_same _ ob 3 _ _ _ (heap_setCell_same _ ob 2 _ _ _ h))]
  simp [objCells, S.newO, O.size, hn]
  omega

theorem plc_hb {w : World} {A : Ad} {s : S} {ob n : Nat} {ws : List W} {tag : Int} (hn : ws.length = n) (hne : ob ≠ A.hb) {gs ds ks : Value}
    (h : w.heap[A.hb]? = some (.cells (hcells A s gs ds ks) 49 (0, 0))) : (plc w A.hb ob s n).heap[A.hb]? = some (.cells (hcells A (s.place (s.newO tag ws)) gs ds ks) 49 (0, 0)) := by
  unfold plc
  have h0 : (((w.setCell ⟨ob, 2, none⟩ (.int .i64 s.cur)).setCell ⟨ob, 3, none⟩ (.int .i64 s.bump)).setCell ⟨ob, 4, none⟩ (.int .i64 s.epoch)).heap[A.hb]? = _ :=
    (Below.heap_setCell _ _ _ _ hne.symm).trans ((Below.heap_setCell _ _ _ _ hne.symm).trans ((Below.heap_setCell _ _ _ _ hne.symm).trans h))
  rw [heap_setCell_same _ A.hb 4 _ _ _ (heap_setCell_same _ A.hb 5 _ _ _ h0)]
  simp [hcells, S.place, S.newO, O.size, hn]
  omega

theorem plc_other {w : World} {b ob n k : Nat} {s : S} (h1 : k ≠ ob) (h2 : k ≠ b) : (plc w b ob s n).heap[k]? = w.heap[k]? := by
  unfold plc
  rw [Below.heap_setCell _ _ _ _ h2, Below.heap_setCell _ _ _ _ h2, Below.heap_setCell _ _ _ _ h1, Below.heap_setCell _ _ _ _ h1, Below.heap_setCell _ _ _ _ h1]

theorem plc_size (w : World) (b ob n : Nat) (s : S) : (plc w b ob s n).heap.size = w.heap.size := by simp [plc]

/-- The world when a new object's words are written. -/
def wrt (w : World) (sb bump m : Nat) (tag : Int) (c : List Value) : World :=
  (((w.drewN m).setCell ⟨sb, bump * 2, none⟩ (.int .i64 tag)).setCell ⟨sb, bump * 2 + 1, none⟩ (.pointer none)).setRow sb c.toArray

theorem wrt_other {w : World} {sb bump m k : Nat} {tag : Int} {c : List Value} (h : k ≠ sb) : (wrt w sb bump m tag c).heap[k]? = w.heap[k]? := by
  unfold wrt
  rw [setRow_other _ _ _ _ h, Below.heap_setCell _ _ _ _ h, Below.heap_setCell _ _ _ _ h]
  rfl

theorem drewN_heap (w : World) (k : Nat) : (w.drewN k).heap = w.heap := rfl

theorem wrt_size (w : World) (sb bump m : Nat) (tag : Int) (c : List Value) : (wrt w sb bump m tag c).heap.size = w.heap.size := by
  unfold wrt
  simp

theorem wrt_row {w : World} {sb bump m : Nat} {tag : Int} {c cl : List Value} (h : w.heap[sb]? = some (.cells cl.toArray 85 (0, 0))) : (wrt w sb bump m tag c).heap[sb]? = some (.cells c.toArray 85 (0, 0)) := by
  unfold wrt
  exact setRow_heap _ _ _ _ _ _ (heap_setCell_same _ _ _ _ _ _ (heap_setCell_same _ _ _ _ _ _ h))

theorem Pre.written {w wr : World} {ρ0 ρ : Nat → Nat} {A : Ad} {s : S} {ws : List W} {g off n : Nat} (h : Pre wr ρ A s ws g off n) (tag : Int) {ob : Nat} (h1 : Ch Mine ρ0 ρ w wr) (h2 : ρ ob = 0) (h3 : w.heap.size ≤ ob)
    (h4 : wr.heap[ob]? = some (.cells #[.int .i64 tag, .int .i64 (1 + n), .int .i64 0, .int .i64 0, .int .i64 0] 97 (0, 0))) (hf : s.fitsB (1 + n)) {cl : List Value}
    (hcl : wr.heap[A.sp s.cur]? = some (.cells cl.toArray 85 (0, 0))) (hcln : cl.length = 2 * s.room) (m k : Nat) {V : World}
    (hV : V = (wrt (plc wr A.hb ob s n) (A.sp s.cur) s.bump m tag (laidOver ((cl.set (s.bump * 2) (.int .i64 tag)).set (s.bump * 2 + 1) (.pointer none)) (s.bump * 2 + 2) (wcells A ws))).drewN k) :
    Rep V (roleAt ρ ob (8 + s.objs.length)) (A.more ob) (s.place (s.newO tag ws)) ∧ Ch Mine ρ0 (roleAt ρ ob (8 + s.objs.length)) w V := by
  have hne : ob ≠ A.hb := by rintro rfl; rw [h.rep.rh] at h2; omega
  have hsb : ∀ k, A.sp k ≠ A.hb := fun k e => by rcases h.rep.sp_role k with e1 | e1 <;> rw [e, h.rep.rh] at e1 <;> omega
  have hso : ∀ k, A.sp k ≠ ob := fun k e => by rcases h.rep.sp_role k with e1 | e1 <;> rw [e, h2] at e1 <;> omega
  have hobl : ob < wr.heap.size := (Array.getElem?_eq_some_iff.1 h4).1
  have hfit : s.bump + (1 + n) ≤ s.room := by unfold S.fitsB at hf; omega
  have hlen : (wcells A ws).length = n * 2 := by rw [wcells_length, h.wn]
  have hll : s.bump * 2 + 2 + (wcells A ws).length ≤ ((cl.set (s.bump * 2) (Value.int .i64 tag)).set (s.bump * 2 + 1) (.pointer none)).length := by simp; omega
  obtain ⟨c', hc'⟩ : ∃ c', c' = laidOver ((cl.set (s.bump * 2) (Value.int .i64 tag)).set (s.bump * 2 + 1) (.pointer none)) (s.bump * 2 + 2) (wcells A ws) := ⟨_, rfl⟩
  rw [← hc'] at hV
  have hVh : V.heap = (wrt (plc wr A.hb ob s n) (A.sp s.cur) s.bump m tag c').heap := by rw [hV, drewN_heap]
  have hspr : ρ (A.sp s.cur) ≤ 3 := by rcases h.rep.sp_role s.cur with e | e <;> omega
  have hhr : ρ A.hb ≤ 3 := by rw [h.rep.rh]; decide
  have hor : ρ ob ≤ 3 := by rw [h2]; decide
  have c : Ch (· ≤ 3) ρ ρ wr V := by
    rw [hV]
    unfold wrt plc
    exact (((((((((Ch.refl h.rep.rho).setCell _ _ fun _ => hor).setCell _ _ fun _ => hor).setCell _ _ fun _ => hor).setCell _ _ fun _ => hhr).setCell _ _ fun _ => hhr).drewN m).setCell _ _ fun _ => hspr).setCell _ _ fun _ => hspr).setRow _ _ (fun _ => hspr) |>.drewN k
  clear hV
  have hsz : V.heap.size = wr.heap.size := by
    rw [hVh]
    exact (wrt_size _ _ _ _ _ _).trans (plc_size _ _ _ _ _)
  have hVk : ∀ q, q ≠ A.sp s.cur → V.heap[q]? = (plc wr A.hb ob s n).heap[q]? := fun q hq => by rw [hVh]; exact wrt_other hq
  have hVc : V.heap[A.sp s.cur]? = some (.cells c'.toArray 85 (0, 0)) := by
    rw [hVh]
    exact wrt_row ((plc_other (hso _) (hsb _)).trans hcl)
  have hblk : ∀ q, q ≠ ob → q ≠ A.hb → q ≠ A.sp s.cur → V.heap[q]? = wr.heap[q]? := fun q q1 q2 q3 => (hVk q q3).trans (plc_other q1 q2)
  refine ⟨placed_rep h.rep h.wf h2 hobl (s.newO tag ws) ⟨rfl, rfl⟩ c (fun q hq => hblk _ (hso q) (hsb q) hq) (fun gs ds ks hh => ?_) ?_ hcl hVc ?_ (fun j x hx => ?_) (fun j hj => ?_) (fun q hq => ?_) h.wf.doneLe, ?_⟩
  · rw [hVk _ (hsb _).symm]
    exact plc_hb h.wn hne hh
  · rw [hVk _ (hso _).symm]
    exact plc_ob (wr := wr) h.wn hne h4
  · rw [hc', laidOver_length _ _ _ hll]; simp [hcln]
  · cases j with
    | zero =>
      simp only [S.newO, List.getElem?_cons_zero, Option.some.injEq] at hx
      subst hx
      rw [hc', laidOver_out _ _ _ hll _ (by omega), laidOver_out _ _ _ hll _ (by omega)]
      have e0 : 2 * (s.bump + 0) = s.bump * 2 := by omega
      rw [e0]
      simp only [List.getElem?_set, List.length_set, wnum, wptr]
      constructor
      · rw [if_neg (by omega), if_pos trivial, if_pos (by omega)]
      · rw [if_pos trivial, if_pos (by omega)]
    | succ j =>
      simp only [S.newO, List.getElem?_cons_succ] at hx
      have hjl : j < n := by rw [← h.wn]; exact (List.getElem?_eq_some_iff.1 hx).1
      have hwc := wcells_even A ws j x hx
      have e0 : 2 * (s.bump + (j + 1)) = s.bump * 2 + 2 + j * 2 := by omega
      have e1 : 2 * (s.bump + (j + 1)) + 1 = s.bump * 2 + 2 + (j * 2 + 1) := by omega
      rw [hc', e1, e0, laidOver_in _ _ _ hll _ (by omega), laidOver_in _ _ _ hll _ (by omega)]
      exact hwc
  · rw [hc', laidOver_out _ _ _ hll _ (by omega)]
    simp only [List.getElem?_set]
    rw [if_neg (by omega), if_neg (by omega)]
  · simp only [S.newO, List.mem_cons] at hq
    rcases hq with hq | hq
    · simp at hq
    · obtain ⟨j, hj⟩ := h.refs q hq
      exact Alive.lt (h.wf.hand j q hj)
  · refine Ch.named (Ch.mk (c.os.trans h1.os) (c.tape.trans h1.tape) (c.output.trans h1.output) (by have := h1.size; omega) (fun q hq hn => ?_) h1.role (fun q hq => h.rep.rho q (by omega))) ob _ h3 (by omega)
    rw [hblk q (by omega) (by rintro rfl; exact hn (by rw [← h1.role _ hq, h.rep.rh]; simp [Mine])) (by rintro rfl; exact hn (by rw [← h1.role _ hq]; rcases h.rep.sp_role s.cur with e | e <;> simp [Mine, e]))]
    exact h1.block q hq hn

end Go.Proofs.Ytfjgokbclgdfjaa
