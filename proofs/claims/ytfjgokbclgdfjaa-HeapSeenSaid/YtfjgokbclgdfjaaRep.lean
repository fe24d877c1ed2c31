/- How the heap of the program lies in memory. -/
import Derived.Test.YtfjgokbclgdfjaaProg
import Derived.Test.YtfjgokbclgdfjaaBase
import Derived.Test.YtfjgokbclgdfjaaModel
import Derived.Maps.Own
import Derived.Maps.OwnSet
import Derived.Maps.Views
set_option linter.unusedSimpArgs false
set_option linter.unusedVariables false
namespace Go.Proofs.Ytfjgokbclgdfjaa
open Go.RowKit HM

/-- Where the blocks lie: the struct, the two spaces, the map of handles, the objects. -/
structure Ad where
  hb : Nat
  s0 : Nat
  s1 : Nat
  mb : Nat
  ob : List Nat

def Ad.sp (A : Ad) (k : Nat) : Nat := if k = 0 then A.s0 else A.s1
def Ad.obj (A : Ad) (i : Nat) : Nat := A.ob.getD i 0
def Ad.ptr (A : Ad) (i : Nat) : Value := .pointer (some ⟨A.obj i, 0, none⟩)

def wnum : W → Int
  | .num n => n
  | .obj _ => 0
def wptr (A : Ad) : W → Value
  | .num _ => .pointer none
  | .obj i => A.ptr i

def hcells (A : Ad) (s : S) (gs ds ks : Value) : Array Value :=
  #[.int .i64 s.room, .slice (some ⟨A.s0, 0, none⟩) s.room s.room, .slice (some ⟨A.s1, 0, none⟩) s.room s.room, .int .i64 s.cur, .int .i64 s.used, .int .i64 s.bump, .int .i64 s.stay,
    .int .i64 s.handles.length, .map (some A.mb), .int .i64 s.epoch, .int .i64 s.done, .int .i64 s.phase, .int .i64 s.cursor, gs, ds, ks]

def objCells (o : O) : Array Value := #[.int .i64 o.tag, .int .i64 o.size, .int .i64 o.space, .int .i64 o.place, .int .i64 o.epoch]

/-- How a pointer to an object reads as data: by its block's number. -/
def ptrR : Value → Option (DataW Unit × List MemPlace)
  | .pointer (some ⟨b, 0, none⟩) => some (.lit (.int .i64 b), [])
  | .pointer none => some (.nil, [])
  | _ => none

/-- The map of handles. -/
def MapAt (w : World) (b : Nat) (blk : Nat → Nat) (hs : List (Option Nat)) : Prop :=
  ∃ D, w.ownsMap Try.prog 3 ptrR b (Maps.size D) D ∧ Maps.size D = (hs.filter Option.isSome).length ∧
    (∀ k : Int, Maps.has D (.int .i64 k) = true → ∃ (j i : Nat), k = j ∧ hs[j]? = some (some i)) ∧
    ∀ (j i : Nat), hs[j]? = some (some i) → Maps.has D (.int .i64 j) = true ∧ ∀ z, D.atKey (.int .i64 j) z = .lit (.int .i64 (blk i))

/-- The dropped handles: a heap (of container/heap), of the numbers that are no handle. -/
structure Drops (da : List Int) (hs : List (Option Nat)) : Prop where
  heap : ∀ k, 0 < k → k < da.length → da.getD ((k - 1) / 2) 0 ≤ da.getD k 0
  nodup : da.Nodup
  mem : ∀ x : Int, x ∈ da ↔ ∃ j : Nat, x = j ∧ hs[j]? = some none

structure Rep (w : World) (ρ : Nat → Nat) (A : Ad) (s : S) : Prop where
  rho : ∀ k, w.heap.size ≤ k → ρ k = 0
  rh : ρ A.hb = 1
  r0 : ρ A.s0 = 2
  r1 : ρ A.s1 = 3
  rm : ρ A.mb = 4
  len : A.ob.length = s.objs.length
  ro : ∀ i, i < s.objs.length → ρ (A.obj i) = 8 + i
  head : ∃ gs ds ks, w.heap[A.hb]? = some (.cells (hcells A s gs ds ks) 49 (0, 0)) ∧ RowAt w ρ 5 83 gs (s.grey.map A.ptr) ∧
    (∃ da : List Int, RowAt w ρ 6 3 ds (da.map (Value.int .i64)) ∧ Drops da s.handles) ∧ RowAt w ρ 7 83 ks (s.weak.map A.ptr)
  map : MapAt w A.mb A.obj s.handles
  objs : ∀ (i : Nat) (o : O), s.objs[i]? = some o → w.heap[A.obj i]? = some (.cells (objCells o) 97 (0, 0))
  sp : ∀ k, ∃ c, w.heap[A.sp k]? = some (.cells c 85 (0, 0)) ∧ c.size = 2 * s.room
  words : ∀ (i : Nat) (o : O), s.objs[i]? = some o → s.done ≤ o.epoch → ∀ (j : Nat) (x : W), o.ws[j]? = some x →
    w.cell? ⟨A.sp o.space, 2 * (o.place + j), none⟩ = some (.int .i64 (wnum x)) ∧ w.cell? ⟨A.sp o.space, 2 * (o.place + j) + 1, none⟩ = some (wptr A x)

/-- What is ours. -/
def Mine (r : Nat) : Prop := r ≠ 0

theorem Rep.drewN {w : World} {ρ : Nat → Nat} {A : Ad} {s : S} (h : Rep w ρ A s) (n : Nat) : Rep (w.drewN n) ρ A s :=
  ⟨h.rho, h.rh, h.r0, h.r1, h.rm, h.len, h.ro, h.head, h.map, h.objs, h.sp, h.words⟩

theorem MapAt.keep {w w' : World} {b : Nat} {blk : Nat → Nat} {hs : List (Option Nat)} (h : MapAt w b blk hs) (hb : w'.heap[b]? = w.heap[b]?) : MapAt w' b blk hs := by
  obtain ⟨D, ⟨es, clock, hh, F, hsz, hD⟩, rest⟩ := h
  exact ⟨D, ⟨es, clock, hb.trans hh, F, hsz, hD⟩, rest⟩

theorem MapAt.lt {w : World} {b : Nat} {blk : Nat → Nat} {hs : List (Option Nat)} (h : MapAt w b blk hs) : b < w.heap.size := by
  obtain ⟨D, hD, _⟩ := h
  exact hD.lt

theorem spRole {A : Ad} {ρ : Nat → Nat} (r0 : ρ A.s0 = 2) (r1 : ρ A.s1 = 3) (k : Nat) : ρ (A.sp k) = 2 ∨ ρ (A.sp k) = 3 := by
  unfold Ad.sp; split <;> simp [r0, r1]

/-- Blocks that are not ours change, or new ones come: the heap lies as it did. -/
theorem Rep.frame {M : Nat → Prop} {w w' : World} {ρ ρ' : Nat → Nat} {A : Ad} {s : S} (h : Rep w ρ A s) (c : Ch M ρ ρ' w w') (hm : ∀ r, M r → r = 0) : Rep w' ρ' A s := by
  have hn : ∀ r, r ≠ 0 → ¬ M r := fun r hr hM => hr (hm r hM)
  have hlt : ∀ {k : Nat}, ρ k ≠ 0 → k < w.heap.size := fun {k} hk => by
    rcases Nat.lt_or_ge k w.heap.size with h' | h'
    · exact h'
    · exact absurd (h.rho k h') hk
  have hrole : ∀ {k : Nat}, ρ k ≠ 0 → ρ' k = ρ k := fun hk => c.role _ (hlt hk)
  have hblk : ∀ {k : Nat}, ρ k ≠ 0 → w'.heap[k]? = w.heap[k]? := fun hk => c.block _ (hlt hk) (hn _ hk)
  have hsp : ∀ k, ρ (A.sp k) ≠ 0 := fun k => by rcases spRole h.r0 h.r1 k with e | e <;> simp [e]
  obtain ⟨gs, ds, ks, hh, hg, ⟨da, hd, hdr⟩, hk⟩ := h.head
  refine ⟨c.fresh, (hrole (by simp [h.rh])).trans h.rh, (hrole (by simp [h.r0])).trans h.r0, (hrole (by simp [h.r1])).trans h.r1, (hrole (by simp [h.rm])).trans h.rm, h.len,
    fun i hi => (hrole (by rw [h.ro i hi]; omega)).trans (h.ro i hi),
    ⟨gs, ds, ks, (hblk (by simp [h.rh])).trans hh, hg.keep c (hn _ (by decide)), ⟨da, hd.keep c (hn _ (by decide)), hdr⟩, hk.keep c (hn _ (by decide))⟩,
    h.map.keep (hblk (by simp [h.rm])), fun i o ho => (hblk (by rw [h.ro i (List.getElem?_eq_some_iff.1 ho).1]; omega)).trans (h.objs i o ho),
    fun k => ?_, fun i o ho hl j x hx => ?_⟩
  · obtain ⟨cc, h1, h2⟩ := h.sp k
    exact ⟨cc, (hblk (hsp k)).trans h1, h2⟩
  · have hb := hblk (hsp o.space)
    exact ⟨(World.cell?_of_block (w := w) hb).trans (h.words i o ho hl j x hx).1, (World.cell?_of_block (w := w) hb).trans (h.words i o ho hl j x hx).2⟩

theorem Rep.lt {w : World} {ρ : Nat → Nat} {A : Ad} {s : S} (h : Rep w ρ A s) {k : Nat} (hk : ρ k ≠ 0) : k < w.heap.size := by
  rcases Nat.lt_or_ge k w.heap.size with h' | h'
  · exact h'
  · exact absurd (h.rho k h') hk

/-- The spaces stay; the struct, the rows, the map and the objects' blocks are given anew. -/
theorem Rep.turn {M : Nat → Prop} {w w' : World} {ρ ρ' : Nat → Nat} {A : Ad} {s s' : S} (h : Rep w ρ A s) (c : Ch M ρ ρ' w w') (m2 : ¬ M 2) (m3 : ¬ M 3)
    (hlen : s'.objs.length = s.objs.length) (hroom : s'.room = s.room)
    (head' : ∃ gs ds ks, w'.heap[A.hb]? = some (.cells (hcells A s' gs ds ks) 49 (0, 0)) ∧ RowAt w' ρ' 5 83 gs (s'.grey.map A.ptr) ∧
      (∃ da : List Int, RowAt w' ρ' 6 3 ds (da.map (Value.int .i64)) ∧ Drops da s'.handles) ∧ RowAt w' ρ' 7 83 ks (s'.weak.map A.ptr))
    (map' : MapAt w' A.mb A.obj s'.handles)
    (objs' : ∀ (i : Nat) (o : O), s'.objs[i]? = some o → w'.heap[A.obj i]? = some (.cells (objCells o) 97 (0, 0)))
    (words' : ∀ (i : Nat) (o' : O), s'.objs[i]? = some o' → s'.done ≤ o'.epoch → ∃ o : O, s.objs[i]? = some o ∧ s.done ≤ o.epoch ∧ o'.ws = o.ws ∧ o'.space = o.space ∧ o'.place = o.place) : Rep w' ρ' A s' := by
  have hrole : ∀ {k : Nat}, ρ k ≠ 0 → ρ' k = ρ k := fun hk => c.role _ (h.lt hk)
  have hsp : ∀ k, w'.heap[A.sp k]? = w.heap[A.sp k]? := fun k => by
    rcases spRole h.r0 h.r1 k with e | e
    · exact c.block _ (h.lt (by simp [e])) (by rw [e]; exact m2)
    · exact c.block _ (h.lt (by simp [e])) (by rw [e]; exact m3)
  refine ⟨c.fresh, (hrole (by simp [h.rh])).trans h.rh, (hrole (by simp [h.r0])).trans h.r0, (hrole (by simp [h.r1])).trans h.r1, (hrole (by simp [h.rm])).trans h.rm, h.len.trans hlen.symm,
    fun i hi => (hrole (by rw [h.ro i (by omega)]; omega)).trans (h.ro i (by omega)), head', map', objs', fun k => ?_, fun i o' ho hl j x hx => ?_⟩
  · obtain ⟨cc, h1, h2⟩ := h.sp k
    exact ⟨cc, (hsp k).trans h1, by rw [hroom]; exact h2⟩
  · obtain ⟨o, g1, g2, g3, g4, g5⟩ := words' i o' ho hl
    rw [g4, g5]
    have := h.words i o g1 g2 j x (by rw [← g3]; exact hx)
    exact ⟨(World.cell?_of_block (w := w) (hsp _)).trans this.1, (World.cell?_of_block (w := w) (hsp _)).trans this.2⟩

theorem Rep.hb_ne_obj {w : World} {ρ : Nat → Nat} {A : Ad} {s : S} (h : Rep w ρ A s) {i : Nat} (hi : i < s.objs.length) : A.hb ≠ A.obj i := by
  intro e
  have h1 := h.ro i hi
  rw [← e, h.rh] at h1
  omega

theorem Rep.obj_inj {w : World} {ρ : Nat → Nat} {A : Ad} {s : S} (h : Rep w ρ A s) {i j : Nat} (hi : i < s.objs.length) (hj : j < s.objs.length) (e : A.obj i = A.obj j) : i = j := by
  have h1 := h.ro i hi
  have h2 := h.ro j hj
  rw [e] at h1
  omega

end Go.Proofs.Ytfjgokbclgdfjaa
