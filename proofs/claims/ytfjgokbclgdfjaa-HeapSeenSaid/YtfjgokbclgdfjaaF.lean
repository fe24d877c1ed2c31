/- copy of words; trace. -/
import Derived.Test.YtfjgokbclgdfjaaE
set_option linter.unusedSimpArgs false
set_option linter.unusedVariables false
namespace Go.Proofs.Ytfjgokbclgdfjaa
open Go.RowKit HM

/-- cs laid over L from place off on. -/
def laidOver (L : List Value) (off : Nat) (cs : List Value) : List Value := L.take off ++ cs ++ L.drop (off + cs.length)

theorem laidOver_length (L : List Value) (off : Nat) (cs : List Value) (h : off + cs.length ≤ L.length) : (laidOver L off cs).length = L.length := by simp [laidOver]; omega

theorem laidOver_in (L : List Value) (off : Nat) (cs : List Value) (h : off + cs.length ≤ L.length) (j : Nat) (hj : j < cs.length) : (laidOver L off cs)[off + j]? = cs[j]? := by
  unfold laidOver
  have h1 : (L.take off).length = off := by simp; omega
  rw [List.append_assoc, List.getElem?_append_right (by omega), h1, Nat.add_sub_cancel_left, List.getElem?_append_left hj]

theorem laidOver_out (L : List Value) (off : Nat) (cs : List Value) (h : off + cs.length ≤ L.length) (j : Nat) (hj : j < off ∨ off + cs.length ≤ j) : (laidOver L off cs)[j]? = L[j]? := by
  unfold laidOver
  have h1 : (L.take off).length = off := by simp; omega
  rcases hj with hj | hj
  · rw [List.append_assoc, List.getElem?_append_left (by omega), List.getElem?_take, if_pos hj]
  · rw [List.append_assoc, List.getElem?_append_right (by omega), h1, List.getElem?_append_right (by omega), List.getElem?_drop]
    congr 1; omega

theorem run_copy2 {w : World} (ty : TypeId) (da ad : Addr) (g off n dc sc : Nat)
    (hpos : 0 < n → da = ⟨g, off, none⟩) (cur : List Value) (hg : w.heap[g]? = some (.cells cur.toArray 85 (0, 0))) (cs : List Value) (hl : cs.length = n * 2)
    (hcs : ∀ j v, cs[j]? = some v → w.cell? (ad.add j) = some v) (hfit : off + cs.length ≤ cur.length) (h1 : ∀ v ∈ cs, v.oneCell' = true) :
    (Builtin.copy_ #[39, 39] ty #[.slice (some da) n dc, .slice (some ad) n sc]).run Try.prog w = .ok (.int .i64 n) (w.setRow g (laidOver cur off cs).toArray) := by
  obtain ⟨i, hi, hz, hsz, hb⟩ := info_parts Try.info85
  have hf := run_firstCells_some (P := Try.prog) w 2 n ad n sc cs hl hcs
  have hst : (storeCells da cs).run Try.prog w = .ok () (w.setRow g (laidOver cur off cs).toArray) := by
    by_cases h0 : 0 < n
    · rw [hpos h0]
      have := run_storeCells_at Try.prog g off 85 cs 0 cur.toArray w hg (by simpa using hfit) h1
      simpa [laidOver] using this
    · have hcs0 : cs = [] := List.eq_nil_of_length_eq_zero (by omega)
      subst hcs0
      have : laidOver cur off [] = cur := by simp [laidOver]
      rw [this, setRow_self w g cur.toArray 85 (0, 0) hg]
      rfl
  simp [Builtin.copy_, run_underlying Try.underlying39, Builtin.lenOf, sizeOf, typeInfo, hi, hsz, hf, hst, goInt]

/-- The cells of words. -/
def wcells (A : Ad) (l : List W) : List Value := l.flatMap fun x => [.int .i64 (wnum x), wptr A x]

theorem wcells_length (A : Ad) (l : List W) : (wcells A l).length = l.length * 2 := by
  induction l with
  | nil => rfl
  | cons x r ih => simp [wcells] at ih ⊢; omega

theorem wcells_one (A : Ad) (l : List W) : ∀ v ∈ wcells A l, v.oneCell' = true := by
  intro v hv
  simp only [wcells, List.mem_flatMap, List.mem_cons, List.not_mem_nil, or_false] at hv
  obtain ⟨x, _, rfl | rfl⟩ := hv
  · rfl
  · cases x <;> rfl

theorem wcells_even (A : Ad) (l : List W) (j : Nat) (x : W) (h : l[j]? = some x) : (wcells A l)[j * 2]? = some (.int .i64 (wnum x)) ∧ (wcells A l)[j * 2 + 1]? = some (wptr A x) := by
  induction l generalizing j with
  | nil => simp at h
  | cons y r ih =>
    cases j with
    | zero => simp at h; subst h; simp [wcells]
    | succ j =>
      simp at h
      have := ih j h
      have e1 : (j + 1) * 2 = j * 2 + 1 + 1 := by omega
      have e2 : (j + 1) * 2 + 1 = (j * 2 + 1) + 1 + 1 := by omega
      simp only [wcells, List.flatMap_cons, List.cons_append, List.nil_append] at this ⊢
      rw [e1]
      exact ⟨by simpa using this.1, by simpa using this.2⟩

theorem wcells_at {w : World} {A : Ad} {g off : Nat} {l : List W} (h : ∀ (j : Nat) (x : W), l[j]? = some x → w.cell? ⟨g, off + j * 2, none⟩ = some (.int .i64 (wnum x)) ∧ w.cell? ⟨g, off + j * 2 + 1, none⟩ = some (wptr A x)) :
    ∀ j v, (wcells A l)[j]? = some v → w.cell? ((⟨g, off, none⟩ : Addr).add j) = some v := by
  intro j v hv
  rw [Addr.add_lit]
  have hj : j < l.length * 2 := by rw [← wcells_length A l]; exact (List.getElem?_eq_some_iff.1 hv).1
  have hx : l[j / 2]? = some (l[j / 2]'(by omega)) := List.getElem?_eq_getElem (by omega)
  have h1 := wcells_even A l (j / 2) _ hx
  have h2 := h (j / 2) _ hx
  rcases Nat.mod_two_eq_zero_or_one j with hm | hm
  · have e : j = j / 2 * 2 := by omega
    rw [e] at hv ⊢
    rw [h1.1] at hv
    rw [h2.1, ← hv]
  · have e : j = j / 2 * 2 + 1 := by omega
    rw [e] at hv ⊢
    rw [h1.2] at hv
    rw [← Nat.add_assoc, h2.2, ← hv]

theorem trace_none {w : World} {ρ : Nat → Nat} {A : Ad} {s : S} (h : Rep w ρ A s) (hg : s.grey = []) :
    Calls Try.prog 52 #[.pointer (some ⟨A.hb, 0, none⟩)] w fun e w' => e = .returned (.bool false) ∧ w = w' := by
  obtain ⟨gs, ds, ks, hh, hgr, _⟩ := h.head
  have h13 : w.cell? ⟨A.hb, 13, none⟩ = some gs := by rw [cell_of_row w _ 13 _ _ _ hh]; rfl
  obtain ⟨a', n', c', rfl⟩ := hgr.shape
  have hn : n' = 0 := by
    rcases hgr with ⟨h, _⟩ | ⟨g, off, cap, cur, hv, _⟩
    · simp at h; omega
    · simp [hg] at hv; omega
  subst hn
  clear hgr hh h
  go_enter Try.func52, Try.ntmps52
  go_wp2
  go_ret
  exact ⟨rfl, rfl⟩

/-- s[1:]: the address is a name. -/
theorem run_slice1 (T : TypeId) (e : TypeId) (i : TypeInfo) (hT : Try.prog.underlying T = some (.slice e)) (hi : Try.prog.info? e = some i) (k : Nat) (hk : i.size = k) (ad : Addr) (n c : Nat) (hc : n + 1 ≤ c) :
    ∃ ta, ta = (if c = 1 then ad else ad.add k) ∧ ∀ w, (Instr.sliceAt T (.slice (some ad) (n + 1) c) (some (.int .i64 1)) none none).run Try.prog w = .ok (.slice (some ta) n (c - 1)) w := by
  refine ⟨_, rfl, fun w => ?_⟩
  have ht : Try.prog.underlying T = some (.slice (Try.prog.elem T)) := by simp [Program.elem, hT]
  have he : Try.prog.elem T = e := by simp [Program.elem, hT]
  rw [run_sliceAt_slice w T _ _ _ _ ht, run_slice_l w T (some ad) (n + 1) c ht .i64 1 (by decide) (by omega), he]
  simp [sizeOf, typeInfo, hi, hk, sliced]
  split <;> rfl

end Go.Proofs.Ytfjgokbclgdfjaa
