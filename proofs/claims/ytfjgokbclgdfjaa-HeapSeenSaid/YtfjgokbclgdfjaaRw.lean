/- A heap beside rows of one's own. -/
import Derived.Test.YtfjgokbclgdfjaaEr
import Derived.Test.YtfjgokbclgdfjaaAft
import Derived.Test.YtfjgokbclgdfjaaHm
import Derived.Test.YtfjgokbclgdfjaaSane
import Derived.Deep.DeepAppendWide
set_option linter.unusedSimpArgs false
set_option linter.unusedVariables false
namespace Go.Proofs.Ytfjgokbclgdfjaa
open Go.RowKit HM

/-- Makes a cell, where it fits behind a Collect. -/
theorem gm_cell_after {w0 w : World} {ρ : Nat → Nat} {A : Ad} {s : S} (h : Gm w0 w ρ A s) (hhl : s.handles.length < 60000) (hol : s.objs.length < 1000000) (hep : s.epoch < 100000000) {fs : List (Bool × Int)} {ws : List W} {g off n : Nat} (hf : Fields w s fs ws g off n) (hn : n ≤ 16)
    (ad : Option Addr) (cap : Nat) (had : 0 < n → ad = some ⟨g, off, none⟩) (tag : Int) (htag : 0 ≤ tag ∧ tag ≤ 9223372036854775807) (hfit : ¬ s.fitsB (1 + n)) (hfit2 : s.collect.fitsB (1 + n)) :
    Calls Try.prog 17 #[.pointer (some ⟨A.hb, 0, none⟩), .int .i64 tag, .slice ad n cap] w fun e w' => e = .returned (.tuple #[.int .i64 (slotOf s.handles), .int .i64 0]) ∧ ∃ ρ' ob, Gm w0 w' ρ' (A.more ob) (s.collect.made tag ws) ∧ Ch Mine ρ ρ' w w' := by
  have hal : ∀ j, W.obj j ∈ ws → ∃ kk : Nat, s.handles[kk]? = some (some j) := fun q hq => by
    obtain ⟨p, hp⟩ := List.getElem?_of_mem hq
    obtain ⟨⟨r, m⟩, hfj⟩ : ∃ f, fs[p]? = some f := ⟨_, List.getElem?_eq_getElem (by rw [hf.fn, ← hf.wn]; exact (List.getElem?_eq_some_iff.1 hp).1)⟩
    rcases hf.words p r m hfj with ⟨_, h2⟩ | ⟨_, i, h2, h3⟩
    · rw [hp] at h2; simp at h2
    · rw [hp] at h3
      simp only [Option.some.injEq, W.obj.injEq] at h3
      subst h3
      obtain ⟨kk, _, hk⟩ := atH_some h2
      exact ⟨kk, hk⟩
  obtain ⟨a1, a2, a3, a4⟩ := wf_collect h.wf h.ph
  have hal2 : ∀ j, W.obj j ∈ ws → s.collect.Alive j := fun j hj => by
    obtain ⟨kk, hk⟩ := hal j hj
    exact a1.hand kk j (by rw [a3.handles]; exact hk)
  have hbc := bd_collect h.bd h.wf h.ph hep
  have hlen : s.collect.objs.length = s.objs.length := by have := congrArg List.length a3.conts; simpa [S.conts] using this
  refine cell_gen h.rep h.wf h.bd hhl hf hn ad cap had tag htag.1 _ _ (fun w' => ∃ ρ' ob, Gm w0 w' ρ' (A.more ob) (s.collect.made tag ws) ∧ Ch Mine ρ ρ' w w') (fun w1 g1 hpre hc => ?_)
  refine (make_after hpre h.ph hep tag n hfit rfl hfit2).mono ?_
  rintro e w' ⟨rfl, ρ', ob, hr, hc2⟩
  have hc3 : Ch Mine ρ ρ' w w' := (hc.mono fun _ h => h.elim).trans hc2
  refine ⟨by rw [a3.handles], ρ', ob, ⟨hr, wf_made a1 (by omega) hal2 ⟨by omega, htag.2⟩ (fun e => absurd htag.1 (by omega)) (by rw [hf.wn]; exact hn) (by rw [hf.wn]; exact hfit2), bd_made hbc (by rw [a3.handles]; omega) (by omega) _ _, by rw [(made_facts s.collect tag ws).2.2.2]; omega, h.ch.trans hc3⟩, hc3⟩

/-- Rows of one's own grow: the heap lies as it did. -/
theorem Gm.grown {w0 w w' : World} {ρ : Nat → Nat} {A : Ad} {s : S} (h : Gm w0 w ρ A s) {row : Option Nat} (g : w.grownBy w' row) (hrow : ∀ r, row = some r → ρ r = 0 ∧ w0.heap.size ≤ r) : Gm w0 w' ρ A s := by
  have c : Ch (· = 0) ρ ρ w w' := ⟨g.os, g.tape, g.output, g.size, fun k hk hn => g.block k hk fun e => hn (hrow k e.symm).1, fun _ _ => rfl, fun k hk => h.rep.rho k (Nat.le_trans g.size hk)⟩
  refine ⟨h.rep.frame c (fun _ h => h), h.wf, h.bd, h.ph, ⟨g.os.trans h.ch.os, g.tape.trans h.ch.tape, g.output.trans h.ch.output, Nat.le_trans h.ch.size g.size, fun k hk hn => ?_, h.ch.role, c.fresh⟩⟩
  refine (g.block k (Nat.lt_of_lt_of_le hk h.ch.size) fun e => ?_).trans (h.ch.block k hk hn)
  have := (hrow k e.symm).2
  omega

def flat : List (Bool × Int) → List Value
  | [] => []
  | (r, m) :: t => .bool r :: .int .i64 m :: flat t

theorem flat_append (a b : List (Bool × Int)) : flat (a ++ b) = flat a ++ flat b := by
  induction a with
  | nil => rfl
  | cons x r ih => obtain ⟨p, q⟩ := x; simp [flat, ih]

theorem flat_get {fs : List (Bool × Int)} : ∀ {j : Nat} {r : Bool} {m : Int}, fs[j]? = some (r, m) → (flat fs)[j * 2]? = some (.bool r) ∧ (flat fs)[j * 2 + 1]? = some (.int .i64 m) := by
  induction fs with
  | nil => intro j r m h; simp at h
  | cons x t ih =>
    intro j r m h
    obtain ⟨p, q⟩ := x
    cases j with
    | zero => simp at h; obtain ⟨rfl, rfl⟩ := h; exact ⟨rfl, rfl⟩
    | succ j =>
      have := ih (j := j) (by simpa using h)
      rw [show (j + 1) * 2 = j * 2 + 1 + 1 from by omega]
      exact ⟨by simpa [flat] using this.1, by simpa [flat] using this.2⟩

theorem flat_length (fs : List (Bool × Int)) : (flat fs).length = fs.length * 2 := by
  induction fs with
  | nil => rfl
  | cons x t ih => obtain ⟨p, q⟩ := x; simp [flat, ih]; omega

/-- A row of one's own that has elements. -/
theorem own_cells {w : World} {base : Nat} {e : TypeId} {size : Nat} {v : Value} {n : Nat} {xs : List Value} (h : w.ownsRow base e size v n xs) (hn : 0 < n) :
    ∃ g cap cur, v = .slice (some ⟨g, 0, none⟩) n cap ∧ base ≤ g ∧ w.heap[g]? = some (.cells cur e (0, 0)) ∧ n ≤ cap ∧ cur.size = cap * size ∧ ∀ j, j < n * size → cur[j]? = xs[j]? := by
  rcases h.2 with ⟨_, rfl⟩ | ⟨g, cap, cur, rfl, hb, hg, h1, h2, h3, h4⟩
  · omega
  · refine ⟨g, cap, cur, rfl, hb, hg, h1, h3, fun j hj => ?_⟩
    rw [← h4, List.getElem?_take, if_pos hj]
    simp

theorem own_shape {w : World} {base : Nat} {e : TypeId} {size : Nat} {v : Value} {n : Nat} {xs : List Value} (h : w.ownsRow base e size v n xs) : ∃ a c, v = .slice a n c := by
  rcases h.2 with ⟨rfl, rfl⟩ | ⟨g, cap, cur, rfl, _⟩
  · exact ⟨_, _, rfl⟩
  · exact ⟨_, _, rfl⟩

theorem own_keep {w w' : World} {base : Nat} {e : TypeId} {size : Nat} {v : Value} {n : Nat} {xs : List Value} (h : w.ownsRow base e size v n xs) (hk : ∀ k, k < w.heap.size → w'.heap[k]? = w.heap[k]?) : w'.ownsRow base e size v n xs := by
  obtain ⟨h1, h2⟩ := h
  rcases h2 with h2 | ⟨g, cap, cur, rfl, hb, hg, rest⟩
  · exact ⟨h1, .inl h2⟩
  · exact ⟨h1, .inr ⟨g, cap, cur, rfl, hb, (hk g (Array.getElem?_eq_some_iff.1 hg).1).trans hg, rest⟩⟩

/-- A row of integers of one's own, in a block from a base on that has no role. -/
structure KRow (w : World) (ρ : Nat → Nat) (base : Nat) (v : Value) (xs : List Value) : Prop where
  row : RowAt w (fun _ => 1) 1 3 v xs
  own : ∀ g, v.ownBlock = some g → base ≤ g ∧ g < w.heap.size ∧ ρ g = 0

theorem KRow.nil (w : World) (ρ : Nat → Nat) (base : Nat) : KRow w ρ base (.slice none 0 0) [] := ⟨.inl ⟨rfl, rfl⟩, fun g h => by simp [Value.ownBlock] at h⟩

theorem KRow.keep {w w' : World} {ρ ρ' : Nat → Nat} {base : Nat} {v : Value} {xs : List Value} (h : KRow w ρ base v xs) (hs : w.heap.size ≤ w'.heap.size) (hk : ∀ k, k < w.heap.size → ρ k = 0 → v.ownBlock = some k → w'.heap[k]? = w.heap[k]? ∧ ρ' k = 0) : KRow w' ρ' base v xs := by
  obtain ⟨h1, h2⟩ := h
  rcases h1 with h1 | ⟨g, off, cap, cur, rfl, hr, hg, rest⟩
  · exact ⟨.inl h1, fun g hg => by rw [h1.1] at hg; simp [Value.ownBlock] at hg⟩
  · obtain ⟨b1, b2, b3⟩ := h2 g rfl
    obtain ⟨k1, k2⟩ := hk g b2 b3 rfl
    refine ⟨.inr ⟨g, off, cap, cur, rfl, rfl, k1.trans hg, rest⟩, fun g' hg' => ?_⟩
    simp [Value.ownBlock] at hg'
    subst hg'
    exact ⟨b1, by omega, k2⟩

theorem KRow.ch {w w' : World} {ρ ρ' : Nat → Nat} {base : Nat} {v : Value} {xs : List Value} (h : KRow w ρ base v xs) (c : Ch Mine ρ ρ' w w') : KRow w' ρ' base v xs :=
  h.keep c.size fun k hk h0 _ => ⟨c.block k hk (by rw [h0]; simp [Mine]), (c.role k hk).trans h0⟩

/-- Append of one element: the old block or a new one. -/
theorem KRow.append {w : World} {ρ : Nat → Nat} {base : Nat} {v : Value} {xs : List Value} (h : KRow w ρ base v xs) (hρ : ∀ k, w.heap.size ≤ k → ρ k = 0) (hb : base ≤ w.heap.size)
    (ad : Addr) (c : Nat) (x : Value) (hx : w.cell? ad = some x) (h1 : x.oneCell' = true) (hlen : xs.length < 1000000000) (ty : TypeId) :
    ∃ v' w', (Builtin.append_ #[29, 29] ty #[v, .slice (some ad) 1 c]).run Try.prog w = .ok v' w' ∧ KRow w' ρ base v' (xs ++ [x]) ∧ w.grownBy w' v.ownBlock := by
  obtain ⟨i, hi, hz, hs, hby⟩ := info_parts Try.info3
  have hrow : RowAt w (fun k => if v.ownBlock = some k then 1 else 0) 1 3 v xs := by
    rcases h.row with h | ⟨g, off, cap, cur, rfl, hr, rest⟩
    · exact .inl h
    · exact .inr ⟨g, off, cap, cur, rfl, by simp [Value.ownBlock], rest⟩
  have hσ : ∀ k, w.heap.size ≤ k → (fun k => if v.ownBlock = some k then 1 else 0) k = 0 := fun k hk => by
    by_cases e : v.ownBlock = some k
    · have := (h.own k e).2.1; omega
    · simp [e]
  obtain ⟨v', w', σ', hr, h2, h3, h4⟩ := run_append_row (P := Try.prog) w 29 ty 3 i _ Try.underlying29 hi hz hs hby rfl _ 1 v xs hrow hσ ad c x hx h1 hlen
  refine ⟨v', w', hr, ⟨?_, fun g hg => ?_⟩, h3.os, h3.tape, h3.output, h3.size, fun k hk hne => h3.block k hk (fun e => by have e' : (if v.ownBlock = some k then 1 else 0) = 1 := e; rw [if_neg fun e2 => hne e2.symm] at e'; omega)⟩
  · rcases h2 with h2 | ⟨g, off, cap, cur, rfl, hr2, rest⟩
    · exact .inl h2
    · exact .inr ⟨g, off, cap, cur, rfl, rfl, rest⟩
  · rcases h2 with ⟨rfl, _⟩ | ⟨g', off, cap, cur, rfl, hr2, hgh, _⟩
    · simp [Value.ownBlock] at hg
    · simp [Value.ownBlock] at hg
      subst hg
      have hlt := (Array.getElem?_eq_some_iff.1 hgh).1
      rcases Nat.lt_or_ge g' w.heap.size with hl | hge
      · have e := h3.role g' hl
        rw [hr2] at e
        by_cases e2 : v.ownBlock = some g'
        · have := h.own g' e2; exact ⟨this.1, hlt, this.2.2⟩
        · simp [e2] at e
      · exact ⟨by omega, hlt, hρ g' hge⟩

theorem wpList_append_run {P : Program} {w w' : World} {ops : Array Oper} {rest : List Oper} {o : Oper} {a : Act} {Q : Exit → Act → World → Prop} (hgd : o.guard = none) (s x : Operand) (t : TypeId)
    (ho : o.op = .call { callee := .builtin .append, args := #[s, x], argTypes := #[t, t] }) {v v' xv : Value} (hs : a.eval s = v) (hx : a.eval x = xv)
    (hr : (Builtin.append_ #[t, t] o.type #[v, xv]).run P w = .ok v' w') (h : wpList P ops Q rest (a.put o.dst v') w') : wpList P ops Q (o :: rest) a w :=
  wpList_plain hgd fun K hK => by
    unfold Oper.wp execOp
    simp only [ho, resolve, invoke, builtin, Sem.run_bind, Sem.run_pure, Result.andThen_ok, List.map_toArray, List.map_cons, List.map_nil, hs, hx, hr]
    exact hK _ _ h
end Go.Proofs.Ytfjgokbclgdfjaa
