/- Passing over spaces and comments: walked. -/
import Derived.Test.YtnkahlloahgifaaGreatDoorLxD
import Derived.Test.YtnkahlloahgifaaGreatDoorLxO
import Derived.Deep.RegionLaw
import Derived.Deep.RegionWith
import Derived.OwnWalk
set_option linter.unusedSimpArgs false
set_option linter.unusedVariables false
namespace Go.Proofs.YtnkahlloahgifaaGreatDoor.Lx
namespace LX
inductive PR where
  | to (n : Nat) (cs : List (Nat × Nat))
  | bad (place e : Nat)

def PR.add (c : List (Nat × Nat)) : PR → PR
  | .to n cs => .to n (c ++ cs)
  | .bad p e => .bad p e

/-- Over spaces and comments: to which place, and which comments; or an error at a place. -/
def passN : Nat → List Nat → Nat → PR
  | 0, _, p => .to p []
  | f + 1, l, p =>
    if opens (l.drop (run space l)) then
      match cmt (l.drop (run space l)) 0 0 with
      | .fin n => (passN f ((l.drop (run space l)).drop n) (p + run space l + n)).add [(p + run space l, p + run space l + n)]
      | .deep n => .bad (p + run space l + n) 6
      | .never => .bad (p + run space l) 12
    else .to (p + run space l) []

theorem PR.add_add (a b : List (Nat × Nat)) (r : PR) : (r.add b).add a = r.add (a ++ b) := by
  cases r <;> simp [PR.add]

theorem PR.add_nil (r : PR) : r.add [] = r := by cases r <;> rfl

theorem cmt_fin {l : List Nat} {d n m : Nat} : cmt l d n = .fin m → n < m := by
  fun_induction cmt l d n with
  | case1 => intro h; cases h
  | case2 => intro h; cases h
  | case3 => intro h; cases h
  | case4 _ _ _ _ _ _ _ ih => intro h; have := ih h; omega
  | case5 => intro h; cases h; omega
  | case6 _ _ _ _ _ _ _ _ ih => intro h; have := ih h; omega
  | case7 _ _ _ _ _ _ _ ih => intro h; have := ih h; omega
end LX
open Go.RowKit

/-- From one world to another the scanner's own blocks alone have changed, and new ones have come. -/
structure Fr (w w' : World) (b : Nat) (cv cv' : Value) : Prop where
  os : w'.os = w.os
  tape : w'.tape = w.tape
  output : w'.output = w.output
  size : w.heap.size ≤ w'.heap.size
  block : ∀ k, k < w.heap.size → k ≠ b → cv.ownBlock ≠ some k → w'.heap[k]? = w.heap[k]?
  own : cv'.ownBlock = cv.ownBlock ∨ ∃ k, cv'.ownBlock = some k ∧ w.heap.size ≤ k

theorem Fr.refl (w : World) (b : Nat) (cv : Value) : Fr w w b cv cv := ⟨rfl, rfl, rfl, Nat.le_refl _, fun _ _ _ _ => rfl, .inl rfl⟩

theorem Fr.trans {w w1 w2 : World} {b : Nat} {cv c1 c2 : Value} (h : Fr w w1 b cv c1) (k : Fr w1 w2 b c1 c2) : Fr w w2 b cv c2 := by
  refine ⟨k.os.trans h.os, k.tape.trans h.tape, k.output.trans h.output, Nat.le_trans h.size k.size, fun q hq hb hc => ?_, ?_⟩
  · refine (k.block q (Nat.lt_of_lt_of_le hq h.size) hb fun e => ?_).trans (h.block q hq hb hc)
    rcases h.own with e2 | ⟨p, e2, hp⟩
    · exact hc (e2.symm.trans e)
    · rw [e2] at e; simp at e; omega
  · rcases k.own with e | ⟨p, e, hp⟩
    · rcases h.own with e2 | ⟨p, e2, hp⟩
      · exact .inl (e.trans e2)
      · exact .inr ⟨p, e.trans e2, hp⟩
    · exact .inr ⟨p, e, Nat.le_trans h.size hp⟩

theorem Fr.drewN {w w' : World} {b : Nat} {cv cv' : Value} (h : Fr w w' b cv cv') (m : Nat) : Fr w (w'.drewN m) b cv cv' := ⟨h.os, h.tape, h.output, h.size, h.block, h.own⟩

theorem Mv.fr {w w' : World} {b : Nat} {v : Int} (h : Mv w w' b v) (cv : Value) : Fr w w' b cv cv :=
  ⟨h.os, h.tape, h.output, Nat.le_of_eq h.size.symm, fun k _ hb _ => h.block k hb, .inl rfl⟩

/-- The comments' row. -/
def flatP : List (Nat × Nat) → List Value
  | [] => []
  | (p, q) :: t => .int .i64 p :: .int .i64 q :: flatP t

theorem flatP_append (a b : List (Nat × Nat)) : flatP (a ++ b) = flatP a ++ flatP b := by
  induction a with
  | nil => rfl
  | cons x r ih => obtain ⟨p, q⟩ := x; simp [flatP, ih]

structure Cm (w : World) (b : Nat) (cv : Value) (cs : List (Nat × Nat)) : Prop where
  row : w.ownsRow 0 228 2 cv cs.length (flatP cs)
  ne : cv.ownBlock ≠ some b

theorem Cm.shape {w : World} {b : Nat} {cv : Value} {cs : List (Nat × Nat)} (h : Cm w b cv cs) : ∃ a c, cv = .slice a cs.length c := by
  rcases h.row.2 with ⟨rfl, h0⟩ | ⟨g, cap, cur, rfl, _⟩
  · rw [h0]; exact ⟨_, _, rfl⟩
  · exact ⟨_, _, rfl⟩

theorem Cm.keep {w w' : World} {b : Nat} {cv : Value} {cs : List (Nat × Nat)} (h : Cm w b cv cs) (hk : ∀ k, k < w.heap.size → cv.ownBlock = some k → w'.heap[k]? = w.heap[k]?) : Cm w' b cv cs := by
  obtain ⟨⟨h1, h2⟩, h3⟩ := h
  rcases h2 with h2 | ⟨g, cap, cur, rfl, hb, hg, rest⟩
  · exact ⟨⟨h1, .inl h2⟩, h3⟩
  · exact ⟨⟨h1, .inr ⟨g, cap, cur, rfl, hb, (hk g (Array.getElem?_eq_some_iff.1 hg).1 rfl).trans hg, rest⟩⟩, h3⟩

theorem Cm.lt {w : World} {b : Nat} {cv : Value} {cs : List (Nat × Nat)} (h : Cm w b cv cs) {k : Nat} (hk : cv.ownBlock = some k) : k < w.heap.size := by
  rcases h.row.2 with ⟨rfl, _⟩ | ⟨g, cap, cur, rfl, _, hg, _⟩
  · simp [Value.ownBlock] at hk
  · simp [Value.ownBlock] at hk; subst hk; exact (Array.getElem?_eq_some_iff.1 hg).1

theorem Tryz.info228 : (Tryz.prog.info? 228).map (fun i => (i.zero, i.size, i.bytes)) = some (some (.agg #[.int .i64 0, .int .i64 0]), 2, 16) := by kernel_rfl

theorem step_append_run {P : Program} {ops : Array Oper} {o : Oper} {a : Act} {w w' : World} {K : Act → World → Prop} {Q : Exit → Act → World → Prop} {E : Prop}
    (hg : o.guard = none) (s x : Operand) (t : TypeId) (hop : o.op = Op.call { callee := Callee.builtin Builtin.append, args := #[s, x], argTypes := #[t, t] })
    {v xv v' : Value} (hs : a.eval s = v) (hx : a.eval x = xv) (hr : (Builtin.append_ #[t, t] o.type #[v, xv]).run P w = .ok v' w') (hK : K (a.put o.dst v') w') :
    if Region.wanted o (yielded ops a.tmps) = true then Oper.wp P o a w K Q else E := by
  have hw : Region.wanted o (yielded ops a.tmps) = true := by simp [Region.wanted, hg]
  rw [if_pos hw]
  unfold Oper.wp execOp
  simp only [hop, resolve, invoke, builtin, Sem.run_bind, Sem.run_pure, Result.andThen_ok, List.map_toArray, List.map_cons, List.map_nil, hs, hx, hr]
  exact hK

def PPost (w : World) (b : Nat) (s : ByteArray) (mb : Nat) (cv : Value) (cs0 : List (Nat × Nat)) : LX.PR → Ending → World → Prop
  | .to n cs, e, w' => e = .returned (.tuple #[]) ∧ ∃ cv', Sc w' b s n mb cv' ∧ Cm w' b cv' (cs0 ++ cs) ∧ Fr w w' b cv cv'
  | .bad p er, e, w' => e = thrown p er ∧ ∃ cv', Fr w w' b cv cv'

theorem Mv.of_drew {w w' : World} {b m : Nat} {v : Int} (h : Mv (w.drewN m) w' b v) : Mv w w' b v := ⟨h.os, h.tape, h.output, h.size, h.block, h.cell⟩

theorem passN_step (f : Nat) (s : ByteArray) (j k p : Nat) (hk : k = LX.run LX.space ((bts s).drop j)) (hp : p = j + k) :
    LX.passN (f + 1) ((bts s).drop j) j = if LX.opens ((bts s).drop p) then
      match LX.cmt ((bts s).drop p) 0 0 with
      | .fin n => (LX.passN f ((bts s).drop (p + n)) (p + n)).add [(p, p + n)]
      | .deep n => .bad (p + n) 6
      | .never => .bad p 12
    else .to p [] := by
  subst hp
  rw [LX.passN, ← hk]
  simp only [List.drop_drop]

theorem opens_eq (l : List Nat) : LX.opens l = [40, 42].isPrefixOf l := by
  cases h : [40, 42].isPrefixOf l with
  | true => obtain ⟨t, rfl⟩ := prefix2 h; rfl
  | false =>
    cases h2 : LX.opens l with
    | false => rfl
    | true => rw [opens_prefix h2] at h; exact absurd h (by decide)

set_option maxHeartbeats 4000000 in
set_option maxRecDepth 20000 in
theorem pass_any {w : World} {b : Nat} {s : ByteArray} {i mb : Nat} {cv : Value} {cs0 : List (Nat × Nat)} (h : Sc w b s i mb cv) (hc : Cm w b cv cs0) (hcl : cs0.length ≤ i) :
    Calls Tryz.prog 142 #[.pointer (some ⟨b, 0, none⟩)] w (PPost w b s mb cv cs0 (LX.passN (s.size + 1) ((bts s).drop i) i)) := by
  obtain ⟨r, hr⟩ : ∃ r, r = LX.passN (s.size + 1) ((bts s).drop i) i := ⟨_, rfl⟩
  rw [← hr]
  have hi2 := h.2.1
  have HZ := Lib.hid h.2.2
  have HS := Lib.hid h
  have HC := Lib.hid hc
  have HR := Lib.hid hr
  have HL := Lib.hid hcl
  clear h hc hr hcl
  go_enter Tryz.func142, Tryz.ntmps142
  go_wp2_with fail
  go_loopg [2] (s.size - i) (fun gk v2 wr => ∃ (j f : Nat) (cs : List (Nat × Nat)) (cv' : Value), i ≤ j ∧ j ≤ s.size ∧ gk = s.size - j ∧ s.size - j < f ∧ Sc wr b s j mb cv' ∧ Cm wr b cv' (cs0 ++ cs) ∧ (cs0 ++ cs).length ≤ j ∧ Fr w wr b cv cv' ∧ r = (LX.passN f ((bts s).drop j) j).add cs)
  case atStart => exact ⟨i, s.size + 1, [], cv, Nat.le_refl _, hi2, rfl, by omega, HS.out, by simpa using HC.out, by simpa using HL.out, Fr.refl _ _ _, by rw [LX.PR.add_nil]; exact HR.out⟩
  case round =>
    obtain ⟨j, f, cs, cv', hij, hjs, hgk, hf, hsc, hcm, hcl, hfr, hrj⟩ := hrel
    obtain ⟨f', rfl⟩ : ∃ f', f = f' + 1 := ⟨f - 1, by omega⟩
    obtain ⟨e0, e1, elt, ele, esz⟩ := hsc.at'
    have ef : ∀ q, wr.frozen? ⟨b, q, none⟩ = false := fun q => frozen_of_row wr b q _ _ hsc.1
    obtain ⟨k, hk⟩ : ∃ k, k = LX.run LX.space ((bts s).drop j) := ⟨_, rfl⟩
    have hkl : j + k ≤ s.size := by
      have := run_le LX.space ((bts s).drop j)
      rw [List.length_drop, bts_length] at this
      omega
    have hj4 : (j : Int) + (k : Int) ≤ 400000 := by have := HZ.out; omega
    have R1 : Hid (Calls Tryz.prog 144 #[.pointer (some ⟨b, 0, none⟩), .int .i64 0, .func (.func 145) #[] #[]] wr.drew fun e w' => e = .returned (.int .i64 k) ∧ ∃ q, w' = wr.drew.drewN q) := by
      have := run_space (w := wr.drew) ⟨e0, e1, elt, ele, esz⟩ 0 (by decide)
      rw [Nat.add_zero, ← hk] at this
      exact this
    have H1 := Lib.hid hgk
    have H2 := Lib.hid hf
    have H3 := Lib.hid hsc
    have H4 := Lib.hid hcm
    have H5 := Lib.hid hcl
    have H6 := Lib.hid hfr
    have H7 := Lib.hid hrj
    have H8 := Lib.hid hk
    have H9 := Lib.hid (And.intro hij (And.intro hjs hkl))
    clear hgk hf hsc hcm hcl hfr hrj hk hij hjs ele esz hkl
    have hwr : IntKind.i64.wrap ((j : Int) + (k : Int)) = (j : Int) + (k : Int) := wrap_in _ (by omega)
    go_wp2_with fail
    go_region_with (go_at_call 144; refine (R1.out).mono ?_; rintro e w2 ⟨rfl, q, rfl⟩)
    all_goals
      obtain ⟨w1, hw1⟩ : ∃ v, v = (wr.drewN (1 + q)).setCell ⟨b, 1, none⟩ (.int .i64 ((j : Int) + (k : Int))) := ⟨_, rfl⟩
      rw [← hw1]
      have mv1 : Mv wr w1 b ((j + k : Nat) : Int) := by
        rw [hw1, show ((j + k : Nat) : Int) = (j : Int) + (k : Int) from by push_cast; rfl]
        exact (Mv.of_set (wr.drewN (1 + q)) b _).of_drew
      have T1 : Hid (Sc w1 b s (j + k) mb cv') := H3.out.mv mv1 H9.out.2.2
      have T2 : Hid (Cm w1 b cv' (cs0 ++ cs)) := H4.out.keep fun p hp hb => mv1.block p fun e => H4.out.ne (by rw [hb, e])
      have T3 : Hid (Fr w w1 b cv cv') := H6.out.trans (mv1.fr cv')
      obtain ⟨p, hp⟩ : ∃ p, p = j + k := ⟨_, rfl⟩
      rw [← hp] at T1
      have T4 := Lib.hid hp
      obtain ⟨d0, d1, dlt, dle, dsz⟩ := T1.out.at'
      have df : ∀ q, w1.frozen? ⟨b, q, none⟩ = false := fun q => frozen_of_row w1 b q _ _ T1.out.1
      have d3 : w1.cell? ⟨b, 3, none⟩ = some cv' := by rw [cell_of_row w1 b 3 _ _ _ T1.out.1]; rfl
      have hpz : (p : Int) ≤ 400000 := by omega
      have AT : Hid (At w1 b s p) := T1.out.at'
      clear hw1 mv1 e0 e1 elt ef hwr R1 hp hj4 dle dsz
      cases hop : LX.opens ((bts s).drop p) with
      | false =>
        have S1 : Hid (Calls Tryz.prog 146 #[.pointer (some ⟨b, 0, none⟩), .string ⟨#[40, 42]⟩] w1 fun e w' => e = .returned (.bool false) ∧ ∃ q, w' = w1.drewN q) := by
          have := starts_any AT.out ⟨#[40, 42]⟩
          rw [show bts ⟨#[40, 42]⟩ = [40, 42] from rfl, ← opens_eq, hop] at this
          exact this
        have HOP := Lib.hid hop
        clear hop
        go_wp2_with fail
        refine (S1.out).mono ?_
        rintro e w2 ⟨rfl, q2, rfl⟩
        go_wp2_with fail
        (try simp only [Exit.inBlock, Exit.then])
        refine bodyPost_ret (results_none rfl _ _ _) rfl ?_
        have er : r = .to p cs := by
          rw [H7.out, passN_step _ s j k p H8.out T4.out, if_neg (by rw [HOP.out]; decide)]
          simp [LX.PR.add]
        rw [er]
        exact ⟨rfl, cv', T1.out, T2.out.keep fun _ _ _ => rfl, T3.out.drewN _⟩
      | true =>
        have S1 : Hid (Calls Tryz.prog 146 #[.pointer (some ⟨b, 0, none⟩), .string ⟨#[40, 42]⟩] w1 fun e w' => e = .returned (.bool true) ∧ ∃ q, w' = w1.drewN q) := by
          have := starts_any AT.out ⟨#[40, 42]⟩
          rw [show bts ⟨#[40, 42]⟩ = [40, 42] from rfl, ← opens_eq, hop] at this
          exact this
        have HOP := Lib.hid hop
        clear hop
        go_wp2_with fail
        refine (S1.out).mono ?_
        rintro e w2 ⟨rfl, q2, rfl⟩
        go_wp2_with fail
        have T1' : Sc (w1.drewN q2) b s p mb cv' := T1.out
        refine (comment_any T1' HOP.out).mono ?_
        cases hcm2 : LX.cmt ((bts s).drop p) 0 0 with
        | never =>
          rintro e w3 ⟨rfl, v, hmv⟩
          unfold thrown
          go_wp2_with fail
          refine ⟨rfl, ?_⟩
          have er : r = .bad p 12 := by
            rw [H7.out, passN_step _ s j k p H8.out T4.out, if_pos HOP.out, hcm2]
            rfl
          rw [er]
          exact ⟨rfl, cv', T3.out.trans (hmv.of_drew.fr cv')⟩
        | deep n =>
          rintro e w3 ⟨rfl, v, hmv⟩
          unfold thrown
          go_wp2_with fail
          refine ⟨rfl, ?_⟩
          have er : r = .bad (p + n) 6 := by
            rw [H7.out, passN_step _ s j k p H8.out T4.out, if_pos HOP.out, hcm2]
            rfl
          rw [er]
          exact ⟨rfl, cv', T3.out.trans (hmv.of_drew.fr cv')⟩
        | fin n =>
          rintro e w3 ⟨rfl, hmv, hle⟩
          have mv3 := hmv.of_drew
          have U1 : Hid (Sc w3 b s (p + n) mb cv') := T1.out.mv mv3 hle
          have U2 : Hid (Cm w3 b cv' (cs0 ++ cs)) := T2.out.keep fun x hx hb => mv3.block x fun e => T2.out.ne (by rw [hb, e])
          have U3 : Hid (Fr w w3 b cv cv') := T3.out.trans (mv3.fr cv')
          have U4 : Hid (0 < n) := LX.cmt_fin hcm2
          have U5 : Hid (r = ((LX.passN f' ((bts s).drop (p + n)) (p + n)).add [(p, p + n)]).add cs) := by
            show r = _
            rw [H7.out, passN_step _ s j k p H8.out T4.out, if_pos HOP.out, hcm2]
          have U6 := Lib.hid hle
          obtain ⟨g0, g1, glt, gle, gsz⟩ := U1.out.at'
          have g1' : w3.cell? ⟨b, 1, none⟩ = some (.int .i64 ((p : Int) + (n : Int))) := by rw [g1]; push_cast; rfl
          have gf : ∀ q, w3.frozen? ⟨b, q, none⟩ = false := fun q => frozen_of_row w3 b q _ _ U1.out.1
          have g3 : w3.cell? ⟨b, 3, none⟩ = some cv' := by rw [cell_of_row w3 b 3 _ _ _ U1.out.1]; rfl
          obtain ⟨i0, hi0, hz0, hz1, hz2⟩ := info_parts Tryz.info228
          obtain ⟨W, hW⟩ : ∃ W, W = w3.drew.alloc (.cells #[.int .i64 p, .int .i64 ((p : Int) + (n : Int))] 228) := ⟨_, rfl⟩
          have hWh : W.heap[w3.heap.size]? = some (.cells #[.int .i64 p, .int .i64 ((p : Int) + (n : Int))] 228 (0, 0)) := by rw [hW]; exact heap_alloc_new w3.drew _
          have hWs : W.heap.size = w3.heap.size + 1 := by rw [hW]; simp
          have hWk : ∀ x, x < w3.heap.size → W.heap[x]? = w3.heap[x]? := fun x hx => by rw [hW]; exact Below.heap_alloc w3.drew _ _ hx
          have cmW : Cm W b cv' (cs0 ++ cs) := U2.out.keep fun x hx _ => hWk x hx
          obtain ⟨v', w4, hrun, hrow, hgr, hob⟩ := append_one (P := Tryz.prog) W 0 220 220 228 i0 (.agg #[.int .i64 0, .int .i64 0]) 2 16 Tryz.underlying220 hi0 hz0 hz1 hz2 rfl (by decide) cv' (cs0 ++ cs).length (flatP (cs0 ++ cs)) cmW.row ⟨w3.heap.size, 0, none⟩ 1 [.int .i64 p, .int .i64 ((p : Int) + (n : Int))] rfl
            (fun x u hx => by
              rw [Addr.add_lit, cell_of_row _ _ _ _ _ _ hWh]
              match x, hx with
              | 0, hx => simpa using hx
              | 1, hx => simpa using hx
              | x + 2, hx => simp at hx)
            (fun u hu => by simp at hu; rcases hu with rfl | rfl <;> rfl) (by have := H5.out; have := H9.out.2.1; have := HZ.out; omega) (by decide) (Nat.zero_le _)
          obtain ⟨va, vc, hv'⟩ : ∃ a c, v' = .slice a ((cs0 ++ cs).length + 1) c := by
            rcases hrow.2 with ⟨_, h0⟩ | ⟨g, cap, cur, e, _⟩
            · omega
            · exact ⟨_, _, e⟩
          obtain ⟨ca, cc, hcv⟩ := U2.out.shape
          have b4 : w4.heap[b]? = w3.heap[b]? := (hgr.block b (by omega) (fun e => U2.out.ne e.symm)).trans (hWk b glt)
          have b40 : w4.cell? ⟨b, 3, none⟩ = some cv' := by rw [World.cell?_of_block (w := w3) b4]; exact g3
          have b4f : w4.frozen? ⟨b, 3, none⟩ = false := by rw [World.frozen?_of_block (w := w3) b4]; exact gf 3
          have b4l : b < w4.heap.size := Nat.lt_of_lt_of_le (by omega) hgr.size
          rw [hW] at hrun
          have V1 := Lib.hid hrun
          have V2 := Lib.hid hrow
          have V3 := Lib.hid hgr
          have V4 := Lib.hid hob
          have V5 := Lib.hid b4
          have V6 := Lib.hid (And.intro hWs hWk)
          have V7 : Hid (w3.os = W.os ∧ w3.tape = W.tape ∧ w3.output = W.output) := by rw [hW]; exact ⟨rfl, rfl, rfl⟩
          have hnz : (p : Int) + (n : Int) ≤ 400000 := by omega
          obtain ⟨nn, hnn⟩ : ∃ nn, nn = (cs0 ++ cs).length := ⟨_, rfl⟩
          rw [← hnn] at hv' hcv
          have V8 := Lib.hid hnn
          clear hnn
          subst hv'
          subst hcv
          clear hW g1 hmv hle hcm2 mv3 gle gsz hi0 hz0 hz1 hz2 hWh hWs hWk cmW hrun hrow hgr hob b4 d0 d1 dlt df d3 S1
          go_wp2_with fail
          go_region_law (refine step_append_run rfl _ _ 220 rfl rfl rfl V1.out ?_)
          all_goals
            go_wp2_with fail
            go_roundg (s.size - (p + n))
            case measure => have := H1.out; have := U4.out; have := U6.out; have := T4.out; omega
            case rel =>
              have hlen : (cs0 ++ (cs ++ [(p, p + n)])).length = (cs0 ++ cs).length + 1 := by simp; omega
              have hfl : flatP (cs0 ++ (cs ++ [(p, p + n)])) = flatP (cs0 ++ cs) ++ [.int .i64 p, .int .i64 ((p : Int) + (n : Int))] := by
                rw [← List.append_assoc, flatP_append]
                simp only [flatP]
                push_cast
                rfl
              have hne : (Value.slice va (nn + 1) vc).ownBlock ≠ some b := by
                rcases V4.out with e | ⟨e, _⟩
                · rw [e, V6.out.1]; intro e2; simp at e2; omega
                · rw [e]; exact U2.out.ne
              have hkk : ∀ x, x ≠ b → (w4.setCell ⟨b, 3, none⟩ (.slice va (nn + 1) vc)).heap[x]? = w4.heap[x]? := fun x hx => Below.heap_setCell w4 _ _ x hx
              have hcm : Cm w4 b (.slice va (nn + 1) vc) (cs0 ++ (cs ++ [(p, p + n)])) := ⟨by rw [hlen, hfl]; exact V2.out, hne⟩
              refine ⟨p + n, f', cs ++ [(p, p + n)], .slice va (nn + 1) vc, by have := H9.out.1; have := T4.out; omega, U6.out, rfl, by have := H2.out; have := U4.out; have := T4.out; have := U6.out; omega, ⟨?_, U6.out, HZ.out⟩, hcm.keep (fun x _ hx => hkk x fun e => hne (by rw [hx, e])), by rw [hlen]; have := H5.out; have := U4.out; have := T4.out; omega, ?_, ?_⟩
              · have := heap_setCell_same w4 b 3 _ _ (.slice va (nn + 1) vc) (V5.out.trans U1.out.1)
                simpa using this
              · refine U3.out.trans ⟨V3.out.os.trans V7.out.1.symm, V3.out.tape.trans V7.out.2.1.symm, V3.out.output.trans V7.out.2.2.symm, ?_, fun x hx hxb hxc => ?_, ?_⟩
                · have h1 := V3.out.size
                  have h2 := V6.out.1
                  simp
                  omega
                · rw [hkk x hxb, V3.out.block x (by have := V6.out.1; omega) (fun e => hxc e.symm)]
                  exact V6.out.2 x hx
                · rcases V4.out with e | ⟨e, _⟩
                  · exact .inr ⟨_, e, by rw [V6.out.1]; omega⟩
                  · exact .inl e
              · rw [U5.out, LX.PR.add_add]
end Go.Proofs.YtnkahlloahgifaaGreatDoor.Lx
