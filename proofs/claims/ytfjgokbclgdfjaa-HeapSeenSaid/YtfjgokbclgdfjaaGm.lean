/- The operations, on a heap that is well. -/
import Derived.Test.YtfjgokbclgdfjaaInv7
set_option linter.unusedSimpArgs false
set_option linter.unusedVariables false
namespace Go.Proofs.Ytfjgokbclgdfjaa
open Go.RowKit HM

/-- The heap lies in memory, and is well; since w0 no block of before has changed. -/
structure Gm (w0 w : World) (ρ : Nat → Nat) (A : Ad) (s : S) : Prop where
  rep : Rep w ρ A s
  wf : WF s
  bd : Bd s
  ph : s.phase ≤ 2
  ch : Ch Mine (fun _ => 0) ρ w0 w

theorem Gm.frame {w0 w w' : World} {ρ ρ' : Nat → Nat} {A : Ad} {s : S} (h : Gm w0 w ρ A s) (c : Ch (fun _ => False) ρ ρ' w w') : Gm w0 w' ρ' A s :=
  ⟨h.rep.frame c (fun _ h => h.elim), h.wf, h.bd, h.ph, h.ch.trans (c.mono fun _ h => h.elim)⟩

theorem Gm.alloc {w0 w : World} {ρ : Nat → Nat} {A : Ad} {s : S} (h : Gm w0 w ρ A s) (o : Obj) : Gm w0 (w.alloc o) ρ A s := h.frame ((Ch.refl h.rep.rho).alloc o)
theorem Gm.drewN {w0 w : World} {ρ : Nat → Nat} {A : Ad} {s : S} (h : Gm w0 w ρ A s) (k : Nat) : Gm w0 (w.drewN k) ρ A s := h.frame ((Ch.refl h.rep.rho).drewN k)

/-- A block that is none of ours, with what it has. -/
structure Loc (w : World) (ρ : Nat → Nat) (b : Nat) (o : Obj) : Prop where
  at' : w.heap[b]? = some o
  r0 : ρ b = 0

theorem Loc.keep {w w' : World} {ρ ρ' : Nat → Nat} {b : Nat} {o : Obj} (h : Loc w ρ b o) (c : Ch Mine ρ ρ' w w') : Loc w' ρ' b o :=
  ⟨c.keep h.at' (by rw [h.r0]; simp [Mine]), (c.keepRole h.at').trans h.r0⟩

theorem Gm.loc {w0 w : World} {ρ : Nat → Nat} {A : Ad} {s : S} (h : Gm w0 w ρ A s) (o : Obj) : Loc (w.alloc o) ρ w.heap.size o := ⟨heap_alloc_new w o, h.rep.rho _ (Nat.le_refl _)⟩

theorem made_handles (s : S) (tag : Int) (ws : List W) : (s.made tag ws).handles = handIn s.handles s.objs.length := by
  unfold S.made S.give
  rw [(shades_same ws _).2.2.2.2.2.1]
  rfl

theorem give_facts (s : S) (i : Nat) : (s.give i).room = s.room ∧ (s.give i).objs.length = s.objs.length ∧ (s.give i).epoch = s.epoch ∧ (s.give i).phase = s.phase := by
  have hs := shade_same s i
  exact ⟨hs.1, hs.2.2.2.2.2.2.2.2.2.2.2.1, hs.2.2.2.2.2.2.1, hs.2.2.2.2.2.2.2.2.1⟩

theorem made_facts (s : S) (tag : Int) (ws : List W) : (s.made tag ws).room = s.room ∧ (s.made tag ws).objs.length = s.objs.length + 1 ∧ (s.made tag ws).epoch = s.epoch ∧ (s.made tag ws).phase = s.phase := by
  have hg := give_facts ((s.place (s.newO tag ws)).shades ws) s.objs.length
  have hs := shades_same ws (s.place (s.newO tag ws))
  unfold S.made
  refine ⟨hg.1.trans hs.1, hg.2.1.trans (hs.2.2.2.2.2.2.2.2.2.2.2.1.trans (by simp [S.place])), hg.2.2.1.trans hs.2.2.2.2.2.2.1, hg.2.2.2.trans hs.2.2.2.2.2.2.2.2.1⟩

theorem bd_give {s : S} (h : Bd s) (hh : s.handles.length < 1000000) (i : Nat) : Bd (s.give i) := by
  have f := give_facts s i
  refine ⟨by rw [f.1]; exact h.room, ?_, by rw [f.2.1]; exact h.os, by rw [f.2.2.1]; exact h.ep⟩
  show (handIn s.handles i).length ≤ _
  rw [handIn_length]
  split <;> omega

theorem bd_made {s : S} (h : Bd s) (hh : s.handles.length < 1000000) (ho : s.objs.length < 1000000) (tag : Int) (ws : List W) : Bd (s.made tag ws) := by
  have f := made_facts s tag ws
  refine ⟨by rw [f.1]; exact h.room, ?_, by rw [f.2.1]; omega, by rw [f.2.2.1]; exact h.ep⟩
  rw [made_handles, handIn_length]
  split <;> omega

/-- Makes a cell, where it fits at once. -/
theorem gm_cell {w0 w : World} {ρ : Nat → Nat} {A : Ad} {s : S} (h : Gm w0 w ρ A s) (hhl : s.handles.length < 60000) (hol : s.objs.length < 1000000) {fs : List (Bool × Int)} {ws : List W} {g off n : Nat} (hf : Fields w s fs ws g off n) (hn : n ≤ 16)
    (ad : Option Addr) (cap : Nat) (had : 0 < n → ad = some ⟨g, off, none⟩) (tag : Int) (htag : 0 ≤ tag ∧ tag ≤ 9223372036854775807) (hfit : s.fitsB (1 + n)) :
    Calls Try.prog 17 #[.pointer (some ⟨A.hb, 0, none⟩), .int .i64 tag, .slice ad n cap] w fun e w' => e = .returned (.tuple #[.int .i64 (slotOf s.handles), .int .i64 0]) ∧ ∃ ρ' ob, Gm w0 w' ρ' (A.more ob) (s.made tag ws) ∧ Ch Mine ρ ρ' w w' := by
  have hal : ∀ j, W.obj j ∈ ws → s.Alive j := fun q hq => by
    obtain ⟨p, hp⟩ := List.getElem?_of_mem hq
    obtain ⟨⟨r, m⟩, hfj⟩ : ∃ f, fs[p]? = some f := ⟨_, List.getElem?_eq_getElem (by rw [hf.fn, ← hf.wn]; exact (List.getElem?_eq_some_iff.1 hp).1)⟩
    rcases hf.words p r m hfj with ⟨_, h2⟩ | ⟨_, i, h2, h3⟩
    · rw [hp] at h2; simp at h2
    · rw [hp] at h3
      simp only [Option.some.injEq, W.obj.injEq] at h3
      subst h3
      obtain ⟨kk, _, hk⟩ := atH_some h2
      exact h.wf.hand kk q hk
  refine cell_gen h.rep h.wf h.bd hhl hf hn ad cap had tag htag.1 _ _ (fun w' => ∃ ρ' ob, Gm w0 w' ρ' (A.more ob) (s.made tag ws) ∧ Ch Mine ρ ρ' w w') (fun w1 g1 hpre hc => ?_)
  refine (make_now hpre tag n hfit).mono ?_
  rintro e w' ⟨rfl, ρ', ob, hr, hc2⟩
  have hc3 : Ch Mine ρ ρ' w w' := (hc.mono fun _ h => h.elim).trans hc2
  refine ⟨rfl, ρ', ob, ⟨hr, wf_made h.wf h.ph hal ⟨by omega, htag.2⟩ (fun e => absurd htag.1 (by omega)) (by rw [hf.wn]; exact hn) (by rw [hf.wn]; exact hfit), bd_made h.bd (by omega) hol _ _, by rw [(made_facts s tag ws).2.2.2]; exact h.ph, h.ch.trans hc3⟩, hc3⟩

/-- Makes a cell: it is full, after Collect too. -/
theorem gm_cell_full {w0 w : World} {ρ : Nat → Nat} {A : Ad} {s : S} (h : Gm w0 w ρ A s) (hhl : s.handles.length < 60000) (hep : s.epoch < 100000000) {fs : List (Bool × Int)} {ws : List W} {g off n : Nat} (hf : Fields w s fs ws g off n) (hn : n ≤ 16)
    (ad : Option Addr) (cap : Nat) (had : 0 < n → ad = some ⟨g, off, none⟩) (tag : Int) (htag : 0 ≤ tag) (hfit : ¬ s.fitsB (1 + n)) (hfit2 : ¬ s.collect.fitsB (1 + n)) :
    Calls Try.prog 17 #[.pointer (some ⟨A.hb, 0, none⟩), .int .i64 tag, .slice ad n cap] w fun e w' => e = .returned (.tuple #[.int .i64 0, .int .i64 191]) ∧ ∃ ρ', Gm w0 w' ρ' A s.collect ∧ Ch Mine ρ ρ' w w' := by
  refine cell_gen h.rep h.wf h.bd hhl hf hn ad cap had tag htag _ _ (fun w' => ∃ ρ', Gm w0 w' ρ' A s.collect ∧ Ch Mine ρ ρ' w w') (fun w1 g1 hpre hc => ?_)
  refine (make_full hpre h.ph hep tag n hfit hfit2).mono ?_
  rintro e w' ⟨rfl, ρ', hr, hc2⟩
  have hc3 : Ch Mine ρ ρ' w w' := (hc.mono fun _ h => h.elim).trans hc2
  obtain ⟨a1, a2, _, _⟩ := wf_collect h.wf h.ph
  exact ⟨rfl, ρ', ⟨hr, a1, bd_collect h.bd h.wf h.ph hep, by omega, h.ch.trans hc3⟩, hc3⟩

/-- Makes a modifiable, where it fits at once. -/
theorem gm_mod {w0 w : World} {ρ : Nat → Nat} {A : Ad} {s : S} (h : Gm w0 w ρ A s) (hhl : s.handles.length < 60000) (hol : s.objs.length < 1000000) (r : Bool) (m : Int) (x : W) (hx : slotW s.handles r m = some x) (hfit : s.fitsB (1 + 1)) :
    Calls Try.prog 44 #[.pointer (some ⟨A.hb, 0, none⟩), slotV r m] w fun e w' => e = .returned (.tuple #[.int .i64 (slotOf s.handles), .int .i64 0]) ∧ ∃ ρ' ob, Gm w0 w' ρ' (A.more ob) (s.made (-1) [x]) ∧ Ch Mine ρ ρ' w w' := by
  have hal : ∀ j, W.obj j ∈ [x] → s.Alive j := fun q hq => by
    simp at hq
    obtain ⟨kk, hk⟩ := slotW_ref (q := q) (by rw [hx, ← hq])
    exact h.wf.hand kk q hk
  refine mod_gen h.rep h.wf h.bd hhl r m x hx _ _ (fun w' => ∃ ρ' ob, Gm w0 w' ρ' (A.more ob) (s.made (-1) [x]) ∧ Ch Mine ρ ρ' w w') (fun w1 g1 hpre hc => ?_)
  refine (make_now hpre (-1) 1 hfit).mono ?_
  rintro e w' ⟨rfl, ρ', ob, hr, hc2⟩
  have hc3 : Ch Mine ρ ρ' w w' := (hc.mono fun _ h => h.elim).trans hc2
  refine ⟨rfl, ρ', ob, ⟨hr, wf_made h.wf h.ph hal ⟨by omega, by omega⟩ (fun _ => rfl) (by simp) hfit, bd_made h.bd (by omega) hol _ _, by rw [(made_facts s (-1) [x]).2.2.2]; exact h.ph, h.ch.trans hc3⟩, hc3⟩

theorem gm_drop {w0 w : World} {ρ : Nat → Nat} {A : Ad} {s : S} (h : Gm w0 w ρ A s) {k i : Nat} (hk : s.handles[k]? = some (some i)) :
    Calls Try.prog 18 #[.pointer (some ⟨A.hb, 0, none⟩), .int .i64 k] w fun e w' => e = .returned (.int .i64 0) ∧ ∃ ρ', Gm w0 w' ρ' A (s.drop k) ∧ Ch Mine ρ ρ' w w' := by
  refine (drop_rep h.rep hk (by have := h.bd.hs; omega)).mono ?_
  rintro e w' ⟨rfl, ρ', hr, hc⟩
  exact ⟨rfl, ρ', ⟨hr, wf_drop h.wf k, ⟨h.bd.room, by simpa [S.drop] using h.bd.hs, h.bd.os, h.bd.ep⟩, h.ph, h.ch.trans hc⟩, hc⟩

theorem gm_collect {w0 w : World} {ρ : Nat → Nat} {A : Ad} {s : S} (h : Gm w0 w ρ A s) (hep : s.epoch < 100000000) :
    Calls Try.prog 23 #[.pointer (some ⟨A.hb, 0, none⟩)] w fun e w' => e = .returned (.tuple #[]) ∧ ∃ ρ', Gm w0 w' ρ' A s.collect ∧ Ch Mine ρ ρ' w w' := by
  refine (collect_rep h.rep h.wf h.bd hep h.ph).mono ?_
  rintro e w' ⟨rfl, ρ', hr, hc⟩
  obtain ⟨a1, a2, _, _⟩ := wf_collect h.wf h.ph
  exact ⟨rfl, ρ', ⟨hr, a1, bd_collect h.bd h.wf h.ph hep, by omega, h.ch.trans hc⟩, hc⟩

theorem Gm.given {w0 w w' : World} {ρ ρ' : Nat → Nat} {A : Ad} {s : S} (h : Gm w0 w ρ A s) (hhl : s.handles.length < 60000) {i : Nat} (hi : s.Alive i) (hr : Rep w' ρ' A (s.give i)) (hc : Ch Mine ρ ρ' w w') : Gm w0 w' ρ' A (s.give i) :=
  ⟨hr, wf_give h.wf h.ph hi, bd_give h.bd (by omega) i, by rw [(give_facts s i).2.2.2]; exact h.ph, h.ch.trans hc⟩

/-- Where an alive object lies. -/
theorem Gm.place {w0 w : World} {ρ : Nat → Nat} {A : Ad} {s : S} (h : Gm w0 w ρ A s) {i : Nat} {o : O} (ho : s.objs[i]? = some o) (hd : s.done ≤ o.epoch) : o.space ≤ 1 ∧ o.place + o.size ≤ s.room ∧ o.size ≤ 17 := by
  have hloc := h.wf.loc i o ho hd
  have hcur := h.wf.cur
  have hroom := h.wf.room
  refine ⟨?_, ?_, h.wf.size17 ho⟩
  · by_cases hb : s.Black i o
    · have := (hloc.1 hb).1; omega
    · exact (hloc.2 hb).1
  · by_cases hb : s.Black i o
    · have := (hloc.1 hb).2; omega
    · exact (hloc.2 hb).2.2

/-- A field that is an object. -/
theorem gm_field_obj {w0 w : World} {ρ : Nat → Nat} {A : Ad} {s : S} (h : Gm w0 w ρ A s) (hhl : s.handles.length < 60000) {k i : Nat} (hk : s.handles[k]? = some (some i)) {o : O} (ho : s.objs[i]? = some o) (ht : o.tag ≠ -1) {j q : Nat} (hx : o.ws[1 + j]? = some (.obj q)) :
    Calls Try.prog 25 #[.pointer (some ⟨A.hb, 0, none⟩), .int .i64 k, .int .i64 j] w fun e w' => e = .returned (.tuple #[slotV true (slotOf s.handles), .int .i64 0]) ∧ ∃ ρ', Gm w0 w' ρ' A (s.give q) ∧ Ch Mine ρ ρ' w w' := by
  obtain ⟨o', ho', hd⟩ := h.wf.hand k i hk
  rw [ho] at ho'
  obtain rfl := Option.some.inj ho'
  obtain ⟨p1, p2, p3⟩ := h.place ho hd
  have hq : s.Alive q := h.wf.refs i o ho hd q (List.mem_of_getElem? hx)
  obtain ⟨oq, hq1, hq2⟩ := hq
  refine (field_gen (s' := s.give q) h.rep hk (by omega) ho hd ht p3 p1 p2 h.bd.room hx 0 (some ⟨A.obj q, 0, none⟩) rfl rfl true (slotOf s.handles) (fun w1 hc => ?_)).mono ?_
  · refine (slot_obj (h.rep.frame hc (fun _ h => h.elim)) hq1 hq2 (by have := grey_bound h.wf; have := h.bd.os; omega) hhl 0).mono ?_
    rintro e w' ⟨rfl, ρ', hr, hc2⟩
    exact ⟨rfl, ρ', hr, hc2⟩
  · rintro e w' ⟨rfl, ρ', hr, hc⟩
    exact ⟨rfl, ρ', h.given hhl ⟨oq, hq1, hq2⟩ hr hc, hc⟩

/-- A field that is an integer. -/
theorem gm_field_num {w0 w : World} {ρ : Nat → Nat} {A : Ad} {s : S} (h : Gm w0 w ρ A s) (hhl : s.handles.length < 60000) {k i : Nat} (hk : s.handles[k]? = some (some i)) {o : O} (ho : s.objs[i]? = some o) (ht : o.tag ≠ -1) {j : Nat} {m : Int} (hx : o.ws[1 + j]? = some (.num m)) :
    Calls Try.prog 25 #[.pointer (some ⟨A.hb, 0, none⟩), .int .i64 k, .int .i64 j] w fun e w' => e = .returned (.tuple #[slotV false m, .int .i64 0]) ∧ ∃ ρ', Gm w0 w' ρ' A s ∧ Ch Mine ρ ρ' w w' := by
  obtain ⟨o', ho', hd⟩ := h.wf.hand k i hk
  rw [ho] at ho'
  obtain rfl := Option.some.inj ho'
  obtain ⟨p1, p2, p3⟩ := h.place ho hd
  refine (field_gen (s' := s) h.rep hk (by omega) ho hd ht p3 p1 p2 h.bd.room hx m none rfl rfl false m (fun w1 hc => ?_)).mono ?_
  · refine (slot_num hc.fresh _ m).mono ?_
    rintro e w' ⟨rfl, hc2⟩
    exact ⟨rfl, ρ, h.rep.frame (hc.trans hc2) (fun _ h => h.elim), hc2.mono fun _ h => h.elim⟩
  · rintro e w' ⟨rfl, ρ', hr, hc⟩
    exact ⟨rfl, ρ', ⟨hr, h.wf, h.bd, h.ph, h.ch.trans hc⟩, hc⟩

/-- The content of a modifiable, an object. -/
theorem gm_get_obj {w0 w : World} {ρ : Nat → Nat} {A : Ad} {s : S} (h : Gm w0 w ρ A s) (hhl : s.handles.length < 60000) {k i : Nat} (hk : s.handles[k]? = some (some i)) {o : O} (ho : s.objs[i]? = some o) (ht : o.tag = -1) {q : Nat} (hx : o.ws[1]? = some (.obj q)) :
    Calls Try.prog 45 #[.pointer (some ⟨A.hb, 0, none⟩), .int .i64 k] w fun e w' => e = .returned (.tuple #[slotV true (slotOf s.handles), .int .i64 0]) ∧ ∃ ρ', Gm w0 w' ρ' A (s.give q) ∧ Ch Mine ρ ρ' w w' := by
  obtain ⟨o', ho', hd⟩ := h.wf.hand k i hk
  rw [ho] at ho'
  obtain rfl := Option.some.inj ho'
  obtain ⟨p1, p2, p3⟩ := h.place ho hd
  have hq : s.Alive q := h.wf.refs i o ho hd q (List.mem_of_getElem? hx)
  obtain ⟨oq, hq1, hq2⟩ := hq
  refine (get_gen (s' := s.give q) h.rep hk (by omega) ho hd ht p3 p1 p2 h.bd.room hx 0 (some ⟨A.obj q, 0, none⟩) rfl rfl true (slotOf s.handles) (fun w1 hc => ?_)).mono ?_
  · refine (slot_obj (h.rep.frame hc (fun _ h => h.elim)) hq1 hq2 (by have := grey_bound h.wf; have := h.bd.os; omega) hhl 0).mono ?_
    rintro e w' ⟨rfl, ρ', hr, hc2⟩
    exact ⟨rfl, ρ', hr, hc2⟩
  · rintro e w' ⟨rfl, ρ', hr, hc⟩
    exact ⟨rfl, ρ', h.given hhl ⟨oq, hq1, hq2⟩ hr hc, hc⟩

theorem gm_set {w0 w : World} {ρ : Nat → Nat} {A : Ad} {s : S} (h : Gm w0 w ρ A s) (hhl : s.handles.length < 60000) {k i : Nat} (hk : s.handles[k]? = some (some i)) {o : O} (ho : s.objs[i]? = some o) (ht : o.tag = -1) (r : Bool) (m : Int) (x : W) (hx : slotW s.handles r m = some x) :
    Calls Try.prog 47 #[.pointer (some ⟨A.hb, 0, none⟩), .int .i64 k, slotV r m] w fun e w' => e = .returned (.int .i64 0) ∧ ∃ ρ', Gm w0 w' ρ' A (s.setC i x) ∧ Ch Mine ρ ρ' w w' := by
  obtain ⟨o', ho', hd⟩ := h.wf.hand k i hk
  rw [ho] at ho'
  obtain rfl := Option.some.inj ho'
  have hal : ∀ j, x = .obj j → s.Alive j := fun j e => by
    subst e
    obtain ⟨jj, hj⟩ := slotW_ref hx
    exact h.wf.hand jj j hj
  have hs := shadeW_same s x
  refine (set_rep h.rep h.wf h.bd h.ph hhl hk ho hd ht r m x hx).mono ?_
  rintro e w' ⟨rfl, ρ', hr, hc⟩
  refine ⟨rfl, ρ', ⟨hr, wf_setC h.wf h.ph ho hd ht hal, ⟨?_, ?_, ?_, ?_⟩, ?_, h.ch.trans hc⟩, hc⟩
  · show (s.shadeW x).room ≤ _; rw [hs.1]; exact h.bd.room
  · show (s.shadeW x).handles.length ≤ _; rw [hs.2.2.2.2.2.1]; exact h.bd.hs
  · show ((s.shadeW x).objs.modify i _).length ≤ _; rw [List.length_modify, hs.2.2.2.2.2.2.2.2.2.2.2.1]; exact h.bd.os
  · show (s.shadeW x).epoch ≤ _; rw [hs.2.2.2.2.2.2.1]; exact h.bd.ep
  · show (s.shadeW x).phase ≤ _; rw [hs.2.2.2.2.2.2.2.2.1]; exact h.ph
end Go.Proofs.Ytfjgokbclgdfjaa
