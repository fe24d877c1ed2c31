/- A cycle ends; what it leaves. -/
import Derived.Test.YtfjgokbclgdfjaaInv3
namespace Go.Proofs.Ytfjgokbclgdfjaa.HM

/-! ### What the program sees -/
def S.conts (s : S) : List (Int × List W) := s.objs.map fun o => (o.tag, o.ws)

structure Same (s t : S) : Prop where
  room : t.room = s.room
  handles : t.handles = s.handles
  weak : t.weak = s.weak
  conts : t.conts = s.conts

theorem Same.refl (s : S) : Same s s := ⟨rfl, rfl, rfl, rfl⟩
theorem Same.trans {s t u : S} (h : Same s t) (k : Same t u) : Same s u := ⟨k.room.trans h.room, k.handles.trans h.handles, k.weak.trans h.weak, k.conts.trans h.conts⟩

theorem same_shade (s : S) (i : Nat) : Same s (s.shade i) := by
  have hs := shade_same s i
  refine ⟨hs.1, hs.2.2.2.2.2.1, hs.2.2.2.2.2.2.2.2.2.2.1, ?_⟩
  unfold S.conts
  apply List.ext_getElem?
  intro j
  rw [List.getElem?_map, List.getElem?_map, shade_obj]
  split
  · cases s.objs[j]? <;> rfl
  · rfl

theorem same_shadeW (s : S) (x : W) : Same s (s.shadeW x) := by
  cases x with
  | num n => exact Same.refl s
  | obj i => exact same_shade s i

theorem same_shades (l : List W) : ∀ s : S, Same s (s.shades l) := by
  induction l with
  | nil => intro s; exact Same.refl s
  | cons x r ih => intro s; exact (same_shadeW s x).trans (ih (s.shadeW x))

theorem same_moved {s : S} {i : Nat} {o : O} {rest : List Nat} (ho : s.objs[i]? = some o) : Same s (moved s i o rest) := by
  refine ⟨rfl, rfl, rfl, ?_⟩
  have hil : i < s.objs.length := (List.getElem?_eq_some_iff.1 ho).1
  unfold S.conts moved
  apply List.ext_getElem?
  intro j
  rw [List.getElem?_map, List.getElem?_map, List.getElem?_set]
  by_cases hij : i = j
  · subst hij; rw [if_pos rfl, if_pos hil, ho]; rfl
  · rw [if_neg hij]

theorem same_trace (s : S) : Same s s.trace.1 := by
  cases hg : s.grey with
  | nil => unfold S.trace; rw [hg]; exact Same.refl s
  | cons i rest =>
    cases ho : s.objs[i]? with
    | none => unfold S.trace; rw [hg]; simp only [ho]; exact Same.refl s
    | some o => rw [trace_some_eq hg ho]; exact (same_moved (rest := rest) ho).trans (same_shades _ _)

theorem same_roots (s : S) : Same s s.roots.1 := by
  rcases roots_cases s with ⟨k, i, _, _, he⟩ | ⟨_, he⟩
  · rw [he]; have := same_shade s i; exact ⟨this.room, this.handles, this.weak, this.conts⟩
  · rw [he]; exact ⟨rfl, rfl, rfl, rfl⟩

theorem trace_facts (s : S) : s.trace.1.phase = s.phase ∧ s.trace.1.epoch = s.epoch ∧ s.trace.1.done = s.done ∧ (s.trace.2 = false → s.trace.1 = s) := by
  cases hg : s.grey with
  | nil => unfold S.trace; rw [hg]; exact ⟨rfl, rfl, rfl, fun _ => rfl⟩
  | cons i rest =>
    cases ho : s.objs[i]? with
    | none => unfold S.trace; rw [hg]; simp [ho]
    | some o =>
      rw [trace_some_eq hg ho]
      have hs := shades_same o.ws.tail (moved s i o rest)
      exact ⟨hs.2.2.2.2.2.2.2.2.1, hs.2.2.2.2.2.2.1, hs.2.2.2.2.2.2.2.1, by simp⟩

theorem roots_facts (s : S) : s.roots.1.phase = s.phase ∧ s.roots.1.epoch = s.epoch ∧ s.roots.1.done = s.done := by
  rcases roots_cases s with ⟨k, i, _, _, he⟩ | ⟨_, he⟩
  · rw [he]; have hs := shade_same s i; exact ⟨hs.2.2.2.2.2.2.2.2.1, hs.2.2.2.2.2.2.1, hs.2.2.2.2.2.2.2.1⟩
  · rw [he]; exact ⟨rfl, rfl, rfl⟩

/-! ### Steps -/
theorem trace_false {s : S} (h : WF s) (he : s.trace.2 = false) : s.grey = [] := by
  cases hg : s.grey with
  | nil => rfl
  | cons i rest =>
    obtain ⟨o, ho, _⟩ := h.greyE i (by rw [hg]; simp)
    rw [trace_some_eq hg ho] at he
    simp at he

theorem wf_phase3 {s : S} (h : WF s) (hp : s.phase = 2) (hg : s.grey = []) : WF ({ s with phase := 3 } : S) :=
  ⟨h.cur, by simp, h.cursor, by simp, fun _ => h.busy (by omega), fun _ => hg, h.used, h.epo, h.hand, h.refs, h.shape, h.weak, h.greyN, h.greyE, h.loc, h.disj, h.bump, h.stay, h.room, fun _ => h.tri (by omega),
   fun j i hj => ⟨by simp, fun _ => (h.roots j i hj).2 (by omega)⟩⟩

theorem step2_cases {s : S} (h : WF s) (hp : s.phase = 2) : (s.trace.2 = true ∧ s.step2 = (s.trace.1, false) ∧ WF s.trace.1 ∧ s.trace.1.phase = 2) ∨
    (s.grey = [] ∧ s.step2 = (({ s with phase := 3 } : S).finish, true) ∧ WF ({ s with phase := 3 } : S)) := by
  unfold S.step2
  have hf := trace_facts s
  have hw := wf_trace h ⟨by omega, by omega⟩
  cases ht : s.trace with
  | mk t b =>
    rw [ht] at hf hw
    cases b with
    | true => exact .inl ⟨rfl, rfl, hw, by rw [hf.1]; exact hp⟩
    | false =>
      have hg := trace_false h (by rw [ht])
      have : t = s := hf.2.2.2 rfl
      subst this
      exact .inr ⟨hg, rfl, wf_phase3 h hp hg⟩

/-! ### How long it takes -/
def S.cntOf (s : S) (i : Nat) : Nat := match s.objs[i]? with | some o => if s.done ≤ o.epoch ∧ ¬ s.Black i o then 1 else 0 | none => 0
def S.cnt (s : S) : Nat := rsum s.objs.length s.cntOf
def S.mu (s : S) : Nat := if s.phase = 0 then 0 else (if s.phase = 1 then s.handles.length - s.cursor else 0) + s.cnt + 1

theorem cnt_shade {s : S} (h : WF s) {i : Nat} (hi : s.Alive i) : (s.shade i).cnt = s.cnt := by
  have hs := shade_same s i
  unfold S.cnt
  rw [hs.2.2.2.2.2.2.2.2.2.2.2.1]
  refine rsum_congr fun j _ => ?_
  unfold S.cntOf
  cases hj : (s.shade i).objs[j]? with
  | none =>
    cases hj' : s.objs[j]? with
    | none => rfl
    | some o =>
      obtain ⟨o', ho' | hbad⟩ := shade_some (i := i) hj'
      · rw [hj] at ho'; simp at ho'
      · have := h.epo j o hj'; omega
  | some o' =>
    obtain ⟨o, ho, _⟩ := shade_get hj
    simp only [ho, shade_black ho hj, hs.2.2.2.2.2.2.2.1, alive_iff_of ho hj (h.epo j o ho) hi]

theorem cnt_shades (l : List W) : ∀ {s : S}, WF s → (∀ j, W.obj j ∈ l → s.Alive j) → 0 < s.phase ∧ s.phase ≤ 2 → (s.shades l).cnt = s.cnt := by
  induction l with
  | nil => intro s _ _ _; rfl
  | cons x r ih =>
    intro s h hl hb
    have e := ih (s := s.shadeW x) (wf_shadeW h (fun j e => hl j (by simp [e])) hb) (fun j hj => alive_shadeW (hl j (by simp [hj])) h.doneLe) (by rw [(shadeW_same s x).2.2.2.2.2.2.2.2.1]; exact hb)
    show ((s.shadeW x).shades r).cnt = s.cnt
    rw [e]
    cases x with
    | num n => rfl
    | obj i => exact cnt_shade h (hl i (by simp))

theorem cnt_moved {s : S} (h : WF s) {i : Nat} {o : O} {rest : List Nat} (hg : s.grey = i :: rest) (ho : s.objs[i]? = some o) (he : o.epoch = s.epoch) : (moved s i o rest).cnt + 1 = s.cnt := by
  have hil : i < s.objs.length := (List.getElem?_eq_some_iff.1 ho).1
  have hnd := h.greyN
  rw [hg, List.nodup_cons] at hnd
  have hd := h.doneLe
  have hself : (moved s i o rest).objs[i]? = some { o with space := s.cur, place := s.bump } := by simp [moved, hil]
  have hother : ∀ {j : Nat}, j ≠ i → (moved s i o rest).objs[j]? = s.objs[j]? := fun {j} hj => by simp only [moved, List.getElem?_set]; rw [if_neg (fun e => hj e.symm)]
  have hu := rsum_update (n := s.objs.length) (f := s.cntOf) (g := (moved s i o rest).cntOf) hil (fun j _ hj => by
    unfold S.cntOf
    rw [hother hj]
    cases s.objs[j]? with
    | none => rfl
    | some p =>
      have : (moved s i o rest).Black j p ↔ s.Black j p := by
        unfold S.Black
        show p.epoch = s.epoch ∧ j ∉ rest ↔ _
        rw [hg]; simp [hj]
      simp only [this]; rfl)
  have e1 : s.cntOf i = 1 := by
    unfold S.cntOf; rw [ho]; simp only
    rw [if_pos ⟨by omega, by unfold S.Black; rw [hg]; simp⟩]
  have e2 : (moved s i o rest).cntOf i = 0 := by
    unfold S.cntOf; rw [hself]; simp only
    rw [if_neg (fun hh => hh.2 ⟨he, hnd.1⟩)]
  rw [e1, e2] at hu
  have hl : (moved s i o rest).objs.length = s.objs.length := by simp [moved]
  unfold S.cnt
  rw [hl]
  omega

theorem cnt_trace {s : S} (h : WF s) (hp : 0 < s.phase ∧ s.phase ≤ 2) (ht : s.trace.2 = true) : s.trace.1.cnt + 1 = s.cnt := by
  cases hg : s.grey with
  | nil => unfold S.trace at ht; rw [hg] at ht; simp at ht
  | cons i rest =>
    obtain ⟨o, ho, he⟩ := h.greyE i (by rw [hg]; simp)
    rw [trace_some_eq hg ho]
    obtain ⟨h1, h2, h3⟩ := moved_shades (i := i) (o := o) o.ws.tail hg ho he
    show ((moved s i o rest).shades o.ws.tail).cnt + 1 = s.cnt
    have hoa : s.done ≤ o.epoch := by have := h.doneLe; omega
    have hal : ∀ j, W.obj j ∈ o.ws.tail → s.Alive j := fun j hj => h.refs i o ho hoa j (List.mem_of_mem_tail hj)
    have hw : WF (s.shades o.ws.tail) := wf_shades o.ws.tail h hal hp
    have hs := shades_same o.ws.tail s
    rw [h1, cnt_moved hw h3 h2 (by rw [hs.2.2.2.2.2.2.1]; exact he), cnt_shades o.ws.tail h hal hp]

theorem mu_step2 {s : S} (h : WF s) (hp : s.phase = 2) : s.step2.1.mu < s.cnt + 1 := by
  rcases step2_cases h hp with ⟨ht, he, hw, hph⟩ | ⟨hg, he, hw⟩
  · rw [he]
    have := cnt_trace h ⟨by omega, by omega⟩ ht
    unfold S.mu
    rw [hph]
    simp
    omega
  · rw [he]
    simp [S.mu, S.finish]

theorem wf_step {s : S} (h : WF s) (hp : s.phase ≤ 2) : WF s.step.1 ∧ s.step.1.phase ≤ 2 ∧ Same s s.step.1 ∧ s.step.1.epoch = s.epoch ∧ (s.phase ≠ 0 → s.step.1.mu < s.mu) ∧ (s.step.2 = true → s.step.1.phase = 0) ∧ (s.phase ≠ 0 → s.step.2 = false → s.step.1.phase ≠ 0) := by
  have fin : ∀ {t : S}, WF t → t.phase = 2 → WF t.step2.1 ∧ t.step2.1.phase ≤ 2 ∧ Same t t.step2.1 ∧ t.step2.1.epoch = t.epoch ∧ (t.step2.2 = true → t.step2.1.phase = 0) ∧ (t.step2.2 = false → t.step2.1.phase ≠ 0) := by
    intro t ht hp2
    rcases step2_cases ht hp2 with ⟨_, he, hw, hph⟩ | ⟨_, he, hw⟩
    · rw [he]; exact ⟨hw, by show t.trace.1.phase ≤ 2; omega, same_trace t, (trace_facts t).2.1, by simp, fun _ => by simp [hph]⟩
    · rw [he]; exact ⟨wf_finish hw rfl, by simp [S.finish], ⟨rfl, rfl, rfl, rfl⟩, rfl, fun _ => rfl, by simp⟩
  unfold S.step
  by_cases h0 : s.phase = 0
  · rw [if_pos h0]
    exact ⟨h, hp, Same.refl s, rfl, fun hh => absurd h0 hh, by simp, fun hh => absurd h0 hh⟩
  · rw [if_neg h0]
    by_cases h1 : s.phase = 1
    · rw [if_pos h1]
      have hw := wf_roots h h1
      have hf := roots_facts s
      have hsm := same_roots s
      cases hr : s.roots with
      | mk t b =>
        rw [hr] at hw hf hsm
        cases b with
        | true =>
          simp only
          refine ⟨hw.1, by rw [hf.1]; omega, hsm, hf.2.1, fun _ => ?_, by simp, fun _ _ => by rw [hf.1]; exact h0⟩
          rcases roots_cases s with ⟨k, i, hk, _, he⟩ | ⟨_, he⟩
          · rw [hr] at he
            have ht : t = { s.shade i with cursor := s.cursor + k + 1 } := (Prod.mk.inj he).1
            have hlen : s.cursor + k < s.handles.length := (List.getElem?_eq_some_iff.1 hk).1
            have hc : t.cnt = s.cnt := by rw [ht]; exact cnt_shade h (h.hand _ i hk)
            have hs := shade_same s i
            unfold S.mu
            rw [hf.1, hc, h1, ht]
            simp [hs.2.2.2.2.2.1]
            omega
          · rw [hr] at he; simp at he
        | false =>
          simp only
          have hw2 := hw.2 rfl
          obtain ⟨f1, f2, f3, f4, f5, f6⟩ := fin hw2 rfl
          refine ⟨f1, f2, (hsm.trans (⟨rfl, rfl, rfl, rfl⟩ : Same t { t with phase := 2 })).trans f3, f4.trans hf.2.1, fun _ => ?_, f5, fun _ => f6⟩
          have hm := mu_step2 hw2 rfl
          refine Nat.lt_of_lt_of_le hm ?_
          rcases roots_cases s with ⟨k, i, hk, _, he⟩ | ⟨_, he⟩
          · rw [hr] at he; simp at he
          · rw [hr] at he
            have ht : t = { s with cursor := s.cursor + (s.handles.length - s.cursor) } := (Prod.mk.inj he).1
            have hc : ({ t with phase := 2 } : S).cnt = s.cnt := by rw [ht]; rfl
            unfold S.mu
            rw [hc, if_neg h0]
            omega
    · rw [if_neg h1]
      obtain ⟨f1, f2, f3, f4, f5, f6⟩ := fin h (by omega)
      refine ⟨f1, f2, f3, f4, fun _ => ?_, f5, fun _ => f6⟩
      have hm := mu_step2 h (by omega)
      unfold S.mu at hm ⊢
      rw [if_neg h0, if_neg h1]
      omega

def S.whole (s : S) : S := s.wholeN s.mu
def S.collect (s : S) : S := s.whole.begin.whole

theorem wholeN_idle (n : Nat) (s : S) (h : s.phase = 0) : s.wholeN n = s := by
  cases n with
  | zero => rfl
  | succ n => simp [S.wholeN, h]

theorem mu_zero {s : S} (h : s.mu = 0) : s.phase = 0 := by
  unfold S.mu at h
  split at h
  · assumption
  · omega

/-- More fuel than it takes is no other. -/
theorem wholeN_fuel : ∀ (n : Nat) {s : S}, WF s → s.phase ≤ 2 → s.mu ≤ n → s.wholeN n = s.whole := by
  have key : ∀ (n m : Nat) {s : S}, WF s → s.phase ≤ 2 → s.mu ≤ n → s.mu ≤ m → s.wholeN n = s.wholeN m := by
    intro n
    induction n with
    | zero =>
      intro m s h hp h1 h2
      have := mu_zero (Nat.le_zero.1 h1)
      rw [wholeN_idle _ _ this, wholeN_idle _ _ this]
    | succ n ih =>
      intro m s h hp h1 h2
      by_cases h0 : s.phase = 0
      · rw [wholeN_idle _ _ h0, wholeN_idle _ _ h0]
      · cases m with
        | zero => exact absurd (mu_zero (Nat.le_zero.1 h2)) h0
        | succ m =>
          obtain ⟨w1, w2, _, _, w3, _⟩ := wf_step h hp
          have := w3 h0
          simp only [S.wholeN, if_neg h0]
          exact ih m w1 w2 (by omega) (by omega)
  intro n s h hp hn
  exact key n s.mu h hp hn (Nat.le_refl _)

theorem wf_wholeN : ∀ (n : Nat) {s : S}, WF s → s.phase ≤ 2 → s.mu ≤ n → WF (s.wholeN n) ∧ (s.wholeN n).phase = 0 ∧ Same s (s.wholeN n) ∧ (s.wholeN n).epoch = s.epoch := by
  intro n
  induction n with
  | zero =>
    intro s h hp h1
    exact ⟨h, mu_zero (Nat.le_zero.1 h1), Same.refl s, rfl⟩
  | succ n ih =>
    intro s h hp h1
    by_cases h0 : s.phase = 0
    · rw [wholeN_idle _ _ h0]; exact ⟨h, h0, Same.refl s, rfl⟩
    · obtain ⟨w1, w2, w4, w5, w3, _⟩ := wf_step h hp
      have := w3 h0
      simp only [S.wholeN, if_neg h0]
      obtain ⟨a, b, c, d⟩ := ih w1 w2 (by omega)
      exact ⟨a, b, w4.trans c, d.trans w5⟩

end Go.Proofs.Ytfjgokbclgdfjaa.HM
