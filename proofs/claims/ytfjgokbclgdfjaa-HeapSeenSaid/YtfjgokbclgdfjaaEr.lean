/- What lives behind Collect: what the handles reach. No Go in sight. Objects of one size are made without an end, some of them kept: what the heap is like. No Go in sight. What is seen of a heap, with its collector or without it: the same. No Go in sight. The error ways of the operations. -/
import Derived.Test.YtfjgokbclgdfjaaGm
import Derived.Test.YtfjgokbclgdfjaaGm2
set_option linter.unusedSimpArgs false
set_option linter.unusedVariables false
namespace Go.Proofs.Ytfjgokbclgdfjaa.HM

/-- What is marked in the cycle is in K; so are the handles' objects; K's objects refer into K. -/
structure KIn (s : S) (K : Nat → Prop) : Prop where
  marks : ∀ (i : Nat) (o : O), s.objs[i]? = some o → o.epoch = s.epoch → K i
  hands : ∀ (j i : Nat), s.handles[j]? = some (some i) → K i
  refs : ∀ (i : Nat) (o : O), s.objs[i]? = some o → K i → ∀ j, W.obj j ∈ o.ws → K j

theorem kin_shade {s : S} {K : Nat → Prop} (h : KIn s K) {i : Nat} (hi : K i) : KIn (s.shade i) K := by
  have hs := shade_same s i
  refine ⟨fun j o hj he => ?_, fun j q hj => h.hands j q (by rw [← hs.2.2.2.2.2.1]; exact hj), fun j o hj hk q hq => ?_⟩
  · rw [shade_obj] at hj
    by_cases hc : s.ep i < s.epoch ∧ i = j
    · rw [← hc.2]; exact hi
    · rw [if_neg hc] at hj
      exact h.marks j o hj (by rw [he, hs.2.2.2.2.2.2.1])
  · rw [shade_obj] at hj
    by_cases hc : s.ep i < s.epoch ∧ i = j
    · rw [if_pos hc] at hj
      cases ho : s.objs[j]? with
      | none => rw [ho] at hj; simp at hj
      | some o' =>
        rw [ho] at hj
        simp at hj
        subst hj
        exact h.refs j o' ho hk q hq
    · rw [if_neg hc] at hj
      exact h.refs j o hj hk q hq

theorem kin_shades {K : Nat → Prop} (l : List W) : ∀ {s : S}, KIn s K → (∀ j, W.obj j ∈ l → K j) → KIn (s.shades l) K := by
  induction l with
  | nil => intro s h _; exact h
  | cons x r ih =>
    intro s h hl
    have h1 : KIn (s.shadeW x) K := by
      cases x with
      | num n => exact h
      | obj i => exact kin_shade h (hl i (by simp))
    exact ih (s := s.shadeW x) h1 (fun j hj => hl j (by simp [hj]))

theorem kin_cursor {s : S} {K : Nat → Prop} (h : KIn s K) (n : Nat) : KIn { s with cursor := n } K := ⟨h.marks, h.hands, h.refs⟩

theorem kin_roots {s : S} {K : Nat → Prop} (h : KIn s K) : KIn s.roots.1 K := by
  rcases roots_cases s with ⟨k, i, hk, _, e⟩ | ⟨_, e⟩
  · rw [e]; exact kin_cursor (kin_shade h (h.hands _ _ hk)) _
  · rw [e]; exact kin_cursor h _

theorem kin_moved {s : S} {K : Nat → Prop} (h : KIn s K) {i : Nat} {o : O} {rest : List Nat} (ho : s.objs[i]? = some o) : KIn (moved s i o rest) K := by
  have key : ∀ (j : Nat) (o' : O), (moved s i o rest).objs[j]? = some o' → ∃ o0, s.objs[j]? = some o0 ∧ o0.epoch = o'.epoch ∧ o0.ws = o'.ws := fun j o' hj => by
    simp only [moved, List.getElem?_set] at hj
    by_cases e : i = j
    · subst e
      rw [if_pos rfl] at hj
      split at hj
      · simp at hj; subst hj; exact ⟨o, ho, rfl, rfl⟩
      · simp at hj
    · rw [if_neg e] at hj; exact ⟨o', hj, rfl, rfl⟩
  refine ⟨fun j o' hj he => ?_, h.hands, fun j o' hj hk q hq => ?_⟩
  · obtain ⟨o0, h1, h2, _⟩ := key j o' hj
    exact h.marks j o0 h1 (h2.trans he)
  · obtain ⟨o0, h1, _, h3⟩ := key j o' hj
    exact h.refs j o0 h1 hk q (by rw [h3]; exact hq)

theorem kin_trace {s : S} {K : Nat → Prop} (hw : WF s) (h : KIn s K) : KIn s.trace.1 K := by
  cases hg : s.grey with
  | nil => rw [show s.trace = (s, false) from by simp [S.trace, hg]]; exact h
  | cons i rest =>
    obtain ⟨o, ho, he⟩ := hw.greyE i (by rw [hg]; simp)
    rw [trace_some_eq hg ho]
    have hk := h.marks i o ho he
    exact kin_shades _ (kin_moved h ho) fun j hj => h.refs i o ho hk j (List.mem_of_mem_tail hj)

theorem kin_phase {s : S} {K : Nat → Prop} (h : KIn s K) (p : Nat) : KIn { s with phase := p } K := ⟨h.marks, h.hands, h.refs⟩

theorem kin_finish {s : S} {K : Nat → Prop} (h : KIn s K) : KIn s.finish K := ⟨h.marks, h.hands, h.refs⟩

theorem kin_step2 {s : S} {K : Nat → Prop} (hw : WF s) (h : KIn s K) : KIn s.step2.1 K := by
  have ht := kin_trace hw h
  unfold S.step2
  revert ht
  cases e : s.trace with
  | mk t b =>
    intro ht
    cases b
    · exact kin_finish (kin_phase ht 3)
    · exact ht

theorem kin_step {s : S} {K : Nat → Prop} (hw : WF s) (h : KIn s K) : KIn s.step.1 K := by
  unfold S.step
  by_cases h0 : s.phase = 0
  · rw [if_pos h0]; exact h
  · rw [if_neg h0]
    by_cases h1 : s.phase = 1
    · rw [if_pos h1]
      have hr := kin_roots h
      have hwr := wf_roots hw h1
      revert hr hwr
      cases e : s.roots with
      | mk t b =>
        intro hr hwr
        cases b
        · exact kin_step2 (hwr.2 rfl) (kin_phase hr 2)
        · exact hr
    · rw [if_neg h1]; exact kin_step2 hw h

theorem kin_wholeN {K : Nat → Prop} : ∀ (n : Nat) {s : S}, WF s → s.phase ≤ 2 → KIn s K → KIn (s.wholeN n) K
  | 0, _, _, _, h => h
  | n + 1, s, hw, hp, h => by
    simp only [S.wholeN]
    by_cases h0 : s.phase = 0
    · rw [if_pos h0]; exact h
    · rw [if_neg h0]
      obtain ⟨a1, a2, _⟩ := wf_step hw hp
      exact kin_wholeN n a1 a2 (kin_step hw h)

theorem kin_collect {s : S} {K : Nat → Prop} (hw : WF s) (h0 : s.phase = 0) (hands : ∀ (j i : Nat), s.handles[j]? = some (some i) → K i)
    (refs : ∀ (i : Nat) (o : O), s.objs[i]? = some o → K i → ∀ j, W.obj j ∈ o.ws → K j) : KIn s.collect K := by
  have e : s.whole = s := wholeN_idle _ _ h0
  unfold S.collect
  rw [e]
  have hb : KIn s.begin K := by
    unfold S.begin
    rw [if_neg (by omega)]
    exact ⟨fun i o hi he => absurd (hw.epo i o hi) (by simp at he; omega), hands, refs⟩
  have hp : s.begin.phase ≤ 2 := by unfold S.begin; rw [if_neg (by omega)]; simp
  exact kin_wholeN _ (wf_begin hw) hp hb

/-! ### Sums over a list of numbers -/
theorem rsum_add {n : Nat} (f g : Nat → Nat) : rsum n (fun i => f i + g i) = rsum n f + rsum n g := by
  induction n with
  | zero => rfl
  | succ n ih => simp only [rsum, ih]; omega

theorem rsum_one {n : Nat} (k z : Nat) : rsum n (fun i => if i = k then z else 0) = if k < n then z else 0 := by
  induction n with
  | zero => rfl
  | succ n ih =>
    simp only [rsum, ih]
    by_cases h : n = k
    · subst h; simp
    · by_cases h2 : k < n
      · rw [if_pos h2, if_neg h, if_pos (by omega)]; rfl
      · rw [if_neg h2, if_neg h, if_neg (by omega)]

theorem rsum_in_le {n : Nat} (z : Nat) (ks : List Nat) : rsum n (fun i => if i ∈ ks then z else 0) ≤ ks.length * z := by
  induction ks with
  | nil => rw [rsum_zero (fun i _ => by simp)]; exact Nat.zero_le _
  | cons k r ih =>
    have h1 : rsum n (fun i => if i ∈ k :: r then z else 0) ≤ rsum n (fun i => (if i = k then z else 0) + (if i ∈ r then z else 0)) := rsum_le fun i _ => by
      by_cases a : i = k <;> by_cases b : i ∈ r <;> simp [a, b]
    rw [rsum_add, rsum_one] at h1
    have h2 : (k :: r).length * z = r.length * z + z := by rw [List.length_cons, Nat.succ_mul]
    split at h1 <;> omega

theorem rsum_in_ge {n : Nat} (z : Nat) (ks : List Nat) (hn : ks.Nodup) (hl : ∀ k, k ∈ ks → k < n) : ks.length * z ≤ rsum n (fun i => if i ∈ ks then z else 0) := by
  induction ks with
  | nil => simp
  | cons k r ih =>
    rw [List.nodup_cons] at hn
    have h1 : rsum n (fun i => (if i = k then z else 0) + (if i ∈ r then z else 0)) ≤ rsum n (fun i => if i ∈ k :: r then z else 0) := rsum_le fun i _ => by
      by_cases a : i = k
      · subst a; simp [hn.1]
      · by_cases b : i ∈ r <;> simp [a, b]
    rw [rsum_add, rsum_one, if_pos (hl k (by simp))] at h1
    have h2 := ih hn.2 (fun q hq => hl q (by simp [hq]))
    have h3 : (k :: r).length * z = r.length * z + z := by rw [List.length_cons, Nat.succ_mul]
    omega

/-- What lies in the heap, where no cycle is under way: objects of one size. -/
theorem bump_ge {s : S} (hw : WF s) {z : Nat} {ks : List Nat} (hn : ks.Nodup) (h0 : s.phase = 0) (hk : ∀ k, k ∈ ks → ∃ o, s.objs[k]? = some o ∧ s.done ≤ o.epoch ∧ o.size = z) : ks.length * z ≤ s.bump := by
  rw [hw.bump]
  refine Nat.le_trans (rsum_in_ge z ks hn fun k hkk => ?_) (rsum_le fun i hi => ?_)
  · obtain ⟨o, ho, _⟩ := hk k hkk; exact (List.getElem?_eq_some_iff.1 ho).1
  · by_cases h : i ∈ ks
    · obtain ⟨o, ho, hd, hz⟩ := hk i h
      have hb : s.Black i o := ⟨by have := hw.epo i o ho; have := (hw.idle h0).1; omega, by rw [(hw.idle h0).2]; simp⟩
      simp [h, S.szB, ho, hb, hz]
    · simp [h]

theorem bump_le {s : S} (hw : WF s) {z : Nat} {ks : List Nat} (h : KIn s (· ∈ ks)) (hk : ∀ k o, k ∈ ks → s.objs[k]? = some o → o.size = z) : s.bump ≤ ks.length * z := by
  rw [hw.bump]
  refine Nat.le_trans (rsum_le fun i hi => ?_) (rsum_in_le z ks)
  unfold S.szB
  cases ho : s.objs[i]? with
  | none => simp
  | some o =>
    by_cases hb : s.Black i o
    · have hm := h.marks i o ho hb.1
      simp [hb, hm, hk i o hm ho]
    · simp [hb]
end Go.Proofs.Ytfjgokbclgdfjaa.HM

namespace Go.Proofs.Ytfjgokbclgdfjaa.HM

theorem idle_ep {s : S} (h : WF s) (h0 : s.phase = 0) {i : Nat} {o : O} (ho : s.objs[i]? = some o) (hd : s.done ≤ o.epoch) : o.epoch = s.epoch := by
  have := h.epo i o ho; have := (h.idle h0).1; omega

theorem idle_stay {s : S} (h : WF s) (h0 : s.phase = 0) : s.stay = 0 := by
  rw [h.stay]
  refine rsum_zero fun i hi => ?_
  unfold S.szW
  cases ho : s.objs[i]? with
  | none => rfl
  | some o =>
    by_cases hd : s.done ≤ o.epoch
    · have hb : s.Black i o := ⟨idle_ep h h0 ho hd, by rw [(h.idle h0).2]; simp⟩
      simp [hb]
    · simp [hd]

theorem idle_shade {s : S} (h : WF s) (h0 : s.phase = 0) {i : Nat} (hi : s.Alive i) : s.shade i = s := by
  obtain ⟨o, ho, hd⟩ := hi
  unfold S.shade
  rw [if_neg]
  rw [ep_some ho, idle_ep h h0 ho hd]
  omega

theorem idle_shades {s : S} (h : WF s) (h0 : s.phase = 0) (l : List W) (hl : ∀ j, W.obj j ∈ l → s.Alive j) : s.shades l = s := by
  induction l with
  | nil => rfl
  | cons x r ih =>
    have e : s.shades (x :: r) = (s.shadeW x).shades r := rfl
    rw [e]
    have h1 : s.shadeW x = s := by
      cases x with
      | num n => rfl
      | obj i => exact idle_shade h h0 (hl i (by simp))
    rw [h1]
    exact ih fun j hj => hl j (by simp [hj])

/-- Where no cycle is under way a new object is laid down, and a handle to it. -/
theorem made_idle {s : S} (h : WF s) (h0 : s.phase = 0) {tag : Int} {ws : List W} (hal : ∀ j, W.obj j ∈ ws → s.Alive j) :
    s.made tag ws = { s.place (s.newO tag ws) with handles := handIn s.handles s.objs.length } := by
  unfold S.made
  rw [made_eq h hal, idle_shades h h0 ws hal]
  unfold S.give
  have e : (s.place (s.newO tag ws)).shade s.objs.length = s.place (s.newO tag ws) := by
    unfold S.shade
    rw [if_neg]
    rw [ep_some (place_new s _)]
    show ¬ s.epoch < s.epoch
    omega
  rw [e]
  rfl

structure RoomI (s : S) (n z : Nat) (ks : List Nat) : Prop where
  ph : s.phase = 0
  room : s.room = n
  nd : ks.Nodup
  hs : s.handles = ks.map some ∨ s.handles = ks.map some ++ [none]
  ob : ∀ k, k ∈ ks → ∃ o, s.objs[k]? = some o ∧ o.size = z ∧ ∀ q, W.obj q ∈ o.ws → q ∈ ks

theorem slotOf_map (ks : List Nat) : slotOf (ks.map some) = ks.length := by
  unfold slotOf
  induction ks with
  | nil => rfl
  | cons k r ih => simp [List.findIdx_cons, ih]

theorem slotOf_map_none (ks : List Nat) : slotOf (ks.map some ++ [none]) = ks.length := by
  unfold slotOf
  induction ks with
  | nil => rfl
  | cons k r ih => simp [List.findIdx_cons, ih]

theorem RoomI.slot {s : S} {n z : Nat} {ks : List Nat} (h : RoomI s n z ks) : slotOf s.handles = ks.length := by
  rcases h.hs with e | e
  · rw [e, slotOf_map]
  · rw [e, slotOf_map_none]

theorem RoomI.given {s : S} {n z : Nat} {ks : List Nat} (h : RoomI s n z ks) (i : Nat) : handIn s.handles i = (ks ++ [i]).map some := by
  unfold handIn
  rw [h.slot]
  rcases h.hs with e | e
  · rw [e]; simp
  · rw [e]; simp [List.set_append]

theorem RoomI.hand {s : S} {n z : Nat} {ks : List Nat} (h : RoomI s n z ks) {j i : Nat} (hj : s.handles[j]? = some (some i)) : i ∈ ks := by
  rcases h.hs with e | e
  · rw [e] at hj; simp at hj; exact List.mem_of_getElem? hj
  · rw [e] at hj
    have := List.mem_of_getElem? hj
    simpa using this

theorem RoomI.handle {s : S} {n z : Nat} {ks : List Nat} (h : RoomI s n z ks) {j i : Nat} (hj : ks[j]? = some i) : s.handles[j]? = some (some i) := by
  have hl : j < ks.length := (List.getElem?_eq_some_iff.1 hj).1
  rcases h.hs with e | e
  · rw [e]; simp [hj]
  · rw [e, List.getElem?_append_left (by simpa using hl)]; simp [hj]

theorem RoomI.alive {s : S} {n z : Nat} {ks : List Nat} (h : RoomI s n z ks) (hw : WF s) {k : Nat} (hk : k ∈ ks) : s.Alive k := by
  obtain ⟨j, hj⟩ := List.getElem?_of_mem hk
  exact hw.hand j k (h.handle hj)

theorem RoomI.handsLen {s : S} {n z : Nat} {ks : List Nat} (h : RoomI s n z ks) : s.handles.length ≤ ks.length + 1 := by
  rcases h.hs with e | e <;> rw [e] <;> simp

theorem RoomI.least {s : S} {n z : Nat} {ks : List Nat} (h : RoomI s n z ks) (hw : WF s) : ks.length * z ≤ s.bump := by
  refine bump_ge hw h.nd h.ph fun k hk => ?_
  obtain ⟨o, ho, hz, _⟩ := h.ob k hk
  obtain ⟨o', ho', hd⟩ := h.alive hw hk
  rw [ho] at ho'
  obtain rfl := Option.some.inj ho'
  exact ⟨o, ho, hd, hz⟩

theorem RoomI.fits {s : S} {n z : Nat} {ks : List Nat} (h : RoomI s n z ks) (hw : WF s) (hf : s.fitsB z) : (ks.length + 1) * z ≤ n := by
  unfold S.fitsB at hf
  have h1 := h.least hw
  rw [idle_stay hw h.ph, h.room] at hf
  rw [Nat.add_mul]
  omega

theorem same_get {s t : S} (h : Same s t) {i : Nat} {o : O} (ho : s.objs[i]? = some o) : ∃ o', t.objs[i]? = some o' ∧ o'.tag = o.tag ∧ o'.ws = o.ws := by
  have hc := congrArg (·[i]?) h.conts
  simp only [S.conts, List.getElem?_map, ho, Option.map_some] at hc
  cases ht : t.objs[i]? with
  | none => rw [ht] at hc; simp at hc
  | some o' =>
    rw [ht] at hc
    simp at hc
    exact ⟨o', rfl, hc.1, hc.2⟩

theorem RoomI.collect {s : S} {n z : Nat} {ks : List Nat} (h : RoomI s n z ks) (hw : WF s) : RoomI s.collect n z ks ∧ s.collect.bump ≤ ks.length * z := by
  obtain ⟨a1, a2, a3, _⟩ := wf_collect hw (by rw [h.ph]; decide)
  have hr : RoomI s.collect n z ks := by
    refine ⟨a2, by rw [a3.room]; exact h.room, h.nd, by rw [a3.handles]; exact h.hs, fun k hk => ?_⟩
    obtain ⟨o, ho, hz, hq⟩ := h.ob k hk
    obtain ⟨o', ho', _, e⟩ := same_get a3 ho
    exact ⟨o', ho', by unfold O.size at hz ⊢; rw [e]; exact hz, by rw [e]; exact hq⟩
  refine ⟨hr, bump_le a1 (kin_collect hw h.ph (fun j i hj => h.hand hj) fun i o ho hk q hq => ?_) fun k o hk ho => ?_⟩
  · obtain ⟨o', ho', _, hq'⟩ := h.ob i hk
    rw [ho] at ho'
    obtain rfl := Option.some.inj ho'
    exact hq' q hq
  · obtain ⟨o', ho', hz, _⟩ := hr.ob k hk
    rw [ho] at ho'
    obtain rfl := Option.some.inj ho'
    exact hz

theorem RoomI.full {s : S} {n z : Nat} {ks : List Nat} (h : RoomI s n z ks) (hw : WF s) (hf : ¬ s.collect.fitsB z) : n < (ks.length + 1) * z := by
  obtain ⟨hr, hb⟩ := h.collect hw
  obtain ⟨a1, a2, _⟩ := wf_collect hw (by rw [h.ph]; decide)
  unfold S.fitsB at hf
  rw [idle_stay a1 a2, hr.room] at hf
  rw [Nat.add_mul]
  omega

theorem RoomI.made {s : S} {n z : Nat} {ks : List Nat} (h : RoomI s n z ks) (hw : WF s) {tag : Int} {ws : List W} (hz : ws.length + 1 = z) (hq : ∀ q, W.obj q ∈ ws → q ∈ ks) :
    RoomI (s.made tag ws) n z (ks ++ [s.objs.length]) := by
  have hal : ∀ j, W.obj j ∈ ws → s.Alive j := fun j hj => h.alive hw (hq j hj)
  rw [made_idle hw h.ph hal]
  refine ⟨h.ph, h.room, ?_, .inl (h.given _), fun k hk => ?_⟩
  · rw [List.nodup_append]
    refine ⟨h.nd, by simp, fun a ha b hb => ?_⟩
    obtain ⟨o, ho, _⟩ := h.ob a ha
    have := (List.getElem?_eq_some_iff.1 ho).1
    simp at hb
    omega
  · rcases List.mem_append.1 hk with hk | hk
    · obtain ⟨o, ho, h1, h2⟩ := h.ob k hk
      exact ⟨o, by show (s.place _).objs[k]? = _; rw [place_old (List.getElem?_eq_some_iff.1 ho).1]; exact ho, h1, fun q hqq => List.mem_append_left _ (h2 q hqq)⟩
    · simp at hk
      subst hk
      refine ⟨s.newO tag ws, place_new s _, by simp [S.newO, O.size]; omega, fun q hqq => ?_⟩
      simp [S.newO] at hqq
      exact List.mem_append_left _ (hq q hqq)

theorem RoomI.dropped {s : S} {n z : Nat} {ks : List Nat} {k : Nat} (h : RoomI s n z (ks ++ [k])) (hs : s.handles = (ks ++ [k]).map some) (hk : ∀ q o, q ∈ ks → s.objs[q]? = some o → ∀ j, W.obj j ∈ o.ws → j ∈ ks) : RoomI (s.drop ks.length) n z ks := by
  refine ⟨h.ph, h.room, ((List.nodup_append.1 h.nd).1), .inr ?_, fun q hq => ?_⟩
  · show s.handles.set ks.length none = _
    rw [hs]
    simp [List.set_append]
  · obtain ⟨o, ho, h1, _⟩ := h.ob q (List.mem_append_left _ hq)
    exact ⟨o, ho, h1, hk q o hq ho⟩

/-- An object is made and dropped. -/
theorem RoomI.gone {s : S} {n z : Nat} {ks : List Nat} (h : RoomI s n z ks) (hw : WF s) {tag : Int} {ws : List W} (hz : ws.length + 1 = z) (hq : ∀ q, W.obj q ∈ ws → q ∈ ks) :
    RoomI ((s.made tag ws).drop ks.length) n z ks ∧ (s.made tag ws).handles[ks.length]? = some (some s.objs.length) := by
  have hal : ∀ j, W.obj j ∈ ws → s.Alive j := fun j hj => h.alive hw (hq j hj)
  have hm := h.made (tag := tag) hw hz hq
  have hh : (s.made tag ws).handles = (ks ++ [s.objs.length]).map some := by rw [made_handles]; exact h.given _
  refine ⟨hm.dropped hh fun q o hqk ho j hj => ?_, by rw [hh]; simp⟩
  rw [made_idle hw h.ph hal] at ho
  obtain ⟨o', ho', _, h2⟩ := h.ob q hqk
  have : (s.place (s.newO tag ws)).objs[q]? = some o := ho
  rw [place_old (List.getElem?_eq_some_iff.1 ho').1, ho'] at this
  obtain rfl := Option.some.inj this
  exact h2 j hj

/-- The state that a new object is laid down in: this one, or the one behind Collect. -/
theorem RoomI.next {s t : S} {n z : Nat} {ks : List Nat} (h : RoomI s n z ks) (hw : WF s) (ht : t = s ∨ t = s.collect) : RoomI t n z ks ∧ WF t ∧ t.objs.length = s.objs.length ∧ t.epoch ≤ s.epoch + 1 := by
  rcases ht with rfl | rfl
  · exact ⟨h, hw, rfl, Nat.le_succ _⟩
  · obtain ⟨a1, a2, a3, a4⟩ := wf_collect hw (by rw [h.ph]; decide)
    exact ⟨(h.collect hw).1, a1, by have := congrArg List.length a3.conts; simpa [S.conts] using this, Nat.le_of_eq a4⟩
end Go.Proofs.Ytfjgokbclgdfjaa.HM

namespace Go.Proofs.Ytfjgokbclgdfjaa
open HM

namespace HM
theorem Same.symm {s t : S} (h : Same s t) : Same t s := ⟨h.room.symm, h.handles.symm, h.weak.symm, h.conts.symm⟩

theorem Same.len' {s t : S} (h : Same s t) : s.objs.length = t.objs.length := by
  have := congrArg List.length h.conts
  simpa [S.conts] using this.symm

/-- No more lies in one heap behind a collection than in the other one. -/
theorem collect_idle_le {s t : S} (hs : WF s) (ht : WF t) (h0 : t.phase = 0) (h : Same s t) : t.collect.bump ≤ s.bump + s.stay := by
  obtain ⟨c1, c2, c3, c4⟩ := wf_collect ht (by omega)
  have hk : KIn t.collect s.Alive := kin_collect ht h0 (fun j i hj => hs.hand j i (by rw [← h.handles]; exact hj)) (fun i o ho ha j hj => by
    obtain ⟨o', ho', _, hw⟩ := same_get h.symm ho
    obtain ⟨o2, h2, hd⟩ := ha
    rw [ho'] at h2
    obtain rfl := Option.some.inj h2
    exact hs.refs i o' ho' hd j (by rw [hw]; exact hj))
  have hst : Same s t.collect := h.trans c3
  have hn : t.collect.objs.length = s.objs.length := hst.len'.symm
  rw [c1.bump, hs.bump, hs.stay, ← rsum_add, hn]
  refine rsum_le fun i hi => ?_
  unfold S.szB
  cases ho : t.collect.objs[i]? with
  | none => exact Nat.zero_le _
  | some o =>
    obtain ⟨o', ho', _, hw⟩ := same_get hst.symm ho
    simp only []
    by_cases hb : t.collect.Black i o
    · rw [if_pos hb]
      obtain ⟨o2, h2, hd⟩ := hk.marks i o ho hb.1
      rw [ho'] at h2
      obtain rfl := Option.some.inj h2
      unfold S.szW
      rw [ho']
      simp only []
      have hsz : o.size = o'.size := by unfold O.size; rw [hw]
      by_cases hb2 : s.Black i o'
      · rw [if_pos hb2]; omega
      · rw [if_neg hb2, if_pos ⟨hd, hb2⟩]; omega
    · rw [if_neg hb]; exact Nat.zero_le _

theorem whole_facts {t : S} (ht : WF t) (hp : t.phase ≤ 2) : WF t.whole ∧ t.whole.phase = 0 ∧ Same t t.whole ∧ t.whole.collect = t.collect := by
  obtain ⟨a1, a2, a3, _⟩ := wf_wholeN t.mu ht hp (Nat.le_refl _)
  refine ⟨a1, a2, a3, ?_⟩
  unfold S.collect
  rw [show t.whole.whole = t.whole from wholeN_idle _ _ a2]

theorem collect_le {s t : S} (hs : WF s) (ht : WF t) (hp : t.phase ≤ 2) (h : Same s t) : t.collect.bump ≤ s.bump + s.stay := by
  obtain ⟨a1, a2, a3, a4⟩ := whole_facts ht hp
  rw [← a4]
  exact collect_idle_le hs a1 a2 (h.trans a3)

theorem collect_stay {t : S} (ht : WF t) (hp : t.phase ≤ 2) : t.collect.stay = 0 := by
  obtain ⟨c1, c2, _⟩ := wf_collect ht hp
  exact idle_stay c1 c2

theorem fits_collect {s t : S} (hs : WF s) (ht : WF t) (hp : t.phase ≤ 2) (h : Same s t) {n : Nat} (hf : s.fitsB n) : t.collect.fitsB n := by
  have h1 := collect_le hs ht hp h
  have h2 := collect_stay ht hp
  have h3 : t.collect.room = t.room := (wf_collect ht hp).2.2.1.room
  unfold S.fitsB at hf ⊢
  rw [h2, h3, h.room]
  omega

/-- What is made, by what is seen. -/
theorem same_give {s t : S} (h : Same s t) (i : Nat) : Same (s.give i) (t.give i) := by
  have a := same_shade s i
  have b := same_shade t i
  refine ⟨?_, ?_, ?_, ?_⟩
  · exact b.room.trans (h.room.trans a.room.symm)
  · show handIn t.handles i = handIn s.handles i; rw [h.handles]
  · exact b.weak.trans (h.weak.trans a.weak.symm)
  · exact b.conts.trans (h.conts.trans a.conts.symm)

theorem conts_place (s : S) (o : O) : (s.place o).conts = s.conts ++ [(o.tag, o.ws)] := by simp [S.conts, S.place]

theorem same_made {s t : S} (h : Same s t) (tag : Int) (ws : List W) : Same (s.made tag ws) (t.made tag ws) := by
  unfold S.made
  rw [h.len']
  have e : Same (s.place (s.newO tag ws)) (t.place (t.newO tag ws)) := ⟨h.room, h.handles, h.weak, by rw [conts_place, conts_place, h.conts]; rfl⟩
  exact same_give (((same_shades ws _).symm.trans e).trans (same_shades ws _)) _

theorem same_drop {s t : S} (h : Same s t) (k : Nat) : Same (s.drop k) (t.drop k) := ⟨h.room, by show t.handles.set k none = s.handles.set k none; rw [h.handles], h.weak, h.conts⟩
theorem same_addWeak {s t : S} (h : Same s t) (k : Nat) : Same (s.addWeak k) (t.addWeak k) := ⟨h.room, h.handles, by show t.weak ++ [k] = s.weak ++ [k]; rw [h.weak], h.conts⟩

theorem conts_setC (s : S) (i : Nat) (x : W) : (s.setC i x).conts = s.conts.modify i fun p => (p.1, [.num p.1, x]) := by
  have e : (s.setC i x).conts = (s.shadeW x).conts.modify i fun p => (p.1, [.num p.1, x]) := by
    unfold S.setC S.conts
    apply List.ext_getElem?
    intro j
    simp only [List.getElem?_map, List.getElem?_modify]
    by_cases hij : i = j
    · subst hij
      simp only [if_true]
      cases (s.shadeW x).objs[i]? <;> rfl
    · simp only [if_neg hij]
      cases (s.shadeW x).objs[j]? <;> rfl
  rw [e, (same_shadeW s x).conts]

theorem same_setC {s t : S} (h : Same s t) (i : Nat) (x : W) : Same (s.setC i x) (t.setC i x) := by
  have a := same_shadeW s x
  have b := same_shadeW t x
  refine ⟨?_, ?_, ?_, ?_⟩
  · exact b.room.trans (h.room.trans a.room.symm)
  · exact b.handles.trans (h.handles.trans a.handles.symm)
  · exact b.weak.trans (h.weak.trans a.weak.symm)
  · rw [conts_setC, conts_setC, h.conts]

theorem same_begin (s : S) : Same s s.begin := by
  unfold S.begin
  split
  · exact Same.refl s
  · exact ⟨rfl, rfl, rfl, rfl⟩
end HM

/-- An operation. -/
structure Opn where
  kind : Int
  a : Int
  b : Int
  fs : List (Bool × Int)

def Opn.which (o : Opn) : Nat := (o.kind % 15).toNat
def Opn.content (o : Opn) : Bool × Int := match o.fs with | [] => (false, o.b) | f :: _ => f

/-- What an operation answers. -/
structure Ans where
  a : Int
  b : Int
  slot : Bool × Int
  err : Int
def Ans.none : Ans := ⟨0, 0, (false, 0), 0⟩
def Ans.bad (e : Int) : Ans := ⟨0, 0, (false, 0), e⟩
def Ans.num (a : Int) : Ans := ⟨a, 0, (false, 0), 0⟩
def Ans.put (x : Bool × Int) : Ans := ⟨0, 0, x, 0⟩

def makeN (s : S) (tag : Int) (ws : List W) : S × Ans :=
  if s.fitsB (1 + ws.length) then (s.made tag ws, .num (slotOf s.handles))
  else if s.collect.fitsB (1 + ws.length) then (s.collect.made tag ws, .num (slotOf s.handles))
  else (s.collect, .bad 191)

def wordsOf (hs : List (Option Nat)) : List (Bool × Int) → Option (List W)
  | [] => some []
  | f :: r => match slotW hs f.1 f.2, wordsOf hs r with
    | some x, some l => some (x :: l)
    | _, _ => none

def slotN (s : S) : W → S × Ans
  | .num n => (s, .put (false, n))
  | .obj i => (s.give i, .put (true, slotOf s.handles))

def getN (s : S) (i : Nat) : S × Ans :=
  match s.objs[i]? with
  | none => (s, .none)
  | some o => if o.tag = -1 then (match o.ws[1]? with | some x => slotN s x | none => (s, .none)) else (s, .bad 192)

def fieldN (s : S) (i : Nat) (k : Int) : S × Ans :=
  match s.objs[i]? with
  | none => (s, .none)
  | some o => if o.tag = -1 then (s, .bad 192) else if k < 0 ∨ (o.size : Int) - 1 ≤ k then (s, .bad 193) else (match o.ws[1 + k.toNat]? with | some x => slotN s x | none => (s, .none))

def tagN (s : S) (i : Nat) : Ans :=
  match s.objs[i]? with
  | none => .none
  | some o => if o.tag = -1 then .bad 192 else ⟨o.tag, (o.size : Int) - 1, (false, 0), 0⟩

def setN (s : S) (i : Nat) (x : W) : S × Ans :=
  match s.objs[i]? with
  | none => (s, .none)
  | some o => if o.tag = -1 then (s.setC i x, .none) else (s, .bad 192)

/-- What an operation does, and answers; the collector's own, if they may be. -/
def doOp (c : Bool) (s : S) (o : Opn) : S × Ans :=
  match o.which with
  | 0 => if o.a < 0 ∨ 16 < o.fs.length then (s, .bad 1) else (match wordsOf s.handles o.fs with | some ws => makeN s o.a ws | none => (s, .bad 190))
  | 1 => match slotW s.handles o.content.1 o.content.2 with | some x => makeN s (-1) [x] | none => (s, .bad 190)
  | 2 => match atH s.handles o.a, slotW s.handles o.content.1 o.content.2 with | some i, some x => setN s i x | _, _ => (s, .bad 190)
  | 3 => match atH s.handles o.a with | some i => getN s i | none => (s, .bad 190)
  | 4 => match atH s.handles o.a with | some i => (s, tagN s i) | none => (s, .bad 190)
  | 5 => match atH s.handles o.a with | some i => fieldN s i o.b | none => (s, .bad 190)
  | 8 => match atH s.handles o.a with | some i => (s.give i, .num (slotOf s.handles)) | none => (s, .bad 190)
  | 9 => match atH s.handles o.a with | some _ => (s.drop o.a.toNat, .none) | none => (s, .bad 190)
  | 10 => match atH s.handles o.a with | some i => (s.addWeak i, .num s.weak.length) | none => (s, .bad 190)
  | 12 => if c then (s.begin, .none) else (s, .none)
  | 13 => if c then (s.step.1, .none) else (s, .none)
  | 14 => if c then (s.collect, .none) else (s, .none)
  | _ => (s, .none)

def Ans.ints (x : Ans) : List Int := [x.a, x.b, x.slot.2, x.err] ++ (if x.slot.1 then [1] else [])
/-- All handles, rising. -/
def handsFrom : Nat → List (Option Nat) → List Int
  | _, [] => []
  | k, h :: r => if h.isSome then (k : Int) :: handsFrom (k + 1) r else handsFrom (k + 1) r

def trans (c : Bool) : S → List Opn → List Int
  | _, [] => []
  | s, o :: r => (doOp c s o).2.ints ++ handsFrom 0 (doOp c s o).1.handles ++ trans c (doOp c s o).1 r

structure Inv (s : S) : Prop where
  wf : WF s
  ph : s.phase ≤ 2

theorem atH_alive {s : S} (h : WF s) {n : Int} {i : Nat} (e : atH s.handles n = some i) : s.Alive i := by
  obtain ⟨k, _, hk⟩ := atH_some e
  exact h.hand k i hk

theorem slotW_alive {s : S} (h : WF s) {r : Bool} {m : Int} {x : W} (e : slotW s.handles r m = some x) : ∀ j, x = .obj j → s.Alive j := by
  intro j hj
  subst hj
  unfold slotW at e
  split at e
  · obtain ⟨i, hi, hx⟩ := Option.map_eq_some_iff.1 e
    injection hx with hx
    subst hx
    exact atH_alive h hi
  · cases e

theorem wordsOf_length {hs : List (Option Nat)} : ∀ {fs : List (Bool × Int)} {ws : List W}, wordsOf hs fs = some ws → ws.length = fs.length
  | [], ws, h => by cases h; rfl
  | f :: r, ws, h => by
    unfold wordsOf at h
    split at h
    · rename_i x l hx hl
      cases h
      simp [wordsOf_length hl]
    · cases h

theorem wordsOf_alive {s : S} (h : WF s) : ∀ {fs : List (Bool × Int)} {ws : List W}, wordsOf s.handles fs = some ws → ∀ j, W.obj j ∈ ws → s.Alive j
  | [], ws, e, j, hj => by cases e; cases hj
  | f :: r, ws, e, j, hj => by
    unfold wordsOf at e
    split at e
    · rename_i x l hx hl
      cases e
      rcases List.mem_cons.1 hj with e2 | e2
      · exact slotW_alive h hx j e2.symm
      · exact wordsOf_alive h hl j e2
    · cases e

theorem give_phase (s : S) (i : Nat) : (s.give i).phase = s.phase := (give_facts s i).2.2.2
theorem made_phase (s : S) (tag : Int) (ws : List W) : (s.made tag ws).phase = s.phase := (made_facts s tag ws).2.2.2

theorem inv_collect {s : S} (h : Inv s) : Inv s.collect := by
  obtain ⟨a, b, _⟩ := wf_collect h.wf h.ph
  exact ⟨a, by omega⟩

theorem inv_give {s : S} (h : Inv s) {i : Nat} (hi : s.Alive i) : Inv (s.give i) := ⟨wf_give h.wf h.ph hi, by rw [give_phase]; exact h.ph⟩

theorem inv_made {s : S} (h : Inv s) {tag : Int} {ws : List W} (hal : ∀ j, W.obj j ∈ ws → s.Alive j) (htag : -1 ≤ tag ∧ tag ≤ 9223372036854775807) (hone : tag = -1 → ws.length = 1) (h16 : ws.length ≤ 16) (hf : s.fitsB (1 + ws.length)) : Inv (s.made tag ws) :=
  ⟨wf_made h.wf h.ph hal htag hone h16 hf, by rw [made_phase]; exact h.ph⟩

theorem inv_makeN {s : S} (h : Inv s) {tag : Int} {ws : List W} (hal : ∀ j, W.obj j ∈ ws → s.Alive j) (hal2 : ∀ j, W.obj j ∈ ws → s.collect.Alive j) (htag : -1 ≤ tag ∧ tag ≤ 9223372036854775807) (hone : tag = -1 → ws.length = 1) (h16 : ws.length ≤ 16) : Inv (makeN s tag ws).1 := by
  unfold makeN
  split
  · rename_i hf; exact inv_made h hal htag hone h16 hf
  · split
    · rename_i hf; exact inv_made (inv_collect h) hal2 htag hone h16 hf
    · exact inv_collect h

theorem inv_slotN {s : S} (h : Inv s) {x : W} (hx : ∀ j, x = .obj j → s.Alive j) : Inv (slotN s x).1 := by
  cases x with
  | num n => exact h
  | obj i => exact inv_give h (hx i rfl)

theorem inv_doOp {s : S} (h : Inv s) (c : Bool) (o : Opn) (ha : o.a ≤ 9223372036854775807) : Inv (doOp c s o).1 := by
  have hcol : s.collect.handles = s.handles := (wf_collect h.wf h.ph).2.2.1.handles
  have hcw : WF s.collect := (inv_collect h).wf
  have alive_ws : ∀ {i : Nat} {ob : O} {k : Nat} {x : W}, s.Alive i → s.objs[i]? = some ob → ob.ws[k]? = some x → ∀ j, x = .obj j → s.Alive j := fun {i ob k x} hi hob hx j hj => by
    obtain ⟨o2, h2, hd⟩ := hi
    rw [hob] at h2
    obtain rfl := Option.some.inj h2
    exact h.wf.refs i ob hob hd j (by rw [← hj]; exact List.mem_of_getElem? hx)
  unfold doOp
  split
  · split
    · exact h
    · rename_i hc
      split
      · rename_i ws hws
        refine inv_makeN h (wordsOf_alive h.wf hws) (wordsOf_alive hcw (by rw [hcol]; exact hws)) ⟨by omega, ha⟩ (fun e => by omega) (by rw [wordsOf_length hws]; omega)
      · exact h
  · split
    · rename_i x hx
      have hal : ∀ j, W.obj j ∈ [x] → s.Alive j := fun j hj => slotW_alive h.wf hx j (by simpa using (List.mem_singleton.1 hj).symm)
      have hal2 : ∀ j, W.obj j ∈ [x] → s.collect.Alive j := fun j hj => slotW_alive hcw (by rw [hcol]; exact hx) j (by simpa using (List.mem_singleton.1 hj).symm)
      exact inv_makeN h hal hal2 ⟨by decide, by decide⟩ (fun _ => rfl) (by simp)
    · exact h
  · split
    · rename_i i x hi hx
      unfold setN
      split
      · exact h
      · rename_i ob hob
        split
        · rename_i ht
          obtain ⟨o2, h2, hd⟩ := atH_alive h.wf hi
          rw [hob] at h2
          obtain rfl := Option.some.inj h2
          refine ⟨wf_setC h.wf h.ph hob hd ht (slotW_alive h.wf hx), ?_⟩
          show (s.shadeW x).phase ≤ 2
          rw [(shadeW_same s x).2.2.2.2.2.2.2.2.1]; exact h.ph
        · exact h
    · exact h
  · split
    · rename_i i hi
      unfold getN
      split
      · exact h
      · rename_i ob hob
        split
        · split
          · rename_i x hx
            exact inv_slotN h (alive_ws (atH_alive h.wf hi) hob hx)
          · exact h
        · exact h
    · exact h
  · split <;> exact h
  · split
    · rename_i i hi
      unfold fieldN
      split
      · exact h
      · rename_i ob hob
        split
        · exact h
        · split
          · exact h
          · split
            · rename_i x hx
              exact inv_slotN h (alive_ws (atH_alive h.wf hi) hob hx)
            · exact h
    · exact h
  · split
    · rename_i i hi; exact inv_give h (atH_alive h.wf hi)
    · exact h
  · split
    · exact ⟨wf_drop h.wf _, h.ph⟩
    · exact h
  · split
    · rename_i i hi; exact ⟨wf_addWeak h.wf (Alive.lt (atH_alive h.wf hi)), h.ph⟩
    · exact h
  · split
    · refine ⟨wf_begin h.wf, ?_⟩
      unfold S.begin
      split
      · exact h.ph
      · show (1 : Nat) ≤ 2; decide
    · exact h
  · split
    · obtain ⟨a, b, _⟩ := wf_step h.wf h.ph; exact ⟨a, b⟩
    · exact h
  · split
    · exact inv_collect h
    · exact h
  · exact h

theorem makeN_same {s t : S} (hs : Inv s) (ht : Inv t) (h : Same s t) (tag : Int) (ws : List W) : (makeN s tag ws).2 = (makeN t tag ws).2 ∧ Same (makeN s tag ws).1 (makeN t tag ws).1 := by
  have cs := (wf_collect hs.wf hs.ph).2.2.1
  have ct := (wf_collect ht.wf ht.ph).2.2.1
  have hcc : Same s.collect t.collect := (cs.symm.trans h).trans ct
  have is := inv_collect hs
  have it := inv_collect ht
  have hc : s.collect.fitsB (1 + ws.length) → t.collect.fitsB (1 + ws.length) := fun hf => by
    exact fits_collect is.wf ht.wf ht.ph (cs.symm.trans h) hf
  have hc2 : t.collect.fitsB (1 + ws.length) → s.collect.fitsB (1 + ws.length) := fun hf => by
    exact fits_collect it.wf hs.wf hs.ph (ct.symm.trans h.symm) hf
  unfold makeN
  rw [h.handles]
  by_cases f1 : s.fitsB (1 + ws.length)
  · rw [if_pos f1]
    by_cases f2 : t.fitsB (1 + ws.length)
    · rw [if_pos f2]; exact ⟨rfl, same_made h tag ws⟩
    · rw [if_neg f2, if_pos (fits_collect hs.wf ht.wf ht.ph h f1)]
      exact ⟨rfl, same_made (h.trans ct) tag ws⟩
  · rw [if_neg f1]
    by_cases f2 : t.fitsB (1 + ws.length)
    · rw [if_pos f2, if_pos (fits_collect ht.wf hs.wf hs.ph h.symm f2)]
      exact ⟨rfl, same_made (cs.symm.trans h) tag ws⟩
    · rw [if_neg f2]
      by_cases f3 : s.collect.fitsB (1 + ws.length)
      · rw [if_pos f3, if_pos (hc f3)]; exact ⟨rfl, same_made hcc tag ws⟩
      · rw [if_neg f3, if_neg (fun e => f3 (hc2 e))]; exact ⟨rfl, hcc⟩

theorem slotN_same {s t : S} (h : Same s t) (x : W) : (slotN s x).2 = (slotN t x).2 ∧ Same (slotN s x).1 (slotN t x).1 := by
  cases x with
  | num n => exact ⟨rfl, h⟩
  | obj i => exact ⟨by unfold slotN; simp only []; rw [h.handles], same_give h i⟩

/-- Both, up to what is seen. -/
def Like (p q : S × Ans) : Prop := p.2 = q.2 ∧ Same p.1 q.1

theorem same_cases {s t : S} (h : Same s t) (i : Nat) : (s.objs[i]? = none ∧ t.objs[i]? = none) ∨ ∃ o o', s.objs[i]? = some o ∧ t.objs[i]? = some o' ∧ o'.tag = o.tag ∧ o'.ws = o.ws := by
  cases hs : s.objs[i]? with
  | none =>
    left
    refine ⟨rfl, ?_⟩
    rw [List.getElem?_eq_none_iff] at hs ⊢
    have := h.len'
    omega
  | some o =>
    obtain ⟨o', h1, h2, h3⟩ := same_get h hs
    exact .inr ⟨o, o', rfl, h1, h2, h3⟩

theorem doOp_like {s t : S} (hs : Inv s) (ht : Inv t) (h : Same s t) (c d : Bool) (o : Opn) : Like (doOp c s o) (doOp d t o) := by
  have keep : ∀ x, Like (s, x) (t, x) := fun x => ⟨rfl, h⟩
  unfold doOp
  rw [h.handles, h.weak]
  split
  · split
    · exact keep _
    · split
      · exact makeN_same hs ht h _ _
      · exact keep _
  · split
    · exact makeN_same hs ht h _ _
    · exact keep _
  · split
    · rename_i i x _ _
      unfold setN
      rcases same_cases h i with ⟨e1, e2⟩ | ⟨o1, o2, e1, e2, e3, e4⟩
      · rw [e1, e2]; exact keep _
      · rw [e1, e2]
        simp only [e3]
        split
        · exact ⟨rfl, same_setC h _ _⟩
        · exact keep _
    · exact keep _
  · split
    · rename_i i _
      unfold getN
      rcases same_cases h i with ⟨e1, e2⟩ | ⟨o1, o2, e1, e2, e3, e4⟩
      · rw [e1, e2]; exact keep _
      · rw [e1, e2]
        simp only [e3, e4]
        split
        · split
          · exact slotN_same h _
          · exact keep _
        · exact keep _
    · exact keep _
  · split
    · rename_i i _
      unfold tagN
      rcases same_cases h i with ⟨e1, e2⟩ | ⟨o1, o2, e1, e2, e3, e4⟩
      · rw [e1, e2]; exact keep _
      · rw [e1, e2]
        simp only [e3, O.size, e4]
        exact keep _
    · exact keep _
  · split
    · rename_i i _
      unfold fieldN
      rcases same_cases h i with ⟨e1, e2⟩ | ⟨o1, o2, e1, e2, e3, e4⟩
      · rw [e1, e2]; exact keep _
      · rw [e1, e2]
        have e5 : o2.size = o1.size := by unfold O.size; rw [e4]
        simp only [e3, e4, e5]
        by_cases h1 : o1.tag = -1
        · simp only [if_pos h1]; exact keep _
        · simp only [if_neg h1]
          by_cases h2 : o.b < 0 ∨ (o1.size : Int) - 1 ≤ o.b
          · simp only [if_pos h2]; exact keep _
          · simp only [if_neg h2]
            cases o1.ws[1 + o.b.toNat]? with
            | some x => exact slotN_same h _
            | none => exact keep _
    · exact keep _
  · split
    · exact ⟨rfl, same_give h _⟩
    · exact keep _
  · split
    · exact ⟨rfl, same_drop h _⟩
    · exact keep _
  · split
    · exact ⟨rfl, same_addWeak h _⟩
    · exact keep _
  · have a : Same s (if c then (s.begin, Ans.none) else (s, Ans.none)).1 := by
      split
      · exact same_begin s
      · exact Same.refl s
    have b : Same t (if d then (t.begin, Ans.none) else (t, Ans.none)).1 := by
      split
      · exact same_begin t
      · exact Same.refl t
    exact ⟨by cases c <;> cases d <;> rfl, (a.symm.trans h).trans b⟩
  · have a : Same s (if c then (s.step.1, Ans.none) else (s, Ans.none)).1 := by
      split
      · exact (wf_step hs.wf hs.ph).2.2.1
      · exact Same.refl s
    have b : Same t (if d then (t.step.1, Ans.none) else (t, Ans.none)).1 := by
      split
      · exact (wf_step ht.wf ht.ph).2.2.1
      · exact Same.refl t
    exact ⟨by cases c <;> cases d <;> rfl, (a.symm.trans h).trans b⟩
  · have a : Same s (if c then (s.collect, Ans.none) else (s, Ans.none)).1 := by
      split
      · exact (wf_collect hs.wf hs.ph).2.2.1
      · exact Same.refl s
    have b : Same t (if d then (t.collect, Ans.none) else (t, Ans.none)).1 := by
      split
      · exact (wf_collect ht.wf ht.ph).2.2.1
      · exact Same.refl t
    exact ⟨by cases c <;> cases d <;> rfl, (a.symm.trans h).trans b⟩
  · exact keep _

/-- Nothing is seen of the collector. -/
theorem trans_same (c d : Bool) : ∀ (l : List Opn) (s t : S), (∀ o ∈ l, o.a ≤ 9223372036854775807) → Inv s → Inv t → Same s t → trans c s l = trans d t l
  | [], _, _, _, _, _, _ => rfl
  | o :: r, s, t, hl, hs, ht, h => by
    have ho := hl o List.mem_cons_self
    obtain ⟨e1, e2⟩ := doOp_like hs ht h c d o
    rw [trans, trans, e1, e2.handles]
    rw [trans_same c d r _ _ (fun x hx => hl x (List.mem_cons_of_mem _ hx)) (inv_doOp hs c o ho) (inv_doOp ht d o ho) e2]
end Go.Proofs.Ytfjgokbclgdfjaa

namespace Go.Proofs.Ytfjgokbclgdfjaa
open Go.RowKit HM

theorem Rep.c8 {w : World} {ρ : Nat → Nat} {A : Ad} {s : S} (h : Rep w ρ A s) : w.cell? ⟨A.hb, 8, none⟩ = some (.map (some A.mb)) := by
  obtain ⟨gs, ds, ks, hh⟩ := h.hcell
  rw [cell_of_row w _ 8 _ _ _ hh]; rfl

theorem Rep.blt {w : World} {ρ : Nat → Nat} {A : Ad} {s : S} (h : Rep w ρ A s) : A.hb < w.heap.size := h.lt (by simp [h.rh])

def InI (n : Int) : Prop := -9223372036854775808 ≤ n ∧ n ≤ 9223372036854775807

theorem look_none {w : World} {ρ : Nat → Nat} {A : Ad} {s : S} (h : Rep w ρ A s) {n : Int} (hn : InI n) (ha : atH s.handles n = none) :
    (Instr.lookup 41 (.map (some A.mb)) (.int .i64 n) true).run Try.prog w = .ok (.tuple #[.pointer none, .bool false]) w := by
  have := run_lookup h.map n hn
  rw [ha] at this
  exact this

theorem look_some {w : World} {ρ : Nat → Nat} {A : Ad} {s : S} (h : Rep w ρ A s) {n : Int} (hn : InI n) {i : Nat} (ha : atH s.handles n = some i) :
    (Instr.lookup 41 (.map (some A.mb)) (.int .i64 n) true).run Try.prog w = .ok (.tuple #[.pointer (some ⟨A.obj i, 0, none⟩), .bool true]) w := by
  have := run_lookup h.map n hn
  rw [ha] at this
  exact this

set_option maxRecDepth 20000 in
theorem tag_none {w : World} {ρ : Nat → Nat} {A : Ad} {s : S} (h : Rep w ρ A s) {n : Int} (hn : InI n) (ha : atH s.handles n = none) :
    Calls Try.prog 46 #[.pointer (some ⟨A.hb, 0, none⟩), .int .i64 n] w fun e w' => e = .returned (.tuple #[.int .i64 0, .int .i64 0, .int .i64 190]) ∧ Ch (fun _ => False) ρ ρ w w' := by
  have hlk := look_none h hn ha
  have c8 := h.c8
  have hblt := h.blt
  have HR := Lib.hid h.rho
  clear h ha hn
  go_enter Try.func46, Try.ntmps46
  go_wp2
  go_returns
  exact ⟨rfl, Ch.refl HR.out⟩

set_option maxRecDepth 20000 in
theorem tag_mod {w : World} {ρ : Nat → Nat} {A : Ad} {s : S} (h : Rep w ρ A s) {n : Int} (hn : InI n) {i : Nat} (ha : atH s.handles n = some i) {o : O} (ho : s.objs[i]? = some o) (ht : o.tag = -1) :
    Calls Try.prog 46 #[.pointer (some ⟨A.hb, 0, none⟩), .int .i64 n] w fun e w' => e = .returned (.tuple #[.int .i64 0, .int .i64 0, .int .i64 192]) ∧ Ch (fun _ => False) ρ ρ w w' := by
  have hlk := look_some h hn ha
  have c8 := h.c8
  have hblt := h.blt
  have ho1 := h.objs i o ho
  have o0 : w.cell? ⟨A.obj i, 0, none⟩ = some (.int .i64 (-1)) := by rw [cell_of_row w _ 0 _ _ _ ho1, ← ht]; rfl
  have hoblt : A.obj i < w.heap.size := (Array.getElem?_eq_some_iff.1 ho1).1
  have HR := Lib.hid h.rho
  clear h ha hn ho ho1 ht
  generalize A.obj i = ob at *
  go_enter Try.func46, Try.ntmps46
  go_wp2
  go_returns
  exact ⟨rfl, Ch.refl HR.out⟩

set_option maxRecDepth 20000 in
theorem get_none {w : World} {ρ : Nat → Nat} {A : Ad} {s : S} (h : Rep w ρ A s) {n : Int} (hn : InI n) (ha : atH s.handles n = none) :
    Calls Try.prog 45 #[.pointer (some ⟨A.hb, 0, none⟩), .int .i64 n] w fun e w' => e = .returned (.tuple #[slotV false 0, .int .i64 190]) ∧ Ch (fun _ => False) ρ ρ w w' := by
  have hlk : ∀ o1, (Instr.lookup 41 (.map (some A.mb)) (.int .i64 n) true).run Try.prog (w.alloc o1) = .ok (.tuple #[.pointer none, .bool false]) (w.alloc o1) := fun o1 => look_none (h.alloc o1) hn ha
  have c8 := h.c8
  have hblt := h.blt
  have HR := Lib.hid h.rho
  clear h ha hn
  unfold slotV
  go_enter Try.func45, Try.ntmps45
  go_wp2
  go_returns
  exact ⟨rfl, (Ch.refl HR.out).alloc _⟩

set_option maxRecDepth 20000 in
theorem get_cell {w : World} {ρ : Nat → Nat} {A : Ad} {s : S} (h : Rep w ρ A s) {n : Int} (hn : InI n) {i : Nat} (ha : atH s.handles n = some i) {o : O} (ho : s.objs[i]? = some o) (ht : o.tag ≠ -1) :
    Calls Try.prog 45 #[.pointer (some ⟨A.hb, 0, none⟩), .int .i64 n] w fun e w' => e = .returned (.tuple #[slotV false 0, .int .i64 192]) ∧ Ch (fun _ => False) ρ ρ w w' := by
  have hlk : ∀ o1, (Instr.lookup 41 (.map (some A.mb)) (.int .i64 n) true).run Try.prog (w.alloc o1) = .ok (.tuple #[.pointer (some ⟨A.obj i, 0, none⟩), .bool true]) (w.alloc o1) := fun o1 => look_some (h.alloc o1) hn ha
  have c8 := h.c8
  have hblt := h.blt
  have ho1 := h.objs i o ho
  have o0 : w.cell? ⟨A.obj i, 0, none⟩ = some (.int .i64 o.tag) := by rw [cell_of_row w _ 0 _ _ _ ho1]; rfl
  have hoblt : A.obj i < w.heap.size := (Array.getElem?_eq_some_iff.1 ho1).1
  have HR := Lib.hid h.rho
  obtain ⟨tg, htg⟩ : ∃ t : Int, t = o.tag := ⟨_, rfl⟩
  rw [← htg] at o0 ht
  have k1 : (tg == -1) = false := beq_false_of_ne ht
  have k2 : (tg != -1) = true := by simp [ht]
  clear h ha hn ho ho1 htg
  generalize A.obj i = ob at *
  unfold slotV
  go_enter Try.func45, Try.ntmps45
  go_wp2
  go_returns
  exact ⟨rfl, (Ch.refl HR.out).alloc _⟩

set_option maxRecDepth 20000 in
theorem field_none {w : World} {ρ : Nat → Nat} {A : Ad} {s : S} (h : Rep w ρ A s) {n : Int} (hn : InI n) (ha : atH s.handles n = none) (j : Int) :
    Calls Try.prog 25 #[.pointer (some ⟨A.hb, 0, none⟩), .int .i64 n, .int .i64 j] w fun e w' => e = .returned (.tuple #[slotV false 0, .int .i64 190]) ∧ Ch (fun _ => False) ρ ρ w w' := by
  have hlk : ∀ o1, (Instr.lookup 41 (.map (some A.mb)) (.int .i64 n) true).run Try.prog (w.alloc o1) = .ok (.tuple #[.pointer none, .bool false]) (w.alloc o1) := fun o1 => look_none (h.alloc o1) hn ha
  have c8 := h.c8
  have hblt := h.blt
  have HR := Lib.hid h.rho
  clear h ha hn
  unfold slotV
  go_enter Try.func25, Try.ntmps25
  go_wp2
  go_returns
  exact ⟨rfl, (Ch.refl HR.out).alloc _⟩

set_option maxRecDepth 20000 in
theorem field_mod {w : World} {ρ : Nat → Nat} {A : Ad} {s : S} (h : Rep w ρ A s) {n : Int} (hn : InI n) {i : Nat} (ha : atH s.handles n = some i) {o : O} (ho : s.objs[i]? = some o) (ht : o.tag = -1) (j : Int) :
    Calls Try.prog 25 #[.pointer (some ⟨A.hb, 0, none⟩), .int .i64 n, .int .i64 j] w fun e w' => e = .returned (.tuple #[slotV false 0, .int .i64 192]) ∧ Ch (fun _ => False) ρ ρ w w' := by
  have hlk : ∀ o1, (Instr.lookup 41 (.map (some A.mb)) (.int .i64 n) true).run Try.prog (w.alloc o1) = .ok (.tuple #[.pointer (some ⟨A.obj i, 0, none⟩), .bool true]) (w.alloc o1) := fun o1 => look_some (h.alloc o1) hn ha
  have c8 := h.c8
  have hblt := h.blt
  have ho1 := h.objs i o ho
  have o0 : w.cell? ⟨A.obj i, 0, none⟩ = some (.int .i64 (-1)) := by rw [cell_of_row w _ 0 _ _ _ ho1, ← ht]; rfl
  have hoblt : A.obj i < w.heap.size := (Array.getElem?_eq_some_iff.1 ho1).1
  have HR := Lib.hid h.rho
  clear h ha hn ho ho1 ht
  generalize A.obj i = ob at *
  unfold slotV
  go_enter Try.func25, Try.ntmps25
  go_wp2
  go_returns
  exact ⟨rfl, (Ch.refl HR.out).alloc _⟩

set_option maxRecDepth 20000 in
theorem field_range {w : World} {ρ : Nat → Nat} {A : Ad} {s : S} (h : Rep w ρ A s) {n : Int} (hn : InI n) {i : Nat} (ha : atH s.handles n = some i) {o : O} (ho : s.objs[i]? = some o) (ht : o.tag ≠ -1) (hsz : 1 ≤ o.size ∧ o.size ≤ 17) (j : Int) (hj : j < 0 ∨ (o.size : Int) - 1 ≤ j) :
    Calls Try.prog 25 #[.pointer (some ⟨A.hb, 0, none⟩), .int .i64 n, .int .i64 j] w fun e w' => e = .returned (.tuple #[slotV false 0, .int .i64 193]) ∧ Ch (fun _ => False) ρ ρ w w' := by
  have hlk : ∀ o1, (Instr.lookup 41 (.map (some A.mb)) (.int .i64 n) true).run Try.prog (w.alloc o1) = .ok (.tuple #[.pointer (some ⟨A.obj i, 0, none⟩), .bool true]) (w.alloc o1) := fun o1 => look_some (h.alloc o1) hn ha
  have c8 := h.c8
  have hblt := h.blt
  have ho1 := h.objs i o ho
  have o0 : w.cell? ⟨A.obj i, 0, none⟩ = some (.int .i64 o.tag) := by rw [cell_of_row w _ 0 _ _ _ ho1]; rfl
  have o1 : w.cell? ⟨A.obj i, 1, none⟩ = some (.int .i64 o.size) := by rw [cell_of_row w _ 1 _ _ _ ho1]; rfl
  have hoblt : A.obj i < w.heap.size := (Array.getElem?_eq_some_iff.1 ho1).1
  have HR := Lib.hid h.rho
  obtain ⟨tg, htg⟩ : ∃ t : Int, t = o.tag := ⟨_, rfl⟩
  rw [← htg] at o0 ht
  obtain ⟨z, hz⟩ : ∃ z : Nat, z = o.size := ⟨_, rfl⟩
  rw [← hz] at o1 hj hsz
  have k1 : (tg == -1) = false := beq_false_of_ne ht
  have k2 : (tg != -1) = true := by simp [ht]
  have W1 : IntKind.i64.wrap ((z : Int) - 1) = (z : Int) - 1 := by rw [IntKind.wrap_i64]; omega
  clear h ha hn ho ho1 htg hz hsz
  generalize A.obj i = ob at *
  unfold slotV
  rcases Int.lt_or_le j 0 with hj0 | hj0
  · clear hj
    go_enter Try.func25, Try.ntmps25
    go_wp2
    go_returns
    exact ⟨rfl, (Ch.refl HR.out).alloc _⟩
  · have hj2 : (z : Int) - 1 ≤ j := by omega
    clear hj
    go_enter Try.func25, Try.ntmps25
    go_wp2
    go_returns
    exact ⟨rfl, (Ch.refl HR.out).alloc _⟩

set_option maxRecDepth 20000 in
theorem drop_none {w : World} {ρ : Nat → Nat} {A : Ad} {s : S} (h : Rep w ρ A s) {n : Int} (hn : InI n) (ha : atH s.handles n = none) :
    Calls Try.prog 18 #[.pointer (some ⟨A.hb, 0, none⟩), .int .i64 n] w fun e w' => e = .returned (.int .i64 190) ∧ Ch (fun _ => False) ρ ρ w w' := by
  have hlk := look_none h hn ha
  have c8 := h.c8
  have hblt := h.blt
  have HR := Lib.hid h.rho
  clear h ha hn
  go_enter Try.func18, Try.ntmps18
  go_wp2
  go_ret
  exact ⟨rfl, Ch.refl HR.out⟩

set_option maxRecDepth 20000 in
theorem weak_none {w : World} {ρ : Nat → Nat} {A : Ad} {s : S} (h : Rep w ρ A s) {n : Int} (hn : InI n) (ha : atH s.handles n = none) :
    Calls Try.prog 19 #[.pointer (some ⟨A.hb, 0, none⟩), .int .i64 n] w fun e w' => e = .returned (.tuple #[.int .i64 0, .int .i64 190]) ∧ Ch (fun _ => False) ρ ρ w w' := by
  have hlk := look_none h hn ha
  have c8 := h.c8
  have hblt := h.blt
  have HR := Lib.hid h.rho
  clear h ha hn
  go_enter Try.func19, Try.ntmps19
  go_wp2
  go_ret2
  exact ⟨rfl, Ch.refl HR.out⟩
end Go.Proofs.Ytfjgokbclgdfjaa

