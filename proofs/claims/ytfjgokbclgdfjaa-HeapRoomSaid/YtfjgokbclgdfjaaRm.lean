/- Objects of one size are made without an end, some of them kept: what the heap is like. No Go in sight. -/
import Derived.Test.YtfjgokbclgdfjaaInv8
namespace Go.Proofs.Ytfjgokbclgdfjaa.HM

theorem idle_ep {s : S} (h : WF s) (h0 : s.phase = 0) {i : Nat} {o : O} (ho : s.objs[i]? = some o) (hd : s.done ≤ o.epoch) : o.epoch = s.epoch := by
  have := h.epo i o ho; have := (h.idle h0).1; omega

theorem idle_stay {s : S} (h : WF s) (h0 : s.phase = 0) : s.stay = 0 := by
  rw [h.stay]
  refine rsum_zero fun i hi => ?_
  unfold S.szW
  cases ho : s.objs[i]? with
  | none => rfl
  | some o =>
    by_cases hd : s.done ≤ o.epoch
    · have hb : s.Black i o := ⟨idle_ep h h0 ho hd, by rw [(h.idle h0).2]; simp⟩
      simp [hb]
    · simp [hd]

theorem idle_shade {s : S} (h : WF s) (h0 : s.phase = 0) {i : Nat} (hi : s.Alive i) : s.shade i = s := by
  obtain ⟨o, ho, hd⟩ := hi
  unfold S.shade
  rw [if_neg]
  rw [ep_some ho, idle_ep h h0 ho hd]
  omega

theorem idle_shades {s : S} (h : WF s) (h0 : s.phase = 0) (l : List W) (hl : ∀ j, W.obj j ∈ l → s.Alive j) : s.shades l = s := by
  induction l with
  | nil => rfl
  | cons x r ih =>
    have e : s.shades (x :: r) = (s.shadeW x).shades r := rfl
    rw [e]
    have h1 : s.shadeW x = s := by
      cases x with
      | num n => rfl
      | obj i => exact idle_shade h h0 (hl i (by simp))
    rw [h1]
    exact ih fun j hj => hl j (by simp [hj])

/-- Where no cycle is under way a new object is laid down, and a handle to it. -/
theorem made_idle {s : S} (h : WF s) (h0 : s.phase = 0) {tag : Int} {ws : List W} (hal : ∀ j, W.obj j ∈ ws → s.Alive j) :
    s.made tag ws = { s.place (s.newO tag ws) with handles := handIn s.handles s.objs.length } := by
  unfold S.made
  rw [made_eq h hal, idle_shades h h0 ws hal]
  unfold S.give
  have e : (s.place (s.newO tag ws)).shade s.objs.length = s.place (s.newO tag ws) := by
    unfold S.shade
    rw [if_neg]
    rw [ep_some (place_new s _)]
    show ¬ s.epoch < s.epoch
    omega
  rw [e]
  rfl

structure RoomI (s : S) (n z : Nat) (ks : List Nat) : Prop where
  ph : s.phase = 0
  room : s.room = n
  nd : ks.Nodup
  hs : s.handles = ks.map some ∨ s.handles = ks.map some ++ [none]
  ob : ∀ k, k ∈ ks → ∃ o, s.objs[k]? = some o ∧ o.size = z ∧ ∀ q, W.obj q ∈ o.ws → q ∈ ks

theorem slotOf_map (ks : List Nat) : slotOf (ks.map some) = ks.length := by
  unfold slotOf
  induction ks with
  | nil => rfl
  | cons k r ih => simp [List.findIdx_cons, ih]

theorem slotOf_map_none (ks : List Nat) : slotOf (ks.map some ++ [none]) = ks.length := by
  unfold slotOf
  induction ks with
  | nil => rfl
  | cons k r ih => simp [List.findIdx_cons, ih]

theorem RoomI.slot {s : S} {n z : Nat} {ks : List Nat} (h : RoomI s n z ks) : slotOf s.handles = ks.length := by
  rcases h.hs with e | e
  · rw [e, slotOf_map]
  · rw [e, slotOf_map_none]

theorem RoomI.given {s : S} {n z : Nat} {ks : List Nat} (h : RoomI s n z ks) (i : Nat) : handIn s.handles i = (ks ++ [i]).map some := by
  unfold handIn
  rw [h.slot]
  rcases h.hs with e | e
  · rw [e]; simp
  · rw [e]; simp [List.set_append]

theorem RoomI.hand {s : S} {n z : Nat} {ks : List Nat} (h : RoomI s n z ks) {j i : Nat} (hj : s.handles[j]? = some (some i)) : i ∈ ks := by
  rcases h.hs with e | e
  · rw [e] at hj; simp at hj; exact List.mem_of_getElem? hj
  · rw [e] at hj
    have := List.mem_of_getElem? hj
    simpa using this

theorem RoomI.handle {s : S} {n z : Nat} {ks : List Nat} (h : RoomI s n z ks) {j i : Nat} (hj : ks[j]? = some i) : s.handles[j]? = some (some i) := by
  have hl : j < ks.length := (List.getElem?_eq_some_iff.1 hj).1
  rcases h.hs with e | e
  · rw [e]; simp [hj]
  · rw [e, List.getElem?_append_left (by simpa using hl)]; simp [hj]

theorem RoomI.alive {s : S} {n z : Nat} {ks : List Nat} (h : RoomI s n z ks) (hw : WF s) {k : Nat} (hk : k ∈ ks) : s.Alive k := by
  obtain ⟨j, hj⟩ := List.getElem?_of_mem hk
  exact hw.hand j k (h.handle hj)

theorem RoomI.handsLen {s : S} {n z : Nat} {ks : List Nat} (h : RoomI s n z ks) : s.handles.length ≤ ks.length + 1 := by
  rcases h.hs with e | e <;> rw [e] <;> simp

theorem RoomI.least {s : S} {n z : Nat} {ks : List Nat} (h : RoomI s n z ks) (hw : WF s) : ks.length * z ≤ s.bump := by
  refine bump_ge hw h.nd h.ph fun k hk => ?_
  obtain ⟨o, ho, hz, _⟩ := h.ob k hk
  obtain ⟨o', ho', hd⟩ := h.alive hw hk
  rw [ho] at ho'
  obtain rfl := Option.some.inj ho'
  exact ⟨o, ho, hd, hz⟩

theorem RoomI.fits {s : S} {n z : Nat} {ks : List Nat} (h : RoomI s n z ks) (hw : WF s) (hf : s.fitsB z) : (ks.length + 1) * z ≤ n := by
  unfold S.fitsB at hf
  have h1 := h.least hw
  rw [idle_stay hw h.ph, h.room] at hf
  rw [Nat.add_mul]
  omega

theorem same_get {s t : S} (h : Same s t) {i : Nat} {o : O} (ho : s.objs[i]? = some o) : ∃ o', t.objs[i]? = some o' ∧ o'.tag = o.tag ∧ o'.ws = o.ws := by
  have hc := congrArg (·[i]?) h.conts
  simp only [S.conts, List.getElem?_map, ho, Option.map_some] at hc
  cases ht : t.objs[i]? with
  | none => rw [ht] at hc; simp at hc
  | some o' =>
    rw [ht] at hc
    simp at hc
    exact ⟨o', rfl, hc.1, hc.2⟩

theorem RoomI.collect {s : S} {n z : Nat} {ks : List Nat} (h : RoomI s n z ks) (hw : WF s) : RoomI s.collect n z ks ∧ s.collect.bump ≤ ks.length * z := by
  obtain ⟨a1, a2, a3, _⟩ := wf_collect hw (by rw [h.ph]; decide)
  have hr : RoomI s.collect n z ks := by
    refine ⟨a2, by rw [a3.room]; exact h.room, h.nd, by rw [a3.handles]; exact h.hs, fun k hk => ?_⟩
    obtain ⟨o, ho, hz, hq⟩ := h.ob k hk
    obtain ⟨o', ho', _, e⟩ := same_get a3 ho
    exact ⟨o', ho', by unfold O.size at hz ⊢; rw [e]; exact hz, by rw [e]; exact hq⟩
  refine ⟨hr, bump_le a1 (kin_collect hw h.ph (fun j i hj => h.hand hj) fun i o ho hk q hq => ?_) fun k o hk ho => ?_⟩
  · obtain ⟨o', ho', _, hq'⟩ := h.ob i hk
    rw [ho] at ho'
    obtain rfl := Option.some.inj ho'
    exact hq' q hq
  · obtain ⟨o', ho', hz, _⟩ := hr.ob k hk
    rw [ho] at ho'
    obtain rfl := Option.some.inj ho'
    exact hz

theorem RoomI.full {s : S} {n z : Nat} {ks : List Nat} (h : RoomI s n z ks) (hw : WF s) (hf : ¬ s.collect.fitsB z) : n < (ks.length + 1) * z := by
  obtain ⟨hr, hb⟩ := h.collect hw
  obtain ⟨a1, a2, _⟩ := wf_collect hw (by rw [h.ph]; decide)
  unfold S.fitsB at hf
  rw [idle_stay a1 a2, hr.room] at hf
  rw [Nat.add_mul]
  omega

theorem RoomI.made {s : S} {n z : Nat} {ks : List Nat} (h : RoomI s n z ks) (hw : WF s) {tag : Int} {ws : List W} (hz : ws.length + 1 = z) (hq : ∀ q, W.obj q ∈ ws → q ∈ ks) :
    RoomI (s.made tag ws) n z (ks ++ [s.objs.length]) := by
  have hal : ∀ j, W.obj j ∈ ws → s.Alive j := fun j hj => h.alive hw (hq j hj)
  rw [made_idle hw h.ph hal]
  refine ⟨h.ph, h.room, ?_, .inl (h.given _), fun k hk => ?_⟩
  · rw [List.nodup_append]
    refine ⟨h.nd, by simp, fun a ha b hb => ?_⟩
    obtain ⟨o, ho, _⟩ := h.ob a ha
    have := (List.getElem?_eq_some_iff.1 ho).1
    simp at hb
    omega
  · rcases List.mem_append.1 hk with hk | hk
    · obtain ⟨o, ho, h1, h2⟩ := h.ob k hk
      exact ⟨o, by show (s.place _).objs[k]? = _; rw [place_old (List.getElem?_eq_some_iff.1 ho).1]; exact ho, h1, fun q hqq => List.mem_append_left _ (h2 q hqq)⟩
    · simp at hk
      subst hk
      refine ⟨s.newO tag ws, place_new s _, by simp [S.newO, O.size]; omega, fun q hqq => ?_⟩
      simp [S.newO] at hqq
      exact List.mem_append_left _ (hq q hqq)

theorem RoomI.dropped {s : S} {n z : Nat} {ks : List Nat} {k : Nat} (h : RoomI s n z (ks ++ [k])) (hs : s.handles = (ks ++ [k]).map some) (hk : ∀ q o, q ∈ ks → s.objs[q]? = some o → ∀ j, W.obj j ∈ o.ws → j ∈ ks) : RoomI (s.drop ks.length) n z ks := by
  refine ⟨h.ph, h.room, ((List.nodup_append.1 h.nd).1), .inr ?_, fun q hq => ?_⟩
  · show s.handles.set ks.length none = _
    rw [hs]
    simp [List.set_append]
  · obtain ⟨o, ho, h1, _⟩ := h.ob q (List.mem_append_left _ hq)
    exact ⟨o, ho, h1, hk q o hq ho⟩

/-- An object is made and dropped. -/
theorem RoomI.gone {s : S} {n z : Nat} {ks : List Nat} (h : RoomI s n z ks) (hw : WF s) {tag : Int} {ws : List W} (hz : ws.length + 1 = z) (hq : ∀ q, W.obj q ∈ ws → q ∈ ks) :
    RoomI ((s.made tag ws).drop ks.length) n z ks ∧ (s.made tag ws).handles[ks.length]? = some (some s.objs.length) := by
  have hal : ∀ j, W.obj j ∈ ws → s.Alive j := fun j hj => h.alive hw (hq j hj)
  have hm := h.made (tag := tag) hw hz hq
  have hh : (s.made tag ws).handles = (ks ++ [s.objs.length]).map some := by rw [made_handles]; exact h.given _
  refine ⟨hm.dropped hh fun q o hqk ho j hj => ?_, by rw [hh]; simp⟩
  rw [made_idle hw h.ph hal] at ho
  obtain ⟨o', ho', _, h2⟩ := h.ob q hqk
  have : (s.place (s.newO tag ws)).objs[q]? = some o := ho
  rw [place_old (List.getElem?_eq_some_iff.1 ho').1, ho'] at this
  obtain rfl := Option.some.inj this
  exact h2 j hj

/-- The state that a new object is laid down in: this one, or the one behind Collect. -/
theorem RoomI.next {s t : S} {n z : Nat} {ks : List Nat} (h : RoomI s n z ks) (hw : WF s) (ht : t = s ∨ t = s.collect) : RoomI t n z ks ∧ WF t ∧ t.objs.length = s.objs.length ∧ t.epoch ≤ s.epoch + 1 := by
  rcases ht with rfl | rfl
  · exact ⟨h, hw, rfl, Nat.le_succ _⟩
  · obtain ⟨a1, a2, a3, a4⟩ := wf_collect hw (by rw [h.ph]; decide)
    exact ⟨(h.collect hw).1, a1, by have := congrArg List.length a3.conts; simpa [S.conts] using this, Nat.le_of_eq a4⟩
end Go.Proofs.Ytfjgokbclgdfjaa.HM
