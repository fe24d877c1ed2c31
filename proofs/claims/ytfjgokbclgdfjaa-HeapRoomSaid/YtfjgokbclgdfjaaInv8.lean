/- What lives behind Collect: what the handles reach. No Go in sight. -/
import Derived.Test.YtfjgokbclgdfjaaGm
namespace Go.Proofs.Ytfjgokbclgdfjaa.HM

/-- What is marked in the cycle is in K; so are the handles' objects; K's objects refer into K. -/
structure KIn (s : S) (K : Nat → Prop) : Prop where
  marks : ∀ (i : Nat) (o : O), s.objs[i]? = some o → o.epoch = s.epoch → K i
  hands : ∀ (j i : Nat), s.handles[j]? = some (some i) → K i
  refs : ∀ (i : Nat) (o : O), s.objs[i]? = some o → K i → ∀ j, W.obj j ∈ o.ws → K j

theorem kin_shade {s : S} {K : Nat → Prop} (h : KIn s K) {i : Nat} (hi : K i) : KIn (s.shade i) K := by
  have hs := shade_same s i
  refine ⟨fun j o hj he => ?_, fun j q hj => h.hands j q (by rw [← hs.2.2.2.2.2.1]; exact hj), fun j o hj hk q hq => ?_⟩
  · rw [shade_obj] at hj
    by_cases hc : s.ep i < s.epoch ∧ i = j
    · rw [← hc.2]; exact hi
    · rw [if_neg hc] at hj
      exact h.marks j o hj (by rw [he, hs.2.2.2.2.2.2.1])
  · rw [shade_obj] at hj
    by_cases hc : s.ep i < s.epoch ∧ i = j
    · rw [if_pos hc] at hj
      cases ho : s.objs[j]? with
      | none => rw [ho] at hj; simp at hj
      | some o' =>
        rw [ho] at hj
        simp at hj
        subst hj
        exact h.refs j o' ho hk q hq
    · rw [if_neg hc] at hj
      exact h.refs j o hj hk q hq

theorem kin_shades {K : Nat → Prop} (l : List W) : ∀ {s : S}, KIn s K → (∀ j, W.obj j ∈ l → K j) → KIn (s.shades l) K := by
  induction l with
  | nil => intro s h _; exact h
  | cons x r ih =>
    intro s h hl
    have h1 : KIn (s.shadeW x) K := by
      cases x with
      | num n => exact h
      | obj i => exact kin_shade h (hl i (by simp))
    exact ih (s := s.shadeW x) h1 (fun j hj => hl j (by simp [hj]))

theorem kin_cursor {s : S} {K : Nat → Prop} (h : KIn s K) (n : Nat) : KIn { s with cursor := n } K := ⟨h.marks, h.hands, h.refs⟩

theorem kin_roots {s : S} {K : Nat → Prop} (h : KIn s K) : KIn s.roots.1 K := by
  rcases roots_cases s with ⟨k, i, hk, _, e⟩ | ⟨_, e⟩
  · rw [e]; exact kin_cursor (kin_shade h (h.hands _ _ hk)) _
  · rw [e]; exact kin_cursor h _

theorem kin_moved {s : S} {K : Nat → Prop} (h : KIn s K) {i : Nat} {o : O} {rest : List Nat} (ho : s.objs[i]? = some o) : KIn (moved s i o rest) K := by
  have key : ∀ (j : Nat) (o' : O), (moved s i o rest).objs[j]? = some o' → ∃ o0, s.objs[j]? = some o0 ∧ o0.epoch = o'.epoch ∧ o0.ws = o'.ws := fun j o' hj => by
    simp only [moved, List.getElem?_set] at hj
    by_cases e : i = j
    · subst e
      rw [if_pos rfl] at hj
      split at hj
      · simp at hj; subst hj; exact ⟨o, ho, rfl, rfl⟩
      · simp at hj
    · rw [if_neg e] at hj; exact ⟨o', hj, rfl, rfl⟩
  refine ⟨fun j o' hj he => ?_, h.hands, fun j o' hj hk q hq => ?_⟩
  · obtain ⟨o0, h1, h2, _⟩ := key j o' hj
    exact h.marks j o0 h1 (h2.trans he)
  · obtain ⟨o0, h1, _, h3⟩ := key j o' hj
    exact h.refs j o0 h1 hk q (by rw [h3]; exact hq)

theorem kin_trace {s : S} {K : Nat → Prop} (hw : WF s) (h : KIn s K) : KIn s.trace.1 K := by
  cases hg : s.grey with
  | nil => rw [show s.trace = (s, false) from by simp [S.trace, hg]]; exact h
  | cons i rest =>
    obtain ⟨o, ho, he⟩ := hw.greyE i (by rw [hg]; simp)
    rw [trace_some_eq hg ho]
    have hk := h.marks i o ho he
    exact kin_shades _ (kin_moved h ho) fun j hj => h.refs i o ho hk j (List.mem_of_mem_tail hj)

theorem kin_phase {s : S} {K : Nat → Prop} (h : KIn s K) (p : Nat) : KIn { s with phase := p } K := ⟨h.marks, h.hands, h.refs⟩

theorem kin_finish {s : S} {K : Nat → Prop} (h : KIn s K) : KIn s.finish K := ⟨h.marks, h.hands, h.refs⟩

theorem kin_step2 {s : S} {K : Nat → Prop} (hw : WF s) (h : KIn s K) : KIn s.step2.1 K := by
  have ht := kin_trace hw h
  unfold S.step2
  revert ht
  cases e : s.trace with
  | mk t b =>
    intro ht
    cases b
    · exact kin_finish (kin_phase ht 3)
    · exact ht

theorem kin_step {s : S} {K : Nat → Prop} (hw : WF s) (h : KIn s K) : KIn s.step.1 K := by
  unfold S.step
  by_cases h0 : s.phase = 0
  · rw [if_pos h0]; exact h
  · rw [if_neg h0]
    by_cases h1 : s.phase = 1
    · rw [if_pos h1]
      have hr := kin_roots h
      have hwr := wf_roots hw h1
      revert hr hwr
      cases e : s.roots with
      | mk t b =>
        intro hr hwr
        cases b
        · exact kin_step2 (hwr.2 rfl) (kin_phase hr 2)
        · exact hr
    · rw [if_neg h1]; exact kin_step2 hw h

theorem kin_wholeN {K : Nat → Prop} : ∀ (n : Nat) {s : S}, WF s → s.phase ≤ 2 → KIn s K → KIn (s.wholeN n) K
  | 0, _, _, _, h => h
  | n + 1, s, hw, hp, h => by
    simp only [S.wholeN]
    by_cases h0 : s.phase = 0
    · rw [if_pos h0]; exact h
    · rw [if_neg h0]
      obtain ⟨a1, a2, _⟩ := wf_step hw hp
      exact kin_wholeN n a1 a2 (kin_step hw h)

theorem kin_collect {s : S} {K : Nat → Prop} (hw : WF s) (h0 : s.phase = 0) (hands : ∀ (j i : Nat), s.handles[j]? = some (some i) → K i)
    (refs : ∀ (i : Nat) (o : O), s.objs[i]? = some o → K i → ∀ j, W.obj j ∈ o.ws → K j) : KIn s.collect K := by
  have e : s.whole = s := wholeN_idle _ _ h0
  unfold S.collect
  rw [e]
  have hb : KIn s.begin K := by
    unfold S.begin
    rw [if_neg (by omega)]
    exact ⟨fun i o hi he => absurd (hw.epo i o hi) (by simp at he; omega), hands, refs⟩
  have hp : s.begin.phase ≤ 2 := by unfold S.begin; rw [if_neg (by omega)]; simp
  exact kin_wholeN _ (wf_begin hw) hp hb

/-! ### Sums over a list of numbers -/
theorem rsum_add {n : Nat} (f g : Nat → Nat) : rsum n (fun i => f i + g i) = rsum n f + rsum n g := by
  induction n with
  | zero => rfl
  | succ n ih => simp only [rsum, ih]; omega

theorem rsum_one {n : Nat} (k z : Nat) : rsum n (fun i => if i = k then z else 0) = if k < n then z else 0 := by
  induction n with
  | zero => rfl
  | succ n ih =>
    simp only [rsum, ih]
    by_cases h : n = k
    · subst h; simp
    · by_cases h2 : k < n
      · rw [if_pos h2, if_neg h, if_pos (by omega)]; rfl
      · rw [if_neg h2, if_neg h, if_neg (by omega)]

theorem rsum_in_le {n : Nat} (z : Nat) (ks : List Nat) : rsum n (fun i => if i ∈ ks then z else 0) ≤ ks.length * z := by
  induction ks with
  | nil => rw [rsum_zero (fun i _ => by simp)]; exact Nat.zero_le _
  | cons k r ih =>
    have h1 : rsum n (fun i => if i ∈ k :: r then z else 0) ≤ rsum n (fun i => (if i = k then z else 0) + (if i ∈ r then z else 0)) := rsum_le fun i _ => by
      by_cases a : i = k <;> by_cases b : i ∈ r <;> simp [a, b]
    rw [rsum_add, rsum_one] at h1
    have h2 : (k :: r).length * z = r.length * z + z := by rw [List.length_cons, Nat.succ_mul]
    split at h1 <;> omega

theorem rsum_in_ge {n : Nat} (z : Nat) (ks : List Nat) (hn : ks.Nodup) (hl : ∀ k, k ∈ ks → k < n) : ks.length * z ≤ rsum n (fun i => if i ∈ ks then z else 0) := by
  induction ks with
  | nil => simp
  | cons k r ih =>
    rw [List.nodup_cons] at hn
    have h1 : rsum n (fun i => (if i = k then z else 0) + (if i ∈ r then z else 0)) ≤ rsum n (fun i => if i ∈ k :: r then z else 0) := rsum_le fun i _ => by
      by_cases a : i = k
      · subst a; simp [hn.1]
      · by_cases b : i ∈ r <;> simp [a, b]
    rw [rsum_add, rsum_one, if_pos (hl k (by simp))] at h1
    have h2 := ih hn.2 (fun q hq => hl q (by simp [hq]))
    have h3 : (k :: r).length * z = r.length * z + z := by rw [List.length_cons, Nat.succ_mul]
    omega

/-- What lies in the heap, where no cycle is under way: objects of one size. -/
theorem bump_ge {s : S} (hw : WF s) {z : Nat} {ks : List Nat} (hn : ks.Nodup) (h0 : s.phase = 0) (hk : ∀ k, k ∈ ks → ∃ o, s.objs[k]? = some o ∧ s.done ≤ o.epoch ∧ o.size = z) : ks.length * z ≤ s.bump := by
  rw [hw.bump]
  refine Nat.le_trans (rsum_in_ge z ks hn fun k hkk => ?_) (rsum_le fun i hi => ?_)
  · obtain ⟨o, ho, _⟩ := hk k hkk; exact (List.getElem?_eq_some_iff.1 ho).1
  · by_cases h : i ∈ ks
    · obtain ⟨o, ho, hd, hz⟩ := hk i h
      have hb : s.Black i o := ⟨by have := hw.epo i o ho; have := (hw.idle h0).1; omega, by rw [(hw.idle h0).2]; simp⟩
      simp [h, S.szB, ho, hb, hz]
    · simp [h]

theorem bump_le {s : S} (hw : WF s) {z : Nat} {ks : List Nat} (h : KIn s (· ∈ ks)) (hk : ∀ k o, k ∈ ks → s.objs[k]? = some o → o.size = z) : s.bump ≤ ks.length * z := by
  rw [hw.bump]
  refine Nat.le_trans (rsum_le fun i hi => ?_) (rsum_in_le z ks)
  unfold S.szB
  cases ho : s.objs[i]? with
  | none => simp
  | some o =>
    by_cases hb : s.Black i o
    · have hm := h.marks i o ho hb.1
      simp [hb, hm, hk i o hm ho]
    · simp [hb]
end Go.Proofs.Ytfjgokbclgdfjaa.HM
