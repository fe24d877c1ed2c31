/- What always holds of the heap, and what a cycle does. No Go in sight. -/
import Derived.Test.YtfjgokbclgdfjaaModel
namespace Go.Proofs.Ytfjgokbclgdfjaa.HM

/-! ### Sums -/
def rsum : Nat → (Nat → Nat) → Nat
  | 0, _ => 0
  | n + 1, f => rsum n f + f n

theorem rsum_congr {n : Nat} {f g : Nat → Nat} (h : ∀ i, i < n → f i = g i) : rsum n f = rsum n g := by
  induction n with
  | zero => rfl
  | succ n ih => simp only [rsum]; rw [ih (fun i hi => h i (by omega)), h n (by omega)]

theorem rsum_update {n : Nat} {f g : Nat → Nat} {k : Nat} (hk : k < n) (h : ∀ i, i < n → i ≠ k → f i = g i) : rsum n f + g k = rsum n g + f k := by
  induction n with
  | zero => omega
  | succ n ih =>
    simp only [rsum]
    by_cases hn : k = n
    · subst hn
      rw [rsum_congr (fun i hi => h i (by omega) (by omega))]
      omega
    · have := ih (by omega) (fun i hi hne => h i (by omega) hne)
      rw [h n (by omega) (fun e => hn e.symm)]
      omega

theorem rsum_le {n : Nat} {f g : Nat → Nat} (h : ∀ i, i < n → f i ≤ g i) : rsum n f ≤ rsum n g := by
  induction n with
  | zero => simp [rsum]
  | succ n ih => simp only [rsum]; have := ih (fun i hi => h i (by omega)); have := h n (by omega); omega

theorem rsum_zero {n : Nat} {f : Nat → Nat} (h : ∀ i, i < n → f i = 0) : rsum n f = 0 := by
  induction n with
  | zero => rfl
  | succ n ih => simp only [rsum]; rw [ih (fun i hi => h i (by omega)), h n (by omega)]

theorem rsum_ge {n : Nat} {f : Nat → Nat} {k : Nat} (hk : k < n) : f k ≤ rsum n f := by
  induction n with
  | zero => omega
  | succ n ih =>
    simp only [rsum]
    by_cases hn : k = n
    · subst hn; omega
    · have := ih (by omega); omega

theorem rsum_ge2 {n : Nat} {f : Nat → Nat} {j k : Nat} (hj : j < n) (hk : k < n) (hne : j ≠ k) : f j + f k ≤ rsum n f := by
  induction n with
  | zero => omega
  | succ n ih =>
    simp only [rsum]
    by_cases h1 : j = n
    · subst h1
      have := rsum_ge (f := f) (show k < j by omega)
      omega
    · by_cases h2 : k = n
      · subst h2
        have := rsum_ge (f := f) (show j < k by omega)
        omega
      · have := ih (by omega) (by omega); omega

/-! ### The invariant -/

/-- An object that has moved in the cycle (or lies still, if none is under way). -/
def S.Black (s : S) (i : Nat) (o : O) : Prop := o.epoch = s.epoch ∧ i ∉ s.grey
instance (s : S) (i : Nat) (o : O) : Decidable (s.Black i o) := by unfold S.Black; infer_instance

def S.szB (s : S) (i : Nat) : Nat := match s.objs[i]? with | some o => if s.Black i o then o.size else 0 | none => 0
def S.szW (s : S) (i : Nat) : Nat := match s.objs[i]? with | some o => if s.done ≤ o.epoch ∧ ¬ s.Black i o then o.size else 0 | none => 0

structure WF (s : S) : Prop where
  cur : s.cur ≤ 1
  ph : s.phase ≤ 3
  cursor : s.cursor ≤ s.handles.length
  idle : s.phase = 0 → s.done = s.epoch ∧ s.grey = []
  busy : 0 < s.phase → s.done + 1 = s.epoch
  last : s.phase = 3 → s.grey = []
  used : s.used = s.bump + s.stay
  epo : ∀ (i : Nat) (o : O), s.objs[i]? = some o → o.epoch ≤ s.epoch
  hand : ∀ (j i : Nat), s.handles[j]? = some (some i) → s.Alive i
  refs : ∀ (i : Nat) (o : O), s.objs[i]? = some o → s.done ≤ o.epoch → ∀ j, W.obj j ∈ o.ws → s.Alive j
  shape : ∀ (i : Nat) (o : O), s.objs[i]? = some o → ∃ r, o.ws = .num o.tag :: r ∧ (o.tag = -1 → r.length = 1) ∧ r.length ≤ 16 ∧ -1 ≤ o.tag ∧ o.tag ≤ 9223372036854775807
  weak : ∀ i, i ∈ s.weak → i < s.objs.length
  greyN : s.grey.Nodup
  greyE : ∀ i, i ∈ s.grey → ∃ o, s.objs[i]? = some o ∧ o.epoch = s.epoch
  loc : ∀ (i : Nat) (o : O), s.objs[i]? = some o → s.done ≤ o.epoch → (s.Black i o → o.space = s.cur ∧ o.place + o.size ≤ s.bump) ∧ (¬ s.Black i o → o.space ≤ 1 ∧ o.space ≠ s.cur ∧ o.place + o.size ≤ s.room)
  disj : ∀ (i j : Nat) (o o' : O), s.objs[i]? = some o → s.objs[j]? = some o' → i ≠ j → s.done ≤ o.epoch → s.done ≤ o'.epoch → o.space = o'.space → o.place + o.size ≤ o'.place ∨ o'.place + o'.size ≤ o.place
  bump : s.bump = rsum s.objs.length s.szB
  stay : s.stay = rsum s.objs.length s.szW
  room : s.bump + s.stay ≤ s.room
  tri : 0 < s.phase → ∀ (i : Nat) (o : O), s.objs[i]? = some o → s.Black i o → ∀ j, W.obj j ∈ o.ws → s.ep j = s.epoch
  roots : ∀ (j i : Nat), s.handles[j]? = some (some i) → (s.phase = 1 → j < s.cursor → s.ep i = s.epoch) ∧ (2 ≤ s.phase → s.ep i = s.epoch)

theorem ep_some {s : S} {i : Nat} {o : O} (h : s.objs[i]? = some o) : s.ep i = o.epoch := by simp [S.ep, h]

theorem WF.doneLe {s : S} (h : WF s) : s.done ≤ s.epoch := by
  rcases Nat.eq_zero_or_pos s.phase with hp | hp
  · have := h.idle hp; omega
  · have := h.busy hp; omega

theorem WF.sizePos {s : S} (h : WF s) {i : Nat} {o : O} (ho : s.objs[i]? = some o) : 0 < o.size := by
  obtain ⟨r, hr, _⟩ := h.shape i o ho
  simp [O.size, hr]

theorem WF.size17 {s : S} (h : WF s) {i : Nat} {o : O} (ho : s.objs[i]? = some o) : o.size ≤ 17 := by
  obtain ⟨r, hr, _, h16, _⟩ := h.shape i o ho
  simp [O.size, hr]; omega

/-- What shading makes of an object. -/
theorem shade_get {s : S} {i j : Nat} {o' : O} (h : (s.shade i).objs[j]? = some o') :
    ∃ o, s.objs[j]? = some o ∧ o'.tag = o.tag ∧ o'.ws = o.ws ∧ o'.space = o.space ∧ o'.place = o.place ∧ ((i = j ∧ s.ep i < s.epoch ∧ o'.epoch = s.epoch) ∨ (o' = o ∧ ¬ (s.ep i < s.epoch ∧ i = j))) := by
  rw [shade_obj] at h
  by_cases hc : s.ep i < s.epoch ∧ i = j
  · rw [if_pos hc] at h
    obtain ⟨o, ho, rfl⟩ := Option.map_eq_some_iff.1 h
    exact ⟨o, ho, rfl, rfl, rfl, rfl, .inl ⟨hc.2, hc.1, rfl⟩⟩
  · rw [if_neg hc] at h
    exact ⟨o', h, rfl, rfl, rfl, rfl, .inr ⟨rfl, hc⟩⟩

theorem shade_some {s : S} {i j : Nat} {o : O} (h : s.objs[j]? = some o) : ∃ o', (s.shade i).objs[j]? = some o' ∧ o'.tag = o.tag ∧ o'.ws = o.ws ∧ o'.space = o.space ∧ o'.place = o.place ∧ o.epoch ≤ o'.epoch ∨ s.epoch < o.epoch := by
  by_cases he : s.epoch < o.epoch
  · exact ⟨o, .inr he⟩
  · rw [shade_obj, h]
    by_cases hc : s.ep i < s.epoch ∧ i = j
    · rw [if_pos hc]; exact ⟨_, .inl ⟨rfl, rfl, rfl, rfl, rfl, by simp; omega⟩⟩
    · rw [if_neg hc]; exact ⟨o, .inl ⟨rfl, rfl, rfl, rfl, rfl, Nat.le_refl _⟩⟩

/-- The epoch of an object behind shading. -/
theorem shade_ep (s : S) (i j : Nat) : (s.shade i).ep j = if s.ep i < s.epoch ∧ i = j then s.epoch else s.ep j := by
  unfold S.ep
  rw [shade_obj, (shade_same s i).2.2.2.2.2.2.1]
  by_cases hc : ((s.objs[i]?).map (·.epoch)).getD s.epoch < s.epoch ∧ i = j
  · have hc' : s.ep i < s.epoch ∧ i = j := hc
    rw [if_pos hc', if_pos hc]
    cases s.objs[j]? <;> rfl
  · have hc' : ¬ (s.ep i < s.epoch ∧ i = j) := hc
    rw [if_neg hc', if_neg hc]

theorem shade_ep_ge {s : S} {i j : Nat} (h : s.ep j = s.epoch) : (s.shade i).ep j = (s.shade i).epoch := by
  rw [shade_ep, (shade_same s i).2.2.2.2.2.2.1]; split <;> first | rfl | exact h

/-- The object that is shaded is not white any more. -/
theorem shade_self {s : S} (hepo : ∀ (i : Nat) (o : O), s.objs[i]? = some o → o.epoch ≤ s.epoch) (i : Nat) : (s.shade i).ep i = (s.shade i).epoch := by
  rw [shade_ep, (shade_same s i).2.2.2.2.2.2.1]
  by_cases hc : s.ep i < s.epoch
  · simp [hc]
  · rw [if_neg (by simp [hc])]
    unfold S.ep at hc ⊢
    cases ho : s.objs[i]? with
    | none => simp
    | some o => have := hepo i o ho; simp [ho] at hc ⊢; omega

theorem shade_grey (s : S) (i : Nat) : (s.shade i).grey = if s.ep i < s.epoch then s.grey ++ [i] else s.grey := by
  unfold S.shade; split <;> rfl

/-- Black stays black, and nothing else becomes so. -/
theorem shade_black {s : S} {i j : Nat} {o o' : O} (ho : s.objs[j]? = some o) (ho' : (s.shade i).objs[j]? = some o') : (s.shade i).Black j o' ↔ s.Black j o := by
  unfold S.Black
  rw [(shade_same s i).2.2.2.2.2.2.1, shade_grey]
  obtain ⟨o1, h1, _, _, _, _, hc⟩ := shade_get ho'
  rw [ho] at h1
  obtain rfl := Option.some.inj h1
  rcases hc with ⟨rfl, hlt, he⟩ | ⟨rfl, hn⟩
  · rw [if_pos hlt]
    have := ep_some ho
    constructor
    · rintro ⟨_, hg⟩; simp at hg
    · rintro ⟨h1, _⟩; omega
  · by_cases hlt : s.ep i < s.epoch
    · rw [if_pos hlt]
      have hij : i ≠ j := fun e => hn ⟨hlt, e⟩
      simp
      intro _ _ e
      exact hij e.symm
    · rw [if_neg hlt]

theorem alive_iff_of {s : S} {i j : Nat} {o o' : O} (ho : s.objs[j]? = some o) (ho' : (s.shade i).objs[j]? = some o') (hepo : o.epoch ≤ s.epoch) (hi : s.Alive i) : s.done ≤ o'.epoch ↔ s.done ≤ o.epoch := by
  obtain ⟨o1, h1, _, _, _, _, hc⟩ := shade_get ho'
  rw [ho] at h1
  obtain rfl := Option.some.inj h1
  rcases hc with ⟨rfl, hlt, he⟩ | ⟨rfl, hn⟩
  · obtain ⟨oi, hoi, hli⟩ := hi
    rw [ho] at hoi
    obtain rfl := Option.some.inj hoi
    omega
  · exact Iff.rfl

theorem wf_shade {s : S} (h : WF s) {i : Nat} (hi : s.Alive i) (hb : 0 < s.phase ∧ s.phase ≤ 2 ∨ ¬ s.ep i < s.epoch) : WF (s.shade i) := by
  have hs := shade_same s i
  have hd := h.doneLe
  have hget : ∀ {j : Nat} {o' : O}, (s.shade i).objs[j]? = some o' → ∃ o, s.objs[j]? = some o ∧ o'.tag = o.tag ∧ o'.ws = o.ws ∧ o'.space = o.space ∧ o'.place = o.place ∧ (s.done ≤ o'.epoch ↔ s.done ≤ o.epoch) ∧ ((s.shade i).Black j o' ↔ s.Black j o) ∧ o'.epoch ≤ s.epoch := by
    intro j o' hj
    obtain ⟨o, ho, h1, h2, h3, h4, hc⟩ := shade_get hj
    refine ⟨o, ho, h1, h2, h3, h4, alive_iff_of ho hj (h.epo j o ho) hi, shade_black ho hj, ?_⟩
    rcases hc with ⟨_, _, he⟩ | ⟨rfl, _⟩
    · omega
    · exact h.epo j _ ho
  have hal : ∀ {j : Nat}, s.Alive j → (s.shade i).Alive j := fun hj => alive_shade hj hd
  have hnone : ∀ {j : Nat}, s.objs[j]? = none → (s.shade i).objs[j]? = none := by
    intro j hj; rw [shade_obj, hj]; split <;> rfl
  have hsize : ∀ {o o' : O}, o'.ws = o.ws → o'.size = o.size := fun e => by simp [O.size, e]
  refine ⟨by rw [hs.2.1]; exact h.cur, by rw [hs.2.2.2.2.2.2.2.2.1]; exact h.ph, by rw [hs.2.2.2.2.2.2.2.2.2.1, hs.2.2.2.2.2.1]; exact h.cursor, ?_, ?_, ?_, ?_, ?_, ?_, ?_, ?_, ?_, ?_, ?_, ?_, ?_, ?_, ?_, ?_, ?_, ?_⟩
  · rw [hs.2.2.2.2.2.2.2.2.1, hs.2.2.2.2.2.2.2.1, hs.2.2.2.2.2.2.1, shade_grey]
    intro hp
    rw [if_neg (by rcases hb with hb | hb; · omega
                   · exact hb)]
    exact h.idle hp
  · rw [hs.2.2.2.2.2.2.2.2.1, hs.2.2.2.2.2.2.2.1, hs.2.2.2.2.2.2.1]; exact h.busy
  · rw [hs.2.2.2.2.2.2.2.2.1, shade_grey]
    intro hp
    rw [if_neg (by rcases hb with hb | hb; · omega
                   · exact hb)]
    exact h.last hp
  · rw [hs.2.2.1, hs.2.2.2.1, hs.2.2.2.2.1]; exact h.used
  · intro j o' hj
    rw [hs.2.2.2.2.2.2.1]
    obtain ⟨_, _, _, _, _, _, _, _, he⟩ := hget hj
    exact he
  · intro j k hjk
    rw [hs.2.2.2.2.2.1] at hjk
    exact hal (h.hand j k hjk)
  · intro j o' hj hl k hk
    rw [hs.2.2.2.2.2.2.2.1] at hl
    obtain ⟨o, ho, _, h2, _, _, h5, _, _⟩ := hget hj
    exact hal (h.refs j o ho (h5.1 hl) k (h2 ▸ hk))
  · intro j o' hj
    obtain ⟨o, ho, h1, h2, _⟩ := hget hj
    rw [h1, h2]
    exact h.shape j o ho
  · rw [hs.2.2.2.2.2.2.2.2.2.2.1, hs.2.2.2.2.2.2.2.2.2.2.2.1]; exact h.weak
  · rw [shade_grey]
    by_cases hlt : s.ep i < s.epoch
    · rw [if_pos hlt, List.nodup_append]
      refine ⟨h.greyN, by simp, ?_⟩
      intro a ha b hb' hab
      simp at hb'
      subst hb' hab
      obtain ⟨o, ho, he⟩ := h.greyE a ha
      rw [ep_some ho] at hlt
      omega
    · rw [if_neg hlt]; exact h.greyN
  · intro j hj
    rw [shade_grey] at hj
    rw [hs.2.2.2.2.2.2.1]
    by_cases hlt : s.ep i < s.epoch
    · rw [if_pos hlt] at hj
      simp only [List.mem_append, List.mem_singleton] at hj
      rw [shade_obj]
      rcases hj with hj | rfl
      · obtain ⟨o, ho, he⟩ := h.greyE j hj
        have hij : ¬ (s.ep i < s.epoch ∧ i = j) := by rintro ⟨_, rfl⟩; rw [ep_some ho] at hlt; omega
        rw [if_neg hij]
        exact ⟨o, ho, he⟩
      · obtain ⟨o, ho, _⟩ := hi
        rw [if_pos ⟨hlt, rfl⟩, ho]
        exact ⟨_, rfl, rfl⟩
    · rw [if_neg hlt] at hj
      obtain ⟨o, ho, he⟩ := h.greyE j hj
      rw [shade_obj, if_neg (by simp [hlt])]
      exact ⟨o, ho, he⟩
  · intro j o' hj hl
    rw [hs.2.2.2.2.2.2.2.1] at hl
    obtain ⟨o, ho, _, h2, h3, h4, h5, h6, _⟩ := hget hj
    rw [h6, h3, h4, hsize h2, hs.2.1, hs.2.2.2.1, hs.1]
    exact h.loc j o ho (h5.1 hl)
  · intro j k o1 o2 h1 h2 hne hl1 hl2 hsp
    rw [hs.2.2.2.2.2.2.2.1] at hl1 hl2
    obtain ⟨p1, hp1, _, a2, a3, a4, a5, _, _⟩ := hget h1
    obtain ⟨p2, hp2, _, b2, b3, b4, b5, _, _⟩ := hget h2
    rw [a4, b4, hsize a2, hsize b2]
    exact h.disj j k p1 p2 hp1 hp2 hne (a5.1 hl1) (b5.1 hl2) (by rw [← a3, ← b3]; exact hsp)
  · rw [hs.2.2.2.1, hs.2.2.2.2.2.2.2.2.2.2.2.1, h.bump]
    refine rsum_congr fun j _ => ?_
    unfold S.szB
    cases hj : (s.shade i).objs[j]? with
    | none =>
      cases hj' : s.objs[j]? with
      | none => rfl
      | some o => obtain ⟨o', ho' | hbad⟩ := shade_some (i := i) hj'
                  · rw [hj] at ho'; simp at ho'
                  · have := h.epo j o hj'; omega
    | some o' =>
      obtain ⟨o, ho, _, h2, _, _, _, h6, _⟩ := hget hj
      simp only [ho, h6, hsize h2]
  · rw [hs.2.2.2.2.1, hs.2.2.2.2.2.2.2.2.2.2.2.1, h.stay]
    refine rsum_congr fun j _ => ?_
    unfold S.szW
    cases hj : (s.shade i).objs[j]? with
    | none =>
      cases hj' : s.objs[j]? with
      | none => rfl
      | some o => obtain ⟨o', ho' | hbad⟩ := shade_some (i := i) hj'
                  · rw [hj] at ho'; simp at ho'
                  · have := h.epo j o hj'; omega
    | some o' =>
      obtain ⟨o, ho, _, h2, _, _, h5, h6, _⟩ := hget hj
      simp only [ho, h6, hsize h2, hs.2.2.2.2.2.2.2.1, h5]
  · rw [hs.2.2.2.1, hs.2.2.2.2.1, hs.1]; exact h.room
  · rw [hs.2.2.2.2.2.2.2.2.1]
    intro hp j o' hj hbl k hk
    obtain ⟨o, ho, _, h2, _, _, _, h6, _⟩ := hget hj
    exact shade_ep_ge (h.tri hp j o ho (h6.1 hbl) k (h2 ▸ hk))
  · rw [hs.2.2.2.2.2.1, hs.2.2.2.2.2.2.2.2.1, hs.2.2.2.2.2.2.2.2.2.1]
    intro j k hjk
    have := h.roots j k hjk
    exact ⟨fun hp hc => shade_ep_ge (this.1 hp hc), fun hp => shade_ep_ge (this.2 hp)⟩

end Go.Proofs.Ytfjgokbclgdfjaa.HM
