/- What always holds of the heap, and what a cycle does. No Go in sight. The steps of a cycle keep the invariant. A step of tracing keeps the invariant; a cycle ends. A cycle ends; what it leaves. -/
import Derived.Test.YtfjgokbclgdfjaaModel
set_option linter.unusedSimpArgs false
set_option linter.unusedVariables false
namespace Go.Proofs.Ytfjgokbclgdfjaa.HM

/-! ### Sums -/
def rsum : Nat → (Nat → Nat) → Nat
  | 0, _ => 0
  | n + 1, f => rsum n f + f n

theorem rsum_congr {n : Nat} {f g : Nat → Nat} (h : ∀ i, i < n → f i = g i) : rsum n f = rsum n g := by
  induction n with
  | zero => rfl
  | succ n ih => simp only [rsum]; rw [ih (fun i hi => h i (by omega)), h n (by omega)]

theorem rsum_update {n : Nat} {f g : Nat → Nat} {k : Nat} (hk : k < n) (h : ∀ i, i < n → i ≠ k → f i = g i) : rsum n f + g k = rsum n g + f k := by
  induction n with
  | zero => omega
  | succ n ih =>
    simp only [rsum]
    by_cases hn : k = n
    · subst hn
      rw [rsum_congr (fun i hi => h i (by omega) (by omega))]
      omega
    · have := ih (by omega) (fun i hi hne => h i (by omega) hne)
      rw [h n (by omega) (fun e => hn e.symm)]
      omega

theorem rsum_le {n : Nat} {f g : Nat → Nat} (h : ∀ i, i < n → f i ≤ g i) : rsum n f ≤ rsum n g := by
  induction n with
  | zero => simp [rsum]
  | succ n ih => simp only [rsum]; have := ih (fun i hi => h i (by omega)); have := h n (by omega); omega

theorem rsum_zero {n : Nat} {f : Nat → Nat} (h : ∀ i, i < n → f i = 0) : rsum n f = 0 := by
  induction n with
  | zero => rfl
  | succ n ih => simp only [rsum]; rw [ih (fun i hi => h i (by omega)), h n (by omega)]

theorem rsum_ge {n : Nat} {f : Nat → Nat} {k : Nat} (hk : k < n) : f k ≤ rsum n f := by
  induction n with
  | zero => omega
  | succ n ih =>
    simp only [rsum]
    by_cases hn : k = n
    · subst hn; omega
    · have := ih (by omega); omega

theorem rsum_ge2 {n : Nat} {f : Nat → Nat} {j k : Nat} (hj : j < n) (hk : k < n) (hne : j ≠ k) : f j + f k ≤ rsum n f := by
  induction n with
  | zero => omega
  | succ n ih =>
    simp only [rsum]
    by_cases h1 : j = n
    · subst h1
      have := rsum_ge (f := f) (show k < j by omega)
      omega
    · by_cases h2 : k = n
      · subst h2
        have := rsum_ge (f := f) (show j < k by omega)
        omega
      · have := ih (by omega) (by omega); omega

/-! ### The invariant -/

/-- An object that has moved in the cycle (or lies still, if none is under way). -/
def S.Black (s : S) (i : Nat) (o : O) : Prop := o.epoch = s.epoch ∧ i ∉ s.grey
instance (s : S) (i : Nat) (o : O) : Decidable (s.Black i o) := by unfold S.Black; infer_instance

def S.szB (s : S) (i : Nat) : Nat := match s.objs[i]? with | some o => if s.Black i o then o.size else 0 | none => 0
def S.szW (s : S) (i : Nat) : Nat := match s.objs[i]? with | some o => if s.done ≤ o.epoch ∧ ¬ s.Black i o then o.size else 0 | none => 0

structure WF (s : S) : Prop where
  cur : s.cur ≤ 1
  ph : s.phase ≤ 3
  cursor : s.cursor ≤ s.handles.length
  idle : s.phase = 0 → s.done = s.epoch ∧ s.grey = []
  busy : 0 < s.phase → s.done + 1 = s.epoch
  last : s.phase = 3 → s.grey = []
  used : s.used = s.bump + s.stay
  epo : ∀ (i : Nat) (o : O), s.objs[i]? = some o → o.epoch ≤ s.epoch
  hand : ∀ (j i : Nat), s.handles[j]? = some (some i) → s.Alive i
  refs : ∀ (i : Nat) (o : O), s.objs[i]? = some o → s.done ≤ o.epoch → ∀ j, W.obj j ∈ o.ws → s.Alive j
  shape : ∀ (i : Nat) (o : O), s.objs[i]? = some o → ∃ r, o.ws = .num o.tag :: r ∧ (o.tag = -1 → r.length = 1) ∧ r.length ≤ 16 ∧ -1 ≤ o.tag ∧ o.tag ≤ 9223372036854775807
  weak : ∀ i, i ∈ s.weak → i < s.objs.length
  greyN : s.grey.Nodup
  greyE : ∀ i, i ∈ s.grey → ∃ o, s.objs[i]? = some o ∧ o.epoch = s.epoch
  loc : ∀ (i : Nat) (o : O), s.objs[i]? = some o → s.done ≤ o.epoch → (s.Black i o → o.space = s.cur ∧ o.place + o.size ≤ s.bump) ∧ (¬ s.Black i o → o.space ≤ 1 ∧ o.space ≠ s.cur ∧ o.place + o.size ≤ s.room)
  disj : ∀ (i j : Nat) (o o' : O), s.objs[i]? = some o → s.objs[j]? = some o' → i ≠ j → s.done ≤ o.epoch → s.done ≤ o'.epoch → o.space = o'.space → o.place + o.size ≤ o'.place ∨ o'.place + o'.size ≤ o.place
  bump : s.bump = rsum s.objs.length s.szB
  stay : s.stay = rsum s.objs.length s.szW
  room : s.bump + s.stay ≤ s.room
  tri : 0 < s.phase → ∀ (i : Nat) (o : O), s.objs[i]? = some o → s.Black i o → ∀ j, W.obj j ∈ o.ws → s.ep j = s.epoch
  roots : ∀ (j i : Nat), s.handles[j]? = some (some i) → (s.phase = 1 → j < s.cursor → s.ep i = s.epoch) ∧ (2 ≤ s.phase → s.ep i = s.epoch)

theorem ep_some {s : S} {i : Nat} {o : O} (h : s.objs[i]? = some o) : s.ep i = o.epoch := by simp [S.ep, h]

theorem WF.doneLe {s : S} (h : WF s) : s.done ≤ s.epoch := by
  rcases Nat.eq_zero_or_pos s.phase with hp | hp
  · have := h.idle hp; omega
  · have := h.busy hp; omega

theorem WF.sizePos {s : S} (h : WF s) {i : Nat} {o : O} (ho : s.objs[i]? = some o) : 0 < o.size := by
  obtain ⟨r, hr, _⟩ := h.shape i o ho
  simp [O.size, hr]

theorem WF.size17 {s : S} (h : WF s) {i : Nat} {o : O} (ho : s.objs[i]? = some o) : o.size ≤ 17 := by
  obtain ⟨r, hr, _, h16, _⟩ := h.shape i o ho
  simp [O.size, hr]; omega

/-- What shading makes of an object. -/
theorem shade_get {s : S} {i j : Nat} {o' : O} (h : (s.shade i).objs[j]? = some o') :
    ∃ o, s.objs[j]? = some o ∧ o'.tag = o.tag ∧ o'.ws = o.ws ∧ o'.space = o.space ∧ o'.place = o.place ∧ ((i = j ∧ s.ep i < s.epoch ∧ o'.epoch = s.epoch) ∨ (o' = o ∧ ¬ (s.ep i < s.epoch ∧ i = j))) := by
  rw [shade_obj] at h
  by_cases hc : s.ep i < s.epoch ∧ i = j
  · rw [if_pos hc] at h
    obtain ⟨o, ho, rfl⟩ := Option.map_eq_some_iff.1 h
    exact ⟨o, ho, rfl, rfl, rfl, rfl, .inl ⟨hc.2, hc.1, rfl⟩⟩
  · rw [if_neg hc] at h
    exact ⟨o', h, rfl, rfl, rfl, rfl, .inr ⟨rfl, hc⟩⟩

theorem shade_some {s : S} {i j : Nat} {o : O} (h : s.objs[j]? = some o) : ∃ o', (s.shade i).objs[j]? = some o' ∧ o'.tag = o.tag ∧ o'.ws = o.ws ∧ o'.space = o.space ∧ o'.place = o.place ∧ o.epoch ≤ o'.epoch ∨ s.epoch < o.epoch := by
  by_cases he : s.epoch < o.epoch
  · exact ⟨o, .inr he⟩
  · rw [shade_obj, h]
    by_cases hc : s.ep i < s.epoch ∧ i = j
    · rw [if_pos hc]; exact ⟨_, .inl ⟨rfl, rfl, rfl, rfl, rfl, by simp; omega⟩⟩
    · rw [if_neg hc]; exact ⟨o, .inl ⟨rfl, rfl, rfl, rfl, rfl, Nat.le_refl _⟩⟩

/-- The epoch of an object behind shading. -/
theorem shade_ep (s : S) (i j : Nat) : (s.shade i).ep j = if s.ep i < s.epoch ∧ i = j then s.epoch else s.ep j := by
  unfold S.ep
  rw [shade_obj, (shade_same s i).2.2.2.2.2.2.1]
  by_cases hc : ((s.objs[i]?).map (·.epoch)).getD s.epoch < s.epoch ∧ i = j
  · have hc' : s.ep i < s.epoch ∧ i = j := hc
    rw [if_pos hc', if_pos hc]
    cases s.objs[j]? <;> rfl
  · have hc' : ¬ (s.ep i < s.epoch ∧ i = j) := hc
    rw [if_neg hc', if_neg hc]

theorem shade_ep_ge {s : S} {i j : Nat} (h : s.ep j = s.epoch) : (s.shade i).ep j = (s.shade i).epoch := by
  rw [shade_ep, (shade_same s i).2.2.2.2.2.2.1]; split <;> first | rfl | exact h

/-- The object that is shaded is not white any more. -/
theorem shade_self {s : S} (hepo : ∀ (i : Nat) (o : O), s.objs[i]? = some o → o.epoch ≤ s.epoch) (i : Nat) : (s.shade i).ep i = (s.shade i).epoch := by
  rw [shade_ep, (shade_same s i).2.2.2.2.2.2.1]
  by_cases hc : s.ep i < s.epoch
  · simp [hc]
  · rw [if_neg (by simp [hc])]
    unfold S.ep at hc ⊢
    cases ho : s.objs[i]? with
    | none => simp
    | some o => have := hepo i o ho; simp [ho] at hc ⊢; omega

theorem shade_grey (s : S) (i : Nat) : (s.shade i).grey = if s.ep i < s.epoch then s.grey ++ [i] else s.grey := by
  unfold S.shade; split <;> rfl

/-- Black stays black, and nothing else becomes so. -/
theorem shade_black {s : S} {i j : Nat} {o o' : O} (ho : s.objs[j]? = some o) (ho' : (s.shade i).objs[j]? = some o') : (s.shade i).Black j o' ↔ s.Black j o := by
  unfold S.Black
  rw [(shade_same s i).2.2.2.2.2.2.1, shade_grey]
  obtain ⟨o1, h1, _, _, _, _, hc⟩ := shade_get ho'
  rw [ho] at h1
  obtain rfl := Option.some.inj h1
  rcases hc with ⟨rfl, hlt, he⟩ | ⟨rfl, hn⟩
  · rw [if_pos hlt]
    have := ep_some ho
    constructor
    · rintro ⟨_, hg⟩; simp at hg
    · rintro ⟨h1, _⟩; omega
  · by_cases hlt : s.ep i < s.epoch
    · rw [if_pos hlt]
      have hij : i ≠ j := fun e => hn ⟨hlt, e⟩
      simp
      intro _ _ e
      exact hij e.symm
    · rw [if_neg hlt]

theorem alive_iff_of {s : S} {i j : Nat} {o o' : O} (ho : s.objs[j]? = some o) (ho' : (s.shade i).objs[j]? = some o') (hepo : o.epoch ≤ s.epoch) (hi : s.Alive i) : s.done ≤ o'.epoch ↔ s.done ≤ o.epoch := by
  obtain ⟨o1, h1, _, _, _, _, hc⟩ := shade_get ho'
  rw [ho] at h1
  obtain rfl := Option.some.inj h1
  rcases hc with ⟨rfl, hlt, he⟩ | ⟨rfl, hn⟩
  · obtain ⟨oi, hoi, hli⟩ := hi
    rw [ho] at hoi
    obtain rfl := Option.some.inj hoi
    omega
  · exact Iff.rfl

theorem wf_shade {s : S} (h : WF s) {i : Nat} (hi : s.Alive i) (hb : 0 < s.phase ∧ s.phase ≤ 2 ∨ ¬ s.ep i < s.epoch) : WF (s.shade i) := by
  have hs := shade_same s i
  have hd := h.doneLe
  have hget : ∀ {j : Nat} {o' : O}, (s.shade i).objs[j]? = some o' → ∃ o, s.objs[j]? = some o ∧ o'.tag = o.tag ∧ o'.ws = o.ws ∧ o'.space = o.space ∧ o'.place = o.place ∧ (s.done ≤ o'.epoch ↔ s.done ≤ o.epoch) ∧ ((s.shade i).Black j o' ↔ s.Black j o) ∧ o'.epoch ≤ s.epoch := by
    intro j o' hj
    obtain ⟨o, ho, h1, h2, h3, h4, hc⟩ := shade_get hj
    refine ⟨o, ho, h1, h2, h3, h4, alive_iff_of ho hj (h.epo j o ho) hi, shade_black ho hj, ?_⟩
    rcases hc with ⟨_, _, he⟩ | ⟨rfl, _⟩
    · omega
    · exact h.epo j _ ho
  have hal : ∀ {j : Nat}, s.Alive j → (s.shade i).Alive j := fun hj => alive_shade hj hd
  have hnone : ∀ {j : Nat}, s.objs[j]? = none → (s.shade i).objs[j]? = none := by
    intro j hj; rw [shade_obj, hj]; split <;> rfl
  have hsize : ∀ {o o' : O}, o'.ws = o.ws → o'.size = o.size := fun e => by simp [O.size, e]
  refine ⟨by rw [hs.2.1]; exact h.cur, by rw [hs.2.2.2.2.2.2.2.2.1]; exact h.ph, by rw [hs.2.2.2.2.2.2.2.2.2.1, hs.2.2.2.2.2.1]; exact h.cursor, ?_, ?_, ?_, ?_, ?_, ?_, ?_, ?_, ?_, ?_, ?_, ?_, ?_, ?_, ?_, ?_, ?_, ?_⟩
  · rw [hs.2.2.2.2.2.2.2.2.1, hs.2.2.2.2.2.2.2.1, hs.2.2.2.2.2.2.1, shade_grey]
    intro hp
    rw [if_neg (by rcases hb with hb | hb; · omega
                   · exact hb)]
    exact h.idle hp
  · rw [hs.2.2.2.2.2.2.2.2.1, hs.2.2.2.2.2.2.2.1, hs.2.2.2.2.2.2.1]; exact h.busy
  · rw [hs.2.2.2.2.2.2.2.2.1, shade_grey]
    intro hp
    rw [if_neg (by rcases hb with hb | hb; · omega
                   · exact hb)]
    exact h.last hp
  · rw [hs.2.2.1, hs.2.2.2.1, hs.2.2.2.2.1]; exact h.used
  · intro j o' hj
    rw [hs.2.2.2.2.2.2.1]
    obtain ⟨_, _, _, _, _, _, _, _, he⟩ := hget hj
    exact he
  · intro j k hjk
    rw [hs.2.2.2.2.2.1] at hjk
    exact hal (h.hand j k hjk)
  · intro j o' hj hl k hk
    rw [hs.2.2.2.2.2.2.2.1] at hl
    obtain ⟨o, ho, _, h2, _, _, h5, _, _⟩ := hget hj
    exact hal (h.refs j o ho (h5.1 hl) k (h2 ▸ hk))
  · intro j o' hj
    obtain ⟨o, ho, h1, h2, _⟩ := hget hj
    rw [h1, h2]
    exact h.shape j o ho
  · rw [hs.2.2.2.2.2.2.2.2.2.2.1, hs.2.2.2.2.2.2.2.2.2.2.2.1]; exact h.weak
  · rw [shade_grey]
    by_cases hlt : s.ep i < s.epoch
    · rw [if_pos hlt, List.nodup_append]
      refine ⟨h.greyN, by simp, ?_⟩
      intro a ha b hb' hab
      simp at hb'
      subst hb' hab
      obtain ⟨o, ho, he⟩ := h.greyE a ha
      rw [ep_some ho] at hlt
      omega
    · rw [if_neg hlt]; exact h.greyN
  · intro j hj
    rw [shade_grey] at hj
    rw [hs.2.2.2.2.2.2.1]
    by_cases hlt : s.ep i < s.epoch
    · rw [if_pos hlt] at hj
      simp only [List.mem_append, List.mem_singleton] at hj
      rw [shade_obj]
      rcases hj with hj | rfl
      · obtain ⟨o, ho, he⟩ := h.greyE j hj
        have hij : ¬ (s.ep i < s.epoch ∧ i = j) := by rintro ⟨_, rfl⟩; rw [ep_some ho] at hlt; omega
        rw [if_neg hij]
        exact ⟨o, ho, he⟩
      · obtain ⟨o, ho, _⟩ := hi
        rw [if_pos ⟨hlt, rfl⟩, ho]
        exact ⟨_, rfl, rfl⟩
    · rw [if_neg hlt] at hj
      obtain ⟨o, ho, he⟩ := h.greyE j hj
      rw [shade_obj, if_neg (by simp [hlt])]
      exact ⟨o, ho, he⟩
  · intro j o' hj hl
    rw [hs.2.2.2.2.2.2.2.1] at hl
    obtain ⟨o, ho, _, h2, h3, h4, h5, h6, _⟩ := hget hj
    rw [h6, h3, h4, hsize h2, hs.2.1, hs.2.2.2.1, hs.1]
    exact h.loc j o ho (h5.1 hl)
  · intro j k o1 o2 h1 h2 hne hl1 hl2 hsp
    rw [hs.2.2.2.2.2.2.2.1] at hl1 hl2
    obtain ⟨p1, hp1, _, a2, a3, a4, a5, _, _⟩ := hget h1
    obtain ⟨p2, hp2, _, b2, b3, b4, b5, _, _⟩ := hget h2
    rw [a4, b4, hsize a2, hsize b2]
    exact h.disj j k p1 p2 hp1 hp2 hne (a5.1 hl1) (b5.1 hl2) (by rw [← a3, ← b3]; exact hsp)
  · rw [hs.2.2.2.1, hs.2.2.2.2.2.2.2.2.2.2.2.1, h.bump]
    refine rsum_congr fun j _ => ?_
    unfold S.szB
    cases hj : (s.shade i).objs[j]? with
    | none =>
      cases hj' : s.objs[j]? with
      | none => rfl
      | some o => obtain ⟨o', ho' | hbad⟩ := shade_some (i := i) hj'
                  · rw [hj] at ho'; simp at ho'
                  · have := h.epo j o hj'; omega
    | some o' =>
      obtain ⟨o, ho, _, h2, _, _, _, h6, _⟩ := hget hj
      simp only [ho, h6, hsize h2]
  · rw [hs.2.2.2.2.1, hs.2.2.2.2.2.2.2.2.2.2.2.1, h.stay]
    refine rsum_congr fun j _ => ?_
    unfold S.szW
    cases hj : (s.shade i).objs[j]? with
    | none =>
      cases hj' : s.objs[j]? with
      | none => rfl
      | some o => obtain ⟨o', ho' | hbad⟩ := shade_some (i := i) hj'
                  · rw [hj] at ho'; simp at ho'
                  · have := h.epo j o hj'; omega
    | some o' =>
      obtain ⟨o, ho, _, h2, _, _, h5, h6, _⟩ := hget hj
      simp only [ho, h6, hsize h2, hs.2.2.2.2.2.2.2.1, h5]
  · rw [hs.2.2.2.1, hs.2.2.2.2.1, hs.1]; exact h.room
  · rw [hs.2.2.2.2.2.2.2.2.1]
    intro hp j o' hj hbl k hk
    obtain ⟨o, ho, _, h2, _, _, _, h6, _⟩ := hget hj
    exact shade_ep_ge (h.tri hp j o ho (h6.1 hbl) k (h2 ▸ hk))
  · rw [hs.2.2.2.2.2.1, hs.2.2.2.2.2.2.2.2.1, hs.2.2.2.2.2.2.2.2.2.1]
    intro j k hjk
    have := h.roots j k hjk
    exact ⟨fun hp hc => shade_ep_ge (this.1 hp hc), fun hp => shade_ep_ge (this.2 hp)⟩

end Go.Proofs.Ytfjgokbclgdfjaa.HM

namespace Go.Proofs.Ytfjgokbclgdfjaa.HM

theorem wf_shadeW {s : S} (h : WF s) {x : W} (hx : ∀ j, x = .obj j → s.Alive j) (hb : 0 < s.phase ∧ s.phase ≤ 2) : WF (s.shadeW x) := by
  cases x with
  | num n => exact h
  | obj i => exact wf_shade h (hx i rfl) (.inl hb)

theorem wf_shades (l : List W) : ∀ {s : S}, WF s → (∀ j, W.obj j ∈ l → s.Alive j) → 0 < s.phase ∧ s.phase ≤ 2 → WF (s.shades l) := by
  induction l with
  | nil => intro s h _ _; exact h
  | cons x r ih =>
    intro s h hl hb
    refine ih (s := s.shadeW x) (wf_shadeW h (fun j e => hl j (by simp [e])) hb) (fun j hj => alive_shadeW (hl j (by simp [hj])) h.doneLe) ?_
    rw [(shadeW_same s x).2.2.2.2.2.2.2.2.1]; exact hb

/-- The cursor may go on past handles that have been seen. -/
theorem wf_cursor {s : S} (h : WF s) {n : Nat} (hn : n ≤ s.handles.length) (hc : ∀ (j i : Nat), s.handles[j]? = some (some i) → s.phase = 1 → j < n → s.ep i = s.epoch) : WF { s with cursor := n } :=
  ⟨h.cur, h.ph, hn, h.idle, h.busy, h.last, h.used, h.epo, h.hand, h.refs, h.shape, h.weak, h.greyN, h.greyE, h.loc, h.disj, h.bump, h.stay, h.room, h.tri,
   fun j i hj => ⟨fun hp hlt => hc j i hj hp hlt, (h.roots j i hj).2⟩⟩

/-- nextHandle finds the first handle from a place on. -/
theorem nextHandle_spec (l : List (Option Nat)) : ∀ n, (∃ k, nextHandle l n = (n + k + 1, (l[k]?).getD none) ∧ (∃ i, l[k]? = some (some i)) ∧ ∀ j, j < k → l[j]? = some none) ∨ (nextHandle l n = (n + l.length, none) ∧ ∀ j, j < l.length → l[j]? = some none) := by
  induction l with
  | nil => intro n; exact .inr ⟨rfl, by simp⟩
  | cons x r ih =>
    intro n
    cases x with
    | some i => exact .inl ⟨0, rfl, ⟨i, rfl⟩, by simp⟩
    | none =>
      rcases ih (n + 1) with ⟨k, h1, ⟨i, h2⟩, h3⟩ | ⟨h1, h2⟩
      · refine .inl ⟨k + 1, ?_, ⟨i, by simpa using h2⟩, ?_⟩
        · simp only [nextHandle, h1]; simp; omega
        · intro j hj
          cases j with
          | zero => rfl
          | succ j => simpa using h3 j (by omega)
      · refine .inr ⟨?_, ?_⟩
        · simp only [nextHandle, h1]; simp; omega
        · intro j hj
          cases j with
          | zero => rfl
          | succ j => simpa using h2 j (by simpa using hj)

theorem roots_cases (s : S) : (∃ k i, s.handles[s.cursor + k]? = some (some i) ∧ (∀ j, j < k → s.handles[s.cursor + j]? = some none) ∧ s.roots = ({ s.shade i with cursor := s.cursor + k + 1 }, true)) ∨
    ((∀ j, s.cursor ≤ j → j < s.handles.length → s.handles[j]? = some none) ∧ s.roots = ({ s with cursor := s.cursor + (s.handles.length - s.cursor) }, false)) := by
  unfold S.roots
  rcases nextHandle_spec (s.handles.drop s.cursor) s.cursor with ⟨k, h1, ⟨i, h2⟩, h3⟩ | ⟨h1, h2⟩
  · left
    rw [h1, h2]
    refine ⟨k, i, by simpa using h2, fun j hj => by simpa using h3 j hj, rfl⟩
  · right
    rw [h1]
    refine ⟨fun j hj hl => ?_, by simp⟩
    have := h2 (j - s.cursor) (by simp; omega)
    simp only [List.getElem?_drop] at this
    rwa [show s.cursor + (j - s.cursor) = j from by omega] at this

theorem wf_roots {s : S} (h : WF s) (hp : s.phase = 1) : WF s.roots.1 ∧ (s.roots.2 = false → WF ({ s.roots.1 with phase := 2 } : S)) := by
  rcases roots_cases s with ⟨k, i, hk, hn, he⟩ | ⟨hn, he⟩
  · rw [he]
    have hs := shade_same s i
    have hlen : s.cursor + k < s.handles.length := (List.getElem?_eq_some_iff.1 hk).1
    refine ⟨?_, by simp⟩
    refine wf_cursor (s := s.shade i) (wf_shade h (h.hand _ i hk) (.inl ⟨by omega, by omega⟩)) (n := s.cursor + k + 1) (by rw [hs.2.2.2.2.2.1]; omega) ?_
    intro j i' hj _ hlt
    rw [hs.2.2.2.2.2.1] at hj
    by_cases h1 : j < s.cursor
    · exact shade_ep_ge ((h.roots j i' hj).1 hp h1)
    · by_cases h2 : j = s.cursor + k
      · subst h2
        rw [hk] at hj
        simp at hj
        subst hj
        exact shade_self h.epo i
      · have := hn (j - s.cursor) (by omega)
        rw [show s.cursor + (j - s.cursor) = j from by omega, hj] at this
        simp at this
  · rw [he]
    have hc := h.cursor
    have hall : ∀ (j i : Nat), s.handles[j]? = some (some i) → s.ep i = s.epoch := by
      intro j i hj
      have hjl : j < s.handles.length := (List.getElem?_eq_some_iff.1 hj).1
      by_cases h1 : j < s.cursor
      · exact (h.roots j i hj).1 hp h1
      · have := hn j (by omega) hjl
        rw [hj] at this
        simp at this
    have hw : WF ({ s with cursor := s.cursor + (s.handles.length - s.cursor) } : S) := wf_cursor h (by omega) (fun j i hj _ _ => hall j i hj)
    refine ⟨hw, fun _ => ?_⟩
    exact ⟨hw.cur, by simp, hw.cursor, by simp, fun _ => h.busy (by omega), by simp, hw.used, hw.epo, hw.hand, hw.refs, hw.shape, hw.weak, hw.greyN, hw.greyE, hw.loc, hw.disj, hw.bump, hw.stay, hw.room,
      fun _ => h.tri (by omega), fun j i hj => ⟨by simp, fun _ => hall j i hj⟩⟩

theorem wf_begin {s : S} (h : WF s) : WF s.begin := by
  unfold S.begin
  by_cases hp : 0 < s.phase
  · rw [if_pos hp]; exact h
  · rw [if_neg hp]
    have hp0 : s.phase = 0 := by omega
    obtain ⟨hde, hg⟩ := h.idle hp0
    have hblack : ∀ (i : Nat) (o : O), s.objs[i]? = some o → (s.done ≤ o.epoch ↔ s.Black i o) := fun i o ho => by
      have := h.epo i o ho
      unfold S.Black
      rw [hg]
      simp; omega
    have hnb : ∀ (i : Nat) (o : O), s.objs[i]? = some o → ¬ ({ s with phase := 1, cursor := 0, epoch := s.epoch + 1, cur := 1 - s.cur, stay := s.bump, bump := 0 } : S).Black i o := fun i o ho hb => by
      have := h.epo i o ho
      have h1 : o.epoch = s.epoch + 1 := hb.1
      omega
    have hcur := h.cur
    have hstay : s.stay = 0 := by
      rw [h.stay]
      refine rsum_zero fun i _ => ?_
      unfold S.szW
      cases ho : s.objs[i]? with
      | none => rfl
      | some o => simp only; rw [if_neg (by rw [hblack i o ho]; simp)]
    have hroom := h.room
    refine ⟨by show 1 - s.cur ≤ 1; omega, by simp, by simp, by simp, fun _ => by simp [hde], by simp, by have := h.used; simp; omega, fun i o ho => by have := h.epo i o ho; simp; omega, h.hand, h.refs, h.shape, h.weak, by simp [hg], by simp [hg], ?_, h.disj, ?_, ?_, by simp; omega, ?_, ?_⟩
    · intro i o ho hl
      have hl' : s.done ≤ o.epoch := hl
      have := (h.loc i o ho hl').1 ((hblack i o ho).1 hl')
      refine ⟨fun hb => absurd hb (hnb i o ho), fun _ => ⟨by omega, ?_, ?_⟩⟩
      · show o.space ≠ 1 - s.cur; omega
      · show o.place + o.size ≤ s.room; omega
    · symm
      refine rsum_zero fun i _ => ?_
      unfold S.szB
      cases ho : s.objs[i]? with
      | none => simp [ho]
      | some o =>
        simp only
        rw [if_neg (hnb i o ho)]
    · show s.bump = _
      rw [h.bump]
      refine rsum_congr fun i _ => ?_
      unfold S.szB S.szW
      show _ = (match s.objs[i]? with | some o => _ | none => _)
      cases ho : s.objs[i]? with
      | none => rfl
      | some o =>
        simp only
        have h1 := hblack i o ho
        have h2 := hnb i o ho
        by_cases hb : s.Black i o
        · rw [if_pos hb, if_pos ⟨h1.2 hb, h2⟩]
        · rw [if_neg hb, if_neg (fun hh => hb (h1.1 hh.1))]
    · intro _ i o ho hb
      exact absurd hb (hnb i o ho)
    · intro j i hj
      exact ⟨fun _ hlt => by simp at hlt, fun hh => by simp at hh⟩

theorem wf_finish {s : S} (h : WF s) (hp : s.phase = 3) : WF s.finish := by
  have hg := h.last hp
  have hbusy := h.busy (by omega)
  have hblack : ∀ (i : Nat) (o : O), s.objs[i]? = some o → (s.epoch ≤ o.epoch ↔ s.Black i o) := fun i o ho => by
    have := h.epo i o ho
    unfold S.Black
    rw [hg]
    simp; omega
  have hbl : ∀ (i : Nat) (o : O), s.finish.Black i o ↔ s.Black i o := fun i o => by
    unfold S.Black S.finish
    simp [hg]
  have hal : ∀ (i : Nat), s.ep i = s.epoch → s.Alive i → s.finish.Alive i := fun i he ⟨o, ho, _⟩ => by
    rw [ep_some ho] at he
    exact ⟨o, ho, by show s.epoch ≤ o.epoch; omega⟩
  have hroom := h.room
  refine ⟨h.cur, by simp [S.finish], h.cursor, fun _ => ⟨rfl, rfl⟩, by simp [S.finish], by simp [S.finish], by simp [S.finish], h.epo, ?_, ?_, h.shape, h.weak, by simp [S.finish], by simp [S.finish], ?_, ?_, ?_, ?_, ?_, by simp [S.finish], ?_⟩
  · intro j i hj
    exact hal i ((h.roots j i hj).2 (by omega)) (h.hand j i hj)
  · intro i o ho hl j hj
    have hl' : s.epoch ≤ o.epoch := hl
    exact hal j (h.tri (by omega) i o ho ((hblack i o ho).1 hl') j hj) (h.refs i o ho (by omega) j hj)
  · intro i o ho hl
    have hl' : s.epoch ≤ o.epoch := hl
    have hb := (hblack i o ho).1 hl'
    refine ⟨fun _ => (h.loc i o ho (by omega)).1 hb, fun hn => absurd ((hbl i o).2 hb) hn⟩
  · intro i j o o' h1 h2 hne hl1 hl2 hsp
    have a1 : s.epoch ≤ o.epoch := hl1
    have a2 : s.epoch ≤ o'.epoch := hl2
    exact h.disj i j o o' h1 h2 hne (by omega) (by omega) hsp
  · show s.bump = _
    rw [h.bump]
    refine rsum_congr fun i _ => ?_
    unfold S.szB
    show _ = (match s.objs[i]? with | some o => _ | none => _)
    cases ho : s.objs[i]? with
    | none => rfl
    | some o => simp only [hbl]
  · symm
    refine rsum_zero fun i _ => ?_
    unfold S.szW
    show (match s.objs[i]? with | some o => _ | none => _) = 0
    cases ho : s.objs[i]? with
    | none => rfl
    | some o =>
      simp only
      rw [if_neg]
      rintro ⟨hl, hn⟩
      have hl' : s.epoch ≤ o.epoch := hl
      exact hn ((hbl i o).2 ((hblack i o ho).1 hl'))
  · show s.bump + 0 ≤ s.room; omega
  · intro j i hj
    exact ⟨fun hh => by simp [S.finish] at hh, fun hh => by simp [S.finish] at hh⟩

end Go.Proofs.Ytfjgokbclgdfjaa.HM

namespace Go.Proofs.Ytfjgokbclgdfjaa.HM

theorem shade_grey_head {s : S} {i : Nat} {rest : List Nat} (hg : s.grey = i :: rest) (j : Nat) : (s.shade j).grey = i :: (s.shade j).grey.tail := by
  rw [shade_grey, hg]; split <;> simp

theorem moved_shade {s : S} {i : Nat} {o : O} {rest : List Nat} (hg : s.grey = i :: rest) (ho : s.objs[i]? = some o) (he : o.epoch = s.epoch) (j : Nat) :
    (moved s i o rest).shade j = moved (s.shade j) i o (s.shade j).grey.tail ∧ (s.shade j).objs[i]? = some o := by
  have hil : i < s.objs.length := (List.getElem?_eq_some_iff.1 ho).1
  have hep : (moved s i o rest).ep j = s.ep j := by
    unfold S.ep
    show ((((s.objs.set i { o with space := s.cur, place := s.bump })[j]?).map (·.epoch)).getD s.epoch) = _
    rw [List.getElem?_set]
    by_cases hij : i = j
    · rw [if_pos hij, if_pos hil, ← hij, ho]; rfl
    · simp [hij]
  have hne : s.ep j < s.epoch → i ≠ j := by rintro hlt rfl; rw [ep_some ho] at hlt; omega
  constructor
  · unfold S.shade
    rw [hep]
    by_cases hlt : s.ep j < s.epoch
    · have hlt' : s.ep j < (moved s i o rest).epoch := hlt
      rw [if_pos hlt', if_pos hlt]
      have hij := hne hlt
      simp only [moved, hg]
      congr 1
      apply List.ext_getElem?
      intro k
      simp only [List.getElem?_modify, List.getElem?_set, List.length_modify]
      by_cases h1 : j = k
      · subst h1; simp [hij]
      · by_cases h2 : i = k
        · subst h2; simp [h1, hil]
        · simp [h1, h2]
    · have hlt' : ¬ s.ep j < (moved s i o rest).epoch := hlt
      rw [if_neg hlt', if_neg hlt]
      simp [hg]
  · rw [shade_obj, if_neg (by rintro ⟨hlt, rfl⟩; exact hne hlt rfl)]; exact ho

theorem moved_shades {i : Nat} {o : O} (l : List W) : ∀ {s : S} {rest : List Nat}, s.grey = i :: rest → s.objs[i]? = some o → o.epoch = s.epoch →
    (moved s i o rest).shades l = moved (s.shades l) i o (s.shades l).grey.tail ∧ (s.shades l).objs[i]? = some o ∧ (s.shades l).grey = i :: (s.shades l).grey.tail := by
  induction l with
  | nil => intro s rest hg ho _; simp [S.shades, hg, ho]
  | cons x r ih =>
    intro s rest hg ho he
    cases x with
    | num n => exact ih hg ho he
    | obj j =>
      obtain ⟨h1, h2⟩ := moved_shade hg ho he j
      have h3 := shade_grey_head hg j
      have := ih (s := s.shade j) (rest := (s.shade j).grey.tail) h3 h2 (by rw [(shade_same s j).2.2.2.2.2.2.1]; exact he)
      show ((moved s i o rest).shade j).shades r = _ ∧ _
      rw [h1]
      exact this

/-- The epoch that an object has, behind the shading of some words. -/
theorem shades_ep_mono (l : List W) : ∀ {s : S} {j : Nat}, s.ep j = s.epoch → (s.shades l).ep j = (s.shades l).epoch := by
  induction l with
  | nil => intro s j h; exact h
  | cons x r ih =>
    intro s j h
    refine ih (s := s.shadeW x) ?_
    cases x with
    | num n => exact h
    | obj i => exact shade_ep_ge h

theorem shade_epo {s : S} (h : ∀ (i : Nat) (o : O), s.objs[i]? = some o → o.epoch ≤ s.epoch) (i : Nat) : ∀ (j : Nat) (o : O), (s.shade i).objs[j]? = some o → o.epoch ≤ (s.shade i).epoch := by
  intro j o hj
  rw [(shade_same s i).2.2.2.2.2.2.1]
  obtain ⟨o1, h1, _, _, _, _, hc⟩ := shade_get hj
  rcases hc with ⟨_, _, he⟩ | ⟨rfl, _⟩
  · omega
  · exact h j _ h1

theorem shades_marks (l : List W) : ∀ {s : S}, (∀ (i : Nat) (o : O), s.objs[i]? = some o → o.epoch ≤ s.epoch) → ∀ j, W.obj j ∈ l → (s.shades l).ep j = (s.shades l).epoch := by
  induction l with
  | nil => intro s _ j hj; simp at hj
  | cons x r ih =>
    intro s h j hj
    cases x with
    | num n => exact ih h j (by simpa using hj)
    | obj i =>
      simp only [List.mem_cons] at hj
      rcases hj with hj | hj
      · injection hj with hj
        subst hj
        exact shades_ep_mono r (s := s.shade j) (shade_self h j)
      · exact ih (s := s.shade i) (shade_epo h i) j hj

theorem wf_moved {s : S} (h : WF s) (hp : 0 < s.phase ∧ s.phase ≤ 2) {i : Nat} {o : O} {rest : List Nat} (hg : s.grey = i :: rest) (ho : s.objs[i]? = some o) (he : o.epoch = s.epoch) (hr : ∀ j, W.obj j ∈ o.ws → s.ep j = s.epoch) : WF (moved s i o rest) := by
  have hil : i < s.objs.length := (List.getElem?_eq_some_iff.1 ho).1
  have hd := h.doneLe
  have hnd := h.greyN
  rw [hg, List.nodup_cons] at hnd
  have hoa : s.done ≤ o.epoch := by omega
  have hget : ∀ {j : Nat} {o' : O}, (moved s i o rest).objs[j]? = some o' → ∃ p, s.objs[j]? = some p ∧ o'.tag = p.tag ∧ o'.ws = p.ws ∧ o'.epoch = p.epoch ∧ ((j = i ∧ o'.space = s.cur ∧ o'.place = s.bump ∧ p = o) ∨ (j ≠ i ∧ o' = p)) := by
    intro j o' hj
    simp only [moved, List.getElem?_set] at hj
    by_cases hij : i = j
    · subst hij
      rw [if_pos rfl, if_pos hil] at hj
      obtain rfl := Option.some.inj hj
      exact ⟨o, ho, rfl, rfl, rfl, .inl ⟨rfl, rfl, rfl, rfl⟩⟩
    · rw [if_neg hij] at hj
      exact ⟨o', hj, rfl, rfl, rfl, .inr ⟨fun e => hij e.symm, rfl⟩⟩
  have hself : (moved s i o rest).objs[i]? = some { o with space := s.cur, place := s.bump } := by simp [moved, hil]
  have hother : ∀ {j : Nat}, j ≠ i → (moved s i o rest).objs[j]? = s.objs[j]? := fun {j} hj => by simp only [moved, List.getElem?_set]; rw [if_neg (fun e => hj e.symm)]
  have hep : ∀ j, (moved s i o rest).ep j = s.ep j := by
    intro j
    by_cases hj : j = i
    · subst hj; rw [ep_some hself, ep_some ho]
    · unfold S.ep; rw [hother hj]; rfl
  have hal : ∀ {j : Nat}, s.Alive j → (moved s i o rest).Alive j := by
    rintro j ⟨p, hp', hl⟩
    by_cases hj : j = i
    · subst hj; rw [ho] at hp'; obtain rfl := Option.some.inj hp'; exact ⟨_, hself, hl⟩
    · exact ⟨p, (hother hj).trans hp', hl⟩
  have hblk : ∀ {j : Nat} {p : O}, j ≠ i → ((moved s i o rest).Black j p ↔ s.Black j p) := by
    intro j p hj
    unfold S.Black
    show p.epoch = s.epoch ∧ j ∉ rest ↔ _
    rw [hg]; simp [hj]
  have hblki : ∀ {p : O}, p.epoch = s.epoch → (moved s i o rest).Black i p := fun {p} hpe => ⟨hpe, hnd.1⟩
  have hnblk : ¬ s.Black i o := by unfold S.Black; rw [hg]; simp
  have hstle : o.size ≤ s.stay := by
    rw [h.stay]
    have : s.szW i = o.size := by unfold S.szW; rw [ho]; simp only; rw [if_pos ⟨hoa, hnblk⟩]
    rw [← this]; exact rsum_ge hil
  have hloc := (h.loc i o ho hoa).2 hnblk
  refine ⟨h.cur, h.ph, h.cursor, fun hh => by have : s.phase = 0 := hh; omega, h.busy, fun hh => by have : s.phase = 3 := hh; omega, ?_, ?_, ?_, ?_, ?_, ?_, hnd.2, ?_, ?_, ?_, ?_, ?_, ?_, ?_, ?_⟩
  · show s.used = s.bump + o.size + (s.stay - o.size); have := h.used; omega
  · intro j o' hj
    obtain ⟨p, hp', _, _, h3, _⟩ := hget hj
    rw [h3]; exact h.epo j p hp'
  · intro j k hjk; exact hal (h.hand j k hjk)
  · intro j o' hj hl k hk
    obtain ⟨p, hp', _, h2, h3, _⟩ := hget hj
    exact hal (h.refs j p hp' (h3 ▸ hl) k (h2 ▸ hk))
  · intro j o' hj
    obtain ⟨p, hp', h1, h2, _⟩ := hget hj
    rw [h1, h2]; exact h.shape j p hp'
  · intro j hj; have := h.weak j hj; simpa [moved] using this
  · intro j hj
    have hj' : j ∈ rest := hj
    obtain ⟨p, hp', he'⟩ := h.greyE j (by rw [hg]; simp [hj'])
    exact ⟨p, (hother (by rintro rfl; exact hnd.1 hj')).trans hp', he'⟩
  · intro j o' hj hl
    obtain ⟨p, hp', _, h2, h3, h4⟩ := hget hj
    have hsz : o'.size = p.size := by simp [O.size, h2]
    rcases h4 with ⟨rfl, h5, h6, rfl⟩ | ⟨hne, rfl⟩
    · refine ⟨fun _ => ⟨h5, ?_⟩, fun hn => absurd (hblki (by rw [h3]; exact he)) hn⟩
      show o'.place + o'.size ≤ s.bump + p.size
      rw [h6, hsz]; exact Nat.le_refl _
    · have := h.loc j o' hp' hl
      refine ⟨fun hb => ?_, fun hb => ?_⟩
      · have := this.1 ((hblk hne).1 hb)
        exact ⟨this.1, by show o'.place + o'.size ≤ s.bump + o.size; omega⟩
      · exact this.2 (fun hh => hb ((hblk hne).2 hh))
  · intro j k o1 o2 h1 h2 hne hl1 hl2 hsp
    obtain ⟨p1, hp1, _, a2, a3, a4⟩ := hget h1
    obtain ⟨p2, hp2, _, b2, b3, b4⟩ := hget h2
    have key : ∀ {m : Nat} {q : O}, s.objs[m]? = some q → m ≠ i → s.done ≤ q.epoch → q.space = s.cur → q.place + q.size ≤ s.bump := by
      intro m q hq hm hl hsq
      have := h.loc m q hq hl
      by_cases hb : s.Black m q
      · exact (this.1 hb).2
      · exact absurd hsq (this.2 hb).2.1
    have sz1 : o1.size = p1.size := by simp [O.size, a2]
    have sz2 : o2.size = p2.size := by simp [O.size, b2]
    rcases a4 with ⟨rfl, a5, a6, rfl⟩ | ⟨ha, rfl⟩
    · rcases b4 with ⟨rfl, _⟩ | ⟨hb, rfl⟩
      · exact absurd rfl hne
      · right
        rw [a6]
        exact key hp2 hb hl2 (by rw [← hsp]; exact a5)
    · rcases b4 with ⟨rfl, b5, b6, rfl⟩ | ⟨hb, rfl⟩
      · left
        rw [b6]
        exact key hp1 ha hl1 (by rw [hsp]; exact b5)
      · exact h.disj j k o1 o2 hp1 hp2 hne hl1 hl2 hsp
  · show s.bump + o.size = rsum (s.objs.set i _).length _
    rw [List.length_set, h.bump]
    have hu := rsum_update (n := s.objs.length) (f := s.szB) (g := (moved s i o rest).szB) hil (fun j _ hj => by
      unfold S.szB
      rw [hother hj]
      cases s.objs[j]? with
      | none => rfl
      | some p => simp only [hblk hj])
    have e1 : s.szB i = 0 := by unfold S.szB; rw [ho]; simp only; rw [if_neg hnblk]
    have e2 : (moved s i o rest).szB i = o.size := by unfold S.szB; rw [hself]; simp only; rw [if_pos (hblki (p := { o with space := s.cur, place := s.bump }) he)]; rfl
    rw [e1, e2] at hu
    exact hu
  · show s.stay - o.size = rsum (s.objs.set i _).length _
    rw [List.length_set, h.stay]
    have hu := rsum_update (n := s.objs.length) (f := s.szW) (g := (moved s i o rest).szW) hil (fun j _ hj => by
      unfold S.szW
      rw [hother hj]
      cases s.objs[j]? with
      | none => rfl
      | some p => simp only [hblk hj]; rfl)
    have e1 : s.szW i = o.size := by unfold S.szW; rw [ho]; simp only; rw [if_pos ⟨hoa, hnblk⟩]
    have e2 : (moved s i o rest).szW i = 0 := by unfold S.szW; rw [hself]; simp only; rw [if_neg (fun hh => hh.2 (hblki (p := { o with space := s.cur, place := s.bump }) he))]
    rw [e1, e2] at hu
    omega
  · show s.bump + o.size + (s.stay - o.size) ≤ s.room; have := h.room; omega
  · intro hph j o' hj hb k hk
    obtain ⟨p, hp', _, h2, h3, h4⟩ := hget hj
    rw [hep]
    rcases h4 with ⟨rfl, _, _, rfl⟩ | ⟨hne, rfl⟩
    · exact hr k (h2 ▸ hk)
    · exact h.tri hph j o' hp' ((hblk hne).1 hb) k hk
  · intro j k hjk
    rw [hep]
    exact h.roots j k hjk

theorem trace_some_eq {s : S} {i : Nat} {o : O} {rest : List Nat} (hg : s.grey = i :: rest) (ho : s.objs[i]? = some o) : s.trace = ((moved s i o rest).shades o.ws.tail, true) := by
  unfold S.trace
  rw [hg]
  simp only [ho]
  rfl

theorem mem_tail_of_shape {o : O} {r : List W} (h : o.ws = .num o.tag :: r) {j : Nat} (hj : W.obj j ∈ o.ws) : W.obj j ∈ o.ws.tail := by
  rw [h] at hj ⊢
  simpa using hj

theorem wf_trace {s : S} (h : WF s) (hp : 0 < s.phase ∧ s.phase ≤ 2) : WF s.trace.1 := by
  cases hg : s.grey with
  | nil => unfold S.trace; rw [hg]; exact h
  | cons i rest =>
    obtain ⟨o, ho, he⟩ := h.greyE i (by rw [hg]; simp)
    rw [trace_some_eq hg ho]
    have hoa : s.done ≤ o.epoch := by have := h.doneLe; omega
    obtain ⟨h1, h2, h3⟩ := moved_shades (i := i) (o := o) o.ws.tail hg ho he
    show WF ((moved s i o rest).shades o.ws.tail)
    rw [h1]
    have hs := shades_same o.ws.tail s
    have hw : WF (s.shades o.ws.tail) := wf_shades o.ws.tail h (fun j hj => h.refs i o ho hoa j (List.mem_of_mem_tail hj)) hp
    obtain ⟨r, hr, _⟩ := h.shape i o ho
    refine wf_moved hw (by rw [hs.2.2.2.2.2.2.2.2.1]; exact hp) h3 h2 (by rw [hs.2.2.2.2.2.2.1]; exact he) (fun j hj => ?_)
    exact shades_marks o.ws.tail h.epo j (mem_tail_of_shape hr hj)

end Go.Proofs.Ytfjgokbclgdfjaa.HM

namespace Go.Proofs.Ytfjgokbclgdfjaa.HM

/-! ### What the program sees -/
def S.conts (s : S) : List (Int × List W) := s.objs.map fun o => (o.tag, o.ws)

structure Same (s t : S) : Prop where
  room : t.room = s.room
  handles : t.handles = s.handles
  weak : t.weak = s.weak
  conts : t.conts = s.conts

theorem Same.refl (s : S) : Same s s := ⟨rfl, rfl, rfl, rfl⟩
theorem Same.trans {s t u : S} (h : Same s t) (k : Same t u) : Same s u := ⟨k.room.trans h.room, k.handles.trans h.handles, k.weak.trans h.weak, k.conts.trans h.conts⟩

theorem same_shade (s : S) (i : Nat) : Same s (s.shade i) := by
  have hs := shade_same s i
  refine ⟨hs.1, hs.2.2.2.2.2.1, hs.2.2.2.2.2.2.2.2.2.2.1, ?_⟩
  unfold S.conts
  apply List.ext_getElem?
  intro j
  rw [List.getElem?_map, List.getElem?_map, shade_obj]
  split
  · cases s.objs[j]? <;> rfl
  · rfl

theorem same_shadeW (s : S) (x : W) : Same s (s.shadeW x) := by
  cases x with
  | num n => exact Same.refl s
  | obj i => exact same_shade s i

theorem same_shades (l : List W) : ∀ s : S, Same s (s.shades l) := by
  induction l with
  | nil => intro s; exact Same.refl s
  | cons x r ih => intro s; exact (same_shadeW s x).trans (ih (s.shadeW x))

theorem same_moved {s : S} {i : Nat} {o : O} {rest : List Nat} (ho : s.objs[i]? = some o) : Same s (moved s i o rest) := by
  refine ⟨rfl, rfl, rfl, ?_⟩
  have hil : i < s.objs.length := (List.getElem?_eq_some_iff.1 ho).1
  unfold S.conts moved
  apply List.ext_getElem?
  intro j
  rw [List.getElem?_map, List.getElem?_map, List.getElem?_set]
  by_cases hij : i = j
  · subst hij; rw [if_pos rfl, if_pos hil, ho]; rfl
  · rw [if_neg hij]

theorem same_trace (s : S) : Same s s.trace.1 := by
  cases hg : s.grey with
  | nil => unfold S.trace; rw [hg]; exact Same.refl s
  | cons i rest =>
    cases ho : s.objs[i]? with
    | none => unfold S.trace; rw [hg]; simp only [ho]; exact Same.refl s
    | some o => rw [trace_some_eq hg ho]; exact (same_moved (rest := rest) ho).trans (same_shades _ _)

theorem same_roots (s : S) : Same s s.roots.1 := by
  rcases roots_cases s with ⟨k, i, _, _, he⟩ | ⟨_, he⟩
  · rw [he]; have := same_shade s i; exact ⟨this.room, this.handles, this.weak, this.conts⟩
  · rw [he]; exact ⟨rfl, rfl, rfl, rfl⟩

theorem trace_facts (s : S) : s.trace.1.phase = s.phase ∧ s.trace.1.epoch = s.epoch ∧ s.trace.1.done = s.done ∧ (s.trace.2 = false → s.trace.1 = s) := by
  cases hg : s.grey with
  | nil => unfold S.trace; rw [hg]; exact ⟨rfl, rfl, rfl, fun _ => rfl⟩
  | cons i rest =>
    cases ho : s.objs[i]? with
    | none => unfold S.trace; rw [hg]; simp [ho]
    | some o =>
      rw [trace_some_eq hg ho]
      have hs := shades_same o.ws.tail (moved s i o rest)
      exact ⟨hs.2.2.2.2.2.2.2.2.1, hs.2.2.2.2.2.2.1, hs.2.2.2.2.2.2.2.1, by simp⟩

theorem roots_facts (s : S) : s.roots.1.phase = s.phase ∧ s.roots.1.epoch = s.epoch ∧ s.roots.1.done = s.done := by
  rcases roots_cases s with ⟨k, i, _, _, he⟩ | ⟨_, he⟩
  · rw [he]; have hs := shade_same s i; exact ⟨hs.2.2.2.2.2.2.2.2.1, hs.2.2.2.2.2.2.1, hs.2.2.2.2.2.2.2.1⟩
  · rw [he]; exact ⟨rfl, rfl, rfl⟩

/-! ### Steps -/
theorem trace_false {s : S} (h : WF s) (he : s.trace.2 = false) : s.grey = [] := by
  cases hg : s.grey with
  | nil => rfl
  | cons i rest =>
    obtain ⟨o, ho, _⟩ := h.greyE i (by rw [hg]; simp)
    rw [trace_some_eq hg ho] at he
    simp at he

theorem wf_phase3 {s : S} (h : WF s) (hp : s.phase = 2) (hg : s.grey = []) : WF ({ s with phase := 3 } : S) :=
  ⟨h.cur, by simp, h.cursor, by simp, fun _ => h.busy (by omega), fun _ => hg, h.used, h.epo, h.hand, h.refs, h.shape, h.weak, h.greyN, h.greyE, h.loc, h.disj, h.bump, h.stay, h.room, fun _ => h.tri (by omega),
   fun j i hj => ⟨by simp, fun _ => (h.roots j i hj).2 (by omega)⟩⟩

theorem step2_cases {s : S} (h : WF s) (hp : s.phase = 2) : (s.trace.2 = true ∧ s.step2 = (s.trace.1, false) ∧ WF s.trace.1 ∧ s.trace.1.phase = 2) ∨
    (s.grey = [] ∧ s.step2 = (({ s with phase := 3 } : S).finish, true) ∧ WF ({ s with phase := 3 } : S)) := by
  unfold S.step2
  have hf := trace_facts s
  have hw := wf_trace h ⟨by omega, by omega⟩
  cases ht : s.trace with
  | mk t b =>
    rw [ht] at hf hw
    cases b with
    | true => exact .inl ⟨rfl, rfl, hw, by rw [hf.1]; exact hp⟩
    | false =>
      have hg := trace_false h (by rw [ht])
      have : t = s := hf.2.2.2 rfl
      subst this
      exact .inr ⟨hg, rfl, wf_phase3 h hp hg⟩

/-! ### How long it takes -/
def S.cntOf (s : S) (i : Nat) : Nat := match s.objs[i]? with | some o => if s.done ≤ o.epoch ∧ ¬ s.Black i o then 1 else 0 | none => 0
def S.cnt (s : S) : Nat := rsum s.objs.length s.cntOf
def S.mu (s : S) : Nat := if s.phase = 0 then 0 else (if s.phase = 1 then s.handles.length - s.cursor else 0) + s.cnt + 1

theorem cnt_shade {s : S} (h : WF s) {i : Nat} (hi : s.Alive i) : (s.shade i).cnt = s.cnt := by
  have hs := shade_same s i
  unfold S.cnt
  rw [hs.2.2.2.2.2.2.2.2.2.2.2.1]
  refine rsum_congr fun j _ => ?_
  unfold S.cntOf
  cases hj : (s.shade i).objs[j]? with
  | none =>
    cases hj' : s.objs[j]? with
    | none => rfl
    | some o =>
      obtain ⟨o', ho' | hbad⟩ := shade_some (i := i) hj'
      · rw [hj] at ho'; simp at ho'
      · have := h.epo j o hj'; omega
  | some o' =>
    obtain ⟨o, ho, _⟩ := shade_get hj
    simp only [ho, shade_black ho hj, hs.2.2.2.2.2.2.2.1, alive_iff_of ho hj (h.epo j o ho) hi]

theorem cnt_shades (l : List W) : ∀ {s : S}, WF s → (∀ j, W.obj j ∈ l → s.Alive j) → 0 < s.phase ∧ s.phase ≤ 2 → (s.shades l).cnt = s.cnt := by
  induction l with
  | nil => intro s _ _ _; rfl
  | cons x r ih =>
    intro s h hl hb
    have e := ih (s := s.shadeW x) (wf_shadeW h (fun j e => hl j (by simp [e])) hb) (fun j hj => alive_shadeW (hl j (by simp [hj])) h.doneLe) (by rw [(shadeW_same s x).2.2.2.2.2.2.2.2.1]; exact hb)
    show ((s.shadeW x).shades r).cnt = s.cnt
    rw [e]
    cases x with
    | num n => rfl
    | obj i => exact cnt_shade h (hl i (by simp))

theorem cnt_moved {s : S} (h : WF s) {i : Nat} {o : O} {rest : List Nat} (hg : s.grey = i :: rest) (ho : s.objs[i]? = some o) (he : o.epoch = s.epoch) : (moved s i o rest).cnt + 1 = s.cnt := by
  have hil : i < s.objs.length := (List.getElem?_eq_some_iff.1 ho).1
  have hnd := h.greyN
  rw [hg, List.nodup_cons] at hnd
  have hd := h.doneLe
  have hself : (moved s i o rest).objs[i]? = some { o with space := s.cur, place := s.bump } := by simp [moved, hil]
  have hother : ∀ {j : Nat}, j ≠ i → (moved s i o rest).objs[j]? = s.objs[j]? := fun {j} hj => by simp only [moved, List.getElem?_set]; rw [if_neg (fun e => hj e.symm)]
  have hu := rsum_update (n := s.objs.length) (f := s.cntOf) (g := (moved s i o rest).cntOf) hil (fun j _ hj => by
    unfold S.cntOf
    rw [hother hj]
    cases s.objs[j]? with
    | none => rfl
    | some p =>
      have : (moved s i o rest).Black j p ↔ s.Black j p := by
        unfold S.Black
        show p.epoch = s.epoch ∧ j ∉ rest ↔ _
        rw [hg]; simp [hj]
      simp only [this]; rfl)
  have e1 : s.cntOf i = 1 := by
    unfold S.cntOf; rw [ho]; simp only
    rw [if_pos ⟨by omega, by unfold S.Black; rw [hg]; simp⟩]
  have e2 : (moved s i o rest).cntOf i = 0 := by
    unfold S.cntOf; rw [hself]; simp only
    rw [if_neg (fun hh => hh.2 ⟨he, hnd.1⟩)]
  rw [e1, e2] at hu
  have hl : (moved s i o rest).objs.length = s.objs.length := by simp [moved]
  unfold S.cnt
  rw [hl]
  omega

theorem cnt_trace {s : S} (h : WF s) (hp : 0 < s.phase ∧ s.phase ≤ 2) (ht : s.trace.2 = true) : s.trace.1.cnt + 1 = s.cnt := by
  cases hg : s.grey with
  | nil => unfold S.trace at ht; rw [hg] at ht; simp at ht
  | cons i rest =>
    obtain ⟨o, ho, he⟩ := h.greyE i (by rw [hg]; simp)
    rw [trace_some_eq hg ho]
    obtain ⟨h1, h2, h3⟩ := moved_shades (i := i) (o := o) o.ws.tail hg ho he
    show ((moved s i o rest).shades o.ws.tail).cnt + 1 = s.cnt
    have hoa : s.done ≤ o.epoch := by have := h.doneLe; omega
    have hal : ∀ j, W.obj j ∈ o.ws.tail → s.Alive j := fun j hj => h.refs i o ho hoa j (List.mem_of_mem_tail hj)
    have hw : WF (s.shades o.ws.tail) := wf_shades o.ws.tail h hal hp
    have hs := shades_same o.ws.tail s
    rw [h1, cnt_moved hw h3 h2 (by rw [hs.2.2.2.2.2.2.1]; exact he), cnt_shades o.ws.tail h hal hp]

theorem mu_step2 {s : S} (h : WF s) (hp : s.phase = 2) : s.step2.1.mu < s.cnt + 1 := by
  rcases step2_cases h hp with ⟨ht, he, hw, hph⟩ | ⟨hg, he, hw⟩
  · rw [he]
    have := cnt_trace h ⟨by omega, by omega⟩ ht
    unfold S.mu
    rw [hph]
    simp
    omega
  · rw [he]
    simp [S.mu, S.finish]

theorem wf_step {s : S} (h : WF s) (hp : s.phase ≤ 2) : WF s.step.1 ∧ s.step.1.phase ≤ 2 ∧ Same s s.step.1 ∧ s.step.1.epoch = s.epoch ∧ (s.phase ≠ 0 → s.step.1.mu < s.mu) ∧ (s.step.2 = true → s.step.1.phase = 0) ∧ (s.phase ≠ 0 → s.step.2 = false → s.step.1.phase ≠ 0) := by
  have fin : ∀ {t : S}, WF t → t.phase = 2 → WF t.step2.1 ∧ t.step2.1.phase ≤ 2 ∧ Same t t.step2.1 ∧ t.step2.1.epoch = t.epoch ∧ (t.step2.2 = true → t.step2.1.phase = 0) ∧ (t.step2.2 = false → t.step2.1.phase ≠ 0) := by
    intro t ht hp2
    rcases step2_cases ht hp2 with ⟨_, he, hw, hph⟩ | ⟨_, he, hw⟩
    · rw [he]; exact ⟨hw, by show t.trace.1.phase ≤ 2; omega, same_trace t, (trace_facts t).2.1, by simp, fun _ => by simp [hph]⟩
    · rw [he]; exact ⟨wf_finish hw rfl, by simp [S.finish], ⟨rfl, rfl, rfl, rfl⟩, rfl, fun _ => rfl, by simp⟩
  unfold S.step
  by_cases h0 : s.phase = 0
  · rw [if_pos h0]
    exact ⟨h, hp, Same.refl s, rfl, fun hh => absurd h0 hh, by simp, fun hh => absurd h0 hh⟩
  · rw [if_neg h0]
    by_cases h1 : s.phase = 1
    · rw [if_pos h1]
      have hw := wf_roots h h1
      have hf := roots_facts s
      have hsm := same_roots s
      cases hr : s.roots with
      | mk t b =>
        rw [hr] at hw hf hsm
        cases b with
        | true =>
          simp only
          refine ⟨hw.1, by rw [hf.1]; omega, hsm, hf.2.1, fun _ => ?_, by simp, fun _ _ => by rw [hf.1]; exact h0⟩
          rcases roots_cases s with ⟨k, i, hk, _, he⟩ | ⟨_, he⟩
          · rw [hr] at he
            have ht : t = { s.shade i with cursor := s.cursor + k + 1 } := (Prod.mk.inj he).1
            have hlen : s.cursor + k < s.handles.length := (List.getElem?_eq_some_iff.1 hk).1
            have hc : t.cnt = s.cnt := by rw [ht]; exact cnt_shade h (h.hand _ i hk)
            have hs := shade_same s i
            unfold S.mu
            rw [hf.1, hc, h1, ht]
            simp [hs.2.2.2.2.2.1]
            omega
          · rw [hr] at he; simp at he
        | false =>
          simp only
          have hw2 := hw.2 rfl
          obtain ⟨f1, f2, f3, f4, f5, f6⟩ := fin hw2 rfl
          refine ⟨f1, f2, (hsm.trans (⟨rfl, rfl, rfl, rfl⟩ : Same t { t with phase := 2 })).trans f3, f4.trans hf.2.1, fun _ => ?_, f5, fun _ => f6⟩
          have hm := mu_step2 hw2 rfl
          refine Nat.lt_of_lt_of_le hm ?_
          rcases roots_cases s with ⟨k, i, hk, _, he⟩ | ⟨_, he⟩
          · rw [hr] at he; simp at he
          · rw [hr] at he
            have ht : t = { s with cursor := s.cursor + (s.handles.length - s.cursor) } := (Prod.mk.inj he).1
            have hc : ({ t with phase := 2 } : S).cnt = s.cnt := by rw [ht]; rfl
            unfold S.mu
            rw [hc, if_neg h0]
            omega
    · rw [if_neg h1]
      obtain ⟨f1, f2, f3, f4, f5, f6⟩ := fin h (by omega)
      refine ⟨f1, f2, f3, f4, fun _ => ?_, f5, fun _ => f6⟩
      have hm := mu_step2 h (by omega)
      unfold S.mu at hm ⊢
      rw [if_neg h0, if_neg h1]
      omega

def S.whole (s : S) : S := s.wholeN s.mu
def S.collect (s : S) : S := s.whole.begin.whole

theorem wholeN_idle (n : Nat) (s : S) (h : s.phase = 0) : s.wholeN n = s := by
  cases n with
  | zero => rfl
  | succ n => simp [S.wholeN, h]

theorem mu_zero {s : S} (h : s.mu = 0) : s.phase = 0 := by
  unfold S.mu at h
  split at h
  · assumption
  · omega

/-- More fuel than it takes is no other. -/
theorem wholeN_fuel : ∀ (n : Nat) {s : S}, WF s → s.phase ≤ 2 → s.mu ≤ n → s.wholeN n = s.whole := by
  have key : ∀ (n m : Nat) {s : S}, WF s → s.phase ≤ 2 → s.mu ≤ n → s.mu ≤ m → s.wholeN n = s.wholeN m := by
    intro n
    induction n with
    | zero =>
      intro m s h hp h1 h2
      have := mu_zero (Nat.le_zero.1 h1)
      rw [wholeN_idle _ _ this, wholeN_idle _ _ this]
    | succ n ih =>
      intro m s h hp h1 h2
      by_cases h0 : s.phase = 0
      · rw [wholeN_idle _ _ h0, wholeN_idle _ _ h0]
      · cases m with
        | zero => exact absurd (mu_zero (Nat.le_zero.1 h2)) h0
        | succ m =>
          obtain ⟨w1, w2, _, _, w3, _⟩ := wf_step h hp
          have := w3 h0
          simp only [S.wholeN, if_neg h0]
          exact ih m w1 w2 (by omega) (by omega)
  intro n s h hp hn
  exact key n s.mu h hp hn (Nat.le_refl _)

theorem wf_wholeN : ∀ (n : Nat) {s : S}, WF s → s.phase ≤ 2 → s.mu ≤ n → WF (s.wholeN n) ∧ (s.wholeN n).phase = 0 ∧ Same s (s.wholeN n) ∧ (s.wholeN n).epoch = s.epoch := by
  intro n
  induction n with
  | zero =>
    intro s h hp h1
    exact ⟨h, mu_zero (Nat.le_zero.1 h1), Same.refl s, rfl⟩
  | succ n ih =>
    intro s h hp h1
    by_cases h0 : s.phase = 0
    · rw [wholeN_idle _ _ h0]; exact ⟨h, h0, Same.refl s, rfl⟩
    · obtain ⟨w1, w2, w4, w5, w3, _⟩ := wf_step h hp
      have := w3 h0
      simp only [S.wholeN, if_neg h0]
      obtain ⟨a, b, c, d⟩ := ih w1 w2 (by omega)
      exact ⟨a, b, w4.trans c, d.trans w5⟩

end Go.Proofs.Ytfjgokbclgdfjaa.HM

