/- Plain laws: tokens, joined, have the same tokens. -/
import Derived.Test.YtfoijbcmjciihaaGreatDoorPp
import Derived.Test.YtfoijbcmjciihaaGreatDoorNr
import Derived.Test.YtfoijbcmjciihaaGreatDoorR
set_option linter.unusedSimpArgs false
set_option linter.unusedVariables false
namespace Go.Proofs.YtfoijbcmjciihaaGreatDoor
namespace LX

theorem sc_forall (T : List Nat) (P : Tok → Prop) (hP : ∀ j k v m, j < T.length → space (T.getD j 0) = false → opens (T.drop j) = false → token (T.drop j) = .tok k v m → P ⟨k, v, (T.drop j).take m, j⟩) :
    ∀ (n j : Nat), T.length - j = n → ∀ ts cs, sc T j = .ok ts cs → ∀ t ∈ ts, P t := by
  intro n
  induction n using Nat.strongRecOn with
  | ind n ih =>
    intro j hn ts cs h
    rcases Nat.lt_or_ge j T.length with hj | hj
    · rw [sc_step hj] at h
      split at h
      · exact ih _ (by omega) (j + 1) rfl ts cs h
      · rename_i hsp
        split at h
        · cases hc : cmt (T.drop j) 0 0 with
          | fin m =>
            rw [hc] at h
            simp only [] at h
            have h0 := cmt_fin hc
            cases hs : sc T (j + m) with
            | ok t2 c2 =>
              rw [hs] at h
              simp only [Res.app, Res.ok.injEq, List.nil_append] at h
              rw [← h.1]
              exact ih _ (by omega) (j + m) rfl t2 c2 hs
            | bad p e => rw [hs] at h; cases h
          | deep m => rw [hc] at h; cases h
          | never => rw [hc] at h; cases h
        · rename_i hop
          cases hc : token (T.drop j) with
          | tok k v m =>
            rw [hc] at h
            simp only [] at h
            have h0 := token_len hc
            cases hs : sc T (j + m) with
            | ok t2 c2 =>
              rw [hs] at h
              simp only [Res.app, Res.ok.injEq, List.cons_append, List.nil_append] at h
              rw [← h.1]
              intro t ht
              rcases List.mem_cons.1 ht with rfl | ht
              · exact hP j k v m hj (by simpa using hsp) (by simpa using hop) hc
              · exact ih _ (by omega) (j + m) rfl t2 c2 hs t ht
            | bad p e => rw [hs] at h; cases h
          | bad e => rw [hc] at h; cases h
    · rw [sc_end hj] at h
      cases h
      intro t ht
      cases ht

/-- The bytes of all tokens are no more than those of the text. -/
theorem sc_sum (T : List Nat) : ∀ (n j : Nat), T.length - j = n → ∀ ts cs, sc T j = .ok ts cs → (ts.map fun t => t.text.length).sum ≤ T.length - j := by
  intro n
  induction n using Nat.strongRecOn with
  | ind n ih =>
    intro j hn ts cs h
    rcases Nat.lt_or_ge j T.length with hj | hj
    · rw [sc_step hj] at h
      split at h
      · have := ih _ (by omega) (j + 1) rfl ts cs h; omega
      · split at h
        · cases hc : cmt (T.drop j) 0 0 with
          | fin m =>
            rw [hc] at h
            simp only [] at h
            have h0 := cmt_fin hc
            cases hs : sc T (j + m) with
            | ok t2 c2 =>
              rw [hs] at h
              simp only [Res.app, Res.ok.injEq, List.nil_append] at h
              rw [← h.1]
              have := ih _ (by omega) (j + m) rfl t2 c2 hs
              omega
            | bad p e => rw [hs] at h; cases h
          | deep m => rw [hc] at h; cases h
          | never => rw [hc] at h; cases h
        · cases hc : token (T.drop j) with
          | tok k v m =>
            rw [hc] at h
            simp only [] at h
            have h0 := token_len hc
            rw [List.length_drop] at h0
            cases hs : sc T (j + m) with
            | ok t2 c2 =>
              rw [hs] at h
              simp only [Res.app, Res.ok.injEq, List.cons_append, List.nil_append] at h
              rw [← h.1]
              have := ih _ (by omega) (j + m) rfl t2 c2 hs
              simp only [List.map_cons, List.sum_cons, List.length_take, List.length_drop]
              omega
            | bad p e => rw [hs] at h; cases h
          | bad e => rw [hc] at h; cases h
    · rw [sc_end hj] at h
      cases h
      simp

theorem token_kind {l : List Nat} {k m : Nat} {v : Int} (h : token l = .tok k v m) : k ≠ 0 ∧ m ≤ 24 ∧ ((k = 1 ∧ num (l.take m) = some v) ∨ (k ≠ 1 ∧ v = 0)) := by
  cases l with
  | nil => cases h
  | cons c t =>
    unfold token at h
    simp only [] at h
    split at h
    · obtain ⟨h1, h2, h3⟩ := number_ok h
      obtain ⟨a0, a1, a2⟩ := num_some h3
      have hl := nat10_short (u := v.natAbs) (by omega)
      have hm := token_len (l := c :: t) (k := k) (m := m) (v := v) (by unfold token; simp only []; rename_i hc; rw [if_pos hc]; exact h)
      have hd : (digs v).length ≤ 20 := by
        unfold digs
        split
        · simp only [List.length_cons]; omega
        · omega
      rw [a2, List.length_take] at hd
      exact ⟨by omega, by omega, .inl ⟨h1, h3⟩⟩
    · split at h
      · obtain ⟨h1, h2, h3, h4⟩ := named_ok h
        refine ⟨?_, h3, .inr ⟨?_, h2⟩⟩ <;> (rw [h4]; split <;> decide)
      · split at h
        · obtain ⟨h1, h2, h3, h4⟩ := named_ok h
          refine ⟨?_, h3, .inr ⟨?_, h2⟩⟩ <;> (rw [h4]; split <;> decide)
        · split at h
          · obtain ⟨h1, h2, h3, h4⟩ := made_ok h
            refine ⟨by omega, by omega, .inr ⟨by omega, h3⟩⟩
          · split at h
            · cases h; exact ⟨by decide, by decide, .inr ⟨by decide, rfl⟩⟩
            · split at h
              · cases h; exact ⟨by decide, by decide, .inr ⟨by decide, rfl⟩⟩
              · cases h

/-- A token that stands by itself. -/
structure Good (t : Tok) : Prop where
  kind : kindOf t.text = t.kind
  some : t.kind ≠ 0
  num : t.num = if t.kind = 1 then (LX.num t.text).getD 0 else 0
  alone : scan t.text = .ok [⟨t.kind, t.num, t.text, 0⟩] []
  pos : 0 < t.text.length
  short : t.text.length ≤ 24
  digs : t.kind = 1 → LX.digs t.num = t.text

theorem sc_good (T : List Nat) {j : Nat} {ts : List Tok} {cs : List (Nat × Nat)} (h : sc T j = .ok ts cs) : ∀ t ∈ ts, Good t := by
  refine sc_forall T Good (fun j k v m hj hsp hop hc => ?_) _ j rfl ts cs h
  have h0 := token_len hc
  rw [List.length_drop] at h0
  have hlen : ((T.drop j).take m).length = m := by rw [List.length_take, List.length_drop]; omega
  have hk := token_kind hc
  have hal : scan ((T.drop j).take m) = .ok [⟨k, v, (T.drop j).take m, 0⟩] [] := by
    rw [scan_sc, sc_step (by omega)]
    have e0 : ((T.drop j).take m).getD 0 0 = T.getD j 0 := by
      rw [List.getD_eq_getElem?_getD, List.getElem?_take, if_pos (by omega), List.getElem?_drop, List.getD_eq_getElem?_getD, Nat.add_zero]
    rw [e0, hsp, if_neg (by decide), List.drop_zero, opens_take_false hop, if_neg (by decide), token_take hc (Nat.le_refl _)]
    simp only [Nat.zero_add]
    rw [sc_end (by omega), List.take_of_length_le (by omega)]
    rfl
  refine ⟨?_, hk.1, ?_, hal, by show 0 < ((T.drop j).take m).length; omega, by show ((T.drop j).take m).length ≤ 24; omega, ?_⟩
  · show kindOf ((T.drop j).take m) = k
    unfold kindOf
    rw [hal, if_neg (by omega)]
    simp only []
    rw [if_pos trivial]
  · show v = if k = 1 then (LX.num ((T.drop j).take m)).getD 0 else 0
    rcases hk.2.2 with ⟨h1, h2⟩ | ⟨h1, h2⟩
    · rw [if_pos h1, h2]; rfl
    · rw [if_neg h1]; exact h2
  · intro h1
    show LX.digs v = (T.drop j).take m
    rcases hk.2.2 with ⟨_, h2⟩ | ⟨h3, _⟩
    · exact (num_some h2).2.2
    · exact absurd h1 h3

theorem Good.place {t : Tok} (h : Good t) (p : Nat) : Good { t with place := p } := ⟨h.kind, h.some, h.num, h.alone, h.pos, h.short, h.digs⟩

theorem good_of_kind {l : List Nat} {k : Nat} (h : kindOf l = k) (hk : k ≠ 0) : ∃ v, Good ⟨k, v, l, 0⟩ := by
  unfold kindOf at h
  split at h
  · exact absurd h.symm hk
  · split at h
    · rename_i t cs hs
      split at h
      · rename_i ht
        have hg := sc_good l (j := 0) hs t List.mem_cons_self
        obtain ⟨k', v', x', p'⟩ := t
        simp only [] at ht h
        subst ht h
        exact ⟨v', hg.place 0⟩
      · exact absurd h.symm hk
    · exact absurd h.symm hk

theorem good_of_check {k v p : Int} {l : List Nat} (h : checkOf k v l p = true) : ∃ kk pp : Nat, k = kk ∧ p = pp ∧ Good ⟨kk, v, l, pp⟩ := by
  unfold checkOf at h
  simp only [Bool.and_eq_true, decide_eq_true_eq, beq_iff_eq, bne_iff_ne] at h
  obtain ⟨⟨⟨hp, hk⟩, hk0⟩, hv⟩ := h
  obtain ⟨v', hg⟩ := good_of_kind (l := l) (k := kindOf l) rfl (by omega)
  refine ⟨kindOf l, p.toNat, hk.symm, by omega, ?_⟩
  have e : v = v' := by
    have hn : v' = if kindOf l = 1 then (LX.num l).getD 0 else 0 := hg.num
    rw [hv, hn, ← hk]
    by_cases h1 : kindOf l = 1
    · rw [if_pos (by omega), if_pos h1]
    · rw [if_neg (by omega), if_neg h1]
  subst e
  exact hg.place _

theorem check_of_good {t : Tok} (h : Good t) : checkOf t.kind t.num t.text t.place = true := by
  unfold checkOf
  simp only [Bool.and_eq_true, decide_eq_true_eq, beq_iff_eq, bne_iff_ne]
  refine ⟨⟨⟨by omega, by rw [h.kind]⟩, by have := h.some; omega⟩, ?_⟩
  rw [h.num]
  by_cases h1 : t.kind = 1
  · rw [if_pos h1, if_pos (by omega)]
  · rw [if_neg h1, if_neg (by omega)]

/-- The bytes of tokens, a space between two. -/
def jl : List Tok → List Nat
  | [] => []
  | t :: r => t.text ++ r.flatMap fun u => 32 :: u.text

/-- The tokens, each a space behind the one before it. -/
def backs : Nat → List Tok → List Tok
  | _, [] => []
  | p, t :: r => ⟨t.kind, t.num, t.text, p⟩ :: backs (p + t.text.length + 1) r

theorem backs_shift (k : Nat) : ∀ (ts : List Tok) (p : Nat), (backs p ts).map (fun t => { t with place := t.place + k }) = backs (p + k) ts
  | [], _ => rfl
  | t :: r, p => by
    rw [backs, backs, List.map_cons, backs_shift k r]
    rw [show p + t.text.length + 1 + k = p + k + t.text.length + 1 from by omega]

theorem jl_cons (t u : Tok) (r : List Tok) : jl (t :: u :: r) = t.text ++ 32 :: jl (u :: r) := by
  simp [jl]

theorem scan_jl : ∀ ts : List Tok, (∀ t ∈ ts, Good t) → scan (jl ts) = .ok (backs 0 ts) []
  | [], _ => rfl
  | [t], h => by
    have := (h t List.mem_cons_self).alone
    simpa [jl, backs] using this
  | t :: u :: r, h => by
    have ih := scan_jl (u :: r) (fun x hx => h x (List.mem_cons_of_mem _ hx))
    rw [jl_cons, parts_ok (x := 32) rfl _ (h t List.mem_cons_self).alone, ih]
    simp only [Res.shift, Res.app, List.map_nil, List.append_nil]
    rw [backs_shift, Nat.zero_add]
    rw [show backs 0 (t :: u :: r) = ⟨t.kind, t.num, t.text, 0⟩ :: backs (0 + t.text.length + 1) (u :: r) from rfl, Nat.zero_add]
    rfl

theorem backs_length : ∀ (ts : List Tok) (p : Nat), (backs p ts).length = ts.length
  | [], _ => rfl
  | t :: r, p => by rw [backs, List.length_cons, List.length_cons, backs_length r]

theorem backs_get : ∀ (ts : List Tok) (p i : Nat) (t : Tok), (backs p ts)[i]? = some t → ∃ u, ts[i]? = some u ∧ t = ⟨u.kind, u.num, u.text, t.place⟩
  | [], _, _, _, h => by cases h
  | u :: r, p, 0, t, h => by cases h; exact ⟨u, rfl, rfl⟩
  | u :: r, p, i + 1, t, h => backs_get r _ i t h

theorem backs_good {ts : List Tok} (h : ∀ t ∈ ts, Good t) (p : Nat) : ∀ t ∈ backs p ts, Good t := by
  intro t ht
  obtain ⟨i, hi⟩ := List.getElem?_of_mem ht
  obtain ⟨u, hu, e⟩ := backs_get ts p i t hi
  rw [e]
  exact (h u (List.mem_of_getElem? hu)).place _

/-- Where a token stands: behind all bytes of those before it, and a space for each. -/
def pre (ts : List Tok) (i : Nat) : Nat := ((ts.take i).map fun t => t.text.length + 1).sum

theorem backs_place : ∀ (ts : List Tok) (p i : Nat) (t : Tok), (backs p ts)[i]? = some t → t.place = p + pre ts i
  | [], _, _, _, h => by cases h
  | u :: r, p, 0, t, h => by cases h; simp [pre]
  | u :: r, p, i + 1, t, h => by
    have := backs_place r _ i t h
    rw [this]
    simp [pre]
    omega

theorem pre_succ {ts : List Tok} {i : Nat} {t : Tok} (h : ts[i]? = some t) : pre ts (i + 1) = pre ts i + t.text.length + 1 := by
  unfold pre
  obtain ⟨hi, e⟩ := List.getElem?_eq_some_iff.1 h
  rw [List.take_succ_eq_append_getElem hi, List.map_append, List.sum_append, e]
  simp
  omega

theorem jl_length : ∀ ts : List Tok, ts ≠ [] → (jl ts).length + 1 = (ts.map fun t => t.text.length + 1).sum
  | [], h => absurd rfl h
  | [t], _ => by simp [jl]
  | t :: u :: r, _ => by
    have ih := jl_length (u :: r) (by simp)
    rw [jl_cons, List.length_append, List.length_cons, List.map_cons, List.sum_cons, ← ih]
    omega

theorem sum_len (ts : List Tok) : (ts.map fun t => t.text.length + 1).sum = (ts.map fun t => t.text.length).sum + ts.length := by
  induction ts with
  | nil => rfl
  | cons t r ih => simp only [List.map_cons, List.sum_cons, List.length_cons, ih]; omega

theorem sum_ge {ts : List Tok} (h : ∀ t ∈ ts, Good t) : ts.length ≤ (ts.map fun t => t.text.length).sum := by
  induction ts with
  | nil => simp
  | cons t r ih =>
    have h1 := ih (fun x hx => h x (List.mem_cons_of_mem _ hx))
    have h2 := (h t List.mem_cons_self).pos
    simp only [List.map_cons, List.sum_cons, List.length_cons]
    omega

theorem sum_le {ts : List Tok} (h : ∀ t ∈ ts, Good t) : (ts.map fun t => t.text.length).sum ≤ 24 * ts.length := by
  induction ts with
  | nil => simp
  | cons t r ih =>
    have h1 := ih (fun x hx => h x (List.mem_cons_of_mem _ hx))
    have h2 := (h t List.mem_cons_self).short
    simp only [List.map_cons, List.sum_cons, List.length_cons]
    omega
end LX
end Go.Proofs.YtfoijbcmjciihaaGreatDoor
