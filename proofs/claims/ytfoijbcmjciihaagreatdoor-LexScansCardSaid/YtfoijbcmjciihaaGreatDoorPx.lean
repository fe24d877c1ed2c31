/- Plain laws: a text that is wrong at an index, cut off there. -/
import Derived.Test.YtfoijbcmjciihaaGreatDoorP
set_option linter.unusedSimpArgs false
set_option linter.unusedVariables false
namespace Go.Proofs.YtfoijbcmjciihaaGreatDoor
namespace LX

theorem run_take (p : Nat → Bool) : ∀ (l : List Nat) (k : Nat), run p (l.take k) = min (run p l) k
  | [], k => by simp [run]
  | c :: t, 0 => by simp [run]
  | c :: t, k + 1 => by
    rw [List.take_succ_cons, run, run, run_take p t k]
    split <;> omega

theorem nameLen_take {l : List Nat} {k : Nat} (h : nameLen l ≤ k) : nameLen (l.take k) = nameLen l := by
  have hge := nameLen_ge l
  have hr : run part (l.take k) = run part l := by rw [run_take]; omega
  unfold nameLen at h ⊢
  simp only [hr] at h ⊢
  rw [List.drop_take]
  cases hd : l.drop (run part l) with
  | nil => rw [List.take_nil]
  | cons c t =>
    rw [hd] at h
    simp only [] at h
    cases hk : k - run part l with
    | zero =>
      simp only [List.take_zero]
      split at h
      · omega
      · rename_i hc; rw [if_neg hc]
    | succ q =>
      rw [List.take_succ_cons]
      simp only []
      rw [run_take]
      split at h
      · rename_i hc
        have : min (run digit t) q = run digit t := by omega
        rw [this]
      · rename_i hc
        by_cases h39 : c = 39
        · have h0 : run digit t = 0 := by
            rcases Nat.eq_zero_or_pos (run digit t) with h0 | h0
            · exact h0
            · exact absurd ⟨h39, h0⟩ hc
          rw [h0]; simp
        · rw [if_neg (fun e => h39 e.1), if_neg (fun e => h39 e.1)]

theorem number_take {l : List Nat} {n k d v' : Nat} {v : Int} (h : number l n = .tok v' v d) (hk : d ≤ k) : number (l.take k) n = .tok v' v d := by
  have h0 := number_ok h
  unfold number at h ⊢
  have hr : n + run digit ((l.take k).drop n) = d := by rw [List.drop_take, run_take]; omega
  simp only [hr, ← h0.2.1] at h ⊢
  rw [List.take_take, Nat.min_eq_left hk]
  cases hn : num (l.take d) with
  | none => rw [hn] at h; cases h
  | some x =>
    rw [hn] at h
    simp only [] at h ⊢
    rw [List.drop_take]
    cases hd : l.drop d with
    | nil => rw [hd] at h; rw [List.take_nil]; exact h
    | cons c t =>
      rw [hd] at h
      cases hq : k - d with
      | zero =>
        simp only [List.take_zero]
        simp only [] at h
        split at h
        · cases h
        · exact h
      | succ q => rw [List.take_succ_cons]; exact h

theorem named_take {l : List Nat} {k0 k k' m : Nat} {v : Int} (h : named k0 l = .tok k' v m) (hk : m ≤ k) : named k0 (l.take k) = .tok k' v m := by
  have h0 := named_ok h
  have hn := nameLen_take (l := l) (k := k) (by omega)
  unfold named at h ⊢
  rw [hn]
  cases hm : made k0 (nameLen l) with
  | bad e => rw [hm] at h; cases h
  | tok a b c =>
    rw [hm] at h
    have h1 := made_ok hm
    simp only [] at h ⊢
    rw [List.take_take, Nat.min_eq_left (by omega)]
    exact h

theorem token_take {l : List Nat} {k k' m : Nat} {v : Int} (h : token l = .tok k' v m) (hk : m ≤ k) : token (l.take k) = .tok k' v m := by
  have hm := token_len h
  cases l with
  | nil => cases h
  | cons c t =>
    obtain ⟨q, rfl⟩ : ∃ q, k = q + 1 := ⟨k - 1, by omega⟩
    have hd0 : ∀ x, head0 (t.take q) = x → x ≠ 0 → head0 t = x := fun x hx h0 => by
      cases t with
      | nil => simp [head0] at hx ⊢; exact hx
      | cons a t =>
        cases q with
        | zero => simp [head0] at hx; exact absurd hx.symm h0
        | succ q => simpa [head0] using hx
    have hd1 : ∀ x, head0 t = x → 1 ≤ q → head0 (t.take q) = x := fun x hx hq => by
      cases t with
      | nil => simpa [head0] using hx
      | cons a t =>
        cases q with
        | zero => omega
        | succ q => simpa [head0] using hx
    have e : (c :: t).take (q + 1) = c :: t.take q := List.take_succ_cons
    rw [e]
    unfold token at h ⊢
    simp only [] at h ⊢
    split at h
    · rename_i hc
      rw [if_pos hc, ← e]
      exact number_take h hk
    · rename_i hc
      rw [if_neg hc]
      split at h
      · rename_i hc; rw [if_pos hc, ← e]; exact named_take h hk
      · rename_i hc
        rw [if_neg hc]
        split at h
        · rename_i hc; rw [if_pos hc, ← e]; exact named_take h hk
        · rename_i hc
          rw [if_neg hc]
          split at h
          · rename_i hc
            have h1 := made_ok h
            have hs : small (head0 (t.take q)) = true := by
              have : head0 (t.take q) = head0 t := by
                have hp : 0 < run part t := by
                  cases t with
                  | nil => exact absurd hc.2 (by decide)
                  | cons a t => exact run_pos (part_small hc.2)
                exact hd1 _ rfl (by omega)
              rw [this]; exact hc.2
            rw [if_pos ⟨hc.1, hs⟩, run_take]
            have : min (run part t) q = run part t := by omega
            rw [this]; exact h
          · rename_i hc
            rw [if_neg (fun e2 => by
              have h2 : head0 (t.take q) ≠ 0 := fun e0 => by rw [e0] at e2; exact absurd e2.2 (by decide)
              rw [← hd0 _ rfl h2] at e2
              exact hc e2)]
            split at h
            · rename_i hs
              cases h
              rw [if_pos ⟨hs.1, hd1 _ hs.2 (by omega)⟩]
            · rename_i hs
              rw [if_neg (fun e2 => hs ⟨e2.1, hd0 _ e2.2 (by decide)⟩)]
              exact h

theorem cmt_take : ∀ (l : List Nat) (d n m k : Nat), cmt l d n = .fin m → m ≤ n + k → cmt (l.take k) d n = .fin m
  | [], _, _, _, _, h, _ => by cases h
  | [_], _, _, _, _, h, _ => by cases h
  | a :: b :: t, d, n, m, k, h, hk => by
    have h2 : n + 2 ≤ m := by
      rw [cmt] at h
      split at h
      · split at h
        · cases h
        · have := cmt_fin h; omega
      · split at h
        · split at h
          · cases h; omega
          · have := cmt_fin h; omega
        · have := cmt_fin h; omega
    obtain ⟨q, rfl⟩ : ∃ q, k = q + 2 := ⟨k - 2, by omega⟩
    rw [List.take_succ_cons, List.take_succ_cons]
    rw [cmt] at h ⊢
    split at h
    · rename_i hc
      rw [if_pos hc]
      split at h
      · cases h
      · rename_i hd; rw [if_neg hd]; exact cmt_take t _ _ _ _ h (by omega)
    · rename_i hc
      rw [if_neg hc]
      split at h
      · rename_i hc2
        rw [if_pos hc2]
        split at h
        · rename_i hd; rw [if_pos hd]; exact h
        · rename_i hd; rw [if_neg hd]; exact cmt_take t _ _ _ _ h (by omega)
      · rename_i hc2
        rw [if_neg hc2]
        have := cmt_take (b :: t) d (n + 1) m (q + 1) h (by omega)
        rwa [List.take_succ_cons] at this

theorem cmt_cut : ∀ (l : List Nat) (d n k : Nat), cmt l d n = .deep (n + k) → cmt (l.take k) d n = .never
  | [], _, _, _, h => by cases h
  | [_], _, _, _, h => by cases h
  | a :: b :: t, d, n, k, h => by
    match k with
    | 0 => rfl
    | 1 => rfl
    | k + 2 =>
      rw [List.take_succ_cons, List.take_succ_cons]
      rw [cmt] at h ⊢
      split at h
      · rename_i hc
        rw [if_pos hc]
        split at h
        · simp only [CR.deep.injEq] at h; omega
        · rename_i hd
          rw [if_neg hd]
          exact cmt_cut t _ _ _ (by rw [h]; congr 1; omega)
      · rename_i hc
        rw [if_neg hc]
        split at h
        · rename_i hc2
          rw [if_pos hc2]
          split at h
          · cases h
          · rename_i hd
            rw [if_neg hd]
            exact cmt_cut t _ _ _ (by rw [h]; congr 1; omega)
        · rename_i hc2
          rw [if_neg hc2]
          have := cmt_cut (b :: t) d (n + 1) (k + 1) (by rw [h]; congr 1; omega)
          rwa [List.take_succ_cons] at this

theorem deep_two {l : List Nat} (ho : opens l = true) {m : Nat} (h : cmt l 0 0 = .deep m) : 2 ≤ m := by
  match l, ho, h with
  | [], ho, h => cases h
  | [_], ho, h => cases h
  | a :: b :: t, ho, h =>
    rw [cmt] at h
    by_cases hc : a = 40 ∧ b = 42
    · rw [if_pos hc, if_neg (by decide)] at h
      exact (cmt_deep_lt _ _ _ _ h).1
    · exfalso
      unfold opens at ho
      split at ho
      · rename_i heq
        simp only [List.cons.injEq] at heq
        exact hc ⟨heq.1, heq.2.1⟩
      · cases ho

theorem opens_take {l : List Nat} {k : Nat} (hk : 2 ≤ k) : opens (l.take k) = opens l := by
  obtain ⟨q, rfl⟩ : ∃ q, k = q + 2 := ⟨k - 2, by omega⟩
  match l with
  | [] => rfl
  | [_] => rfl
  | a :: b :: t =>
    rw [List.take_succ_cons, List.take_succ_cons]
    unfold opens
    by_cases h : a = 40 ∧ b = 42
    · obtain ⟨rfl, rfl⟩ := h; rfl
    · split
      · rename_i heq; simp only [List.cons.injEq] at heq; exact absurd ⟨heq.1, heq.2.1⟩ h
      · split
        · rename_i heq; simp only [List.cons.injEq] at heq; exact absurd ⟨heq.1, heq.2.1⟩ h
        · rfl

theorem opens_take_false {l : List Nat} {k : Nat} (h : opens l = false) : opens (l.take k) = false := by
  match k with
  | 0 => rfl
  | 1 =>
    match l with
    | [] => rfl
    | a :: t =>
      show opens [a] = false
      unfold opens
      split
      · rename_i heq; simp at heq
      · rfl
  | k + 2 => rw [opens_take (by omega)]; exact h

/-- The text up to where it is wrong. -/
theorem sc_cut (T : List Nat) (p e : Nat) : ∀ (n j : Nat), T.length - j = n → sc T j = .bad p e →
    (e ≠ 6 → ∃ ts cs, sc (T.take p) j = .ok ts cs ∧ ∀ t ∈ ts, t.place + t.text.length ≤ p) ∧ (e = 6 → ∃ q, sc (T.take p) j = .bad q 12 ∧ q < p) := by
  intro n
  induction n using Nat.strongRecOn with
  | ind n ih =>
    intro j hn h
    obtain ⟨_, hjp, hpl⟩ := sc_bad T _ j rfl p e h
    have hlen : (T.take p).length = p := by rw [List.length_take]; omega
    have hj : j < T.length := by omega
    rcases Nat.lt_or_ge j p with hlt | hge
    · have hget : (T.take p).getD j 0 = T.getD j 0 := by
        rw [List.getD_eq_getElem?_getD, List.getD_eq_getElem?_getD, List.getElem?_take, if_pos hlt]
      have hdrop : (T.take p).drop j = (T.drop j).take (p - j) := List.drop_take
      have hs' := sc_step (T := T.take p) (j := j) (by omega)
      rw [hget, hdrop] at hs'
      rw [sc_step hj] at h
      split at h
      · rename_i hsp
        rw [if_pos hsp] at hs'
        rw [hs']
        exact ih _ (by omega) (j + 1) rfl h
      · rename_i hsp
        rw [if_neg hsp] at hs'
        split at h
        · rename_i hop
          cases hc : cmt (T.drop j) 0 0 with
          | fin m =>
            rw [hc] at h
            simp only [] at h
            have h0 := cmt_fin hc
            cases hq : sc T (j + m) with
            | ok t2 c2 => rw [hq] at h; cases h
            | bad p2 e2 =>
              rw [hq] at h
              simp only [Res.app, Res.bad.injEq] at h
              obtain ⟨rfl, rfl⟩ := h
              obtain ⟨_, h3, _⟩ := sc_bad T _ (j + m) rfl _ _ hq
              have hm2 : 2 ≤ m := by
                match hT : T.drop j, hc with
                | [], hc => cases hc
                | [_], hc => cases hc
                | a :: b :: t, hc =>
                  rw [cmt] at hc
                  split at hc
                  · split at hc
                    · cases hc
                    · have := cmt_fin hc; omega
                  · split at hc
                    · split at hc
                      · cases hc; omega
                      · have := cmt_fin hc; omega
                    · have := cmt_fin hc; omega
              rw [opens_take (by omega), if_pos hop, cmt_take _ _ _ _ _ hc (by omega)] at hs'
              simp only [] at hs'
              rw [hs']
              obtain ⟨i1, i2⟩ := ih _ (by omega) (j + m) rfl hq
              refine ⟨fun he => ?_, fun he => ?_⟩
              · obtain ⟨ts, cs, h4, h5⟩ := i1 he
                exact ⟨ts, _, by rw [h4]; rfl, h5⟩
              · obtain ⟨q, h4, h5⟩ := i2 he
                exact ⟨q, by rw [h4]; rfl, h5⟩
          | deep m =>
            rw [hc] at h
            simp only [Res.bad.injEq] at h
            obtain ⟨rfl, rfl⟩ := h
            have h2 := deep_two hop hc
            rw [opens_take (by omega), if_pos hop, Nat.add_sub_cancel_left, cmt_cut _ _ _ _ (by rw [Nat.zero_add]; exact hc)] at hs'
            exact ⟨fun he => absurd rfl he, fun _ => ⟨j, hs', hlt⟩⟩
          | never =>
            rw [hc] at h
            simp only [Res.bad.injEq] at h
            omega
        · rename_i hop
          have hop' : opens ((T.drop j).take (p - j)) = false := opens_take_false (by simpa using hop)
          rw [hop', if_neg (by decide)] at hs'
          cases hc : token (T.drop j) with
          | tok k v m =>
            rw [hc] at h
            simp only [] at h
            have h0 := token_len hc
            rw [List.length_drop] at h0
            cases hq : sc T (j + m) with
            | ok t2 c2 => rw [hq] at h; cases h
            | bad p2 e2 =>
              rw [hq] at h
              simp only [Res.app, Res.bad.injEq] at h
              obtain ⟨rfl, rfl⟩ := h
              obtain ⟨_, h3, _⟩ := sc_bad T _ (j + m) rfl _ _ hq
              rw [token_take hc (by omega)] at hs'
              simp only [] at hs'
              rw [hs']
              obtain ⟨i1, i2⟩ := ih _ (by omega) (j + m) rfl hq
              refine ⟨fun he => ?_, fun he => ?_⟩
              · obtain ⟨ts, cs, h4, h5⟩ := i1 he
                refine ⟨_, _, by rw [h4]; rfl, fun t ht => ?_⟩
                simp only [List.cons_append, List.nil_append, List.mem_cons] at ht
                rcases ht with rfl | ht
                · simp only [List.length_take, List.length_drop]
                  omega
                · exact h5 t ht
              · obtain ⟨q, h4, h5⟩ := i2 he
                exact ⟨q, by rw [h4]; rfl, h5⟩
          | bad e2 =>
            rw [hc] at h
            simp only [Res.bad.injEq] at h
            omega
    · obtain rfl : j = p := by omega
      rw [sc_end (by omega)]
      refine ⟨fun _ => ⟨[], [], rfl, fun t ht => by cases ht⟩, fun he => ?_⟩
      exfalso
      rw [sc_step hj] at h
      split at h
      · have := (sc_bad T _ (j + 1) rfl j e h).2.1
        omega
      · split at h
        · rename_i hop
          cases hc : cmt (T.drop j) 0 0 with
          | fin m =>
            rw [hc] at h
            simp only [] at h
            have h0 := cmt_fin hc
            cases hq : sc T (j + m) with
            | ok t2 c2 => rw [hq] at h; cases h
            | bad p2 e2 =>
              rw [hq] at h
              simp only [Res.app, Res.bad.injEq] at h
              have := (sc_bad T _ (j + m) rfl _ _ hq).2.1
              omega
          | deep m =>
            rw [hc] at h
            simp only [Res.bad.injEq] at h
            have := deep_two hop hc
            omega
          | never =>
            rw [hc] at h
            simp only [Res.bad.injEq] at h
            omega
        · cases hc : token (T.drop j) with
          | tok k v m =>
            rw [hc] at h
            simp only [] at h
            have h0 := (token_len hc).1
            cases hq : sc T (j + m) with
            | ok t2 c2 => rw [hq] at h; cases h
            | bad p2 e2 =>
              rw [hq] at h
              simp only [Res.app, Res.bad.injEq] at h
              have := (sc_bad T _ (j + m) rfl _ _ hq).2.1
              omega
          | bad e2 =>
            rw [hc] at h
            simp only [Res.bad.injEq] at h
            have := token_bad hc
            omega

end LX
end Go.Proofs.YtfoijbcmjciihaaGreatDoor
