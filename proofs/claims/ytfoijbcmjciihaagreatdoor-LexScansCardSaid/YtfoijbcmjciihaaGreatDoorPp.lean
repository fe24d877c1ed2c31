/- Plain laws: a text, a space, and another text. -/
import Derived.Test.YtfoijbcmjciihaaGreatDoorPx
set_option linter.unusedSimpArgs false
set_option linter.unusedVariables false
namespace Go.Proofs.YtfoijbcmjciihaaGreatDoor
namespace LX

theorem space_facts {x : Nat} (h : space x = true) : part x = false ∧ digit x = false ∧ small x = false ∧ x ≠ 39 ∧ x ≠ 62 ∧ x ≠ 42 ∧ x ≠ 0 := by
  unfold space at h
  simp only [Bool.or_eq_true, beq_iff_eq] at h
  rcases h with ((rfl | rfl) | rfl) | rfl <;> decide

theorem run_sep {p : Nat → Bool} {x : Nat} (h : p x = false) (b : List Nat) : ∀ l : List Nat, run p (l ++ x :: b) = run p l
  | [] => by simp [run, h]
  | c :: t => by rw [List.cons_append, run, run, run_sep h b t]

theorem nameLen_sep {x : Nat} (h : space x = true) (b l : List Nat) : nameLen (l ++ x :: b) = nameLen l := by
  obtain ⟨hp, hd, _, h39, _⟩ := space_facts h
  unfold nameLen
  have hr : run part (l ++ x :: b) = run part l := run_sep hp b l
  simp only [hr]
  rw [List.drop_append_of_le_length (run_le part l)]
  cases hc : l.drop (run part l) with
  | nil =>
    simp only [List.nil_append]
    rw [if_neg (fun e => h39 e.1)]
  | cons c t =>
    simp only [List.cons_append]
    rw [run_sep hd]

theorem nameLen_take_sep {x : Nat} (b l : List Nat) (k : Nat) (h : k ≤ l.length) : (l ++ x :: b).take k = l.take k := List.take_append_of_le_length h

theorem named_sep {x : Nat} (h : space x = true) (b l : List Nat) (k : Nat) : named k (l ++ x :: b) = named k l := by
  unfold named
  rw [nameLen_sep h]
  cases hm : made k (nameLen l) with
  | bad e => rfl
  | tok a v n =>
    obtain ⟨rfl, _⟩ := made_ok hm
    simp only []
    rw [List.take_append_of_le_length (nameLen_le l)]

theorem number_sep {x : Nat} (h : space x = true) (b l : List Nat) (n : Nat) (hn : n ≤ l.length) : number (l ++ x :: b) n = number l n := by
  obtain ⟨hp, hd, _, h39, _⟩ := space_facts h
  have hr : run digit ((l ++ x :: b).drop n) = run digit (l.drop n) := by
    rw [List.drop_append_of_le_length hn, run_sep hd]
  have hle : n + run digit (l.drop n) ≤ l.length := by
    have := run_le digit (l.drop n)
    rw [List.length_drop] at this
    omega
  unfold number
  simp only [hr]
  rw [List.take_append_of_le_length hle, List.drop_append_of_le_length hle]
  cases num (l.take (n + run digit (l.drop n))) with
  | none => rfl
  | some v =>
    simp only []
    cases l.drop (n + run digit (l.drop n)) with
    | nil =>
      simp only [List.nil_append]
      rw [hp]
      simp [h39]
    | cons c t => rfl

theorem head0_sep {x : Nat} (b : List Nat) : ∀ t : List Nat, head0 (t ++ x :: b) = if t = [] then x else head0 t
  | [] => rfl
  | _ :: _ => rfl

theorem token_sep {x : Nat} (h : space x = true) (b : List Nat) {l : List Nat} (hl : l ≠ []) : token (l ++ x :: b) = token l := by
  obtain ⟨hp, hd, hsm, h39, h62, _⟩ := space_facts h
  cases l with
  | nil => exact absurd rfl hl
  | cons c t =>
    have hs : small (head0 (t ++ x :: b)) = small (head0 t) := by
      rw [head0_sep]
      split
      · rename_i e; subst e; rw [hsm]; rfl
      · rfl
    have h6 : (head0 (t ++ x :: b) = 62) = (head0 t = 62) := by
      rw [head0_sep]
      split
      · rename_i e; subst e; exact propext ⟨fun e => absurd e h62, fun e => absurd e (by decide)⟩
      · rfl
    rw [List.cons_append]
    unfold token
    simp only [hs, h6, run_sep hp]
    rw [show c :: (t ++ x :: b) = (c :: t) ++ x :: b from rfl, number_sep h _ _ _ (by split <;> simp), named_sep h, named_sep h]

theorem opens_sep {x : Nat} (h : space x = true) (b : List Nat) {l : List Nat} (hl : l ≠ []) : opens (l ++ x :: b) = opens l := by
  obtain ⟨_, _, _, _, _, h42, _⟩ := space_facts h
  match l, hl with
  | [c], _ =>
    show opens (c :: x :: b) = opens [c]
    unfold opens
    split
    · rename_i heq; simp only [List.cons.injEq] at heq; exact absurd heq.2.1 h42
    · split
      · rename_i heq; simp at heq
      · rfl
  | c :: d :: t, _ =>
    show opens (c :: d :: (t ++ x :: b)) = opens (c :: d :: t)
    by_cases hc : c = 40 ∧ d = 42
    · obtain ⟨rfl, rfl⟩ := hc; rfl
    · unfold opens
      split
      · rename_i heq; simp only [List.cons.injEq] at heq; exact absurd ⟨heq.1, heq.2.1⟩ hc
      · split
        · rename_i heq; simp only [List.cons.injEq] at heq; exact absurd ⟨heq.1, heq.2.1⟩ hc
        · rfl

theorem cmt_more (b : List Nat) : ∀ (l : List Nat) (d n : Nat) (r : CR), cmt l d n = r → r ≠ .never → cmt (l ++ b) d n = r
  | [], _, _, r, h, hr => absurd h.symm hr
  | [_], _, _, r, h, hr => absurd h.symm hr
  | a :: c :: t, d, n, r, h, hr => by
    show cmt (a :: c :: (t ++ b)) d n = r
    rw [cmt] at h ⊢
    split at h
    · rename_i hc
      rw [if_pos hc]
      split at h
      · rename_i hd; rw [if_pos hd]; exact h
      · rename_i hd; rw [if_neg hd]; exact cmt_more b t _ _ _ h hr
    · rename_i hc
      rw [if_neg hc]
      split at h
      · rename_i hc2
        rw [if_pos hc2]
        split at h
        · rename_i hd; rw [if_pos hd]; exact h
        · rename_i hd; rw [if_neg hd]; exact cmt_more b t _ _ _ h hr
      · rename_i hc2
        rw [if_neg hc2]
        exact cmt_more b (c :: t) _ _ _ h hr

def Res.shift (k : Nat) : Res → Res
  | .ok ts cs => .ok (ts.map fun t => { t with place := t.place + k }) (cs.map fun c => (c.1 + k, c.2 + k))
  | .bad p e => .bad (p + k) e

theorem shift_tok (k : Nat) (t : Tok) (r : Res) : (r.tok t).shift k = (r.shift k).tok { t with place := t.place + k } := by cases r <;> rfl
theorem shift_cmt (k : Nat) (c : Nat × Nat) (r : Res) : (r.cmt c).shift k = (r.shift k).cmt (c.1 + k, c.2 + k) := by cases r <;> rfl

theorem scanN_shift (k : Nat) : ∀ (f : Nat) (l : List Nat) (p : Nat), scanN f l (p + k) = (scanN f l p).shift k
  | 0, _, _ => rfl
  | f + 1, [], _ => rfl
  | f + 1, c :: t, p => by
    rw [scanN, scanN]
    split
    · rw [show p + k + 1 = p + 1 + k from by omega]; exact scanN_shift k f t (p + 1)
    · split
      · cases cmt (c :: t) 0 0 with
        | fin n =>
          simp only []
          rw [shift_cmt, show p + k + n = p + n + k from by omega, scanN_shift k f _ (p + n)]
        | deep n => simp only [Res.shift]; rw [show p + k + n = p + n + k from by omega]
        | never => rfl
      · cases token (c :: t) with
        | tok a v n =>
          simp only []
          rw [shift_tok, show p + k + n = p + n + k from by omega, scanN_shift k f _ (p + n)]
        | bad e => rfl

/-- The scan of the second text, behind the first one. -/
theorem sc_second (a b : List Nat) (x : Nat) : sc (a ++ x :: b) (a.length + 1) = (scan b).shift (a.length + 1) := by
  unfold sc scan
  have hd : (a ++ x :: b).drop (a.length + 1) = b := by
    rw [List.drop_append, List.drop_of_length_le (by omega), Nat.add_sub_cancel_left]
    rfl
  rw [hd, ← scanN_shift, Nat.zero_add]
  exact scanN_fuel _ _ _ _ (by simp only [List.length_append, List.length_cons]; omega) (Nat.le_refl _)

theorem sc_mid {x : Nat} (h : space x = true) (a b : List Nat) : sc (a ++ x :: b) a.length = (scan b).shift (a.length + 1) := by
  have hl : a.length < (a ++ x :: b).length := by simp
  have hg : (a ++ x :: b).getD a.length 0 = x := by simp [List.getD_eq_getElem?_getD]
  rw [sc_step hl, hg, if_pos h, sc_second]

theorem getD_left {a b : List Nat} {j : Nat} (h : j < a.length) : (a ++ b).getD j 0 = a.getD j 0 := by
  rw [List.getD_eq_getElem?_getD, List.getD_eq_getElem?_getD, List.getElem?_append_left h]

theorem drop_ne {a : List Nat} {j : Nat} (h : j < a.length) : a.drop j ≠ [] := fun e => by
  have := List.drop_eq_nil_iff.1 e
  omega

/-- The scan of the first text, with the second one behind it. -/
theorem sc_first {x : Nat} (hx : space x = true) (a b : List Nat) : ∀ (n j : Nat), a.length - j = n → j ≤ a.length →
    (∀ ts cs, sc a j = .ok ts cs → sc (a ++ x :: b) j = (sc (a ++ x :: b) a.length).app ts cs) ∧
    (∀ p e, sc a j = .bad p e → e ≠ 12 → sc (a ++ x :: b) j = .bad p e) := by
  intro n
  induction n using Nat.strongRecOn with
  | ind n ih =>
    intro j hn hjl
    rcases Nat.lt_or_eq_of_le hjl with hj | rfl
    · have hj' : j < (a ++ x :: b).length := by rw [List.length_append]; omega
      have hs := sc_step hj
      have hs' := sc_step hj'
      have hdr : (a ++ x :: b).drop j = a.drop j ++ x :: b := List.drop_append_of_le_length hjl
      rw [getD_left hj, hdr, opens_sep hx b (drop_ne hj), token_sep hx b (drop_ne hj)] at hs'
      rw [hs, hs']
      split
      · exact ih _ (by omega) (j + 1) rfl hj
      · split
        · cases hc : cmt (a.drop j) 0 0 with
          | fin m =>
            have h0 := cmt_fin hc
            have h9 := cmt_le _ _ _ _ hc
            rw [List.length_drop] at h9
            rw [cmt_more _ _ _ _ _ hc (by simp)]
            simp only []
            obtain ⟨i1, i2⟩ := ih _ (by omega) (j + m) rfl (by omega)
            refine ⟨fun ts cs h => ?_, fun p e h he => ?_⟩
            · cases hq : sc a (j + m) with
              | ok t2 c2 =>
                rw [hq] at h
                simp only [Res.app, Res.ok.injEq] at h
                obtain ⟨rfl, rfl⟩ := h
                rw [i1 _ _ hq, Res.app_app]
              | bad p2 e2 => rw [hq] at h; cases h
            · cases hq : sc a (j + m) with
              | ok t2 c2 => rw [hq] at h; cases h
              | bad p2 e2 =>
                rw [hq] at h
                simp only [Res.app, Res.bad.injEq] at h
                obtain ⟨rfl, rfl⟩ := h
                rw [i2 _ _ hq he]; rfl
          | deep m =>
            rw [cmt_more _ _ _ _ _ hc (by simp)]
            exact ⟨fun ts cs h => (by cases h), fun p e h he => h⟩
          | never =>
            refine ⟨fun ts cs h => (by cases h), fun p e h he => ?_⟩
            simp only [Res.bad.injEq] at h
            exact absurd h.2.symm he
        · cases hc : token (a.drop j) with
          | tok k v m =>
            have h0 := token_len hc
            rw [List.length_drop] at h0
            simp only []
            rw [List.take_append_of_le_length (by rw [List.length_drop]; omega)]
            obtain ⟨i1, i2⟩ := ih _ (by omega) (j + m) rfl (by omega)
            refine ⟨fun ts cs h => ?_, fun p e h he => ?_⟩
            · cases hq : sc a (j + m) with
              | ok t2 c2 =>
                rw [hq] at h
                simp only [Res.app, Res.ok.injEq] at h
                obtain ⟨rfl, rfl⟩ := h
                rw [i1 _ _ hq, Res.app_app]
              | bad p2 e2 => rw [hq] at h; cases h
            · cases hq : sc a (j + m) with
              | ok t2 c2 => rw [hq] at h; cases h
              | bad p2 e2 =>
                rw [hq] at h
                simp only [Res.app, Res.bad.injEq] at h
                obtain ⟨rfl, rfl⟩ := h
                rw [i2 _ _ hq he]; rfl
          | bad e2 => exact ⟨fun ts cs h => (by cases h), fun p e h he => h⟩
    · rw [sc_end (Nat.le_refl _)]
      refine ⟨fun ts cs h => ?_, fun p e h he => (by cases h)⟩
      simp only [Res.ok.injEq] at h
      obtain ⟨rfl, rfl⟩ := h
      rw [Res.app_nil]

theorem parts_ok {x : Nat} (hx : space x = true) {a : List Nat} (b : List Nat) {ts : List Tok} {cs : List (Nat × Nat)} (h : scan a = .ok ts cs) :
    scan (a ++ x :: b) = ((scan b).shift (a.length + 1)).app ts cs := by
  rw [← sc_mid hx a b]
  exact (sc_first hx a b _ 0 rfl (Nat.zero_le _)).1 ts cs h

theorem parts_bad {x : Nat} (hx : space x = true) {a : List Nat} (b : List Nat) {p e : Nat} (h : scan a = .bad p e) (he : e ≠ 12) :
    scan (a ++ x :: b) = .bad p e :=
  (sc_first hx a b _ 0 rfl (Nat.zero_le _)).2 p e h he
end LX
end Go.Proofs.YtfoijbcmjciihaaGreatDoor
