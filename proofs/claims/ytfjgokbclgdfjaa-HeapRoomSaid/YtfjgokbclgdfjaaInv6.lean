/- The invariant behind make and Set. -/
import Derived.Test.YtfjgokbclgdfjaaInv5
namespace Go.Proofs.Ytfjgokbclgdfjaa
open HM

theorem ep_place' {s : S} {o : O} {i : Nat} (h : i < s.objs.length) : (s.place o).ep i = s.ep i := by
  unfold S.ep; rw [place_old h]; rfl

theorem modify_snoc (l : List O) (o : O) (f : O → O) (q : Nat) (h : q < l.length) : (l ++ [o]).modify q f = l.modify q f ++ [o] := by
  apply List.ext_getElem?
  intro j
  rw [List.getElem?_modify, List.getElem?_append, List.getElem?_append, List.length_modify, List.getElem?_modify]
  by_cases e : q = j
  · subst e; simp [h]
  · by_cases hj : j < l.length
    · simp [e, hj]
    · simp [e, hj]

theorem shade_place {s : S} {o : O} {q : Nat} (h : q < s.objs.length) : (s.place o).shade q = (s.shade q).place o := by
  have he := ep_place' (o := o) h
  unfold S.shade
  rw [he]
  by_cases hc : s.ep q < s.epoch
  · rw [if_pos (show s.ep q < (s.place o).epoch from hc), if_pos hc]
    simp only [S.place]
    rw [modify_snoc _ _ _ _ h]
  · rw [if_neg (show ¬ s.ep q < (s.place o).epoch from hc), if_neg hc]

theorem shades_place (l : List W) : ∀ {s : S} {o : O}, (∀ q, W.obj q ∈ l → q < s.objs.length) → (s.place o).shades l = (s.shades l).place o := by
  induction l with
  | nil => intro s o _; rfl
  | cons x r ih =>
    intro s o h
    have e1 : (s.place o).shadeW x = (s.shadeW x).place o := by
      cases x with
      | num n => rfl
      | obj q => exact shade_place (h q (by simp))
    show ((s.place o).shadeW x).shades r = ((s.shadeW x).shades r).place o
    rw [e1]
    exact ih (fun q hq => by rw [(shadeW_same s x).2.2.2.2.2.2.2.2.2.2.2.1]; exact h q (by simp [hq]))

theorem wf_shades' (l : List W) : ∀ {s : S}, WF s → s.phase ≤ 2 → (∀ j, W.obj j ∈ l → s.Alive j) → WF (s.shades l) := by
  induction l with
  | nil => intro s h _ _; exact h
  | cons x r ih =>
    intro s h hp hl
    exact ih (s := s.shadeW x) (wf_shadeW' h hp (fun j e => hl j (by simp [e]))) (by rw [(shadeW_same s x).2.2.2.2.2.2.2.2.1]; exact hp) (fun j hj => alive_shadeW (hl j (by simp [hj])) h.doneLe)

theorem shadeW_ep {s : S} {x : W} {j : Nat} (h : s.ep j = s.epoch) : (s.shadeW x).ep j = (s.shadeW x).epoch := by
  cases x with
  | num n => exact h
  | obj i => exact shade_ep_ge h

theorem shades_ep (l : List W) : ∀ {s : S} {j : Nat}, s.ep j = s.epoch → (s.shades l).ep j = (s.shades l).epoch := by
  induction l with
  | nil => intro s j h; exact h
  | cons x r ih => intro s j h; exact ih (s := s.shadeW x) (shadeW_ep h)

theorem shades_self (l : List W) : ∀ {s : S}, WF s → s.phase ≤ 2 → (∀ j, W.obj j ∈ l → s.Alive j) → ∀ j, W.obj j ∈ l → (s.shades l).ep j = (s.shades l).epoch := by
  induction l with
  | nil => intro s _ _ _ j hj; simp at hj
  | cons x r ih =>
    intro s h hp hl j hj
    have hw := wf_shadeW' h hp (x := x) (fun j e => hl j (by simp [e]))
    rcases List.mem_cons.1 hj with e | e
    · subst e
      exact shades_ep r (s := s.shadeW (.obj j)) (shade_self h.epo j)
    · exact ih (s := s.shadeW x) hw (by rw [(shadeW_same s x).2.2.2.2.2.2.2.2.1]; exact hp) (fun j hj => alive_shadeW (hl j (by simp [hj])) h.doneLe) j e

theorem made_eq {s : S} (h : WF s) {tag : Int} {ws : List W} (hal : ∀ j, W.obj j ∈ ws → s.Alive j) : (s.place (s.newO tag ws)).shades ws = (s.shades ws).place ((s.shades ws).newO tag ws) := by
  rw [shades_place ws (fun q hq => Alive.lt (hal q hq))]
  have hs := shades_same ws s
  have : (s.shades ws).newO tag ws = s.newO tag ws := by
    unfold S.newO
    rw [hs.2.1, hs.2.2.2.1, hs.2.2.2.2.2.2.1]
  rw [this]

theorem wf_made {s : S} (h : WF s) (hp : s.phase ≤ 2) {tag : Int} {ws : List W} (hal : ∀ j, W.obj j ∈ ws → s.Alive j) (htag : -1 ≤ tag ∧ tag ≤ 9223372036854775807) (hone : tag = -1 → ws.length = 1) (h16 : ws.length ≤ 16) (hfit : s.fitsB (1 + ws.length)) : WF (s.made tag ws) := by
  have hs := shades_same ws s
  have hw := wf_shades' ws h hp hal
  have hpl : WF ((s.shades ws).place ((s.shades ws).newO tag ws)) := by
    refine wf_place hw (by rw [hs.2.2.2.2.2.2.2.2.1]; exact hp) tag ws (fun j hj => alive_shades ws (hal j hj) h.doneLe) (fun _ j hj => shades_self ws h hp hal j hj) htag hone h16 ?_
    unfold S.fitsB at hfit ⊢
    rw [hs.1, hs.2.2.2.1, hs.2.2.2.2.1]
    exact hfit
  unfold S.made
  have hph : ((s.place (s.newO tag ws)).shades ws).phase ≤ 2 := by rw [(shades_same ws (s.place (s.newO tag ws))).2.2.2.2.2.2.2.2.1]; exact hp
  have hal2 : ((s.place (s.newO tag ws)).shades ws).Alive s.objs.length := alive_shades ws ⟨s.newO tag ws, place_new s _, h.doneLe⟩ h.doneLe
  refine wf_give ?_ hph hal2
  rw [made_eq h hal]
  exact hpl

theorem wf_new (n : Nat) : WF (S.new n) := by
  refine ⟨by simp [S.new], by simp [S.new], by simp [S.new], by simp [S.new], by simp [S.new], by simp [S.new], by simp [S.new], ?_, ?_, ?_, ?_, by simp [S.new], by simp [S.new], by simp [S.new], ?_, ?_, by simp [S.new, rsum], by simp [S.new, rsum], by simp [S.new], ?_, ?_⟩ <;> intros <;> simp_all [S.new]
end Go.Proofs.Ytfjgokbclgdfjaa
