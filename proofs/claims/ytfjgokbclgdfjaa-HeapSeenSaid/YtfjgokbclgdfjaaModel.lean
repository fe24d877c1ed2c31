/- The heap of the program as plain data: what each function makes of it. No Go in sight. -/
set_option linter.unusedSimpArgs false
set_option linter.unusedVariables false
namespace Go.Proofs.Ytfjgokbclgdfjaa.HM

/-- A word: an integer, or an object by its number. -/
inductive W where
  | num (n : Int)
  | obj (i : Nat)

/-- An object: its words (the first one is its tag), and where they lie. -/
structure O where
  tag : Int
  ws : List W
  space : Nat
  place : Nat
  epoch : Nat

def O.size (o : O) : Nat := o.ws.length

structure S where
  room : Nat
  cur : Nat
  used : Nat
  bump : Nat
  stay : Nat
  handles : List (Option Nat)
  epoch : Nat
  done : Nat
  phase : Nat
  cursor : Nat
  grey : List Nat
  weak : List Nat
  objs : List O

/-- The epoch of an object (one that is not there is as the newest). -/
def S.ep (s : S) (i : Nat) : Nat := ((s.objs[i]?).map (·.epoch)).getD s.epoch

def S.shade (s : S) (i : Nat) : S :=
  if s.ep i < s.epoch then { s with objs := s.objs.modify i (fun o => { o with epoch := s.epoch }), grey := s.grey ++ [i] } else s

def S.shadeW (s : S) : W → S
  | .num _ => s
  | .obj i => s.shade i

def S.shades (s : S) (l : List W) : S := l.foldl S.shadeW s

def S.begin (s : S) : S :=
  if 0 < s.phase then s else { s with phase := 1, cursor := 0, epoch := s.epoch + 1, cur := 1 - s.cur, stay := s.bump, bump := 0 }

/-- The handles from a number on: those up to the first one that is there, and its object. -/
def nextHandle : List (Option Nat) → Nat → Nat × Option Nat
  | [], n => (n, none)
  | some i :: _, n => (n + 1, some i)
  | none :: r, n => nextHandle r (n + 1)

/-- Goes through a handle; false: there is none left. -/
def S.roots (s : S) : S × Bool :=
  match nextHandle (s.handles.drop s.cursor) s.cursor with
  | (n, some i) => ({ s.shade i with cursor := n }, true)
  | (n, none) => ({ s with cursor := n }, false)

/-- Moves an object; false: there is none left. -/
def S.trace (s : S) : S × Bool :=
  match s.grey with
  | [] => (s, false)
  | i :: rest =>
    match s.objs[i]? with
    | none => (s, false)
    | some o => (({ s with grey := rest, objs := s.objs.set i { o with space := s.cur, place := s.bump }, bump := s.bump + o.size, stay := s.stay - o.size } : S).shades o.ws.tail, true)

def S.finish (s : S) : S := { s with phase := 0, done := s.epoch, used := s.bump, stay := 0, grey := [] }

/-- A step in the phases 2 and 3. -/
def S.step2 (s : S) : S × Bool :=
  match s.trace with
  | (t, true) => (t, false)
  | (t, false) => (({ t with phase := 3 } : S).finish, true)

def S.step (s : S) : S × Bool :=
  if s.phase = 0 then (s, false)
  else if s.phase = 1 then
    match s.roots with
    | (t, true) => (t, false)
    | (t, false) => ({ t with phase := 2 } : S).step2
  else s.step2

/-- As many steps as it takes, at most n. -/
def S.wholeN : Nat → S → S
  | 0, s => s
  | n + 1, s => if s.phase = 0 then s else S.wholeN n s.step.1

/-- The state when an object's words have moved, ahead of the shading. -/
def moved (s : S) (i : Nat) (o : O) (rest : List Nat) : S :=
  { s with grey := rest, objs := s.objs.set i { o with space := s.cur, place := s.bump }, bump := s.bump + o.size, stay := s.stay - o.size }

/-! What shading leaves as it is. -/

/-- An object that is there and not freed. -/
def S.Alive (s : S) (i : Nat) : Prop := ∃ o, s.objs[i]? = some o ∧ s.done ≤ o.epoch

theorem shade_same (s : S) (i : Nat) : (s.shade i).room = s.room ∧ (s.shade i).cur = s.cur ∧ (s.shade i).used = s.used ∧ (s.shade i).bump = s.bump ∧ (s.shade i).stay = s.stay ∧ (s.shade i).handles = s.handles ∧
    (s.shade i).epoch = s.epoch ∧ (s.shade i).done = s.done ∧ (s.shade i).phase = s.phase ∧ (s.shade i).cursor = s.cursor ∧ (s.shade i).weak = s.weak ∧ (s.shade i).objs.length = s.objs.length ∧ (s.shade i).grey.length ≤ s.grey.length + 1 := by
  unfold S.shade; split <;> simp

theorem shadeW_same (s : S) (x : W) : (s.shadeW x).room = s.room ∧ (s.shadeW x).cur = s.cur ∧ (s.shadeW x).used = s.used ∧ (s.shadeW x).bump = s.bump ∧ (s.shadeW x).stay = s.stay ∧ (s.shadeW x).handles = s.handles ∧
    (s.shadeW x).epoch = s.epoch ∧ (s.shadeW x).done = s.done ∧ (s.shadeW x).phase = s.phase ∧ (s.shadeW x).cursor = s.cursor ∧ (s.shadeW x).weak = s.weak ∧ (s.shadeW x).objs.length = s.objs.length ∧ (s.shadeW x).grey.length ≤ s.grey.length + 1 := by
  cases x with
  | num n => simp [S.shadeW]
  | obj i => exact shade_same s i

theorem shades_same (l : List W) : ∀ s : S, (s.shades l).room = s.room ∧ (s.shades l).cur = s.cur ∧ (s.shades l).used = s.used ∧ (s.shades l).bump = s.bump ∧ (s.shades l).stay = s.stay ∧ (s.shades l).handles = s.handles ∧
    (s.shades l).epoch = s.epoch ∧ (s.shades l).done = s.done ∧ (s.shades l).phase = s.phase ∧ (s.shades l).cursor = s.cursor ∧ (s.shades l).weak = s.weak ∧ (s.shades l).objs.length = s.objs.length ∧ (s.shades l).grey.length ≤ s.grey.length + l.length := by
  induction l with
  | nil => intro s; simp [S.shades]
  | cons x r ih =>
    intro s
    have h1 := ih (s.shadeW x)
    have h2 := shadeW_same s x
    have e : s.shades (x :: r) = (s.shadeW x).shades r := rfl
    rw [e]
    refine ⟨h1.1.trans h2.1, h1.2.1.trans h2.2.1, h1.2.2.1.trans h2.2.2.1, h1.2.2.2.1.trans h2.2.2.2.1, h1.2.2.2.2.1.trans h2.2.2.2.2.1, h1.2.2.2.2.2.1.trans h2.2.2.2.2.2.1, h1.2.2.2.2.2.2.1.trans h2.2.2.2.2.2.2.1, h1.2.2.2.2.2.2.2.1.trans h2.2.2.2.2.2.2.2.1, h1.2.2.2.2.2.2.2.2.1.trans h2.2.2.2.2.2.2.2.2.1, h1.2.2.2.2.2.2.2.2.2.1.trans h2.2.2.2.2.2.2.2.2.2.1, h1.2.2.2.2.2.2.2.2.2.2.1.trans h2.2.2.2.2.2.2.2.2.2.2.1, h1.2.2.2.2.2.2.2.2.2.2.2.1.trans h2.2.2.2.2.2.2.2.2.2.2.2.1, ?_⟩
    have a := h1.2.2.2.2.2.2.2.2.2.2.2.2
    have b := h2.2.2.2.2.2.2.2.2.2.2.2.2
    simp only [List.length_cons]
    omega

/-- What shading an object makes of another one: at most its epoch is another one. -/
theorem shade_obj (s : S) (i j : Nat) : (s.shade i).objs[j]? = if s.ep i < s.epoch ∧ i = j then (s.objs[j]?).map (fun o => { o with epoch := s.epoch }) else s.objs[j]? := by
  unfold S.shade
  by_cases h : s.ep i < s.epoch
  · simp only [h, if_true, true_and, List.getElem?_modify]
    by_cases hij : i = j <;> simp [hij]
  · simp [h]

theorem alive_shade {s : S} {i j : Nat} (h : s.Alive j) (hd : s.done ≤ s.epoch) : (s.shade i).Alive j := by
  obtain ⟨o, ho, hl⟩ := h
  unfold S.Alive
  rw [shade_obj, (shade_same s i).2.2.2.2.2.2.2.1, ho]
  by_cases hc : s.ep i < s.epoch ∧ i = j
  · rw [if_pos hc]; exact ⟨_, rfl, hd⟩
  · rw [if_neg hc]; exact ⟨o, rfl, hl⟩

theorem alive_shadeW {s : S} {x : W} {j : Nat} (h : s.Alive j) (hd : s.done ≤ s.epoch) : (s.shadeW x).Alive j := by
  cases x with
  | num n => exact h
  | obj i => exact alive_shade h hd

theorem alive_shades {j : Nat} (l : List W) : ∀ {s : S}, s.Alive j → s.done ≤ s.epoch → (s.shades l).Alive j := by
  induction l with
  | nil => intro s h _; exact h
  | cons x r ih =>
    intro s h hd
    exact ih (s := s.shadeW x) (alive_shadeW h hd) (by rw [(shadeW_same s x).2.2.2.2.2.2.2.1, (shadeW_same s x).2.2.2.2.2.2.1]; exact hd)

theorem shades_snoc (s : S) (l : List W) (x : W) : s.shades (l ++ [x]) = (s.shades l).shadeW x := by simp [S.shades]

end Go.Proofs.Ytfjgokbclgdfjaa.HM
