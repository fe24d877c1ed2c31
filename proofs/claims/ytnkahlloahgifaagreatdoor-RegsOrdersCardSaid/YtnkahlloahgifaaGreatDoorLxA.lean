/- The tokens of a text, as plain functions on lists of bytes. No Go in sight. The tests of a byte; a byte of the text; how many bytes are of a kind. -/
import Derived.Test.YtnkahlloahgifaaGreatDoorProg
import Derived.WalkKit
import Derived.Below
import Derived.Lib.Hide
import Derived.BigQuiet
import Derived.Deep.QuietTactic
import Derived.Deep.LoopGhost
import Derived.Handy
set_option linter.unusedSimpArgs false
set_option linter.unusedVariables false
namespace Go.Proofs.YtnkahlloahgifaaGreatDoor.Lx.LX

def small (c : Nat) : Bool := decide (97 ≤ c) && decide (c ≤ 122)
def great (c : Nat) : Bool := decide (65 ≤ c) && decide (c ≤ 90)
def digit (c : Nat) : Bool := decide (48 ≤ c) && decide (c ≤ 57)
def part (c : Nat) : Bool := small c || great c || digit c || c == 95
def space (c : Nat) : Bool := c == 32 || c == 9 || c == 10 || c == 13

/-- How many bytes from the first one on are of a kind. -/
def run (p : Nat → Bool) : List Nat → Nat
  | [] => 0
  | c :: t => if p c then run p t + 1 else 0

/-- A comment: its length; where it is too deep; or it is not closed. -/
inductive CR where
  | fin (n : Nat)
  | deep (n : Nat)
  | never

/-- From within a comment of a depth on, as many bytes behind its beginning. -/
def cmt : List Nat → Nat → Nat → CR
  | [], _, _ => .never
  | [_], _, _ => .never
  | a :: b :: t, d, n =>
    if a = 40 ∧ b = 42 then (if 100 ≤ d then .deep n else cmt t (d + 1) (n + 2))
    else if a = 42 ∧ b = 41 then (if d = 1 then .fin (n + 2) else cmt t (d - 1) (n + 2))
    else cmt (b :: t) d (n + 1)

/-- How an integer is written. -/
def nat10 : Nat → Nat → List Nat
  | 0, _ => []
  | f + 1, n => if n < 10 then [48 + n] else nat10 f (n / 10) ++ [48 + n % 10]
def digs (n : Int) : List Nat := if n < 0 then 126 :: nat10 30 n.natAbs else nat10 30 n.natAbs

/-- The integer that digits are. -/
def mag (l : List Nat) : Nat := l.foldl (fun a c => 10 * a + (c - 48)) 0

/-- Which integer a text is. -/
def num (l : List Nat) : Option Int :=
  let v : Int := match l with | 126 :: t => - (mag t : Int) | _ => (mag l : Int)
  if -9223372036854775808 ≤ v ∧ v ≤ 9223372036854775807 ∧ digs v = l then some v else none

def words : List (List Nat) :=
  [[97, 110, 100], [99, 97, 115, 101], [100, 97, 116, 97], [101, 108, 115, 101], [101, 110, 100], [102, 110], [102, 117, 110], [105, 102], [105, 110], [105, 110, 112, 117, 116], [108, 101, 116], [111, 102], [111, 117, 116, 112, 117, 116], [116, 104, 101, 110], [118, 97, 108]]
def signs : List Nat := [40, 41, 44, 59, 58, 124, 61, 60, 43, 45, 42, 47, 37, 95]

/-- What stands at a place: a token of a kind, an integer, and a length; or an error. -/
inductive TR where
  | tok (kind : Nat) (num : Int) (n : Nat)
  | bad (e : Nat)

def made (k n : Nat) : TR := if 24 < n then .bad 2 else .tok k 0 n

def nameLen (l : List Nat) : Nat :=
  let n := run part l
  match l.drop n with
  | [] => n
  | c :: t => if c = 39 ∧ 0 < run digit t then n + 1 + run digit t else n

def named (k : Nat) (l : List Nat) : TR :=
  match made k (nameLen l) with
  | .tok k v n => .tok (if words.contains (l.take n) then 5 else k) v n
  | .bad e => .bad e

def number (l : List Nat) (n : Nat) : TR :=
  let d := n + run digit (l.drop n)
  match num (l.take d) with
  | none => .bad 13
  | some v =>
    match l.drop d with
    | [] => .tok 1 v d
    | x :: _ => if part x || x == 39 then .bad 13 else .tok 1 v d

def head0 (l : List Nat) : Nat := l.headD 0

def token (l : List Nat) : TR :=
  match l with
  | [] => .bad 11
  | c :: t =>
    if digit c || c == 126 then number l (if c = 126 then 1 else 0)
    else if small c then named 2 l
    else if great c then named 3 l
    else if c = 39 ∧ small (head0 t) then made 4 (1 + run part t)
    else if (c = 61 ∨ c = 45) ∧ head0 t = 62 then .tok 6 0 2
    else if signs.contains c then .tok 6 0 1
    else .bad 11

structure Tok where
  kind : Nat
  num : Int
  text : List Nat
  place : Nat

/-- What a text has: its tokens, and the comments, from one place to another; or an error at a place. -/
inductive Res where
  | ok (l : List Tok) (cs : List (Nat × Nat))
  | bad (place e : Nat)

def Res.tok (t : Tok) : Res → Res
  | .ok l cs => .ok (t :: l) cs
  | .bad p e => .bad p e
def Res.cmt (c : Nat × Nat) : Res → Res
  | .ok l cs => .ok l (c :: cs)
  | .bad p e => .bad p e

def opens : List Nat → Bool
  | 40 :: 42 :: _ => true
  | _ => false

def scanN : Nat → List Nat → Nat → Res
  | 0, _, _ => .ok [] []
  | _ + 1, [], _ => .ok [] []
  | f + 1, c :: t, at' =>
    if space c then scanN f t (at' + 1)
    else if opens (c :: t) then
      match cmt (c :: t) 0 0 with
      | .fin n => (scanN f ((c :: t).drop n) (at' + n)).cmt (at', at' + n)
      | .deep n => .bad (at' + n) 6
      | .never => .bad at' 12
    else
      match token (c :: t) with
      | .tok k v n => (scanN f ((c :: t).drop n) (at' + n)).tok ⟨k, v, (c :: t).take n, at'⟩
      | .bad e => .bad at' e

def scan (l : List Nat) : Res := scanN l.length l 0
end Go.Proofs.YtnkahlloahgifaaGreatDoor.Lx.LX

namespace Go.Proofs.YtnkahlloahgifaaGreatDoor.Lx
open Go.RowKit

theorem small_any (w : World) (c : Nat) : Calls Tryz.prog 151 #[.int .u8 c] w fun e w' => e = .returned (.bool (LX.small c)) ∧ w' = w := by
  by_cases h1 : 97 ≤ c
  · have k1 : (97 : Int) ≤ (c : Int) := by omega
    have e : LX.small c = decide ((c : Int) ≤ 122) := by unfold LX.small; rw [decide_eq_true h1, Bool.true_and]; exact decide_eq_decide.2 (by omega)
    rw [e]
    go_enter Tryz.func151, Tryz.ntmps151
    go_wp2
    go_ret
    exact ⟨rfl, rfl⟩
  · have k1 : (c : Int) < 97 := by omega
    have e : LX.small c = false := by unfold LX.small; rw [decide_eq_false h1, Bool.false_and]
    rw [e]
    go_enter Tryz.func151, Tryz.ntmps151
    go_wp2
    go_ret
    exact ⟨rfl, rfl⟩

theorem great_any (w : World) (c : Nat) : Calls Tryz.prog 153 #[.int .u8 c] w fun e w' => e = .returned (.bool (LX.great c)) ∧ w' = w := by
  by_cases h1 : 65 ≤ c
  · have k1 : (65 : Int) ≤ (c : Int) := by omega
    have e : LX.great c = decide ((c : Int) ≤ 90) := by unfold LX.great; rw [decide_eq_true h1, Bool.true_and]; exact decide_eq_decide.2 (by omega)
    rw [e]
    go_enter Tryz.func153, Tryz.ntmps153
    go_wp2
    go_ret
    exact ⟨rfl, rfl⟩
  · have k1 : (c : Int) < 65 := by omega
    have e : LX.great c = false := by unfold LX.great; rw [decide_eq_false h1, Bool.false_and]
    rw [e]
    go_enter Tryz.func153, Tryz.ntmps153
    go_wp2
    go_ret
    exact ⟨rfl, rfl⟩

theorem digit_any (w : World) (c : Nat) : Calls Tryz.prog 149 #[.int .u8 c] w fun e w' => e = .returned (.bool (LX.digit c)) ∧ w' = w := by
  by_cases h1 : 48 ≤ c
  · have k1 : (48 : Int) ≤ (c : Int) := by omega
    have e : LX.digit c = decide ((c : Int) ≤ 57) := by unfold LX.digit; rw [decide_eq_true h1, Bool.true_and]; exact decide_eq_decide.2 (by omega)
    rw [e]
    go_enter Tryz.func149, Tryz.ntmps149
    go_wp2
    go_ret
    exact ⟨rfl, rfl⟩
  · have k1 : (c : Int) < 48 := by omega
    have e : LX.digit c = false := by unfold LX.digit; rw [decide_eq_false h1, Bool.false_and]
    rw [e]
    go_enter Tryz.func149, Tryz.ntmps149
    go_wp2
    go_ret
    exact ⟨rfl, rfl⟩

theorem space_any (w : World) (c : Nat) : Calls Tryz.prog 145 #[.int .u8 c] w fun e w' => e = .returned (.bool (LX.space c)) ∧ w' = w := by
  by_cases h1 : c = 32
  · subst h1
    go_enter Tryz.func145, Tryz.ntmps145
    go_wp2
    go_ret
    exact ⟨rfl, rfl⟩
  · by_cases h2 : c = 9
    · subst h2
      go_enter Tryz.func145, Tryz.ntmps145
      go_wp2
      go_ret
      exact ⟨rfl, rfl⟩
    · by_cases h3 : c = 10
      · subst h3
        go_enter Tryz.func145, Tryz.ntmps145
        go_wp2
        go_ret
        exact ⟨rfl, rfl⟩
      · have k1 : ((c : Int) == 32) = false := by simp; omega
        have k2 : ((c : Int) == 9) = false := by simp; omega
        have k3 : ((c : Int) == 10) = false := by simp; omega
        have e : LX.space c = ((c : Int) == 13) := by
          unfold LX.space
          rw [show (c == 32) = false from by simp [h1], show (c == 9) = false from by simp [h2], show (c == 10) = false from by simp [h3], Bool.false_or, Bool.false_or, Bool.false_or]
          by_cases h4 : c = 13
          · subst h4; rfl
          · rw [show (c == 13) = false from by simp [h4]]; symm; simp; omega
        rw [e]
        have h1' : ¬ (c : Int) = 32 := by omega
        have h2' : ¬ (c : Int) = 9 := by omega
        have h3' : ¬ (c : Int) = 10 := by omega
        clear e h1 h2 h3
        go_enter Tryz.func145, Tryz.ntmps145
        go_wp2
        go_ret
        exact ⟨rfl, rfl⟩

theorem part_any (w : World) (c : Nat) : Calls Tryz.prog 155 #[.int .u8 c] w fun e w' => e = .returned (.bool (LX.part c)) ∧ w' = w := by
  unfold LX.part
  have s := small_any w c
  have g := great_any w c
  have d := digit_any w c
  cases hs : LX.small c with
  | true =>
    rw [hs] at s
    go_enter Tryz.func155, Tryz.ntmps155
    go_wp2_with (go_at_call 151; refine s.mono ?_; rintro e w' ⟨rfl, rfl⟩)
    go_ret
    exact ⟨rfl, rfl⟩
  | false =>
    rw [hs] at s
    cases hg : LX.great c with
    | true =>
      rw [hg] at g
      go_enter Tryz.func155, Tryz.ntmps155
      go_wp2_with (first
        | (go_at_call 151; refine s.mono ?_; rintro e w' ⟨rfl, rfl⟩)
        | (go_at_call 153; refine g.mono ?_; rintro e w' ⟨rfl, rfl⟩))
      go_ret
      exact ⟨rfl, rfl⟩
    | false =>
      rw [hg] at g
      cases hd : LX.digit c with
      | true =>
        rw [hd] at d
        go_enter Tryz.func155, Tryz.ntmps155
        go_wp2_with (first
          | (go_at_call 151; refine s.mono ?_; rintro e w' ⟨rfl, rfl⟩)
          | (go_at_call 153; refine g.mono ?_; rintro e w' ⟨rfl, rfl⟩)
          | (go_at_call 149; refine d.mono ?_; rintro e w' ⟨rfl, rfl⟩))
        go_ret
        exact ⟨rfl, rfl⟩
      | false =>
        rw [hd] at d
        go_enter Tryz.func155, Tryz.ntmps155
        go_wp2_with (first
          | (go_at_call 151; refine s.mono ?_; rintro e w' ⟨rfl, rfl⟩)
          | (go_at_call 153; refine g.mono ?_; rintro e w' ⟨rfl, rfl⟩)
          | (go_at_call 149; refine d.mono ?_; rintro e w' ⟨rfl, rfl⟩))
        go_ret
        refine ⟨?_, rfl⟩
        show Ending.returned (Value.bool _) = _
        congr 2
        by_cases h : c = 95
        · subst h; rfl
        · rw [show (c == 95) = false from by simp [h]]; simp; omega
end Go.Proofs.YtnkahlloahgifaaGreatDoor.Lx

