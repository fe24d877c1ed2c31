/- IsName, Plain, Check: walked. -/
import Derived.Test.YtfoijbcmjciihaaGreatDoorP
import Derived.Test.YtfoijbcmjciihaaGreatDoorW
set_option linter.unusedSimpArgs false
set_option linter.unusedVariables false
namespace Go.Proofs.YtfoijbcmjciihaaGreatDoor
namespace LX
def plainOf (l : List Nat) : Bool := if kindOf l = 2 ∨ kindOf l = 3 then !l.contains 39 else kindOf l == 4
/-- Whether a token is valid. -/
def checkOf (k v : Int) (l : List Nat) (p : Int) : Bool := decide (0 ≤ p) && (kindOf l : Int) == k && k != 0 && v == (if k = 1 then (num l).getD 0 else 0)
end LX
open Go.RowKit

theorem isName_any {w : World} (henv : Env w) (s : ByteArray) (hmax : s.size ≤ 9223372036854775807) :
    Calls Tryz.prog 15 #[.string s] w fun e w' => e = .returned (.bool (LX.kindOf (bts s) == 2)) ∧ Below w.heap.size w w' := by
  have K := Lib.hid (kind_any henv s hmax)
  obtain ⟨r, hr⟩ : ∃ r, r = LX.kindOf (bts s) := ⟨_, rfl⟩
  unfold KPost at K
  rw [← hr] at K ⊢
  have e1 : ((r : Int) == 2) = (r == 2) := by rw [Bool.eq_iff_iff, beq_iff_eq, beq_iff_eq]; omega
  have HE := Lib.hid e1
  clear hr henv e1
  go_enter Tryz.func15, Tryz.ntmps15
  go_wp2_with fail
  refine K.out.mono ?_
  rintro e w1 ⟨rfl, hb⟩
  have HB := Lib.hid hb
  clear hb
  go_wp2_with fail
  go_ret
  exact ⟨by rw [← HE.out]; rfl, HB.out⟩

theorem has_quote (s : ByteArray) : decide (0 ≤ Lib.indexByte s.data.toList 39) = (bts s).contains 39 := by
  unfold bts
  generalize s.data.toList = l
  induction l with
  | nil => rfl
  | cons a l ih =>
    rw [List.map_cons, List.contains_cons, ← ih]
    rw [show Lib.indexByte (a :: l) 39 = if (a == 39) = true then 0 else if (Lib.indexByte l 39 == -1) = true then -1 else Lib.indexByte l 39 + 1 from rfl]
    by_cases h : a = 39
    · subst h; rfl
    · have h1 : (a == 39) = false := beq_false_of_ne h
      have h2 : ((39 : Nat) == a.toNat) = false := beq_false_of_ne fun e => h (UInt8.toNat_inj.1 e.symm)
      rw [h1, h2, Bool.false_or]
      simp only [Bool.false_eq_true, if_false]
      have := Lib.indexByte_ge l 39
      split
      · rename_i h3
        have h3 : Lib.indexByte l 39 = -1 := by simpa using h3
        rw [h3]
      · rename_i h3
        have h3 : Lib.indexByte l 39 ≠ -1 := by simpa using h3
        rw [decide_eq_decide]
        omega

theorem plain_any {w : World} (henv : Env w) (s : ByteArray) (hmax : s.size ≤ 9223372036854775807) :
    Calls Tryz.prog 20 #[.string s] w fun e w' => e = .returned (.bool (LX.plainOf (bts s))) ∧ Below w.heap.size w w' := by
  have K := Lib.hid (kind_any henv s hmax)
  obtain ⟨r, hr⟩ : ∃ r, r = LX.kindOf (bts s) := ⟨_, rfl⟩
  unfold LX.plainOf
  unfold KPost at K
  rw [← hr] at K ⊢
  obtain ⟨q, hq⟩ : ∃ q, q = (bts s).contains 39 := ⟨_, rfl⟩
  have HQ : Hid (decide (0 ≤ Lib.indexByte s.data.toList 39) = q) := (has_quote s).trans hq.symm
  rw [← hq]
  clear hr henv hq
  by_cases h23 : r = 2 ∨ r = 3
  · rw [if_pos h23]
    rcases h23 with rfl | rfl
    all_goals
      go_enter Tryz.func20, Tryz.ntmps20
      go_wp2_with fail
      refine K.out.mono ?_
      rintro e w1 ⟨rfl, hb⟩
      have HB := Lib.hid hb
      clear hb
      go_wp2_with fail
      refine (Tryz.strings_Contains_one s 39 w1).mono ?_
      rintro e w2 ⟨rfl, rfl⟩
      rw [HQ.out]
      go_wp2_with fail
      go_ret
      exact ⟨rfl, HB.out⟩
  · rw [if_neg h23]
    have n2 : ((r : Int) == 2) = false := by simp; omega
    have n3 : ((r : Int) == 3) = false := by simp; omega
    clear h23
    by_cases h4 : r = 4
    · subst h4
      go_enter Tryz.func20, Tryz.ntmps20
      go_wp2_with fail
      refine K.out.mono ?_
      rintro e w1 ⟨rfl, hb⟩
      have HB := Lib.hid hb
      clear hb
      go_wp2_with fail
      go_ret
      exact ⟨rfl, HB.out⟩
    · have n4 : ((r : Int) == 4) = false := by simp; omega
      have m4 : (r == 4) = false := by simp; omega
      have HM := Lib.hid m4
      clear h4 m4
      go_enter Tryz.func20, Tryz.ntmps20
      go_wp2_with fail
      refine K.out.mono ?_
      rintro e w1 ⟨rfl, hb⟩
      have HB := Lib.hid hb
      clear hb
      go_wp2_with fail
      go_ret
      exact ⟨by rw [HM.out]; rfl, HB.out⟩

def CkPost (w : World) (k v : Int) (tx : ByteArray) (p : Int) (e : Ending) (w' : World) : Prop :=
  e = .returned (.int .i64 (if LX.checkOf k v (bts tx) p then 0 else 10)) ∧ Below w.heap.size w w'

set_option maxHeartbeats 2000000 in
set_option maxRecDepth 20000 in
theorem check_any {w : World} (henv : Env w) (k v p : Int) (tx : ByteArray) (hmax : tx.size ≤ 9223372036854775807) :
    Calls Tryz.prog 22 #[.agg #[.int .i64 k, .int .i64 v, .string tx, .int .i64 p]] w (CkPost w k v tx p) := by
  obtain ⟨z, hz⟩ : ∃ z, z = w.heap.size := ⟨_, rfl⟩
  obtain ⟨W0, hW0⟩ : ∃ W, W = w.alloc (.cells #[.int .i64 k, .int .i64 v, .string tx, .int .i64 p] 42) := ⟨_, rfl⟩
  have hblk : W0.heap[z]? = some (.cells #[.int .i64 k, .int .i64 v, .string tx, .int .i64 p] 42 (0, 0)) := by rw [hW0, hz]; exact heap_alloc_new w _
  have B0 : Hid (Below w.heap.size w W0) := by rw [hW0]; exact (Below.refl _ _).alloc (Nat.le_refl _) _
  have E0 : Env W0 := henv.keep B0.out henv.size
  have hz2 : z < W0.heap.size := (Array.getElem?_eq_some_iff.1 hblk).1
  have c0 : ∀ x : Wg W0, x.v.cell? ⟨z, 0, none⟩ = some (.int .i64 k) := fun x => x.cell hz2 (by rw [cell_of_row _ _ 0 _ _ _ hblk]; rfl)
  have c1 : ∀ x : Wg W0, x.v.cell? ⟨z, 1, none⟩ = some (.int .i64 v) := fun x => x.cell hz2 (by rw [cell_of_row _ _ 1 _ _ _ hblk]; rfl)
  have c2 : ∀ x : Wg W0, x.v.cell? ⟨z, 2, none⟩ = some (.string tx) := fun x => x.cell hz2 (by rw [cell_of_row _ _ 2 _ _ _ hblk]; rfl)
  have c3 : ∀ x : Wg W0, x.v.cell? ⟨z, 3, none⟩ = some (.int .i64 p) := fun x => x.cell hz2 (by rw [cell_of_row _ _ 3 _ _ _ hblk]; rfl)
  obtain ⟨kd, hkd⟩ : ∃ r, r = LX.kindOf (bts tx) := ⟨_, rfl⟩
  have KK : Hid (∀ x : Wg W0, Calls Tryz.prog 19 #[.string tx] x.v fun e w' => e = .returned (.int .i64 kd) ∧ ∃ y : Wg W0, w' = y.v) :=
    Wg.call fun x => by rw [hkd]; exact kind_any (E0.keep x.ch E0.size) tx hmax
  have NN : Hid (∀ x : Wg W0, tx.size ≤ 400000 → Calls Tryz.prog 28 #[.string tx] x.v (NumPost x.v tx)) := fun x hl => number_law x.v tx (E0.keep x.ch E0.size) hl
  have HZ := Lib.hid hz
  have HZZ := Lib.hid hz2
  have HW := Lib.hid hW0
  have CK : Hid (LX.checkOf k v (bts tx) p = (decide (0 ≤ p) && (kd : Int) == k && k != 0 && v == (if k = 1 then (LX.num (bts tx)).getD 0 else 0))) := by rw [hkd]; rfl
  have KL : Hid ((kd : Int) ≠ 0 → tx.size ≤ 400000) := fun h => by
    rcases Nat.lt_or_ge 24 tx.size with h2 | h2
    · rw [hkd] at h
      unfold LX.kindOf at h
      rw [bts_length, if_pos h2] at h
      exact absurd rfl h
    · omega
  have LAST : Hid (∀ (x : Wg W0) (w' : World), Below x.v.heap.size x.v w' → Below w.heap.size w w') := fun x w' hb => B0.out.trans ((x.ch.trans (hb.mono x.ch.size)).mono B0.out.size)
  unfold CkPost
  rw [CK.out]
  clear hkd hz hW0 hblk E0 henv hz2 CK
  by_cases hp : p < 0
  · have hd : decide (p < 0) = true := by simp; omega
    have he : (decide (0 ≤ p) && (kd : Int) == k && k != 0 && v == (if k = 1 then (LX.num (bts tx)).getD 0 else 0)) = false := by
      rw [show decide (0 ≤ p) = false from by simp; omega]; rfl
    rw [he]
    clear he
    go_enter Tryz.func22, Tryz.ntmps22
    go_upto_region 1 with (fail)
    rw [← HW.out, ← HZ.out]
    refine wp_region_below (by kernel_rfl) (by kernel_rfl) ?_
    repeat
      (refine wpQuiet_step (fun K hK => ?_)
       go_simp
       first
         | (refine hK _ ?_; clear hK K)
         | (refine ⟨_, fun _ => rfl, hK _ ?_⟩; clear hK K)
         | (apply Exists.intro; refine ⟨fun x => ?_, hK _ ?_⟩; (go_at_call 19; exact KK.out _); clear hK K))
    refine wpQuiet_nil ?_
    intro x
    go_wp2_with fail
    go_ret
    exact ⟨rfl, LAST.out x _ (Below.refl _ _)⟩
  · have hpz : (0 : Int) ≤ p := by omega
    have hd : decide (p < 0) = false := by simp; omega
    clear hp
    by_cases hk : (kd : Int) = k
    · rw [hk] at KK KL ⊢
      clear hk
      by_cases h0 : k = 0
      · subst h0
        rw [show (decide (0 ≤ p) && (0 : Int) == (0 : Int) && (0 : Int) != 0 && v == (if (0 : Int) = 1 then (LX.num (bts tx)).getD 0 else 0)) = false from by simp]
        go_enter Tryz.func22, Tryz.ntmps22
        go_upto_region 1 with (fail)
        rw [← HW.out, ← HZ.out]
        refine wp_region_below (by kernel_rfl) (by kernel_rfl) ?_
        repeat
          (refine wpQuiet_step (fun K hK => ?_)
           go_simp
           first
             | (refine hK _ ?_; clear hK K)
             | (refine ⟨_, fun _ => rfl, hK _ ?_⟩; clear hK K)
             | (apply Exists.intro; refine ⟨fun x => ?_, hK _ ?_⟩; (go_at_call 19; exact KK.out _); clear hK K))
        refine wpQuiet_nil ?_
        intro x
        go_wp2_with fail
        go_ret
        exact ⟨rfl, LAST.out x _ (Below.refl _ _)⟩
      · have hl : tx.size ≤ 400000 := KL.out h0
        have k0 : (k == 0) = false := by simpa using h0
        have k0' : (k != 0) = true := by simpa using h0
        have hpd : decide (0 ≤ p) = true := by simp; omega
        by_cases h1 : k = 1
        · subst h1
          obtain ⟨nv, hnv⟩ : ∃ n, n = (LX.num (bts tx)).getD 0 := ⟨_, rfl⟩
          obtain ⟨ee, hee⟩ : ∃ n : Int, n = if (LX.num (bts tx)).isSome then 0 else 13 := ⟨_, rfl⟩
          have NL : Hid (∀ x : Wg W0, Calls Tryz.prog 28 #[.string tx] x.v fun e w' => e = .returned (.tuple #[.int .i64 nv, .int .i64 ee]) ∧ Below x.v.heap.size x.v w') := fun x => by
            rw [hnv, hee]; exact NN.out x hl
          rw [show (decide (0 ≤ p) && (1 : Int) == (1 : Int) && (1 : Int) != 0 && v == (if (1 : Int) = 1 then (LX.num (bts tx)).getD 0 else 0)) = (v == nv) from by rw [hpd, if_pos rfl, hnv]; simp]
          clear hnv hee h0 k0 k0' hpd hl
          by_cases hv : v = nv
          · subst hv
            rw [if_pos (by simp)]
            go_enter Tryz.func22, Tryz.ntmps22
            go_upto_region 1 with (fail)
            rw [← HW.out, ← HZ.out]
            refine wp_region_below (by kernel_rfl) (by kernel_rfl) ?_
            repeat
              (refine wpQuiet_step (fun K hK => ?_)
               go_simp
               first
                 | (refine hK _ ?_; clear hK K)
                 | (refine ⟨_, fun _ => rfl, hK _ ?_⟩; clear hK K)
                 | (apply Exists.intro; refine ⟨fun x => ?_, hK _ ?_⟩; (go_at_call 19; exact KK.out _); clear hK K))
            refine wpQuiet_nil ?_
            intro x
            go_wp2_with fail
            refine (NL.out x).mono ?_
            rintro e w2 ⟨rfl, hb⟩
            have g1 : w2.cell? ⟨z, 1, none⟩ = some (.int .i64 v) := (hb.cell (p := ⟨z, 1, none⟩) (by have := x.ch.size; have := HZZ.out; show z < _; omega)).trans (c1 x)
            have LL := LAST.out x w2 hb
            have HB := Lib.hid LL
            clear hb LL
            go_wp2_with fail
            go_ret
            exact ⟨rfl, HB.out⟩
          · have hvb : (v != nv) = true := by simpa using hv
            have hvb2 : (v == nv) = false := by simpa using hv
            rw [if_neg (by rw [hvb2]; decide)]
            clear hv
            go_enter Tryz.func22, Tryz.ntmps22
            go_upto_region 1 with (fail)
            rw [← HW.out, ← HZ.out]
            refine wp_region_below (by kernel_rfl) (by kernel_rfl) ?_
            repeat
              (refine wpQuiet_step (fun K hK => ?_)
               go_simp
               first
                 | (refine hK _ ?_; clear hK K)
                 | (refine ⟨_, fun _ => rfl, hK _ ?_⟩; clear hK K)
                 | (apply Exists.intro; refine ⟨fun x => ?_, hK _ ?_⟩; (go_at_call 19; exact KK.out _); clear hK K))
            refine wpQuiet_nil ?_
            intro x
            go_wp2_with fail
            refine (NL.out x).mono ?_
            rintro e w2 ⟨rfl, hb⟩
            have g1 : w2.cell? ⟨z, 1, none⟩ = some (.int .i64 v) := (hb.cell (p := ⟨z, 1, none⟩) (by have := x.ch.size; have := HZZ.out; show z < _; omega)).trans (c1 x)
            have LL := LAST.out x w2 hb
            have HB := Lib.hid LL
            clear hb LL
            go_wp2_with fail
            go_ret
            exact ⟨rfl, HB.out⟩
        · have k1 : (k == 1) = false := by simpa using h1
          rw [show (decide (0 ≤ p) && k == k && k != 0 && v == (if k = 1 then (LX.num (bts tx)).getD 0 else 0)) = (v == 0) from by rw [hpd, k0', if_neg h1]; simp]
          clear h0 h1 hl hpd
          by_cases hv : v = 0
          · subst hv
            rw [if_pos (by simp)]
            go_enter Tryz.func22, Tryz.ntmps22
            go_upto_region 1 with (fail)
            rw [← HW.out, ← HZ.out]
            refine wp_region_below (by kernel_rfl) (by kernel_rfl) ?_
            repeat
              (refine wpQuiet_step (fun K hK => ?_)
               go_simp
               first
                 | (refine hK _ ?_; clear hK K)
                 | (refine ⟨_, fun _ => rfl, hK _ ?_⟩; clear hK K)
                 | (apply Exists.intro; refine ⟨fun x => ?_, hK _ ?_⟩; (go_at_call 19; exact KK.out _); clear hK K))
            refine wpQuiet_nil ?_
            intro x
            go_wp2_with fail
            go_ret
            exact ⟨rfl, LAST.out x _ (Below.refl _ _)⟩
          · have hvb : (v != 0) = true := by simpa using hv
            have hvb2 : (v == 0) = false := by simpa using hv
            rw [if_neg (by rw [hvb2]; decide)]
            clear hv
            go_enter Tryz.func22, Tryz.ntmps22
            go_upto_region 1 with (fail)
            rw [← HW.out, ← HZ.out]
            refine wp_region_below (by kernel_rfl) (by kernel_rfl) ?_
            repeat
              (refine wpQuiet_step (fun K hK => ?_)
               go_simp
               first
                 | (refine hK _ ?_; clear hK K)
                 | (refine ⟨_, fun _ => rfl, hK _ ?_⟩; clear hK K)
                 | (apply Exists.intro; refine ⟨fun x => ?_, hK _ ?_⟩; (go_at_call 19; exact KK.out _); clear hK K))
            refine wpQuiet_nil ?_
            intro x
            go_wp2_with fail
            go_ret
            exact ⟨rfl, LAST.out x _ (Below.refl _ _)⟩
    · have he : (decide (0 ≤ p) && (kd : Int) == k && k != 0 && v == (if k = 1 then (LX.num (bts tx)).getD 0 else 0)) = false := by
        rw [show ((kd : Int) == k) = false from by simp; omega]; simp
      rw [he]
      have hne : ((kd : Int) == k) = false := by simp; omega
      have hne2 : ((kd : Int) != k) = true := by simp; omega
      clear hk he
      go_enter Tryz.func22, Tryz.ntmps22
      go_upto_region 1 with (fail)
      rw [← HW.out, ← HZ.out]
      refine wp_region_below (by kernel_rfl) (by kernel_rfl) ?_
      repeat
        (refine wpQuiet_step (fun K hK => ?_)
         go_simp
         first
           | (refine hK _ ?_; clear hK K)
           | (refine ⟨_, fun _ => rfl, hK _ ?_⟩; clear hK K)
           | (apply Exists.intro; refine ⟨fun x => ?_, hK _ ?_⟩; (go_at_call 19; exact KK.out _); clear hK K))
      refine wpQuiet_nil ?_
      intro x
      go_wp2_with fail
      go_ret
      exact ⟨rfl, LAST.out x _ (Below.refl _ _)⟩
end Go.Proofs.YtfoijbcmjciihaaGreatDoor
