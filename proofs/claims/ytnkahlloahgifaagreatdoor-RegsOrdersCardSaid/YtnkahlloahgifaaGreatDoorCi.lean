/- Conflict: walked. -/
import Derived.Test.YtnkahlloahgifaaGreatDoorCh
import Derived.Test.YtnkahlloahgifaaGreatDoorCm
import Derived.Deep.Cut
set_option linter.unusedSimpArgs false
set_option linter.unusedVariables false
namespace Go.Proofs.YtnkahlloahgifaaGreatDoor
open Go.RowKit RG Go.Maps

theorem containsS_has (l : List Nm) (x : Nm) : Lib.containsS l x = RG.has l x := by
  rw [Bool.eq_iff_iff, has_iff, Lib.containsS_iff]

/-- Whether a name is in a row of texts. -/
theorem contains_any {w : World} {v : Value} {ns : List Nm} (x : Nm) (h : StrsAt w v ns) (hl : ns.length ≤ 1000000000) : Calls Tryz.prog 59 #[v, .string x] w fun e w' => e = .returned (.bool (RG.has ns x)) ∧ w' = w := by
  obtain ⟨-, ad, c, rfl, hat⟩ := h
  by_cases h0 : 0 < ns.length
  · obtain ⟨g, o, rfl, hat2⟩ := hat h0
    have := Tryz.slices_Contains_string g o ns.length c ns x w (Nat.le_refl _) (by omega) (fun j hj => by
      have h1 : w.cell? ⟨g, o + j, none⟩ = some (.string ns[j]) := hat2 j _ (strs_at (List.getElem?_eq_getElem hj))
      rw [List.getD_eq_getElem?_getD, List.getElem?_eq_getElem hj]; exact h1)
    rw [List.take_length, containsS_has] at this
    exact this
  · have e : ns = [] := List.eq_nil_of_length_eq_zero (by omega)
    subst e
    exact Tryz.slices_Contains_string_empty ad c x w

/-- What Conflict leaves. -/
def CfP (isName : Nm → Bool) (w : World) (ps : List Nm) (e : TE) (a b : Nm) (en : Ending) (w' : World) : Prop :=
  Below w.heap.size w w' ∧ ((RG.Good isName ps e ∧ a ∈ vars (F0 ps e) ∧ b ∈ vars (F0 ps e) ∧ en = .returned (.tuple #[.bool (conflict (F0 ps e) a b), .int .i64 0])) ∨
    (RG.Good isName ps e ∧ (a ∉ vars (F0 ps e) ∨ b ∉ vars (F0 ps e)) ∧ en = .returned (.tuple #[.bool false, .int .i64 3])) ∨ (¬ RG.Good isName ps e ∧ en = .returned (.tuple #[.bool false, .int .i64 160])))

set_option maxHeartbeats 4000000 in
set_option maxRecDepth 20000 in
theorem conflict_any {Env : World → Prop} {isName : Nm → Bool} {w : World} {v : Value} {ps : List Nm} {e : TE} (h : FnOk Env isName w v ps e) (a b : Nm) (ha : a.size ≤ maxLen) (hb : b.size ≤ maxLen) : Calls Tryz.prog 21 #[v, .string a, .string b] w (CfP isName w ps e a b) := by
  have RD := Lib.hid h.boxed
  have HAS := Lib.hid ha
  have HBS := Lib.hid hb
  obtain ⟨cs, rfl⟩ := h.cells
  have B0 : Hid (Below w.heap.size w (w.alloc (.cells cs 29))) := (Below.refl _ _).alloc (Nat.le_refl _) _
  clear h ha hb
  go_enter Tryz.func21, Tryz.ntmps21
  go_wp2_with fail
  refine RD.out.mono ?_
  rintro en w1 ⟨hb, ⟨hg, A, f, rfl, hfl⟩ | ⟨hng, rfl⟩⟩
  · have HB : Hid (Below w.heap.size w w1) := B0.out.trans (hb.mono B0.out.size)
    have HG := Lib.hid hg
    have HF := Lib.hid hfl
    obtain ⟨c, g, o, c1, hat⟩ := hfl.links
    have HAT := Lib.hid hat
    have c4 : w1.cell? ⟨f, 4, none⟩ = some (.map (some A.pl)) := (hfl.link hfl.fo.pos).f4
    have PM := Lib.hid hfl.at'.pmap
    obtain ⟨n, hn⟩ : ∃ n, n = (F0 ps e).length := ⟨_, rfl⟩
    rw [← hn] at c1
    have HN := Lib.hid hn
    have hnz : (n : Int) ≤ 20000 := by have := hfl.len; omega
    clear hb hg hfl hat hn
    by_cases hA : a ∈ vars (F0 ps e)
    · by_cases hB : b ∈ vars (F0 ps e)
      · have ta := has_iff.2 hA
        have tb := has_iff.2 hB
        have HA := Lib.hid hA
        have HB' := Lib.hid hB
        clear hA hB
        by_cases hab : a = b
        · have dp : ((place (F0 ps e) a : Int) == (place (F0 ps e) b : Int)) = true := by rw [hab]; simp
          have E : Hid (conflict (F0 ps e) a b = false) := by show _ = _; unfold conflict; rw [if_pos hab]
          clear hab
          go_wp2_with (at_lookup; first | (refine wpList_pis rfl _ (.tmp 26) rfl A.pl (vars (F0 ps e)) rfl PM.out a HAS.out rfl ?_; intro p hp; obtain rfl := hp _ (place_at HA.out); rw [ta]) | (refine wpList_pis rfl _ (.tmp 35) rfl A.pl (vars (F0 ps e)) rfl PM.out b HBS.out rfl ?_; intro q hq; obtain rfl := hq _ (place_at HB'.out); rw [tb]))
          go_ret2
          exact ⟨HB.out, .inl ⟨HG.out, HA.out, HB'.out, by rw [E.out]; rfl⟩⟩
        · have dp : ((place (F0 ps e) a : Int) == (place (F0 ps e) b : Int)) = false := by
            rw [beq_eq_false_iff_ne]
            intro h
            exact hab (place_inj HA.out HB'.out (by exact_mod_cast h))
          have E : Hid (conflict (F0 ps e) a b = (List.range (F0 ps e).length).any (clash (F0 ps e) a b)) := by show _ = _; unfold conflict; rw [if_neg hab]
          clear hab
          go_wp2_with (at_lookup; first | (refine wpList_pis rfl _ (.tmp 26) rfl A.pl (vars (F0 ps e)) rfl PM.out a HAS.out rfl ?_; intro p hp; obtain rfl := hp _ (place_at HA.out); rw [ta]) | (refine wpList_pis rfl _ (.tmp 35) rfl A.pl (vars (F0 ps e)) rfl PM.out b HBS.out rfl ?_; intro q hq; obtain rfl := hq _ (place_at HB'.out); rw [tb]))
          go_loopw [53] (fun iv wr => ∃ k : Nat, k ≤ n ∧ iv = .int .i64 k ∧ Below w1.heap.size w1 wr ∧ ∀ i, i < k → clash (F0 ps e) a b i = false) (fun iv _ => n - (intOf iv).toNat)
          case atStart => exact ⟨0, Nat.zero_le _, rfl, Below.refl _ _, fun i hi => absurd hi (Nat.not_lt_zero i)⟩
          case round =>
            obtain ⟨k, hk, rfl, hb, hno⟩ := hrel
            have HK := Lib.hid hk
            have HBW := Lib.hid hb
            have HNO := Lib.hid hno
            clear hk hb hno c1 c4
            by_cases hlt : k < n
            · have hlz : (k : Int) < n := by omega
              have HLT := Lib.hid hlt
              have hci := kept_below HBW.out _ _ (HAT.out k (by rw [← HN.out]; exact hlt))
              have LK := Lib.hid ((HF.out.link (i := k) (by rw [← HN.out]; exact hlt)).keep HBW.out)
              obtain ⟨sv, hsv, hst⟩ := LK.out.l0
              have HST := Lib.hid hst
              obtain ⟨-, sa, sc, rfl, -⟩ := id hst
              obtain ⟨bl, hbl⟩ : ∃ bl, bl = (nd (F0 ps e) k).binds := ⟨_, rfl⟩
              obtain ⟨bn, hbn⟩ : ∃ bn, bn = bl.length := ⟨_, rfl⟩
              rw [← hbl, ← hbn] at hsv
              rw [← hbl, ← hbn] at HST
              have HBL := Lib.hid (And.intro hbl hbn)
              have HLL : Hid (bl.length ≤ 1000000000) := by have := LK.out.nb; rw [← hbl] at this; show _ ≤ _; omega
              have CA : Hid (∀ (x : Nm) (m : Nat), Calls Tryz.prog 59 #[.slice sa bn sc, .string x] (wr.drewN m) fun e w' => e = .returned (.bool (RG.has bl x)) ∧ w' = wr.drewN m) := fun x m => contains_any x (StrsAt.kept HST.out (kept_below (below_drewN _ _ _))) HLL.out
              clear hst hlt hbl hbn
              go_upto_region 13 with (fail)
              go_quiet ((go_at_call 59; exact Calls.quiet_of_same (CA.out _ _)))
              go_wp2_with fail
              refine (crossing_any (LK.out.keep (below_drewN _ _ _))).mono ?_
              rintro en w2 ⟨b1, rfl, hb1, hs2, hb2⟩
              have HB2 : Hid (Below w1.heap.size w1 w2) := (HBW.out.trans (below_drewN _ _ _)).trans (hb2.mono HBW.out.size)
              obtain ⟨qa, hqa⟩ : ∃ q, q = cross (F0 ps e) k a := ⟨_, rfl⟩
              obtain ⟨qb, hqb⟩ : ∃ q, q = cross (F0 ps e) k b := ⟨_, rfl⟩
              obtain ⟨ba, hba⟩ : ∃ q, q = RG.has bl a := ⟨_, rfl⟩
              obtain ⟨bb, hbb⟩ : ∃ q, q = RG.has bl b := ⟨_, rfl⟩
              have wfp : ∀ x ∈ vars (F0 ps e), (Lit.int .i64 (place (F0 ps e) x : Int)).wf = true := fun x hx => wf_nat (by have := place_lt hx; have := HF.out.few; omega)
              have ea := imap_run hs2 (wfp a HA.out) 108 Tryz.underlying108
              have eb := imap_run hs2 (wfp b HB'.out) 108 Tryz.underlying108
              rw [vset_at HF.out.fo.once HA.out, ← hqa] at ea
              rw [vset_at HF.out.fo.once HB'.out, ← hqb] at eb
              have CL : Hid (clash (F0 ps e) a b k = ((ba && (bb || qb)) || (bb && qa))) := by show _ = _; unfold clash; rw [← HBL.out.1, hba, hbb, hqa, hqb]
              rw [← hba, ← hbb]
              clear hb1 hs2 hb2 hqa hqb hba hbb wfp hsv hci
              cases ba <;> cases bb <;> cases qa <;> cases qb
              all_goals
                simp only [if_true, if_false, Bool.false_eq_true] at ea eb
                first
                  | (have C0 : Hid (clash (F0 ps e) a b k = false) := CL.out
                     have NX : Hid (∀ i, i < k + 1 → clash (F0 ps e) a b i = false) := fun i hi => by
                       by_cases e2 : i = k
                       · rw [e2]; exact C0.out
                       · exact HNO.out i (by omega)
                     go_wp2_with fail
                     go_roundw
                     case rel => exact ⟨k + 1, HLT.out, by go_num, HB2.out, NX.out⟩
                     case measure => have := HLT.out; simp [intOf]; omega)
                  | (have C1 : Hid (clash (F0 ps e) a b k = true) := CL.out
                     have E2 : Hid (conflict (F0 ps e) a b = true) := by
                       show _ = _
                       rw [E.out, List.any_eq_true]
                       exact ⟨k, List.mem_range.2 (by rw [← HN.out]; exact HLT.out), C1.out⟩
                     go_wp2_with fail
                     go_ret2
                     exact ⟨HB.out.trans (HB2.out.mono HB.out.size), .inl ⟨HG.out, HA.out, HB'.out, by rw [E2.out]; rfl⟩⟩)
            · have hlz : (n : Int) ≤ k := by omega
              have E2 : Hid (conflict (F0 ps e) a b = false) := by
                show _ = _
                rw [E.out, List.any_eq_false]
                intro i hi
                have h1 := List.mem_range.1 hi
                rw [HNO.out i (by have := HN.out; omega)]
                decide
              clear hlt
              go_wp2_with fail
              go_ret2
              exact ⟨HB.out.trans (HBW.out.mono HB.out.size), .inl ⟨HG.out, HA.out, HB'.out, by rw [E2.out]; rfl⟩⟩
      · have HA := Lib.hid hA
        have ta := has_iff.2 hA
        have tb : RG.has (vars (F0 ps e)) b = false := by cases hq : RG.has (vars (F0 ps e)) b with | false => rfl | true => exact absurd (has_iff.1 hq) hB
        have NB := Lib.hid hB
        clear hA hB
        go_wp2_with (at_lookup; first | (refine wpList_pis rfl _ (.tmp 26) rfl A.pl (vars (F0 ps e)) rfl PM.out a HAS.out rfl ?_; intro p hp; clear hp; rw [ta]) | (refine wpList_pis rfl _ (.tmp 35) rfl A.pl (vars (F0 ps e)) rfl PM.out b HBS.out rfl ?_; intro q hq; clear hq; rw [tb]))
        go_ret2
        exact ⟨HB.out, .inr (.inl ⟨HG.out, .inr NB.out, rfl⟩)⟩
    · have ta : RG.has (vars (F0 ps e)) a = false := by cases hq : RG.has (vars (F0 ps e)) a with | false => rfl | true => exact absurd (has_iff.1 hq) hA
      have NA := Lib.hid hA
      clear hA
      cases tb : RG.has (vars (F0 ps e)) b with
      | true =>
        go_wp2_with (at_lookup; first | (refine wpList_pis rfl _ (.tmp 26) rfl A.pl (vars (F0 ps e)) rfl PM.out a HAS.out rfl ?_; intro p hp; clear hp; rw [ta]) | (refine wpList_pis rfl _ (.tmp 35) rfl A.pl (vars (F0 ps e)) rfl PM.out b HBS.out rfl ?_; intro q hq; clear hq; rw [tb]))
        go_ret2
        exact ⟨HB.out, .inr (.inl ⟨HG.out, .inl NA.out, rfl⟩)⟩
      | false =>
        go_wp2_with (at_lookup; first | (refine wpList_pis rfl _ (.tmp 26) rfl A.pl (vars (F0 ps e)) rfl PM.out a HAS.out rfl ?_; intro p hp; clear hp; rw [ta]) | (refine wpList_pis rfl _ (.tmp 35) rfl A.pl (vars (F0 ps e)) rfl PM.out b HBS.out rfl ?_; intro q hq; clear hq; rw [tb]))
        go_ret2
        exact ⟨HB.out, .inr (.inl ⟨HG.out, .inl NA.out, rfl⟩)⟩
  · have HB : Hid (Below w.heap.size w w1) := B0.out.trans (hb.mono B0.out.size)
    have HG := Lib.hid hng
    clear hb hng
    go_wp2_with fail
    go_ret2
    exact ⟨HB.out, .inr (.inr ⟨HG.out, rfl⟩)⟩
end Go.Proofs.YtnkahlloahgifaaGreatDoor
