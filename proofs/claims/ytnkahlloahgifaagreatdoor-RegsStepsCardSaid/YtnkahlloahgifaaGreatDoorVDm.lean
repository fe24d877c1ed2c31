/- Part. -/
import Derived.Test.YtnkahlloahgifaaGreatDoorVDl
import Derived.Test.YtnkahlloahgifaaGreatDoorVCb
import Derived.Test.YtnkahlloahgifaaGreatDoorVEc
import Derived.Test.YtnkahlloahgifaaGreatDoorVLxKk
set_option linter.unusedSimpArgs false
set_option linter.unusedVariables false
namespace Go.Proofs.YtnkahlloahgifaaGreatDoor
open Go.RowKit RG Go.Maps RF
structure FlatR (w:World) (fb:Nat) (F:List Nd):Prop where
 at':∃ (sv su sn sb sa so:Value) (us ns bs:List Value),w.heap[fb]?=some (.cells #[sv,su,sn,sb,sa,so,.bool true] 42 (0,0))∧StrsAt w sv (vars F) ∧
  SlAt w su F.length us∧SlAt w sn F.length ns∧SlAt w sb F.length bs∧SlAt w sa F.length (nats (List.range F.length)) ∧
  (∀ i,i<F.length→∃ v,us[i]?=some v∧SlAt w v (UR F i).length (nats (UR F i))) ∧
  (∀ i,i<F.length→∃ v,ns[i]?=some v∧SlAt w v (NR F i).length (nats (NR F i))) ∧
  (∀ i,i<F.length→∃ v,bs[i]?=some v∧SlAt w v (BR F i).length (nats (BR F i)))
def EmptyR (w:World) (fb:Nat):Prop:=w.heap[fb]?=some (.cells #[.slice none 0 0,.slice none 0 0,.slice none 0 0,.slice none 0 0,.slice none 0 0,.slice none 0 0,.bool false] 42 (0,0))
theorem FlatR.keep {w w':World}{fb:Nat}{F:List Nd}(h:FlatR w fb F) (hb:Below w.heap.size w w'):FlatR w' fb F:=by
 obtain⟨sv,su,sn,sb,sa,so,us,ns,bs,h0,h1,h2,h3,h4,h5,h6,h7,h8⟩:=h
 have hk:=kept_below hb
 exact⟨sv,su,sn,sb,sa,so,us,ns,bs,heap_below hb h0,h1.kept hk,h2.kept hk,h3.kept hk,h4.kept hk,h5.kept hk,
  fun i hi=>by obtain⟨v,a,b⟩:=h6 i hi;exact⟨v,a,b.kept hk⟩,fun i hi=>by obtain⟨v,a,b⟩:=h7 i hi;exact⟨v,a,b.kept hk⟩,fun i hi=>by obtain⟨v,a,b⟩:=h8 i hi;exact⟨v,a,b.kept hk⟩⟩
def OfRP (w:World) (ps:List Nm) (e:TE) (en:Ending) (w':World):Prop :=
 ∃ fb,en = .returned (.pointer (some ⟨fb,0,none⟩))∧Below w.heap.size w w'∧((RG.Good isNm ps e∧FlatR w' fb (F0 ps e))∨(¬ RG.Good isNm ps e∧EmptyR w' fb))
theorem FlV.read {w:World} {ρ:Nat→Nat}{fb:Nat}{st:St}{sv su sn sb sa so:Value}{us ns bs os:List Value}{na no:Nat}{F:List Nd}(h:FlV w ρ fb st sv su sn sb sa so us ns bs os na no) (hρ:∀ k,w.heap.size≤k→ρ k=0) (hw:Whole F st) (hna:na=st.binds.length) :
  FlatR (w.setCell ⟨fb,6,none⟩ (.bool true)) fb F:=by
 have c:Ch (· = 2) ρ ρ w (w.setCell ⟨fb,6,none⟩ (.bool true)):=(Ch.refl hρ).setCell _ _ fun _=>h.role
 have l1:st.uses.length=F.length:=by rw [hw.uses];simp
 have l2:st.next.length=F.length:=by rw [hw.next];simp
 have l3:st.binds.length=F.length:=by rw [hw.binds];simp
 have e1:∀ i,i<F.length→st.uses[i]?=some (UR F i):=fun i hi=>by rw [hw.uses,List.getElem?_map,List.getElem?_range hi];rfl
 have e2:∀ i,i<F.length→st.next[i]?=some (NR F i):=fun i hi=>by rw [hw.next,List.getElem?_map,List.getElem?_range hi];rfl
 have e3:∀ i,i<F.length→st.binds[i]?=some (BR F i):=fun i hi=>by rw [hw.binds,List.getElem?_map,List.getElem?_range hi];rfl
 refine⟨sv,su,sn,sb,sa,so,us,ns,bs,heap_setCell_same _ _ _ _ _ _ h.obj,?_,?_,?_,?_,?_,fun i hi=>?_,fun i hi=>?_,fun i hi=>?_⟩
 ·have:=(h.vars.keep c (by decide)).sl
  rw [hw.vars] at this;exact this
 ·have:=(h.uses.keep c (by decide)).sl
  rw [l1] at this;exact this
 ·have:=(h.next.keep c (by decide)).sl
  rw [l2] at this;exact this
 ·have:=(h.binds.keep c (by decide)).sl
  rw [l3] at this;exact this
 ·have:=(h.after.keep c (by decide)).sl
  rw [hna,l3] at this;exact this
 ·obtain⟨v,a,b⟩:=h.usesAt i _ (e1 i hi)
  exact⟨v,a,(b.keep c (by decide)).sl⟩
 ·obtain⟨v,a,b⟩:=h.nextAt i _ (e2 i hi)
  exact⟨v,a,(b.keep c (by omega)).sl⟩
 ·obtain⟨v,a,b⟩:=h.bindsAt i _ (e3 i hi)
  exact⟨v,a,(b.keep c (by decide)).sl⟩
theorem ZA.of_strs {ρ:Nat→Nat}{w:World}{base:Nat}{v:Value}{l:List Nm}(h:w.ownsRow base 9 1 v l.length (strs l)) (hρ:∀ k,base≤k→ρ k=0):ZA w ρ v l.length (strs l):=by
 obtain⟨h1,h2⟩:=id h
 rcases h2 with ⟨rfl,h0⟩|⟨g,cap,cur,rfl,hb,hg,k1,k2,k3,k4⟩
 ·exact⟨strs_length l,none,0,by rw [h0],fun h=>by omega⟩
 ·refine⟨strs_length l,some ⟨g,0,none⟩,cap,rfl,fun h0=>⟨g,0,rfl,hρ g hb,fun i x hi=>?_⟩⟩
  have hl:=(List.getElem?_eq_some_iff.1 hi).1
  rw [strs_length] at hl
  rw [Nat.zero_add,World.ownsRow.cellAt h i (by omega)];exact hi
theorem empty_new {w:World}{k:Nat}(hk:k=w.heap.size):EmptyR (w.alloc (.cells #[.slice none 0 0,.slice none 0 0,.slice none 0 0,.slice none 0 0,.slice none 0 0,.slice none 0 0,.bool false] 42)) k:=by rw [hk];exact heap_alloc_new w _
theorem rflat0 (w:World):FlR (w.alloc (.cells #[.slice none 0 0,.slice none 0 0,.slice none 0 0,.slice none 0 0,.slice none 0 0,.slice none 0 0,.bool false] 42)) (roleAt (fun _=>0) w.heap.size 2) w.heap.size ⟨[],[],[],[]⟩ :=
 ⟨_,_,_,_,_,_,[],[],[],[],heap_alloc_new w _,roleAt_same _ _ _,RR.nil _ _ _ _ _,RR.nil _ _ _ _ _,RR.nil _ _ _ _ _,RR.nil _ _ _ _ _,RR.nil _ _ _ _ _,RR.nil _ _ _ _ _,
  fun i l hi=>by simp at hi,fun i l hi=>by simp at hi,fun i l hi=>by simp at hi⟩
set_option maxHeartbeats 8000000 in
set_option maxRecDepth 20000 in
theorem ofR_any {w : World} {v : Value} {ps : List Nm} {e : TE} (h : TFunV w v ps e) : Calls Tryz.prog 16 #[v] w (OfRP w ps e) := by
  obtain ⟨nm, op, ch, pv, va, num, site, aa, ab, ca, cb, ga, oa, gb, ob, rfl, hp, hat, ha1, ha2, hb1, hb2⟩ := h
  obtain ⟨xa, xc, rfl, -⟩ := id hat.at'
  obtain ⟨pa, pc, rfl, -⟩ := id hp.at'
  have TX : Hid (TEX w e xa aa ab xc) := ⟨hat, fun h => ⟨ga, oa, ha1 h, ha2⟩, fun h => ⟨gb, ob, hb1 h, hb2⟩⟩
  have HP := Lib.hid hp
  have GI := Lib.hid (good_ref (isName := isNm) (ps := ps) (e := e))
  obtain ⟨np, hnp⟩ : ∃ n, n = ps.length := ⟨_, rfl⟩
  rw [← hnp] at HP GI ⊢
  have HNP := Lib.hid hnp
  obtain ⟨w0, hw0⟩ : ∃ x, x = w.alloc (.cells #[.string nm, .bool ch, .slice pa np pc, .int .i64 e.kind, .string e.name, .string op, .int .i64 num, .int .i64 site, .slice xa e.args.length xc, .slice aa e.arms.length ca, .slice ab e.body.length cb] 29) := ⟨_, rfl⟩
  have O0 : Hid (w0.heap[w.heap.size]? = some (.cells #[.string nm, .bool ch, .slice pa np pc, .int .i64 e.kind, .string e.name, .string op, .int .i64 num, .int .i64 site, .slice xa e.args.length xc, .slice aa e.arms.length ca, .slice ab e.body.length cb] 29 (0, 0))) := by show _ = _; rw [hw0]; exact heap_alloc_new w _
  have B0 : Hid (Below w.heap.size w w0) := by rw [hw0]; exact (Below.refl _ _).alloc (Nat.le_refl _) _
  have S0 : Hid (w0.heap.size = w.heap.size + 1) := by show _ = _; rw [hw0]; simp
  have O1 : Hid ((w0.alloc (.cells #[.int .i64 0] 3)).heap[w.heap.size]? = some (.cells #[.string nm, .bool ch, .slice pa np pc, .int .i64 e.kind, .string e.name, .string op, .int .i64 num, .int .i64 site, .slice xa e.args.length xc, .slice aa e.arms.length ca, .slice ab e.body.length cb] 29 (0, 0))) := (Below.heap_alloc w0 _ _ (by rw [S0.out]; omega)).trans O0.out
  have B1 : Hid (Below w.heap.size w (w0.alloc (.cells #[.int .i64 0] 3))) := B0.out.alloc B0.out.size _
  have C1 : Hid ((w0.alloc (.cells #[.int .i64 0] 3)).cell? ⟨w0.heap.size, 0, none⟩ = some (.int .i64 ((0 : Nat) : Int))) := by show _ = _; rw [cell_of_row _ _ 0 _ _ _ (heap_alloc_new w0 _)]; rfl
  have F1 : Hid ((w0.alloc (.cells #[.int .i64 0] 3)).frozen? ⟨w0.heap.size, 0, none⟩ = false) := frozen_of_row _ _ 0 _ _ (heap_alloc_new w0 _)
  have q : ∀ i x, #[.string nm, .bool ch, .slice pa np pc, .int .i64 e.kind, .string e.name, .string op, .int .i64 num, .int .i64 site, .slice xa e.args.length xc, .slice aa e.arms.length ca, .slice ab e.body.length cb][i]? = some x → (w0.alloc (.cells #[.int .i64 0] 3)).cell? ⟨w.heap.size, i, none⟩ = some x := fun i x hx => (cell_of_row _ _ _ _ _ _ O1.out).trans hx
  have q2 := q 2 _ rfl
  have q3 := q 3 _ rfl
  have q4 := q 4 _ rfl
  have q5 := q 5 _ rfl
  have q6 := q 6 _ rfl
  have q7 := q 7 _ rfl
  have q8 := q 8 _ rfl
  have q9 := q 9 _ rfl
  have q10 := q 10 _ rfl
  have hbs : w.heap.size < w0.heap.size := by rw [S0.out]; omega
  clear q hp hat ha1 ha2 hb1 hb2 hnp
  by_cases hpl : np ≤ 16
  · have d1 : decide (16 < (np : Int)) = false := by simp; omega
    have hnz : (np : Int) ≤ 16 := by omega
    have P16 := Lib.hid hpl
    have MS := Lib.hid (measure_any e.size e (Nat.le_refl _) (op := op) (num := num) (site := site) (ca := ca) (cb := cb) (d := 1) TX.out B1.out (by have := S0.out; omega) C1.out F1.out (by omega) (by omega) (by omega))
    clear hpl
    go_enter Tryz.func16, Tryz.ntmps16
    go_upto_region 1 with fail
    rw [← hw0]
    clear hw0
    go_wp2_with fail
    refine MS.out.mono ?_
    rintro en w2 ⟨hg, hms⟩
    have B2 : Hid (Below w.heap.size w w2) := B1.out.grown hg B1.out.size (fun r e => by simp at e; have := S0.out; omega)
    have O2 : Hid (w2.heap[w.heap.size]? = some (.cells #[.string nm, .bool ch, .slice pa np pc, .int .i64 e.kind, .string e.name, .string op, .int .i64 num, .int .i64 site, .slice xa e.args.length xc, .slice aa e.arms.length ca, .slice ab e.body.length cb] 29 (0, 0))) := (hg.block _ (Array.getElem?_eq_some_iff.1 O1.out).1 (fun e => by simp at e; have := S0.out; omega)).trans O1.out
    have W2S : Hid (w.heap.size + 2 ≤ w2.heap.size) := by have h1 := hg.size; have h2 := S0.out; simp at h1; show _ ≤ _; omega
    clear q2 q3 q4 q5 q6 q7 q8 q9 q10 hg
    rcases hms with ⟨hsz, rfl, -, -⟩ | ⟨hsz, rfl⟩
    · have SZ : Hid (e.size ≤ 20000) := by show _ ≤ _; omega
      clear hsz C1 F1 MS O1 B1
      go_wp2_with fail
      have B3 : Hid (Below w.heap.size w (w2.alloc (.cells #[.slice none 0 0, .slice none 0 0, .slice none 0 0, .slice none 0 0, .slice none 0 0, .slice none 0 0, .bool false] 42))) := B2.out.alloc B2.out.size _
      have FL0 := Lib.hid (rflat0 w2)
      have O3 : Hid ((w2.alloc (.cells #[.slice none 0 0, .slice none 0 0, .slice none 0 0, .slice none 0 0, .slice none 0 0, .slice none 0 0, .bool false] 42)).heap[w.heap.size]? = some (.cells #[.string nm, .bool ch, .slice pa np pc, .int .i64 e.kind, .string e.name, .string op, .int .i64 num, .int .i64 site, .slice xa e.args.length xc, .slice aa e.arms.length ca, .slice ab e.body.length cb] 29 (0, 0))) := (Below.heap_alloc w2 _ _ (Array.getElem?_eq_some_iff.1 O2.out).1).trans O2.out
      obtain ⟨w3, hw3⟩ : ∃ x, x = w2.alloc (.cells #[.slice none 0 0, .slice none 0 0, .slice none 0 0, .slice none 0 0, .slice none 0 0, .slice none 0 0, .bool false] 42) := ⟨_, rfl⟩
      have S3 : Hid (w3.heap.size = w2.heap.size + 1) := by show _ = _; rw [hw3]; simp
      obtain ⟨fb, hfb⟩ : ∃ x, x = w2.heap.size := ⟨_, rfl⟩
      rw [← hw3, ← hfb] at FL0
      rw [← hw3] at O3 B3
      rw [← hfb] at S3
      try rw [← hw3]
      try rw [← hfb]
      obtain ⟨ρ0, hρ0⟩ : ∃ r, r = roleAt (fun _ => 0) fb 2 := ⟨_, rfl⟩
      rw [← hρ0] at FL0
      have R0 : Hid (∀ k, k ≠ fb → ρ0 k = 0) := fun k hk => by rw [hρ0]; exact roleAt_other _ _ _ hk
      have R9 : Hid (∀ k, ρ0 k ≠ 9) := fun k => by
        rw [hρ0]
        by_cases e0 : k = fb
        · rw [e0, roleAt_same]; decide
        · rw [roleAt_other _ _ _ e0]; show (0 : Nat) ≠ 9; decide
      have FBW : Hid (w.heap.size ≤ fb) := by show _ ≤ _; rw [hfb]; exact B2.out.size
      have FBNE : Hid (w.heap.size ≠ fb) := by show _ ≠ _; rw [hfb]; have := W2S.out; omega
      have N0 : Hid (World.ownsRow w3 w3.heap.size 9 1 (.slice none 0 0) 0 (strs (ps.take 0))) := World.ownsRow_nil _ _ _ _
      obtain ⟨i9, p1, p2, p3, p4⟩ := info_parts Tryz.info9r
      have HI9 := Lib.hid (And.intro p1 (And.intro p2 (And.intro p3 p4)))
      clear hw3 hfb hρ0 O2 p1 p2 p3 p4
      go_loopw [5, 6] (fun vn iv wr => ∃ i : Nat, i ≤ np ∧ iv = .int .i64 i ∧ World.ownsRow wr w3.heap.size 9 1 vn i (strs (ps.take i)) ∧ Below w3.heap.size w3 wr) (fun _ iv _ => np - (intOf iv).toNat)
      case atStart => exact ⟨0, Nat.zero_le _, rfl, N0.out, Below.refl _ _⟩
      case round =>
        rename World => V
        obtain ⟨i, hi, rfl, hown, hbv⟩ := hrel
        have KI := Lib.hid hi
        have KO := Lib.hid hown
        have BV := Lib.hid hbv
        have O4 := Lib.hid (heap_below hbv O3.out)
        have BW : Hid (Below w.heap.size w V) := B3.out.trans (hbv.mono B3.out.size)
        have z2 : V.cell? ⟨w.heap.size, 2, none⟩ = some (.slice pa np pc) := by rw [cell_of_row _ _ 2 _ _ _ O4.out]; rfl
        obtain ⟨va, vc, hvn⟩ := own_sliceI hown
        subst hvn
        clear hi hown hbv N0
        by_cases hlt : i < np
        · have hlz : (i : Int) < np := by omega
          have hi0 : (0 : Int) ≤ i := by omega
          have HLT := Lib.hid hlt
          obtain ⟨ad, cc, hsl, hat⟩ := HP.out.at'
          simp only [Value.slice.injEq] at hsl
          obtain ⟨rfl, -, rfl⟩ := hsl
          obtain ⟨g, o, rfl, hat2⟩ := hat (by rw [← HNP.out]; omega)
          obtain ⟨x, hx⟩ : ∃ x, ps[i]? = some x := ⟨_, List.getElem?_eq_getElem (by rw [← HNP.out]; exact hlt)⟩
          obtain ⟨mb, hcx, -⟩ := hat2 i x hx
          have yx := kept_below BW.out _ _ hcx
          have TK : Hid (ps.take (i + 1) = ps.take i ++ [x]) := by show _ = _; rw [List.take_add_one, hx]; rfl
          have OX : Hid (World.ownsRow (V.alloc (.cells #[.string x] 9)) w3.heap.size 9 1 (.slice va i vc) i (strs (ps.take i))) := owns_keep2 KO.out fun q hq => Below.heap_alloc _ _ _ (World.ownsRow.lt KO.out q hq).2
          have NB : Hid (i + 1 ≤ maxLen ∧ (i + 1) * 16 ≤ 140737488355328) := by show _ ∧ _; simp only [maxLen]; omega
          have BA : Hid (Below w3.heap.size w3 (V.alloc (.cells #[.string x] 9))) := BV.out.alloc BV.out.size _
          clear hlt hat hat2 hx hcx
          go_wp2_with (at_builtin; refine wpList_append_own _ rfl _ _ 35 rfl w3.heap.size 9 i9 (.string ⟨#[]⟩) 1 16 Tryz.underlying35 HI9.out.1 HI9.out.2.1 HI9.out.2.2.1 HI9.out.2.2.2 rfl (by decide) (.slice va i vc) i (strs (ps.take i)) rfl OX.out ⟨V.heap.size, 0, none⟩ 1 1 [.string x] rfl rfl (news1 _ _ _) (fun u hu => one1 rfl hu) NB.out.1 NB.out.2 BA.out.size ?_)
          intro vo w6 hown hg _
          have B6 : Hid (Below w3.heap.size w3 w6) := BA.out.grown hg BA.out.size (fun q e => (OX.out.lt q e).1)
          have M6 : Hid (World.ownsRow w6 w3.heap.size 9 1 vo (i + 1) (strs (ps.take (i + 1)))) := by
            show World.ownsRow _ _ _ _ _ _ _
            rw [TK.out]
            unfold strs at hown ⊢
            rw [List.map_append]; exact hown
          clear hown hg
          go_wp2_with fail
          go_roundw
          case rel => exact ⟨i + 1, HLT.out, by go_num, M6.out, B6.out⟩
          case measure => have := HLT.out; simp [intOf]; omega
        · obtain rfl : i = np := by have := KI.out; omega
          have hdi : decide (i < i) = false := by simp
          have etk : ps.take i = ps := List.take_of_length_le (by have := HNP.out; omega)
          have ZN : Hid (ZA V ρ0 (.slice va i vc) ps.length (strs ps)) := by
            have h1 := KO.out
            rw [etk] at h1
            rw [HNP.out] at h1 ⊢
            exact ZA.of_strs h1 fun k hk => R0.out k (by have := S3.out; omega)
          have FL1 := Lib.hid (FL0.out.below BV.out fun k hk => R0.out k (by have := S3.out; omega))
          have RV : Hid (∀ k, V.heap.size ≤ k → ρ0 k = 0) := fun k hk => R0.out k (by have := S3.out; have := BV.out.size; omega)
          have BD := Lib.hid (rbind_any (names := ps) (sc := []) (scv := .pointer none) (of := -1) FL1.out RV.out R9.out ZN.out (by rw [← HNP.out]; exact P16.out) rfl (Nat.zero_le _) (Nat.zero_le _) rfl)
          clear hlt etk KO
          go_wp2_with fail
          refine BD.out.mono ?_
          rintro en w5 ⟨ρ5, a5, rfl, hc5, h95, hf5, hs5⟩
          have BW5 : Hid (Below w.heap.size w w5) := BW.out.trans (hc5.below BW.out.size fun k hk => by rw [R0.out k (by have := FBW.out; omega)]; exact BM.no0)
          have RW5 : Hid (∀ k, k < w.heap.size → ρ5 k = 0) := fun k hk => (hc5.role k (Nat.lt_of_lt_of_le hk BW.out.size)).trans (R0.out k (by have := FBW.out; omega))
          have O5 := Lib.hid (hc5.keep O4.out (by rw [R0.out _ FBNE.out]; exact BM.no0))
          obtain ⟨R, hR⟩ : ∃ r, r = bodyR e (scope 0 ps []) (st0 ps) := ⟨_, rfl⟩
          have HBAL : Bal1 (st0 ps) := ⟨rfl, rfl, by show ([] ++ ps).length ≤ 16 * 1; rw [List.nil_append, ← HNP.out]; have := P16.out; omega⟩
          have BY : Hid (Calls Tryz.prog 52 #[.pointer (some ⟨fb, 0, none⟩), teV e op num site xa aa ab xc ca cb, .pointer a5] w5 (ByP w5 ρ5 fb R)) := by
            rw [hR]
            exact body_any e.size e (Nat.le_refl _) TX.out BW5.out RW5.out hf5 hc5.fresh h95 hs5 HBAL (by show 0 + e.size ≤ 20000; have := SZ.out; omega)
          have HR := Lib.hid hR
          have HBL := Lib.hid HBAL
          have q3 : w5.cell? ⟨w.heap.size, 3, none⟩ = some (.int .i64 e.kind) := by rw [cell_of_row _ _ 3 _ _ _ O5.out]; rfl
          have q4 : w5.cell? ⟨w.heap.size, 4, none⟩ = some (.string e.name) := by rw [cell_of_row _ _ 4 _ _ _ O5.out]; rfl
          have q5 : w5.cell? ⟨w.heap.size, 5, none⟩ = some (.string op) := by rw [cell_of_row _ _ 5 _ _ _ O5.out]; rfl
          have q6 : w5.cell? ⟨w.heap.size, 6, none⟩ = some (.int .i64 num) := by rw [cell_of_row _ _ 6 _ _ _ O5.out]; rfl
          have q7 : w5.cell? ⟨w.heap.size, 7, none⟩ = some (.int .i64 site) := by rw [cell_of_row _ _ 7 _ _ _ O5.out]; rfl
          have q8 : w5.cell? ⟨w.heap.size, 8, none⟩ = some (.slice xa e.args.length xc) := by rw [cell_of_row _ _ 8 _ _ _ O5.out]; rfl
          have q9 : w5.cell? ⟨w.heap.size, 9, none⟩ = some (.slice aa e.arms.length ca) := by rw [cell_of_row _ _ 9 _ _ _ O5.out]; rfl
          have q10 : w5.cell? ⟨w.heap.size, 10, none⟩ = some (.slice ab e.body.length cb) := by rw [cell_of_row _ _ 10 _ _ _ O5.out]; rfl
          have H5 := Lib.hid hc5.fresh
          clear hc5 h95 hf5 hs5 z2 BD hR HBAL
          go_wp2_with fail
          refine BY.out.mono ?_
          rintro en w6 ⟨ρ6, hc6, h96, rfl, hr6⟩
          have BW6 : Hid (Below w.heap.size w w6) := BW5.out.trans (hc6.below BW5.out.size fun k hk => by rw [RW5.out k hk]; exact OM.no0)
          clear q3 q4 q5 q6 q7 q8 q9 q10 BY
          cases R with
          | none =>
            have NG : Hid (¬ RG.Good isNm ps e) := fun hg => by obtain ⟨st, h1, _⟩ := (GI.out.1 hg).2.2; rw [← HR.out] at h1; cases h1
            clear hc6 h96 hr6
            simp only [Option.isSome_none, Option.isSome_some]
            go_wp2_with fail
            go_ret
            exact ⟨_, rfl, BW6.out.alloc BW6.out.size _, .inr ⟨NG.out, empty_new (by first | rfl | simp)⟩⟩
          | some st =>
            obtain ⟨sv, su, sn, sb, sa, so, us, ns, bs, os, hf6⟩ := hr6 st rfl
            have HBS : Hid (bodyR e (scope 0 ps []) (st0 ps) = some st) := HR.out.symm
            have BB := body_bal HBS.out HBL.out
            have VL : Hid (st.vars.length ≤ 400000) := by
              have h1 := BB.1.vars
              have h2 := BB.1.binds
              have h3 : st.uses.length = 0 + e.size := BB.2
              have h4 := SZ.out
              show _ ≤ _; omega
            obtain ⟨va6, vc6, hsv⟩ := hf6.vars.shape
            subst hsv
            obtain ⟨nv, hnv⟩ : ∃ n, n = st.vars.length := ⟨_, rfl⟩
            have HNV := Lib.hid hnv
            have z0 : w6.cell? ⟨fb, 0, none⟩ = some (.slice va6 nv vc6) := by rw [hnv]; exact hf6.cell 0 _ rfl
            have SO : Hid (Calls Tryz.prog 53 #[.slice va6 nv vc6] w6 (SoP w6 st.vars)) := by
              rw [hnv]
              exact sort_any st.vars.length st.vars (Nat.le_refl _) VL.out (StC.of_own hf6.vars.row)
            have FL6 := Lib.hid hf6
            have H6 := Lib.hid hc6.fresh
            clear hc6 h96 hr6 hf6 BB hnv
            simp only [Option.isSome_none, Option.isSome_some]
            go_wp2_with fail
            refine SO.out.mono ?_
            rintro en w7 ⟨v7, l7, rfl, hst7, hpm, hpw, hb7⟩
            have FL7 := Lib.hid (FL6.out.below hb7 H6.out)
            have H7 : Hid (∀ k, w7.heap.size ≤ k → ρ6 k = 0) := fun k hk => H6.out k (Nat.le_trans hb7.size hk)
            have BW7 : Hid (Below w.heap.size w w7) := BW6.out.trans (hb7.mono BW6.out.size)
            have ST7 := Lib.hid hst7
            have PM := Lib.hid hpm
            have PW := Lib.hid hpw
            obtain ⟨ad7, c7, rfl, -⟩ := hst7
            obtain ⟨n7, hn7⟩ : ∃ n, n = l7.length := ⟨_, rfl⟩
            rw [← hn7] at ST7 ⊢
            have HN7 := Lib.hid hn7
            have hn7z : (n7 : Int) ≤ 400000 := by have h1 := hpm.length_eq; have h2 := VL.out; omega
            clear hpm hpw hb7 hn7 z0 SO FL6
            go_wp2_with fail
            go_loopw [9] (fun iv wr => ∃ i : Nat, i ≤ n7 ∧ iv = .int .i64 i ∧ Below w7.heap.size w7 wr ∧ (∀ (j : Nat) (x : Nm), j < i → l7[j]? = some x → isNm x = true) ∧ ∀ (j : Nat) (a b : Nm), j + 1 < i → l7[j]? = some a → l7[j + 1]? = some b → b ≠ a) (fun iv _ => n7 - (intOf iv).toNat)
            case atStart => exact ⟨0, Nat.zero_le _, rfl, Below.refl _ _, fun j x h => absurd h (Nat.not_lt_zero _), fun j a b h => absurd h (Nat.not_lt_zero _)⟩
            case round =>
              rename World => V
              obtain ⟨i, hi, rfl, hbv, hnm, hdf⟩ := hrel
              have KI := Lib.hid hi
              have BV := Lib.hid hbv
              have NM := Lib.hid hnm
              have DF := Lib.hid hdf
              have BWV : Hid (Below w.heap.size w V) := BW7.out.trans (hbv.mono BW7.out.size)
              clear hi hbv hnm hdf
              by_cases hlt : i < n7
              · have hlz : (i : Int) < n7 := by omega
                have hi0 : (0 : Int) ≤ i := by omega
                have HLT := Lib.hid hlt
                obtain ⟨g, o, x, rfl, hx, yx⟩ := (ST7.out.kept (kept_below BV.out)).read HN7.out hlt
                have HX := Lib.hid hx
                have hgl : g < V.heap.size := World.block_lt_of_cell? V _ yx
                have d0 : ∀ y : Lx.Wg V, y.v.cell? ⟨g, o + i, none⟩ = some (.string x) := fun y => y.cell hgl yx
                obtain ⟨kk, hkk⟩ : ∃ k : Nat, k = Lx.LX.refKind (Lx.bts x) := ⟨_, rfl⟩
                have CA : Hid (∀ y : Lx.Wg V, Calls Tryz.prog 54 #[.string x] y.v fun e w' => e = .returned (.int .i64 (kk : Int)) ∧ ∃ z : Lx.Wg V, w' = z.v) :=
                  Lx.Wg.call fun y => by
                    have := Lx.rkind_any y.v x
                    unfold Lx.RkPost at this
                    rw [← hkk] at this
                    exact this
                have IK : Hid (isNm x = true ↔ kk = 2) := by show _ ↔ _; rw [hkk, Lx.LX.refKind_eq]; unfold isNm; rw [beq_iff_eq]
                have VM : Hid (x ∈ st.vars) := PM.out.mem_iff.1 (List.mem_of_getElem? HX.out)
                clear hlt hx hkk
                by_cases hk2 : kk = 2
                · have dk : ((kk : Int) != 2) = false := by simp [hk2]
                  have IX : Hid (isNm x = true) := IK.out.2 hk2
                  have NMX : Hid (∀ (j : Nat) (x : Nm), j < i + 1 → l7[j]? = some x → isNm x = true) := fun j x' h1 h2 => by
                    by_cases e0 : j = i
                    · subst e0
                      rw [HX.out, Option.some.injEq] at h2
                      rw [← h2]; exact IX.out
                    · exact NM.out j x' (by omega) h2
                  clear hk2
                  by_cases h0 : i = 0
                  · have DFX : Hid (∀ (j : Nat) (a b : Nm), j + 1 < i + 1 → l7[j]? = some a → l7[j + 1]? = some b → b ≠ a) := fun j a b h => absurd h (by omega)
                    have e0 : decide ((0 : Int) < i) = false := by simp; omega
                    have e1 : decide (0 < i) = false := by simp; omega
                    clear h0
                    go_wp2_with fail
                    refine Lx.wp_region_below (by kernel_rfl) (by kernel_rfl) ?_
                    repeat
                      first
                      | go_big_quiet_skip
                      | (go_big_quiet_want
                         go_big_quiet_op
                         first
                         | go_big_quiet_on
                         | (refine ⟨_, fun _ => rfl, ?_⟩; go_big_quiet_on)
                         | (apply Exists.intro
                            refine ⟨fun x => ?_, ?_⟩
                            · (go_at_call 54; exact CA.out _)
                            go_big_quiet_on))
                    refine wpQuiet_nil ?_
                    intro z
                    go_wp2_with fail
                    go_roundw
                    case rel => exact ⟨i + 1, HLT.out, by go_num, BV.out.trans (z.ch.mono BV.out.size), NMX.out, DFX.out⟩
                    case measure => have := HLT.out; simp [intOf]; omega
                  · obtain ⟨j, hj⟩ : ∃ j, i = j + 1 := ⟨i - 1, by omega⟩
                    have HJ := Lib.hid hj
                    have e0 : decide ((0 : Int) < i) = true := by simp; omega
                    have e1 : decide (0 < i) = true := by simp; omega
                    obtain ⟨g1, o1, y, hg1, hy, yy⟩ := (ST7.out.kept (kept_below BV.out)).read (k := j) HN7.out (by have := HLT.out; omega)
                    simp only [Option.some.injEq] at hg1
                    rw [Addr.mk.injEq] at hg1
                    obtain ⟨rfl, rfl, -⟩ := hg1
                    have d1 : ∀ z : Lx.Wg V, z.v.cell? ⟨g, o + j, none⟩ = some (.string y) := fun z => z.cell hgl yy
                    have HY := Lib.hid hy
                    have HX' : Hid (l7[j + 1]? = some x) := by show _ = _; rw [← HJ.out]; exact HX.out
                    have hjz : (j : Int) ≤ 400000 := by omega
                    have hj0 : (0 : Int) ≤ j := by omega
                    have hjn : (j : Int) < n7 := by omega
                    have hwj : IntKind.i64.wrap ((i : Int) - 1) = (j : Int) := by rw [show ((i : Int) - 1) = (j : Int) from by omega]; exact Lx.wrap_in _ (by omega)
                    clear h0 hj
                    clear hy
                    by_cases hxy : x = y
                    · have de : (x.toList == y.toList) = true := by rw [hxy]; simp
                      have NG : Hid (¬ RG.Good isNm ps e) := fun hg => by
                        obtain ⟨st', h1, h2, h3⟩ := (GI.out.1 hg).2.2
                        rw [HBS.out, Option.some.injEq] at h1
                        subst h1
                        have hnd := PM.out.nodup_iff.2 h3
                        rw [List.Nodup, List.pairwise_iff_getElem] at hnd
                        obtain ⟨a1, a2⟩ := List.getElem?_eq_some_iff.1 HY.out
                        obtain ⟨b1, b2⟩ := List.getElem?_eq_some_iff.1 HX'.out
                        exact hnd j (j + 1) a1 b1 (Nat.lt_succ_self j) (by rw [a2, b2, hxy])
                      clear hxy
                      go_wp2_with fail
                      refine Lx.wp_region_below (by kernel_rfl) (by kernel_rfl) ?_
                      repeat
                        first
                        | go_big_quiet_skip
                        | (go_big_quiet_want
                           go_big_quiet_op
                           first
                           | go_big_quiet_on
                           | (refine ⟨_, fun _ => rfl, ?_⟩; go_big_quiet_on)
                           | (apply Exists.intro
                              refine ⟨fun x => ?_, ?_⟩
                              · (go_at_call 54; exact CA.out _)
                              go_big_quiet_on))
                      refine wpQuiet_nil ?_
                      intro z
                      go_wp2_with fail
                      go_ret
                      exact ⟨_, rfl, (BWV.out.trans (z.ch.mono BWV.out.size)).alloc (BWV.out.trans (z.ch.mono BWV.out.size)).size _, .inr ⟨NG.out, empty_new (by first | rfl | simp)⟩⟩
                    · have de : (x.toList == y.toList) = false := beq_false_of_ne fun e0 => hxy (toList_inj e0)
                      have DFX : Hid (∀ (q : Nat) (a b : Nm), q + 1 < i + 1 → l7[q]? = some a → l7[q + 1]? = some b → b ≠ a) := fun q a b h1 h2 h3 => by
                        by_cases e0 : q = j
                        · subst e0
                          rw [HY.out, Option.some.injEq] at h2
                          rw [HX'.out, Option.some.injEq] at h3
                          rw [← h2, ← h3]; exact hxy
                        · exact DF.out q a b (by have := HJ.out; omega) h2 h3
                      clear hxy
                      go_wp2_with fail
                      refine Lx.wp_region_below (by kernel_rfl) (by kernel_rfl) ?_
                      repeat
                        first
                        | go_big_quiet_skip
                        | (go_big_quiet_want
                           go_big_quiet_op
                           first
                           | go_big_quiet_on
                           | (refine ⟨_, fun _ => rfl, ?_⟩; go_big_quiet_on)
                           | (apply Exists.intro
                              refine ⟨fun x => ?_, ?_⟩
                              · (go_at_call 54; exact CA.out _)
                              go_big_quiet_on))
                      refine wpQuiet_nil ?_
                      intro z
                      go_wp2_with fail
                      go_roundw
                      case rel => exact ⟨i + 1, HLT.out, by go_num, BV.out.trans (z.ch.mono BV.out.size), NMX.out, DFX.out⟩
                      case measure => have := HLT.out; simp [intOf]; omega
                · have dk : ((kk : Int) != 2) = true := by simp; omega
                  have NG : Hid (¬ RG.Good isNm ps e) := fun hg => by
                    obtain ⟨st', h1, h2, h3⟩ := (GI.out.1 hg).2.2
                    rw [HBS.out, Option.some.injEq] at h1
                    subst h1
                    exact hk2 (IK.out.1 (h2 x VM.out))
                  clear hk2
                  go_wp2_with fail
                  refine Lx.wp_region_below (by kernel_rfl) (by kernel_rfl) ?_
                  repeat
                    first
                    | go_big_quiet_skip
                    | (go_big_quiet_want
                       go_big_quiet_op
                       first
                       | go_big_quiet_on
                       | (refine ⟨_, fun _ => rfl, ?_⟩; go_big_quiet_on)
                       | (apply Exists.intro
                          refine ⟨fun x => ?_, ?_⟩
                          · (go_at_call 54; exact CA.out _)
                          go_big_quiet_on))
                  refine wpQuiet_nil ?_
                  intro z
                  go_wp2_with fail
                  go_ret
                  exact ⟨_, rfl, (BWV.out.trans (z.ch.mono BWV.out.size)).alloc (BWV.out.trans (z.ch.mono BWV.out.size)).size _, .inr ⟨NG.out, empty_new (by first | rfl | simp)⟩⟩
              · have hlz : (n7 : Int) ≤ i := by omega
                have hdi : decide (i < n7) = false := by simp; omega
                have ND : Hid (st.vars.Nodup) := by
                  show _
                  refine PM.out.nodup_iff.1 (sorted_nodup PW.out fun j a b h1 h2 => DF.out j a b ?_ h1 h2)
                  have := (List.getElem?_eq_some_iff.1 h2).1
                  have := HN7.out
                  omega
                have AN : Hid (∀ x ∈ st.vars, isNm x = true) := fun x hx => by
                  obtain ⟨j, hj⟩ := List.mem_iff_getElem?.1 (PM.out.mem_iff.2 hx)
                  exact NM.out j x (by have := (List.getElem?_eq_some_iff.1 hj).1; have := HN7.out; omega) hj
                have GD : Hid (RG.Good isNm ps e) := GI.out.2 ⟨P16.out, SZ.out, st, HBS.out, AN.out, ND.out⟩
                have FL8 := Lib.hid (FL7.out.below BV.out H7.out)
                have WH : Hid (Whole (F0 ps e) st) := body_whole (by have := body_vars HBS.out; rw [← this.1]; exact ND.out) HBS.out
                have c6 : V.cell? ⟨fb, 6, none⟩ = some (.bool false) := FL8.out.cell 6 _ rfl
                have f6 : V.frozen? ⟨fb, 6, none⟩ = false := FL8.out.froz 6
                have FR := Lib.hid (FL8.out.read (fun k hk => H7.out k (Nat.le_trans BV.out.size hk)) WH.out rfl)
                have BE : Hid (Below w.heap.size w (V.setCell ⟨fb, 6, none⟩ (.bool true))) := BWV.out.setCell (by have := FBW.out; exact this) _
                clear hlt
                go_wp2_with fail
                go_ret
                exact ⟨fb, rfl, BE.out, .inl ⟨GD.out, FR.out⟩⟩
    · have NG : Hid (¬ RG.Good isNm ps e) := fun hg => by have := (GI.out.1 hg).2.1; omega
      clear hsz
      go_wp2_with fail
      go_ret
      exact ⟨_, rfl, B2.out.alloc B2.out.size _, .inr ⟨NG.out, empty_new (by first | rfl | simp)⟩⟩
  · have d1 : decide (16 < (np : Int)) = true := by simp; omega
    have NG : Hid (¬ RG.Good isNm ps e) := fun hg => by have := (GI.out.1 hg).1; omega
    clear hpl
    go_enter Tryz.func16, Tryz.ntmps16
    go_upto_region 1 with fail
    rw [← hw0]
    clear hw0
    go_wp2_with fail
    go_ret
    exact ⟨_, rfl, B1.out.alloc B1.out.size _, .inr ⟨NG.out, empty_new (by first | rfl | simp)⟩⟩
def SmP (w:World) (ps:List Nm) (e:TE) (en:Ending) (w':World):Prop :=
 Below w.heap.size w w'∧∃ b:Bool,en = .returned (.bool b)∧(b=true→RG.Good isNm ps e→e.size≤300∧(vars (F0 ps e)).length≤300)∧(¬ RG.Good isNm ps e→b=true)
set_option maxHeartbeats 2000000 in
set_option maxRecDepth 20000 in
theorem small_any {w:World}{v:Value}{ps:List Nm}{e:TE}(h:TFunV w v ps e):Calls Tryz.prog 15 #[v] w (SmP w ps e):=by
 have HV:=zh h
 obtain⟨nm,op,ch,pv,va,num,site,aa,ab,ca,cb,ga,oa,gb,ob,rfl,hp,hat,-⟩:=h
 obtain⟨xa,xc,rfl,-⟩:=id hat.at'
 obtain⟨pa,pc,rfl,-⟩:=id hp.at'
 have OF:=zh (ofR_any (HV.out.kept (kept_below (show Below w.heap.size w (w.alloc (.cells #[.string nm,.bool ch,.slice pa ps.length pc,.int .i64 e.kind,.string e.name,.string op,.int .i64 num,.int .i64 site,.slice xa e.args.length xc,.slice aa e.arms.length ca,.slice ab e.body.length cb] 29)) from (Below.refl _ _).alloc (Nat.le_refl _) _))))
 have B0:Hid (Below w.heap.size w (w.alloc (.cells #[.string nm,.bool ch,.slice pa ps.length pc,.int .i64 e.kind,.string e.name,.string op,.int .i64 num,.int .i64 site,.slice xa e.args.length xc,.slice aa e.arms.length ca,.slice ab e.body.length cb] 29))):=(Below.refl _ _).alloc (Nat.le_refl _) _
 clear hp hat HV
 go_enter Tryz.func15,Tryz.ntmps15
 go_wp2_with fail
 refine OF.out.mono ?_
 rintro en w1 ⟨fb,rfl,hb,⟨hg,hfl⟩|⟨hg,hem⟩⟩
 ·obtain⟨sv,su,sn,sb,sa,so,us,ns,bs,h0,hsv,hsu,-⟩:=hfl.at'
  obtain⟨_,sva,svc,rfl,_⟩:=hsv
  obtain⟨_,sua,suc,rfl,_⟩:=hsu
  obtain⟨nv,hnv⟩:∃ n,n=(vars (F0 ps e)).length:=⟨_,rfl⟩
  obtain⟨nu,hnu⟩:∃ n,n=(F0 ps e).length:=⟨_,rfl⟩
  rw [← hnv,← hnu] at h0
  have c1:w1.cell? ⟨fb,1,none⟩=some (.slice sua nu suc):=by rw [cell_of_row _ _ 1 _ _ _ h0];rfl
  have c0:w1.cell? ⟨fb,0,none⟩=some (.slice sva nv svc):=by rw [cell_of_row _ _ 0 _ _ _ h0];rfl
  have HB:Hid (Below w.heap.size w w1):=B0.out.trans (hb.mono B0.out.size)
  have HG:=zh hg
  have HNV:=zh hnv
  have HNU:Hid (nu=e.size):=by show _=_;rw [hnu,F0_length]
  clear hb hfl h0 hnv hnu hg OF
  by_cases h1:nu≤300
  ·have d1:decide ((nu:Int)≤300)=true:=by simp;omega
   by_cases h2:nv≤300
   ·have d2:decide ((nv:Int)≤300)=true:=by simp;omega
    have E:Hid (e.size≤300∧(vars (F0 ps e)).length≤300):=by rw [← HNU.out,← HNV.out];exact⟨h1,h2⟩
    clear h1 h2
    go_wp2_with fail
    go_ret
    exact⟨HB.out,true,rfl,fun _ _=>E.out,fun h=>absurd HG.out h⟩
   ·have d2:decide ((nv:Int)≤300)=false:=by simp;omega
    clear h1 h2
    go_wp2_with fail
    go_ret
    exact⟨HB.out,false,rfl,(fun h=>by cases h),fun h=>absurd HG.out h⟩
  ·have d1:decide ((nu:Int)≤300)=false:=by simp;omega
   clear h1
   go_wp2_with fail
   go_ret
   exact⟨HB.out,false,rfl,(fun h=>by cases h),fun h=>absurd HG.out h⟩
 ·have h0:w1.heap[fb]?=_:=hem
  have c1:w1.cell? ⟨fb,1,none⟩=some (.slice none 0 0):=by rw [cell_of_row _ _ 1 _ _ _ h0];rfl
  have c0:w1.cell? ⟨fb,0,none⟩=some (.slice none 0 0):=by rw [cell_of_row _ _ 0 _ _ _ h0];rfl
  have HB:Hid (Below w.heap.size w w1):=B0.out.trans (hb.mono B0.out.size)
  have HG:=zh hg
  clear hb hem h0 hg OF
  go_wp2_with fail
  go_ret
  exact⟨HB.out,true,rfl,fun _ h=>absurd h HG.out,fun _=>rfl⟩
end Go.Proofs.YtnkahlloahgifaaGreatDoor
