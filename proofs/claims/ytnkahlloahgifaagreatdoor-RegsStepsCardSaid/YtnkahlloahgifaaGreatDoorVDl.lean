/- Part. -/
import Derived.Test.YtnkahlloahgifaaGreatDoorVDk
import Derived.Test.YtnkahlloahgifaaGreatDoorVEa
set_option linter.unusedSimpArgs false
set_option linter.unusedVariables false
namespace Go.Proofs.YtnkahlloahgifaaGreatDoor
open Go.RowKit RG Go.Maps RF
set_option maxHeartbeats 8000000 in
set_option maxRecDepth 30000 in
theorem body_any (N:Nat):∀ (e:TE),e.size≤N→∀ {W w:World} {ρ:Nat→Nat}{fb:Nat}{st:St}{sc:List (Nm×Nat)}{scv:Value}{op:ByteArray}{num site:Int}{xa aa ab:Option Addr}{xc ca cb:Nat},TEX W e xa aa ab xc→Below W.heap.size W w →
  (∀ k,k<W.heap.size→ρ k=0)→FlR w ρ fb st→(∀ k,w.heap.size≤k→ρ k=0)→(∀ k,ρ k≠9)→ScR w ρ sc scv→Bal1 st→st.uses.length+e.size≤20000 →
  Calls Tryz.prog 52 #[.pointer (some ⟨fb,0,none⟩),teV e op num site xa aa ab xc ca cb,scv] w (ByP w ρ fb (bodyR e sc st)):=by
 induction N with
 | zero=>intro e hN;have:=e.size_pos;omega
 | succ N ih =>
  intro e hN W w ρ fb st sc scv op num site xa aa ab xc ca cb hx hB hW hfl hρ h9 hsc hbal hsz
  have IH:=zh ih
  clear ih
  obtain⟨sca,rfl⟩:=hsc.ptr
  obtain⟨R,hR⟩:∃ R,R=bodyR e sc st:=⟨_,rfl⟩
  rw [← hR]
  have HR:=zh hR
  obtain⟨w0,hw0⟩:∃ x,x=w.alloc (.cells #[.int .i64 e.kind,.string e.name,.string op,.int .i64 num,.int .i64 site,.slice xa e.args.length xc,.slice aa e.arms.length ca,.slice ab e.body.length cb] 27):=⟨_,rfl⟩
  have O0:Hid (w0.heap[w.heap.size]?=some (.cells #[.int .i64 e.kind,.string e.name,.string op,.int .i64 num,.int .i64 site,.slice xa e.args.length xc,.slice aa e.arms.length ca,.slice ab e.body.length cb] 27 (0,0))):=by show _=_;rw [hw0];exact heap_alloc_new w _
  have B0:Hid (Below w.heap.size w w0):=by rw [hw0];exact(Below.refl _ _).alloc (Nat.le_refl _) _
  have zc:=fun i x (hx:(#[.int .i64 e.kind,.string e.name,.string op,.int .i64 num,.int .i64 site,.slice xa e.args.length xc,.slice aa e.arms.length ca,.slice ab e.body.length cb]:Array Value)[i]?=some x)=>(cell_of_row w0 w.heap.size i _ _ _ O0.out).trans hx
  have hld:(loadVar 27 ⟨w.heap.size,0,none⟩).run Tryz.prog w0 = .ok (teV e op num site xa aa ab xc ca cb) w0:=TEC.load (o:=0) ⟨zc 0 _ rfl,zc 1 _ rfl,zc 2 _ rfl,zc 3 _ rfl,zc 4 _ rfl,zc 5 _ rfl,zc 6 _ rfl,zc 7 _ rfl⟩
  have SH:Hid (Calls Tryz.prog 82 #[.agg #[.int .i64 e.kind,.string e.name,.string op,.int .i64 num,.int .i64 site,.slice xa e.args.length xc,.slice aa e.arms.length ca,.slice ab e.body.length cb]] w0 (BoP w0 (.bool (nodeOk e)))):=shaped_any (hx.kept (kept_below (hB.trans (B0.out.mono hB.size))))
  have zz0:=zc 0 _ rfl
  have zz1:=zc 1 _ rfl
  have zz2:=zc 2 _ rfl
  have zz3:=zc 3 _ rfl
  have zz4:=zc 4 _ rfl
  have zz5:=zc 5 _ rfl
  have zz6:=zc 6 _ rfl
  have zz7:=zc 7 _ rfl
  replace hld:(loadVar 27 ⟨w.heap.size,0,none⟩).run Tryz.prog w0 = .ok (.agg #[.int .i64 e.kind,.string e.name,.string op,.int .i64 num,.int .i64 site,.slice xa e.args.length xc,.slice aa e.arms.length ca,.slice ab e.body.length cb]) w0:=hld
  have HAT:=zh hx.atoms
  have HAR:=zh hx.arms
  have HBO:=zh hx.body
  show Calls Tryz.prog 52 #[.pointer (some ⟨fb,0,none⟩),.agg #[.int .i64 e.kind,.string e.name,.string op,.int .i64 num,.int .i64 site,.slice xa e.args.length xc,.slice aa e.arms.length ca,.slice ab e.body.length cb],.pointer sca] w _
  obtain⟨k,hk⟩:∃ x,x=e.kind:=⟨_,rfl⟩
  obtain⟨nm,hnm⟩:∃ x,x=e.name:=⟨_,rfl⟩
  obtain⟨ng,hng⟩:∃ x,x=e.args.length:=⟨_,rfl⟩
  obtain⟨na,hna⟩:∃ x,x=e.arms.length:=⟨_,rfl⟩
  obtain⟨nb,hnb⟩:∃ x,x=e.body.length:=⟨_,rfl⟩
  rw [← hk,← hnm,← hng,← hna,← hnb]
  rw [← hk,← hnm,← hng,← hna,← hnb] at SH hld O0 hw0
  rw [← hk] at zz0
  rw [← hnm] at zz1
  rw [← hng] at zz5
  rw [← hna] at zz6
  rw [← hnb] at zz7
  rw [← hng] at HAT
  rw [← hna] at HAR
  rw [← hnb] at HBO
  have HNM:=zh hnm
  have HNG:=zh hng
  have HNA:=zh hna
  have HNB:=zh hnb
  have HNN:=zh hN
  have HB:=zh hB
  have HW:=zh hW
  have HRHO:=zh hρ
  have H9:=zh h9
  have BAL:=zh hbal
  have HSZ:=zh hsz
  have FL:=zh hfl
  have SC:=zh hsc
  clear hR hx zc hk hnm hng hna hnb hN hB hW hfl hρ h9 hsc hbal hsz
  cases hok:nodeOk e with
  | false =>
   rw [hok] at SH
   have RN:Hid (R=none):=by show _=_;rw [HR.out];exact bodyR_no hok
   clear hok
   go_enter Tryz.func52,Tryz.ntmps52
   go_upto_region 1 with fail
   rw [← hw0]
   clear hw0
   go_wp2_with (go_at_call 82;refine SH.out.mono ?_;rintro en w1 ⟨rfl,hb1⟩)
   go_ret
   exact⟨ρ,Ch.of_below (B0.out.trans (hb1.mono B0.out.size)) HRHO.out,H9.out,by rw [RN.out];rfl,fun st' h=>by rw [RN.out] at h;cases h⟩
  | true =>
   rw [hok] at SH
   have OK:=zh hok
   have OKI:=nodeOk_iff.1 hok
   have N16:Hid (ng≤16∧nb≤1):=by
    refine⟨by rw [HNG.out];exact OKI.2.2.1,?_⟩
    have:=OKI.2.1
    rw [← HNB.out] at this
    split at this<;>omega
   obtain⟨RU,hRU⟩:∃ u,u=usesR sc e.args []:=⟨_,rfl⟩
   have HRU:=zh hRU
   have hnz:(ng:Int)≤16:=by have:=N16.out;omega
   obtain⟨i9,p1,p2,p3,p4⟩:=info_parts Tryz.info9r
   have HI9:=zh (And.intro p1 (And.intro p2 (And.intro p3 p4)))
   obtain⟨i3,q1,q2,q3,q4⟩:=info_parts Tryz.info3u
   have HI3:=zh (And.intro q1 (And.intro q2 (And.intro q3 q4)))
   obtain⟨i40,r1,r2,r3,r4⟩:=info_parts Tryz.info40r
   have HI40:=zh (And.intro r1 (And.intro r2 (And.intro r3 r4)))
   clear hok OKI hRU p1 p2 p3 p4 q1 q2 q3 q4 r1 r2 r3 r4
   go_enter Tryz.func52,Tryz.ntmps52
   go_upto_region 1 with fail
   rw [← hw0]
   clear hw0
   go_wp2_with fail
   refine SH.out.mono ?_
   rintro en w1 ⟨rfl,hb1⟩
   have B1:Hid (Below w.heap.size w w1):=B0.out.trans (hb1.mono B0.out.size)
   have O1:=heap_below hb1 O0.out
   obtain⟨sv,su,sn,sb,sa,so,us,ns,bs,os,hf⟩:=FL.out.below B1.out HRHO.out
   have BY0:Hid (ByV w ρ fb st sc (.pointer sca) w.heap.size #[.int .i64 k,.string nm,.string op,.int .i64 num,.int .i64 site,.slice xa ng xc,.slice aa na ca,.slice ab nb cb] sv su sn sb sa so us ns bs os st.binds.length st.binds.length [] ρ (.slice none 0 0) w1) :=
    ⟨hf,Ch.of_below B1.out HRHO.out,RR.nil _ _ _ _ _,ScR.keep (Ch.of_below (M:=fun _=>False) B1.out HRHO.out) id SC.out,O1,HRHO.out _ (Nat.le_refl _)⟩
   obtain⟨ua,uc,hsu⟩:=hf.uses.shape
   obtain⟨nu,hnu⟩:∃ n,n=st.uses.length:=⟨_,rfl⟩
   rw [← hnu] at hsu
   subst hsu
   have HNU:=zh hnu
   have hnuz:(nu:Int)≤20000:=by have:=HSZ.out;omega
   have z1:w1.cell? ⟨fb,1,none⟩=some (.slice ua nu uc):=hf.cell 1 _ rfl
   clear hf O1 hnu hb1 SH hld O0 B0 zz0 zz1 zz2 zz3 zz4 zz5 zz6 zz7
   go_wp2_with fail
   go_loopw [8,9] (fun uv iv wr=>∃ (i:Nat) (acc:List Nat) (ρ1:Nat→Nat),i≤ng∧iv = .int .i64 i∧acc.length≤i∧ByV w ρ fb st sc (.pointer sca) w.heap.size #[.int .i64 k,.string nm,.string op,.int .i64 num,.int .i64 site,.slice xa ng xc,.slice aa na ca,.slice ab nb cb] sv (.slice ua nu uc) sn sb sa so us ns bs os st.binds.length st.binds.length acc ρ1 uv wr∧usesR sc (e.args.drop i) acc=RU) (fun _ iv _=>ng - (intOf iv).toNat)
   case atStart=>exact⟨0,[],ρ,Nat.zero_le _,rfl,Nat.le_refl _,BY0.out,by rw [HRU.out];rfl⟩
   case round =>
    rename World=>V
    obtain⟨i,acc,ρ1,hi,rfl,hal,hby,hu⟩:=hrel
    have KI:=zh hi
    have KA:=zh hal
    have KB:=zh hby
    have KU:=zh hu
    obtain⟨uva,uvc,huv⟩:=hby.row.shape
    obtain⟨nc,hnc⟩:∃ n,n=acc.length:=⟨_,rfl⟩
    rw [← hnc] at huv
    subst huv
    have HNC:=zh hnc
    have hncz:(nc:Int)≤16:=by have:=N16.out;omega
    have LOW:Hid (Below W.heap.size W V∧∀ k,k<W.heap.size→ρ1 k=0):=⟨HB.out.trans (hby.ch.below HB.out.size fun k hk=>by rw [HW.out k hk];unfold OM;omega),fun k hk=>(hby.ch.role k (Nat.lt_of_lt_of_le hk HB.out.size)).trans (HW.out k hk)⟩
    have FRE:=zh hby.ch.fresh
    have z5:V.cell? ⟨w.heap.size,5,none⟩=some (.slice xa ng xc):=by rw [cell_of_row _ _ 5 _ _ _ hby.box];rfl
    clear hi hal hu hnc z1 BY0 hby
    by_cases hlt:i<ng
    ·have hlz:(i:Int)<ng:=by omega
     have hi0:(0:Int)≤i:=by omega
     have HLT:=zh hlt
     obtain⟨ad,cc,hsl,hat⟩:=HAT.out.at'
     simp only [Value.slice.injEq] at hsl
     obtain⟨rfl,-,rfl⟩:=hsl
     obtain⟨g,o,rfl,hat2⟩:=hat (by rw [← HNG.out];omega)
     obtain⟨a,ha⟩:∃ a,e.args[i]?=some a:=⟨_,List.getElem?_eq_getElem (by rw [← HNG.out];exact hlt)⟩
     obtain⟨mm,hca,-⟩:=hat2 i a ha
     have ya:=kept_below LOW.out.1 _ _ hca
     have HA:=zh ha
     clear hlt hat hat2 ha hca
     by_cases h0:a.size=0
     ·have c1:a.toList.isEmpty=true:=toList_empty h0
      have KN:Hid (usesR sc (e.args.drop (i+1)) acc=RU):=by show _=_;rw [← KU.out];exact(usesR_skip HA.out h0).symm
      clear h0
      go_wp2_with fail
      go_roundw
      case rel=>exact⟨i+1,acc,ρ1,HLT.out,by go_num,Nat.le_succ_of_le KA.out,KB.out,KN.out⟩
      case measure=>have:=HLT.out;simp [intOf];omega
     ·have c1:a.toList.isEmpty=false:=toList_full h0
      have H0:=zh h0
      clear h0
      go_wp2_with fail
      go_loopg [10] sc.length (fun gk xv wr=>∃ sc':List (Nm×Nat),gk=sc'.length∧ScR wr ρ1 sc' xv∧RF.look sc' a=RF.look sc a∧Below V.heap.size V wr)
      case atStart=>exact⟨sc,rfl,KB.out.scp,rfl,Below.refl _ _⟩
      case round =>
       obtain⟨sc',hgk,hsr,hlk,hbv⟩:=hrel
       have GK:=zh hgk
       have LK:=zh hlk
       have BV:=zh hbv
       have y5:=kept_below hbv _ _ z5
       have yn:=kept_below hbv _ _ ya
       clear hgk hlk hbv
       cases sc' with
       | nil =>
        have hxv:_=Value.pointer none:=hsr
        subst hxv
        have RN:Hid (R=none):=by
         show _=_
         rw [HR.out]
         refine bodyR_lost ?_
         rw [← HRU.out,← KU.out]
         exact usesR_miss HA.out H0.out LK.out.symm
        clear hsr
        go_wp2_with fail
        go_quiet (fail)
        go_wp2_with fail
        go_ret
        exact⟨rero ρ1,(KB.out.below (BV.out.trans (below_drewN _ _ _))).ch.re H9.out,re_ne ρ1,by rw [RN.out];rfl,fun st' h=>by rw [RN.out] at h;cases h⟩
       | cons p r =>
        obtain⟨b,vp,rfl,ho,hb0,hsr2⟩:=hsr
        obtain⟨vpa,rfl⟩:=hsr2.ptr
        have x0:wr.cell? ⟨b,0,none⟩=some (.string p.1):=by rw [cell_of_row _ _ 0 _ _ _ ho];rfl
        have x1:wr.cell? ⟨b,1,none⟩=some (.int .i64 (p.2:Int)):=by rw [cell_of_row _ _ 1 _ _ _ ho];rfl
        have x2:wr.cell? ⟨b,2,none⟩=some (.pointer vpa):=by rw [cell_of_row _ _ 2 _ _ _ ho];rfl
        have SR:=zh hsr2
        have HO:=zh ho
        clear hsr2 ho hb0
        by_cases hp:p.1=a
        ·have d1:(p.1.toList==a.toList)=true:=by rw [hp];simp
         have d2:(p.1.toList != a.toList)=false:=by rw [hp];simp
         obtain⟨n,hn⟩:∃ n,n=p.2:=⟨_,rfl⟩
         rw [← hn] at x1
         have UH:Hid (usesR sc (e.args.drop (i+1)) (if n∈acc then acc else acc++[n])=RU):=by
          show _=_
          rw [← KU.out]
          refine(usesR_hit HA.out H0.out ?_).symm
          rw [← LK.out,RF.look,if_pos hp,hn]
         have BO:Hid (wr.heap[b]?=some (.cells #[.string p.1,.int .i64 (n:Int),.pointer vpa] 150 (0,0))):=by rw [hn];exact HO.out
         clear hp x2 hn
         go_wp2_with fail
         go_quiet (fail)
         obtain⟨V2,hV2⟩:∃ X,X=wr.drewN nq:=⟨_,rfl⟩
         have BQ:Hid (Below V.heap.size V V2):=by rw [hV2];exact BV.out.trans (below_drewN _ _ _)
         have BO2:Hid (V2.heap[b]?=some (.cells #[.string p.1,.int .i64 (n:Int),.pointer vpa] 150 (0,0))):=by rw [hV2];exact BO.out
         try rw [← hV2]
         clear hV2 x0 x1 y5 yn BO HO SR
         have KB2:=zh (KB.out.below BQ.out)
         go_wp2_with fail
         go_loopw [11,12] (fun kv jv wr=>∃ j:Nat,j≤nc∧kv = .bool (decide (n∈acc.take j))∧jv = .int .i64 j∧Below V2.heap.size V2 wr) (fun _ jv _=>nc - (intOf jv).toNat)
         case atStart=>exact⟨0,Nat.zero_le _,by simp,rfl,Below.refl _ _⟩
         case round =>
          obtain⟨j,hj,rfl,rfl,hbv⟩:=hrel
          have KJ:=zh hj
          have BJ:=zh hbv
          have x1:wr.cell? ⟨b,1,none⟩=some (.int .i64 (n:Int)):=by rw [cell_of_row _ _ 1 _ _ _ (heap_below hbv BO2.out)];rfl
          obtain⟨kb,hkb⟩:∃ kb,kb=decide (n∈acc.take j):=⟨_,rfl⟩
          rw [← hkb]
          have HKB:=zh hkb
          clear hj hbv hkb
          by_cases hjn:j<nc
          ·have hjz:(j:Int)<nc:=by omega
           have hj0:(0:Int)≤j:=by omega
           have HJN:=zh hjn
           obtain⟨gu,guc,hgu,_,_,hcu,_⟩:=(KB2.out.below BJ.out).row.full (by rw [← HNC.out];omega)
           simp only [Value.slice.injEq] at hgu
           obtain⟨rfl,-,rfl⟩:=hgu
           obtain⟨y,hy⟩:∃ y,acc[j]?=some y:=⟨_,List.getElem?_eq_getElem (by rw [← HNC.out];exact hjn)⟩
           have yu:=hcu j _ (nats_at hy)
           have TK:Hid (∀ bq,bq=decide (y=n)→decide (n∈acc.take (j+1))=(kb||bq)):=fun bq hbq=>by rw [hbq,HKB.out];exact mem_take_more hy
           clear hjn hcu hy
           cases kb with
           | true =>
            have T1:=TK.out _ rfl
            rw [Bool.true_or] at T1
            have TH:=zh T1
            clear T1
            go_wp2_with fail
            go_quiet (fail)
            go_wp2_with fail
            go_roundw
            case rel=>exact⟨j+1,HJN.out,by rw [TH.out],by go_num,BJ.out.trans (below_drewN _ _ _)⟩
            case measure=>have:=HJN.out;simp [intOf];omega
           | false =>
            have T1:=TK.out _ rfl
            rw [Bool.false_or] at T1
            have TH:=zh T1
            clear T1
            by_cases hyn:y=n
            ·have d3:((y:Int)==n)=true:=by simp [hyn]
             have TT:Hid (decide (y=n)=true):=by show _=_;simp [hyn]
             clear hyn
             go_wp2_with fail
             go_quiet (fail)
             go_wp2_with fail
             go_roundw
             case rel=>exact⟨j+1,HJN.out,by rw [TH.out,TT.out],by go_num,BJ.out.trans (below_drewN _ _ _)⟩
             case measure=>have:=HJN.out;simp [intOf];omega
            ·have d3:((y:Int)==n)=false:=by simp;omega
             have TT:Hid (decide (y=n)=false):=by show _=_;simp [hyn]
             clear hyn
             go_wp2_with fail
             go_quiet (fail)
             go_wp2_with fail
             go_roundw
             case rel=>exact⟨j+1,HJN.out,by rw [TH.out,TT.out],by go_num,BJ.out.trans (below_drewN _ _ _)⟩
             case measure=>have:=HJN.out;simp [intOf];omega
          ·have hjz:(nc:Int)≤j:=by omega
           have hdj:decide (j<nc)=false:=by simp;omega
           have HKB2:Hid (kb=decide (n∈acc)):=by show _=_;rw [HKB.out,List.take_of_length_le (by rw [← HNC.out];omega)]
           have KB3:=zh (KB2.out.below BJ.out)
           clear hjn HKB
           cases kb with
           | true =>
            have UH2:Hid (usesR sc (e.args.drop (i+1)) acc=RU):=by
             have h1:=UH.out
             rw [if_pos (by simpa using HKB2.out.symm)] at h1;exact h1
            go_wp2_with fail
            go_roundw
            case rel=>exact⟨i+1,acc,ρ1,HLT.out,by go_num,Nat.le_succ_of_le KA.out,KB3.out,UH2.out⟩
            case measure=>have:=HLT.out;simp [intOf];omega
           | false =>
            have UH2:Hid (usesR sc (e.args.drop (i+1)) (acc++[n])=RU):=by
             have h1:=UH.out
             rw [if_neg (by simpa using HKB2.out.symm)] at h1;exact h1
            have BA:Hid (Below wr.heap.size wr (wr.alloc (Obj.cells #[.int .i64 (n:Int)] 3))):=(Below.refl _ _).alloc (Nat.le_refl _) _
            have XA:=zh (show (wr.alloc (Obj.cells #[.int .i64 (n:Int)] 3)).heap[wr.heap.size]?=some (.cells #[.int .i64 (n:Int)] 3 (0,0)) from heap_alloc_new wr _)
            have KB4:=zh (KB3.out.below BA.out)
            have RW:Hid (RR (wr.alloc (Obj.cells #[.int .i64 (n:Int)] 3)) ρ1 9 3 1 (.slice uva nc uvc) nc (nats acc)):=by have:=KB4.out.row;rw [← HNC.out] at this;exact this
            have NB8:Hid (nc+1≤maxLen∧(nc+1)*8≤140737488355328):=by show _∧_;simp only [maxLen];omega
            go_wp2_with (at_builtin;refine wpList_append_rr rfl _ _ 40 rfl 3 i3 (.int .i64 0) 1 8 Tryz.underlying40 HI3.out.1 HI3.out.2.1 HI3.out.2.2.1 HI3.out.2.2.2 rfl (by decide) ρ1 9 (.slice uva nc uvc) nc (nats acc) rfl RW.out (fun k hk=>KB3.out.ch.fresh k (Nat.le_trans BA.out.size hk)) ⟨wr.heap.size,0,none⟩ 1 1 [.int .i64 (n:Int)] rfl rfl (news1' XA.out) (fun u hu=>one1 rfl hu) NB8.out.1 NB8.out.2 ?_)
            intro a5 c5 w5 ρ5 hr5 hc5 hf5
            have KB5:=zh (KB4.out.more (n:=n) hc5 (by rw [← HNC.out];exact hr5))
            clear hr5 hc5 hf5 x1
            go_wp2_with fail
            go_roundw
            case rel=>exact⟨i+1,acc++[n],ρ5,HLT.out,by go_num,by rw [List.length_append];have:=KA.out;simp;omega,KB5.out,UH2.out⟩
            case measure=>have:=HLT.out;simp [intOf];omega
        ·have d1:(p.1.toList==a.toList)=false:=(beq_false_of_ne fun e0=>hp (toList_inj e0))
         have d2:(p.1.toList != a.toList)=true:=by unfold bne;rw [d1];rfl
         have LK2:Hid (RF.look r a=RF.look sc a):=by show _=_;rw [← LK.out,RF.look,if_neg hp]
         clear hp
         go_wp2_with fail
         go_quiet (fail)
         go_wp2_with fail
         go_roundg r.length
         case measure=>rw [GK.out];simp
         case rel=>exact⟨r,rfl,ScR.keep (Ch.of_below (M:=fun _=>False) (below_drewN _ _ _) (fun q hq=>FRE.out q (Nat.le_trans BV.out.size hq))) id SR.out,LK2.out,BV.out.trans (below_drewN _ _ _)⟩
    ·have hlz:(ng:Int)≤i:=by omega
     have hdi:decide (i<ng)=false:=by simp;omega
     have RUS:Hid (RU=some acc):=by show _=_;rw [← KU.out,List.drop_of_length_le (by rw [← HNG.out];omega)];rfl
     have RR1:Hid (R=fR nu sc e.kids (st.node acc)):=by show _=_;rw [HR.out,HNU.out];exact bodyR_on OK.out (by rw [← HRU.out];exact RUS.out)
     have F0:=zh KB.out.fl.re
     have S0:=zh (ScR.re KB.out.scp)
     have Z0:Hid (ZA V (rero ρ1) (.slice uva nc uvc) acc.length (nats acc)):=by have h1:=KB.out.row;exact ZA.of_rr h1
     have C0:Hid (Ch OM ρ (rero ρ1) w V):=KB.out.ch.re H9.out
     have N0:Hid (∀ k,rero ρ1 k≠9):=fun k=>re_ne ρ1 k
     have X0:=zh KB.out.box
     have Q0:Hid (rero ρ1 w.heap.size=0):=re_of KB.out.boxr (by decide)
     obtain⟨ρr,hρr⟩:∃ r,r=rero ρ1:=⟨_,rfl⟩
     rw [← hρr] at F0 S0 Z0 C0 N0 Q0
     obtain⟨na2,nc2,hsn⟩:=F0.out.next.shape
     have hnx:st.next.length=nu:=by rw [HNU.out];exact BAL.out.next
     rw [hnx] at hsn
     subst hsn
     have HNX:=zh hnx
     have NB:Hid (nu+1≤maxLen∧(nu+1)*24≤140737488355328):=by show _∧_;simp only [maxLen];omega
     have B2:Hid (Below V.heap.size V (V.alloc (Obj.cells #[.slice uva nc uvc] 40))):=(Below.refl _ _).alloc (Nat.le_refl _) _
     have X1:=zh (show (V.alloc (Obj.cells #[.slice uva nc uvc] 40)).heap[V.heap.size]?=some (.cells #[.slice uva nc uvc] 40 (0,0)) from heap_alloc_new V _)
     have F1:=zh (F0.out.below B2.out C0.out.fresh)
     have z1:V.cell? ⟨fb,1,none⟩=some (.slice ua nu uc):=F0.out.cell 1 _ rfl
     have R1:Hid (RR (V.alloc (Obj.cells #[.slice uva nc uvc] 40)) ρr 4 40 1 (.slice ua nu uc) nu us):=by have:=F1.out.uses;rw [← HNU.out] at this;exact this
     clear KB hρr hlt KI KU RUS FRE LOW hnx
     go_wp2_with (at_builtin;refine wpList_append_rr rfl _ _ 39 rfl 40 i40 (.slice none 0 0) 1 24 Tryz.underlying39 HI40.out.1 HI40.out.2.1 HI40.out.2.2.1 HI40.out.2.2.2 rfl (by decide) ρr 4 (.slice ua nu uc) nu us rfl R1.out (fun k hk=>C0.out.fresh k (Nat.le_trans B2.out.size hk)) ⟨V.heap.size,0,none⟩ 1 1 [.slice uva nc uvc] rfl rfl (news1' X1.out) (fun u hu=>one1 rfl hu) NB.out.1 NB.out.2 ?_)
     intro a4 c4 w4 ρ4 hr4 hc4 hf4
     clear z5
     have y0:=hc4.keep F1.out.obj (by rw [F1.out.role];decide)
     have t0:w4.cell? ⟨fb,1,none⟩=some (.slice ua nu uc):=by rw [cell_of_row _ _ 1 _ _ _ y0];rfl
     have t3:w4.frozen? ⟨fb,1,none⟩=false:=frozen_of_row _ _ 1 _ _ y0
     have c2:Ch (fun q=>q=4∨q=2) ρr ρ4 V (w4.setCell ⟨fb,1,none⟩ (.slice a4 (nu+1) c4)):=((Ch.of_below (M:=fun q=>q=4∨q=2) B2.out C0.out.fresh).trans (ch_put hc4 F1.out.lt F1.out.role))
     have F2:=zh (F1.out.putUses (v' := .slice a4 (nu+1) c4) (x := .slice uva nc uvc) (l:=acc) hc4 (by rw [← HNU.out];exact hr4) (Z0.out.keep (Ch.of_below (M:=fun _=>False) B2.out C0.out.fresh) id))
     have S2:=zh (ScR.keep c2 (by decide) S0.out)
     have C2:Hid (Ch OM ρ ρ4 w (w4.setCell ⟨fb,1,none⟩ (.slice a4 (nu+1) c4))):=C0.out.trans (c2.mono fun r hr=>by unfold OM;omega)
     have N2:Hid (∀ k,ρ4 k≠9):=n9_step hc4 N0.out (fun q hq=>hf4 q (by simpa using hq)) (by decide)
     have X2:=zh (c2.keep X0.out (by rw [Q0.out];decide))
     have Q2:Hid (ρ4 w.heap.size=0):=(c2.keepRole X0.out).trans Q0.out
     clear hr4 hc4 hf4 y0 c2 z1 R1 F0 F1 S0 C0 N0 Z0 X1 B2 X0 Q0
     go_upto_region 22 with fail
     obtain⟨V9,hV9⟩:∃ X,X=w4.setCell ⟨fb,1,none⟩ (.slice a4 (nu+1) c4):=⟨_,rfl⟩
     rw [← hV9] at F2 S2 C2 X2
     try rw [← hV9]
     clear hV9 t0 t3
     have B2:Hid (Below V9.heap.size V9 (V9.alloc (Obj.cells #[.slice none 0 0] 40))):=(Below.refl _ _).alloc (Nat.le_refl _) _
     have X1:=zh (show (V9.alloc (Obj.cells #[.slice none 0 0] 40)).heap[V9.heap.size]?=some (.cells #[.slice none 0 0] 40 (0,0)) from heap_alloc_new V9 _)
     have F1:=zh (F2.out.below B2.out C2.out.fresh)
     have z2:V9.cell? ⟨fb,2,none⟩=some (.slice na2 nu nc2):=F2.out.cell 2 _ rfl
     have R1:Hid (RR (V9.alloc (Obj.cells #[.slice none 0 0] 40)) ρ4 5 40 1 (.slice na2 nu nc2) nu ns):=by have:=F1.out.next;rw [show ({ st with uses:=st.uses++[acc] }:St).next.length=nu from HNX.out] at this;exact this
     go_wp2_with (at_builtin;refine wpList_append_rr rfl _ _ 39 rfl 40 i40 (.slice none 0 0) 1 24 Tryz.underlying39 HI40.out.1 HI40.out.2.1 HI40.out.2.2.1 HI40.out.2.2.2 rfl (by decide) ρ4 5 (.slice na2 nu nc2) nu ns rfl R1.out (fun k hk=>C2.out.fresh k (Nat.le_trans B2.out.size hk)) ⟨V9.heap.size,0,none⟩ 1 1 [.slice none 0 0] rfl rfl (news1' X1.out) (fun u hu=>one1 rfl hu) NB.out.1 NB.out.2 ?_)
     intro a5 c5 w5 ρ5 hr5 hc5 hf5
     have y0:=hc5.keep F1.out.obj (by rw [F1.out.role];decide)
     have t0:w5.cell? ⟨fb,2,none⟩=some (.slice na2 nu nc2):=by rw [cell_of_row _ _ 2 _ _ _ y0];rfl
     have t3:w5.frozen? ⟨fb,2,none⟩=false:=frozen_of_row _ _ 2 _ _ y0
     have c2:Ch (fun q=>q=5∨q=2) ρ4 ρ5 V9 (w5.setCell ⟨fb,2,none⟩ (.slice a5 (nu+1) c5)):=((Ch.of_below (M:=fun q=>q=5∨q=2) B2.out C2.out.fresh).trans (ch_put hc5 F1.out.lt F1.out.role))
     have F3:=zh (F1.out.putNext (v' := .slice a5 (nu+1) c5) hc5 (by rw [show ({ st with uses:=st.uses++[acc] }:St).next.length=nu from HNX.out];exact hr5))
     have ND:Hid (NdV w ρ fb (st.node acc) sc (.pointer sca) w.heap.size #[.int .i64 k,.string nm,.string op,.int .i64 num,.int .i64 site,.slice xa ng xc,.slice aa na ca,.slice ab nb cb] ρ5 (w5.setCell ⟨fb,2,none⟩ (.slice a5 (nu+1) c5))) :=
      ⟨⟨_,_,_,_,_,_,_,_,_,_,F3.out⟩,C2.out.trans (c2.mono fun r hr=>by unfold OM;omega),n9_step hc5 N2.out (fun q hq=>hf5 q (by simpa using hq)) (by decide),ScR.keep c2 (by decide) S2.out,c2.keep X2.out (by rw [Q2.out];decide),(c2.keepRole X2.out).trans Q2.out⟩
     have BL:=zh (BAL.out.node acc)
     have UL:Hid ((st.node acc).uses.length=nu+1):=by show (st.uses++[acc]).length=_;rw [List.length_append,← HNU.out];rfl
     clear hr5 hc5 hf5 y0 c2 z2 R1 F1 F2 F3 S2 C2 N2 X2 Q2 X1 B2 HNX
     go_upto_region 23 with fail
     obtain⟨V,hV⟩:∃ X,X=w5.setCell ⟨fb,2,none⟩ (.slice a5 (nu+1) c5):=⟨_,rfl⟩
     rw [← hV] at ND
     try rw [← hV]
     clear hV t0 t3
     obtain⟨S1,hS1⟩:∃ s,s=st.node acc:=⟨_,rfl⟩
     rw [← hS1] at RR1 ND BL UL
     have N1:Hid (S1.next[nu]?=some []):=by
      show _=_
      rw [hS1]
      show (st.next++[[]])[nu]?=_
      rw [show nu=st.next.length from by have:=BAL.out.next;have:=HNU.out;omega,List.getElem?_append_right (Nat.le_refl _),Nat.sub_self];rfl
     have SZ1:Hid (S1.uses.length+sizes e.kids≤20000):=by show _≤_;have h1:=UL.out;have h2:=HSZ.out;have h3:=e.size_kids;have h4:=HNU.out;omega
     have z7:V.cell? ⟨w.heap.size,7,none⟩=some (.slice ab nb cb):=by rw [cell_of_row _ _ 7 _ _ _ ND.out.box];rfl
     have z6:V.cell? ⟨w.heap.size,6,none⟩=some (.slice aa na ca):=by rw [cell_of_row _ _ 6 _ _ _ ND.out.box];rfl
     have z1:V.cell? ⟨w.heap.size,1,none⟩=some (.string nm):=by rw [cell_of_row _ _ 1 _ _ _ ND.out.box];rfl
     clear hS1
     by_cases hb:0<nb
     ·have hbz:(0:Int)<nb:=by omega
      have hbd:decide ((0:Int)<nb)=true:=by simp;omega
      obtain⟨gb,ob,rfl,htb⟩:=HBO.out hb
      obtain⟨e1,he1,hkids⟩:∃ e1,TB.nth e.body 0=some e1∧e.kids=[([e.name],e1)]:=by
       have h1:=N16.out.2
       have h2:=HNB.out
       have hok:=nodeOk_iff.1 OK.out
       have harm:e.arms.length=0:=by
        have h3:=hok.2.2.2
        have h4:=hok.2.1
        by_cases h6:e.kind≤6
        ·rw [if_neg (by omega)] at h3;exact h3
        ·rw [if_neg h6] at h4;omega
       obtain⟨kk,n0,xs,arms,body⟩:=e
       cases body with
       | nil=>simp [TE.body,TB.length] at h2;omega
       | cons e1 r =>
        cases r with
        | nil =>
         cases arms with
         | nil=>exact⟨e1,rfl,rfl⟩
         | cons vs e2 r2=>simp [TE.arms,TA.length] at harm
        | cons e2 r2=>simp [TE.body,TB.length] at h2;omega
      have HK:=zh hkids
      have T1:=TBAt.nth e.body gb ob 0 e1 htb he1
      obtain⟨op1,num1,site1,xa1,aa1,ab1,xc1,ca1,cb1,hcs,hx1⟩:=T1.cells
      rw [Nat.zero_mul,Nat.add_zero] at hcs
      have CS:=zh hcs
      have HX1:=zh hx1
      have HS1:Hid (e1.size≤N∧S1.uses.length+e1.size≤20000):=by
       have h1:=e.size_kids
       have h2:=SZ1.out
       have h3:=HNN.out
       rw [HK.out,sizes_cons,sizes_nil] at h1 h2
       simp only [] at h1 h2
       show _∧_;omega
      have BA:Hid (Below V.heap.size V (V.alloc (Obj.cells #[.string nm] 9))):=(Below.refl _ _).alloc (Nat.le_refl _) _
      have NA:=zh (ND.out.below BA.out)
      have BD:=zh (rbind_any (names:=[nm]) (of:=(nu:Int)) NA.out.fl NA.out.ch.fresh NA.out.nine (ZA.lit V (.string nm) 9 (ND.out.ch.fresh _ (Nat.le_refl _))) (by simp) NA.out.scp (by have h1:=BL.out.vars;have h2:=BL.out.binds;have h3:=UL.out;omega) (by have h2:=BL.out.binds;have h3:=UL.out;omega) BL.out.binds.symm)
      have BL1:=zh (BL.out.bind (bs:=[nm]) (by simp) nu)
      clear hb htb he1 hkids T1 hcs hx1 z6 hbd
      go_wp2_with fail
      refine BD.out.mono ?_
      rintro en w6 ⟨ρ6,pa,rfl,hc6,h96,hf6,hs6⟩
      have ND6:=zh (NA.out.next (hc6.mono fun r=>BM.om) hf6 h96)
      have SC6:=zh hs6
      obtain⟨sv,su,sn,sb,sa,so,us,ns,bs,os,hf⟩:=hf6
      have FL6:=zh hf
      clear hc6 h96 hs6 hf BD NA ND z1 z7
      have BL1x:Hid (Bal1 (S1.bind [nm])):=⟨by show (S1.binds++[_]).length=S1.uses.length+1;rw [List.length_append,BL.out.binds];rfl,BL.out.next,by have h1:=BL.out.vars;show (S1.vars++[nm]).length≤16*(S1.binds++[_]).length;rw [List.length_append,List.length_append];simp;omega⟩
      obtain⟨na3,nc3,hsn⟩:=FL6.out.next.shape
      obtain⟨nbb,hnbb⟩:∃ n,n=(S1.bind [nm]).binds.length:=⟨_,rfl⟩
      obtain⟨ba3,bc3,hsb⟩:=FL6.out.binds.shape
      rw [← hnbb] at hsb
      subst hsb
      have HNBB:=zh hnbb
      have hnx3:(S1.bind [nm]).next.length=(S1.bind [nm]).uses.length:=BL1x.out.next
      obtain⟨l3,hl3,hl3len⟩:∃ l,(S1.bind [nm]).next[nu]?=some l∧l.length≤16:=⟨[],by show S1.next[nu]?=_;exact N1.out,by simp⟩
      have hnu3:=(List.getElem?_eq_some_iff.1 hl3).1
      obtain⟨g5,c5b,hsn2,hg5,hg5lt,hc5,hfz5⟩:=FL6.out.next.full (by omega)
      have NE:=hsn2
      obtain⟨nn3,hnn3⟩:∃ n,n=(S1.bind [nm]).next.length:=⟨_,rfl⟩
      rw [← hnn3] at hsn2 NE
      subst hsn2
      have HNE:=zh NE
      obtain⟨v3,hv3,hr3⟩:=FL6.out.nextAt nu l3 hl3
      have z11:=hc5 nu _ hv3
      have fz:=hfz5 nu
      obtain⟨la3,lc3,hlv⟩:=hr3.shape
      subst hlv
      have hnuz3:(nu:Int)<nn3:=by omega
      have hnu0:(0:Int)≤nu:=by omega
      have hnbb1:1≤nbb:=by rw [hnbb];show 1≤(_++[_]).length;rw [List.length_append];simp
      have hbb1:(1:Int)≤nbb:=by omega
      have hbb2:(nbb:Int)≤100000:=by
       have h1:(S1.bind [nm]).binds.length=(S1.bind [nm]).uses.length+1:=BL1x.out.binds
       have h2:=HS1.out
       have h3:(S1.bind [nm]).uses.length≤20000:=by have:(S1.bind [nm]).uses.length=S1.uses.length:=rfl;omega
       omega
      have hwb:IntKind.i64.wrap ((nbb:Int) - 1)=(nbb:Int) - 1:=Lx.wrap_in _ (by omega)
      have e3:((nbb:Int) - 1)=((nbb - 1:Nat):Int):=by omega
      have E3:=zh e3
      have hl3z:(l3.length:Int)≤16:=by omega
      obtain⟨n3,hn3⟩:∃ n,n=l3.length:=⟨_,rfl⟩
      rw [← hn3] at z11 hl3z
      have HN3:=zh hn3
      have H5:=zh (And.intro hg5 hg5lt)
      have HL3:=zh hl3
      have z2:w6.cell? ⟨fb,2,none⟩=some (.slice (some ⟨g5,0,none⟩) nn3 c5b):=FL6.out.cell 2 _ rfl
      have hb1:fb<w6.heap.size:=World.block_lt_of_cell? w6 _ z2
      have hb2:g5<w6.heap.size:=hg5lt
      have z3:w6.cell? ⟨fb,3,none⟩=some (.slice ba3 nbb bc3):=FL6.out.cell 3 _ rfl
      have B7:Hid (Below w6.heap.size w6 ((w6.alloc (Obj.cells #[.int .i64 ((nbb:Int) - 1)] 3)).drew)):=((Below.refl _ _).alloc (Nat.le_refl _) _).drew
      have X7:=zh (show ((w6.alloc (Obj.cells #[.int .i64 ((nbb:Int) - 1)] 3)).drew).heap[w6.heap.size]?=some (.cells #[.int .i64 ((nbb:Int) - 1)] 3 (0,0)) from heap_alloc_new w6 (.cells #[.int .i64 ((nbb:Int) - 1)] 3))
      have F7:=zh (FL6.out.below B7.out ND6.out.ch.fresh)
      have R7:Hid (RR ((w6.alloc (Obj.cells #[.int .i64 ((nbb:Int) - 1)] 3)).drew) ρ6 (10+nu) 3 1 (.slice la3 n3 lc3) n3 (nats l3)):=by
       have h1:=hr3.keep (Ch.of_below (M:=fun _=>False) B7.out ND6.out.ch.fresh) id
       rw [hn3];exact h1
      have NB7:Hid (n3+1≤maxLen∧(n3+1)*8≤140737488355328):=by show _∧_;simp only [maxLen];omega
      clear hsn hnbb hnx3 hl3 hl3len hnu3 hg5 hg5lt hc5 hfz5 NE hnn3 hv3 hr3 hn3 e3
      go_wp2_with fail
      refine wp_region_held_drew (S:=(fun w'=>w'.cell? ⟨fb,2,none⟩=some (.slice (some ⟨g5,0,none⟩) nn3 c5b)∧w'.cell? ⟨fb,3,none⟩=some (.slice ba3 nbb bc3))) (by kernel_rfl) ⟨z2,z3⟩ (fun hHeld=>?_)
      obtain⟨k0,k1⟩:=hHeld
      refine wpAnyH_take (i:=0) (v:=?_) rfl (by kernel_rfl) (by kernel_rfl) (by kernel_rfl) (fun _ _ _ h=>h) (Or.inl ⟨by rfl,?_⟩) ⟨k0,k1⟩ ?_
      rotate_left
      ·(intro wz hSw;obtain⟨zk0,zk1⟩:=hSw;(try simp only [zq1,zq2,zq3]);go_simp;try with_reducible rfl)
      try simp only [Act.put,zq1,zq2,zq3,zq4,zq5,zq6]
      refine wpAnyH_take (i:=1) (v:=?_) rfl (by kernel_rfl) (by kernel_rfl) (by kernel_rfl) (fun _ _ _ h=>h) (Or.inl ⟨by rfl,?_⟩) ⟨k0,k1⟩ ?_
      rotate_left
      ·(intro wz hSw;obtain⟨zk0,zk1⟩:=hSw;(try simp only [zq1,zq2,zq3]);go_simp;try with_reducible rfl)
      try simp only [Act.put,zq1,zq2,zq3,zq4,zq5,zq6]
      refine wpAnyH_take (i:=2) (v:=?_) rfl (by kernel_rfl) (by kernel_rfl) (by kernel_rfl) (fun _ _ _ h=>h) (Or.inl ⟨by rfl,?_⟩) ⟨k0,k1⟩ ?_
      rotate_left
      ·(intro wz hSw;obtain⟨zk0,zk1⟩:=hSw;(try simp only [zq1,zq2,zq3]);go_simp;try with_reducible rfl)
      try simp only [Act.put,zq1,zq2,zq3,zq4,zq5,zq6]
      refine wpAnyH_take (i:=3) (v:=?_) rfl (by kernel_rfl) (by kernel_rfl) (by kernel_rfl) (fun _ _ _ h=>h) (Or.inl ⟨by rfl,?_⟩) ⟨k0,k1⟩ ?_
      rotate_left
      ·(intro wz hSw;obtain⟨zk0,zk1⟩:=hSw;(try simp only [zq1,zq2,zq3]);go_simp;try with_reducible rfl)
      try simp only [Act.put,zq1,zq2,zq3,zq4,zq5,zq6]
      refine wpAnyH_take (i:=4) (v:=?_) rfl (by kernel_rfl) (by kernel_rfl) (by kernel_rfl) (fun _ _ _ h=>h) (Or.inl ⟨by rfl,?_⟩) ⟨k0,k1⟩ ?_
      rotate_left
      ·(intro wz hSw;obtain⟨zk0,zk1⟩:=hSw;(try simp only [zq1,zq2,zq3]);go_simp;try with_reducible rfl)
      try simp only [Act.put,zq1,zq2,zq3,zq4,zq5,zq6]
      refine wpAnyH_take (i:=5) (v:=?_) rfl (by kernel_rfl) (by kernel_rfl) (by kernel_rfl) (fun _ _ _ h=>h) (Or.inl ⟨by rfl,?_⟩) ⟨k0,k1⟩ ?_
      rotate_left
      ·(intro wz hSw;obtain⟨zk0,zk1⟩:=hSw;(try simp only [zq1,zq2,zq3]);go_simp;try with_reducible rfl)
      try simp only [Act.put,zq1,zq2,zq3,zq4,zq5,zq6]
      refine wpAnyH_take (i:=6) (v:=?_) rfl (by kernel_rfl) (by kernel_rfl) (by kernel_rfl) (fun _ _ _ h=>h) (Or.inl ⟨by rfl,?_⟩) ⟨k0,k1⟩ ?_
      rotate_left
      ·(intro wz hSw;obtain⟨zk0,zk1⟩:=hSw;(try simp only [zq1,zq2,zq3]);go_simp;try with_reducible rfl)
      try simp only [Act.put,zq1,zq2,zq3,zq4,zq5,zq6]
      refine wpAnyH_take (i:=7) (v:=?_) rfl (by kernel_rfl) (by kernel_rfl) (by kernel_rfl) (fun _ _ _ h=>h) (Or.inl ⟨by rfl,?_⟩) ⟨k0,k1⟩ ?_
      rotate_left
      ·(intro wz hSw;obtain⟨zk0,zk1⟩:=hSw;(try simp only [zq1,zq2,zq3]);go_simp;try with_reducible rfl)
      try simp only [Act.put,zq1,zq2,zq3,zq4,zq5,zq6]
      refine wpAnyH_take (i:=8) (v:=?_) rfl (by kernel_rfl) (by kernel_rfl) (by kernel_rfl) (fun _ _ _ h=>h) (Or.inl ⟨by rfl,?_⟩) ⟨k0,k1⟩ ?_
      rotate_left
      ·(intro wz hSw;obtain⟨zk0,zk1⟩:=hSw;(try simp only [zq1,zq2,zq3]);go_simp;try with_reducible rfl)
      try simp only [Act.put,zq1,zq2,zq3,zq4,zq5,zq6]
      refine wpAnyH_take (i:=9) (v:=?_) rfl (by kernel_rfl) (by kernel_rfl) (by kernel_rfl) (fun _ _ _ h=>h) (Or.inl ⟨by rfl,?_⟩) ⟨k0,k1⟩ ?_
      rotate_left
      ·(intro wz hSw;obtain⟨zk0,zk1⟩:=hSw;(try simp only [zq1,zq2,zq3]);go_simp;try with_reducible rfl)
      try simp only [Act.put,zq1,zq2,zq3,zq4,zq5,zq6]
      refine wpAnyH_take (i:=10) (v:=?_) rfl (by kernel_rfl) (by kernel_rfl) (by kernel_rfl) (fun _ _ _ h=>h) (Or.inl ⟨by rfl,?_⟩) ⟨k0,k1⟩ ?_
      rotate_left
      ·(intro wz hSw;obtain⟨zk0,zk1⟩:=hSw;(try simp only [zq1,zq2,zq3]);go_simp;try with_reducible rfl)
      try simp only [Act.put,zq1,zq2,zq3,zq4,zq5,zq6]
      refine wpAnyH_take (i:=12) (v:=?_) rfl (by kernel_rfl) (by kernel_rfl) (by kernel_rfl) (fun _ _ _ h=>h) (Or.inl ⟨by rfl,?_⟩) ⟨k0,k1⟩ ?_
      rotate_left
      ·(intro wz hSw;obtain⟨zk0,zk1⟩:=hSw;(try simp only [zq1,zq2,zq3]);go_simp;try with_reducible rfl)
      try simp only [Act.put,zq1,zq2,zq3,zq4,zq5,zq6]
      refine wpAnyH_take (i:=13) (v:=?_) rfl (by kernel_rfl) (by kernel_rfl) (by kernel_rfl) (fun _ _ _ h=>h) (Or.inl ⟨by rfl,?_⟩) ⟨k0,k1⟩ ?_
      rotate_left
      ·(intro wz hSw;obtain⟨zk0,zk1⟩:=hSw;(try simp only [zq1,zq2,zq3]);go_simp;try with_reducible rfl)
      try simp only [Act.put,zq1,zq2,zq3,zq4,zq5,zq6]
      refine wpAnyH_take (i:=14) (v:=?_) rfl (by kernel_rfl) (by kernel_rfl) (by kernel_rfl) (fun _ _ _ h=>h) (Or.inl ⟨by rfl,?_⟩) ⟨k0,k1⟩ ?_
      rotate_left
      ·(intro wz hSw;obtain⟨zk0,zk1⟩:=hSw;(try simp only [zq1,zq2,zq3]);go_simp;try with_reducible rfl)
      try simp only [Act.put,zq1,zq2,zq3,zq4,zq5,zq6]
      refine wpAnyH_take (i:=15) (v:=?_) rfl (by kernel_rfl) (by kernel_rfl) (by kernel_rfl) (fun _ _ _ h=>h) (Or.inl ⟨by rfl,?_⟩) ⟨k0,k1⟩ ?_
      rotate_left
      ·(intro wz hSw;obtain⟨zk0,zk1⟩:=hSw;(try simp only [zq1,zq2,zq3]);go_simp;try with_reducible rfl)
      try simp only [Act.put,zq1,zq2,zq3,zq4,zq5,zq6]
      refine wpAnyH_take (i:=16) (v:=?_) rfl (by kernel_rfl) (by kernel_rfl) (by kernel_rfl) (fun _ _ _ h=>h) (Or.inl ⟨by rfl,?_⟩) ⟨k0,k1⟩ ?_
      rotate_left
      ·(intro wz hSw;obtain⟨zk0,zk1⟩:=hSw;(try simp only [zq1,zq2,zq3]);go_simp;try with_reducible rfl)
      try simp only [Act.put,zq1,zq2,zq3,zq4,zq5,zq6]
      refine wpAnyH_take (i:=17) (v:=?_) rfl (by kernel_rfl) (by kernel_rfl) (by kernel_rfl) (fun _ _ _ h=>h) (Or.inl ⟨by rfl,?_⟩) ⟨k0,k1⟩ ?_
      rotate_left
      ·(intro wz hSw;obtain⟨zk0,zk1⟩:=hSw;(try simp only [zq1,zq2,zq3]);go_simp;try with_reducible rfl)
      try simp only [Act.put,zq1,zq2,zq3,zq4,zq5,zq6]
      refine wpAnyH_ready (rs:=[11,18]) (by kernel_rfl) (by simp) ?_
      refine AllReadyH.cons rfl (fun K hK=>?_) (AllReadyH.cons rfl (fun K hK=>?_) AllReadyH.nil)
      ·try simp only [zq1,zq2,zq3]
       go_simp
       refine hK.out _ _ ?hs (fun hHeld=>?_)
       case hs=>exact⟨k0,k1⟩
       clear hK K k0 k1
       obtain⟨k0,k1⟩:=hHeld
       try simp only [Act.put,zq1,zq2,zq3,zq4,zq5,zq6]
       refine wpAnyH_ready (rs:=[18]) (by kernel_rfl) (by simp) ?_
       refine AllReadyH.cons rfl (fun K hK=>?_) AllReadyH.nil
       try simp only [zq1,zq2,zq3]
       go_simp
       refine hK.out _ _ ?hs (fun hHeld=>?_)
       case hs=>first | exact⟨Lib.cell?_alloc_some _ k0,Lib.cell?_alloc_some _ k1⟩ | go_keep
       clear hK K k0 k1
       obtain⟨k0,k1⟩:=hHeld
       try simp only [Act.put,zq1,zq2,zq3,zq4,zq5,zq6]
       refine wpAnyH_ready (rs:=[19]) (by kernel_rfl) (by simp) ?_
       refine AllReadyH.cons rfl (fun K hK=>?_) AllReadyH.nil
       refine step_append_rr rfl _ _ 40 rfl 3 i3 (.int .i64 0) 1 8 Tryz.underlying40 HI3.out.1 HI3.out.2.1 HI3.out.2.2.1 HI3.out.2.2.2 rfl (by decide) ρ6 (10+nu) (.slice la3 n3 lc3) n3 (nats l3) rfl R7.out (fun k hk=>ND6.out.ch.fresh k (Nat.le_trans B7.out.size hk)) ⟨w6.heap.size,0,none⟩ 1 1 [.int .i64 ((nbb:Int) - 1)] rfl rfl (news1' X7.out) (fun u hu=>one1 rfl hu) NB7.out.1 NB7.out.2 ?_
       intro a8 c8 w8 ρ8 hr8 hc8 hf8
       have y0:=hc8.keep F7.out.obj (by rw [F7.out.role];omega)
       have t0:w8.cell? ⟨fb,2,none⟩=some (.slice (some ⟨g5,0,none⟩) nn3 c5b):=by rw [cell_of_row _ _ 2 _ _ _ y0];rfl
       have t1:w8.cell? ⟨fb,3,none⟩=some (.slice ba3 nbb bc3):=by rw [cell_of_row _ _ 3 _ _ _ y0];rfl
       have t2:w8.cell? ⟨g5,nu,none⟩=some (.slice la3 n3 lc3):=hc8.cell (kept_below B7.out _ _ z11) (by show ¬ (ρ6 g5=10+nu);rw [H5.out.1];omega)
       have t3:w8.frozen? ⟨g5,nu,none⟩=false:=(World.frozen?_of_block (a:=⟨g5,nu,none⟩) ((hc8.block g5 (Nat.lt_of_lt_of_le H5.out.2 B7.out.size) (by show ¬ (ρ6 g5=10+nu);rw [H5.out.1];omega)).trans (B7.out.block g5 H5.out.2))).trans fz
       have hg5f:fb≠g5:=by intro hh;have h1:=F7.out.role;rw [hh] at h1;rw [H5.out.1] at h1;omega
       have N8:=zh (ND6.out.link FL6.out rfl rfl HL3.out rfl B7.out hc8 (by rw [← HN3.out,← E3.out];exact hr8) (fun q hq=>hf8 q (by simpa using hq)) (x:=nbb - 1) (by rw [← HNBB.out]))
       have S8:Hid (ScR (w8.setCell ⟨g5,nu,none⟩ (.slice a8 (n3+1) c8)) ρ8 (scope S1.vars.length [nm] sc) (.pointer pa)):=ScR.keep (M:=OM) (((Ch.of_below (M:=OM) B7.out ND6.out.ch.fresh).trans (hc8.mono fun r hr=>by unfold OM;omega)).setCell _ _ fun _=>by show OM (ρ6 g5);rw [H5.out.1];unfold OM;omega) OM.no0 SC6.out
       clear hr8 hc8 hf8 y0
       (try simp only [])
       refine hK.out _ _ ?hs (fun hHeld=>?_)
       case hs=>exact⟨t0,t1⟩
       clear hK K k0 k1
       obtain⟨k0,k1⟩:=hHeld
       try simp only [Act.put,zq1,zq2,zq3,zq4,zq5,zq6]
       refine wpAnyH_take (i:=20) (v:=?_) rfl (by kernel_rfl) (by kernel_rfl) (by kernel_rfl) (fun _ _ _ h=>h) (Or.inl ⟨by rfl,?_⟩) ⟨k0,k1⟩ ?_
       rotate_left
       ·(intro wz hSw;obtain⟨zk0,zk1⟩:=hSw;(try simp only [zq1,zq2,zq3]);go_simp;try with_reducible rfl)
       try simp only [Act.put,zq1,zq2,zq3,zq4,zq5,zq6]
       refine wpAnyH_ready (rs:=[21]) (by kernel_rfl) (by simp) ?_
       refine AllReadyH.cons rfl (fun K hK=>?_) AllReadyH.nil
       try simp only [zq1,zq2,zq3]
       go_simp
       refine hK.out _ _ ?hs (fun hHeld=>?_)
       case hs=>(refine⟨?_,?_⟩<;>(rw [World.cell?_setCell_far _ _ _ _ hg5f.symm];assumption))
       clear hK K hHeld k0 k1
       refine wpAnyH_done (by kernel_rfl) ?_ _
       obtain⟨V8,hV8⟩:∃ X,X=w8.setCell ⟨g5,nu,none⟩ (.slice a8 (n3+1) c8):=⟨_,rfl⟩
       rw [← hV8] at N8 S8
       try rw [← hV8]
       clear hV8 t0 t1 t2 t3 hg5f z2 z3 z11 fz F7 R7 B7 X7 FL6 ND6 SC6
       have LOW:=zh (N8.out.low HB.out HW.out)
       have z7:V8.cell? ⟨w.heap.size,7,none⟩=some (.slice (some ⟨gb,ob,none⟩) nb cb):=by rw [cell_of_row _ _ 7 _ _ _ N8.out.box];rfl
       obtain⟨q0,q1,q2,q3,q4,q5,q6,q7⟩:=CS.out.kept (kept_below LOW.out.1)
       have CB:=zh (IH.out e1 HS1.out.1 (op:=op1) (num:=num1) (site:=site1) (ca:=ca1) (cb:=cb1) HX1.out LOW.out.1 LOW.out.2 N8.out.fl N8.out.ch.fresh N8.out.nine S8.out BL1.out HS1.out.2)
       have RF1:Hid (R=bodyR e1 (scope S1.vars.length [nm] sc) ((S1.bind [nm]).link nu)):=by
        show _=_
        rw [RR1.out,HK.out,fR_cons,← HNM.out]
        cases bodyR e1 (scope S1.vars.length [nm] sc) ((S1.bind [nm]).link nu) with
        | none=>rfl
        | some st'=>rfl
       have i7:0<nb:=by omega
       go_wp2_with fail
       refine CB.out.mono ?_
       rintro en w9 ⟨ρ9,hc9,h99,rfl,hr9⟩
       have C9:Hid (Ch OM ρ ρ9 w w9):=N8.out.ch.trans hc9
       rw [← RF1.out]
       clear z7 q0 q1 q2 q3 q4 q5 q6 q7
       go_wp2_with fail
       go_ret
       exact⟨ρ9,C9.out,h99,rfl,fun st' h=>hr9 st' (by rw [← RF1.out];exact h)⟩
      ·try simp only [zq1,zq2,zq3]
       go_simp
       refine hK.out _ _ ?hs (fun hHeld=>?_)
       case hs=>first | exact⟨Lib.cell?_alloc_some _ k0,Lib.cell?_alloc_some _ k1⟩ | go_keep
       clear hK K k0 k1
       obtain⟨k0,k1⟩:=hHeld
       try simp only [Act.put,zq1,zq2,zq3,zq4,zq5,zq6]
       refine wpAnyH_ready (rs:=[11]) (by kernel_rfl) (by simp) ?_
       refine AllReadyH.cons rfl (fun K hK=>?_) AllReadyH.nil
       try simp only [zq1,zq2,zq3]
       go_simp
       refine hK.out _ _ ?hs (fun hHeld=>?_)
       case hs=>exact⟨k0,k1⟩
       clear hK K k0 k1
       obtain⟨k0,k1⟩:=hHeld
       try simp only [Act.put,zq1,zq2,zq3,zq4,zq5,zq6]
       refine wpAnyH_ready (rs:=[19]) (by kernel_rfl) (by simp) ?_
       refine AllReadyH.cons rfl (fun K hK=>?_) AllReadyH.nil
       refine step_append_rr rfl _ _ 40 rfl 3 i3 (.int .i64 0) 1 8 Tryz.underlying40 HI3.out.1 HI3.out.2.1 HI3.out.2.2.1 HI3.out.2.2.2 rfl (by decide) ρ6 (10+nu) (.slice la3 n3 lc3) n3 (nats l3) rfl R7.out (fun k hk=>ND6.out.ch.fresh k (Nat.le_trans B7.out.size hk)) ⟨w6.heap.size,0,none⟩ 1 1 [.int .i64 ((nbb:Int) - 1)] rfl rfl (news1' X7.out) (fun u hu=>one1 rfl hu) NB7.out.1 NB7.out.2 ?_
       intro a8 c8 w8 ρ8 hr8 hc8 hf8
       have y0:=hc8.keep F7.out.obj (by rw [F7.out.role];omega)
       have t0:w8.cell? ⟨fb,2,none⟩=some (.slice (some ⟨g5,0,none⟩) nn3 c5b):=by rw [cell_of_row _ _ 2 _ _ _ y0];rfl
       have t1:w8.cell? ⟨fb,3,none⟩=some (.slice ba3 nbb bc3):=by rw [cell_of_row _ _ 3 _ _ _ y0];rfl
       have t2:w8.cell? ⟨g5,nu,none⟩=some (.slice la3 n3 lc3):=hc8.cell (kept_below B7.out _ _ z11) (by show ¬ (ρ6 g5=10+nu);rw [H5.out.1];omega)
       have t3:w8.frozen? ⟨g5,nu,none⟩=false:=(World.frozen?_of_block (a:=⟨g5,nu,none⟩) ((hc8.block g5 (Nat.lt_of_lt_of_le H5.out.2 B7.out.size) (by show ¬ (ρ6 g5=10+nu);rw [H5.out.1];omega)).trans (B7.out.block g5 H5.out.2))).trans fz
       have hg5f:fb≠g5:=by intro hh;have h1:=F7.out.role;rw [hh] at h1;rw [H5.out.1] at h1;omega
       have N8:=zh (ND6.out.link FL6.out rfl rfl HL3.out rfl B7.out hc8 (by rw [← HN3.out,← E3.out];exact hr8) (fun q hq=>hf8 q (by simpa using hq)) (x:=nbb - 1) (by rw [← HNBB.out]))
       have S8:Hid (ScR (w8.setCell ⟨g5,nu,none⟩ (.slice a8 (n3+1) c8)) ρ8 (scope S1.vars.length [nm] sc) (.pointer pa)):=ScR.keep (M:=OM) (((Ch.of_below (M:=OM) B7.out ND6.out.ch.fresh).trans (hc8.mono fun r hr=>by unfold OM;omega)).setCell _ _ fun _=>by show OM (ρ6 g5);rw [H5.out.1];unfold OM;omega) OM.no0 SC6.out
       clear hr8 hc8 hf8 y0
       (try simp only [])
       refine hK.out _ _ ?hs (fun hHeld=>?_)
       case hs=>exact⟨t0,t1⟩
       clear hK K k0 k1
       obtain⟨k0,k1⟩:=hHeld
       try simp only [Act.put,zq1,zq2,zq3,zq4,zq5,zq6]
       refine wpAnyH_take (i:=20) (v:=?_) rfl (by kernel_rfl) (by kernel_rfl) (by kernel_rfl) (fun _ _ _ h=>h) (Or.inl ⟨by rfl,?_⟩) ⟨k0,k1⟩ ?_
       rotate_left
       ·(intro wz hSw;obtain⟨zk0,zk1⟩:=hSw;(try simp only [zq1,zq2,zq3]);go_simp;try with_reducible rfl)
       try simp only [Act.put,zq1,zq2,zq3,zq4,zq5,zq6]
       refine wpAnyH_ready (rs:=[21]) (by kernel_rfl) (by simp) ?_
       refine AllReadyH.cons rfl (fun K hK=>?_) AllReadyH.nil
       try simp only [zq1,zq2,zq3]
       go_simp
       refine hK.out _ _ ?hs (fun hHeld=>?_)
       case hs=>(refine⟨?_,?_⟩<;>(rw [World.cell?_setCell_far _ _ _ _ hg5f.symm];assumption))
       clear hK K hHeld k0 k1
       refine wpAnyH_done (by kernel_rfl) ?_ _
       obtain⟨V8,hV8⟩:∃ X,X=w8.setCell ⟨g5,nu,none⟩ (.slice a8 (n3+1) c8):=⟨_,rfl⟩
       rw [← hV8] at N8 S8
       try rw [← hV8]
       clear hV8 t0 t1 t2 t3 hg5f z2 z3 z11 fz F7 R7 B7 X7 FL6 ND6 SC6
       have LOW:=zh (N8.out.low HB.out HW.out)
       have z7:V8.cell? ⟨w.heap.size,7,none⟩=some (.slice (some ⟨gb,ob,none⟩) nb cb):=by rw [cell_of_row _ _ 7 _ _ _ N8.out.box];rfl
       obtain⟨q0,q1,q2,q3,q4,q5,q6,q7⟩:=CS.out.kept (kept_below LOW.out.1)
       have CB:=zh (IH.out e1 HS1.out.1 (op:=op1) (num:=num1) (site:=site1) (ca:=ca1) (cb:=cb1) HX1.out LOW.out.1 LOW.out.2 N8.out.fl N8.out.ch.fresh N8.out.nine S8.out BL1.out HS1.out.2)
       have RF1:Hid (R=bodyR e1 (scope S1.vars.length [nm] sc) ((S1.bind [nm]).link nu)):=by
        show _=_
        rw [RR1.out,HK.out,fR_cons,← HNM.out]
        cases bodyR e1 (scope S1.vars.length [nm] sc) ((S1.bind [nm]).link nu) with
        | none=>rfl
        | some st'=>rfl
       have i7:0<nb:=by omega
       go_wp2_with fail
       refine CB.out.mono ?_
       rintro en w9 ⟨ρ9,hc9,h99,rfl,hr9⟩
       have C9:Hid (Ch OM ρ ρ9 w w9):=N8.out.ch.trans hc9
       rw [← RF1.out]
       clear z7 q0 q1 q2 q3 q4 q5 q6 q7
       go_wp2_with fail
       go_ret
       exact⟨ρ9,C9.out,h99,rfl,fun st' h=>hr9 st' (by rw [← RF1.out];exact h)⟩
     ·have hbz:(nb:Int)≤0:=by omega
      have hbd:decide ((0:Int)<nb)=false:=by simp;omega
      have hbd2:decide (0<nb)=false:=by simp;omega
      have hkids:e.kids=e.arms.kids:=by
       obtain⟨kk,n0,xs,arms,body⟩:=e
       cases body with
       | nil=>rfl
       | cons e1 r=>have h2:=HNB.out;simp [TE.body,TB.length] at h2;omega
      have HK:=zh hkids
      have hnaz:(na:Int)≤16:=by
       have h3:=(nodeOk_iff.1 OK.out).2.2.2
       rw [← HNA.out] at h3
       split at h3<;>omega
      clear hb hkids z1
      go_wp2_with fail
      go_loopw [14] (fun iv wr=>∃ (i:Nat) (s1:St) (ρ6:Nat→Nat) (l:List Nat),i≤na∧iv = .int .i64 i∧NdV w ρ fb s1 sc (.pointer sca) w.heap.size #[.int .i64 k,.string nm,.string op,.int .i64 num,.int .i64 site,.slice xa ng xc,.slice aa na ca,.slice ab nb cb] ρ6 wr∧Bal s1∧s1.uses.length+sizes (e.arms.kids.drop i)≤20000∧fR nu sc (e.arms.kids.drop i) s1=R∧s1.next[nu]?=some l∧l.length≤i) (fun iv _=>na - (intOf iv).toNat)
      case atStart=>exact⟨0,S1,ρ5,[],Nat.zero_le _,rfl,ND.out,BL.out,by rw [List.drop_zero,← HK.out];exact SZ1.out,by rw [List.drop_zero,← HK.out];exact RR1.out.symm,N1.out,Nat.le_refl _⟩
      case round =>
       rename World=>V
       obtain⟨i2,s1,ρ6,l,hi2,rfl,hnd,hbl,hsz,hfr,hnx,hll⟩:=hrel
       have KI2:=zh hi2
       have KN:=zh hnd
       have KBL:=zh hbl
       have KSZ:=zh hsz
       have KFR:=zh hfr
       have KNX:=zh hnx
       have KLL:=zh hll
       clear z6
       have z6:V.cell? ⟨w.heap.size,6,none⟩=some (.slice aa na ca):=by rw [cell_of_row _ _ 6 _ _ _ hnd.box];rfl
       have LOW:=zh (hnd.low HB.out HW.out)
       clear hi2 hnd hbl hsz hfr hnx hll
       by_cases hlt2:i2<na
       ·have hlz2:(i2:Int)<na:=by omega
        have hi20:(0:Int)≤i2:=by omega
        have HLT2:=zh hlt2
        obtain⟨ga,oa,rfl,hta⟩:=HAR.out (by omega)
        obtain⟨⟨vs,e1⟩,hp⟩:∃ p,e.arms.kids[i2]?=some p:=⟨_,List.getElem?_eq_getElem (by rw [TA.kids_length,← HNA.out];exact hlt2)⟩
        obtain⟨⟨con,vv,y0,y1,hst⟩,T1⟩:=TAAt.nth e.arms ga oa i2 vs e1 hta (by rw [← TA.nth_kids];exact hp)
        obtain⟨op1,num1,site1,xa1,aa1,ab1,xc1,ca1,cb1,hcs,hx1⟩:=T1.cells
        have CS:=zh hcs
        have HX1:=zh hx1
        have y1:=kept_below LOW.out.1 _ _ y1
        have ZV:Hid (ZA V ρ6 vv vs.length (strs vs)):=ZA.of_sl hst LOW.out.1 LOW.out.2
        obtain⟨_,sa1,sc1,rfl,_⟩:=hst
        have V16:Hid (vs.length≤16):=nodeOk_kids OK.out (vs,e1) (by rw [HK.out];exact List.mem_of_getElem? hp)
        have hsd:=sizes_drop hp
        simp only [] at hsd
        have HS1:Hid (e1.size≤N∧s1.uses.length+e1.size+sizes (e.arms.kids.drop (i2+1))≤20000):=by
         have h1:=e.size_kids
         have h3:=HNN.out
         have h4:=KSZ.out
         have h5:=sizes_append (e.arms.kids.take i2) (e.arms.kids.drop i2)
         rw [List.take_append_drop] at h5
         rw [HK.out] at h1
         show _∧_;omega
        have FRN:Hid (R=match bodyR e1 (scope s1.vars.length vs sc) ((s1.bind vs).link nu) with
          | none=>none
          | some st'=>fR nu sc (e.arms.kids.drop (i2+1)) st'):=by show _=_;rw [← KFR.out,fR_at hp];rfl
        have BD:=zh (rbind_any (names:=vs) (of:=(nu:Int)) KN.out.fl KN.out.ch.fresh KN.out.nine ZV.out V16.out KN.out.scp (by have h1:=KBL.out.vars;have h2:=KBL.out.binds;have h3:=HS1.out;omega) (by have h2:=KBL.out.binds;have h3:=HS1.out;omega) KBL.out.binds.symm)
        have BL1:=zh (KBL.out.bind (bs:=vs) V16.out nu)
        obtain⟨nvs,hnvs⟩:∃ n,n=vs.length:=⟨_,rfl⟩
        rw [← hnvs] at y1 BD
        clear hlt2 hta hp y0 T1 hcs hx1 hsd hnvs
        go_wp2_with fail
        refine BD.out.mono ?_
        rintro en w6 ⟨ρ7,pa,rfl,hc6,h96,hf6,hs6⟩
        have ND6:=zh (KN.out.next (hc6.mono fun r=>BM.om) hf6 h96)
        have SC6:=zh hs6
        obtain⟨sv,su,sn,sb,sa,so,us,ns,bs,os,hf⟩:=hf6
        have FL6:=zh hf
        clear hc6 h96 hs6 hf BD y1 z6
        have BL1x:Hid (Bal1 (s1.bind vs)):=⟨by show (s1.binds++[_]).length=s1.uses.length+1;rw [List.length_append,KBL.out.binds];rfl,KBL.out.next,by have h1:=KBL.out.vars;have h2:=V16.out;show (s1.vars++vs).length≤16*(s1.binds++[_]).length;rw [List.length_append,List.length_append];simp;omega⟩
        obtain⟨na3,nc3,hsn⟩:=FL6.out.next.shape
        obtain⟨nbb,hnbb⟩:∃ n,n=(s1.bind vs).binds.length:=⟨_,rfl⟩
        obtain⟨ba3,bc3,hsb⟩:=FL6.out.binds.shape
        rw [← hnbb] at hsb
        subst hsb
        have HNBB:=zh hnbb
        have hnx3:(s1.bind vs).next.length=(s1.bind vs).uses.length:=BL1x.out.next
        obtain⟨l3,hl3,hl3len⟩:∃ l,(s1.bind vs).next[nu]?=some l∧l.length≤16:=⟨l,KNX.out,by have:=KLL.out;have:=HLT2.out;omega⟩
        have hnu3:=(List.getElem?_eq_some_iff.1 hl3).1
        obtain⟨g5,c5b,hsn2,hg5,hg5lt,hc5,hfz5⟩:=FL6.out.next.full (by omega)
        have NE:=hsn2
        obtain⟨nn3,hnn3⟩:∃ n,n=(s1.bind vs).next.length:=⟨_,rfl⟩
        rw [← hnn3] at hsn2 NE
        subst hsn2
        have HNE:=zh NE
        obtain⟨v3,hv3,hr3⟩:=FL6.out.nextAt nu l3 hl3
        have z11:=hc5 nu _ hv3
        have fz:=hfz5 nu
        obtain⟨la3,lc3,hlv⟩:=hr3.shape
        subst hlv
        have hnuz3:(nu:Int)<nn3:=by omega
        have hnu0:(0:Int)≤nu:=by omega
        have hnbb1:1≤nbb:=by rw [hnbb];show 1≤(_++[_]).length;rw [List.length_append];simp
        have hbb1:(1:Int)≤nbb:=by omega
        have hbb2:(nbb:Int)≤100000:=by
         have h1:(s1.bind vs).binds.length=(s1.bind vs).uses.length+1:=BL1x.out.binds
         have h2:=HS1.out
         have h3:(s1.bind vs).uses.length≤20000:=by have:(s1.bind vs).uses.length=s1.uses.length:=rfl;omega
         omega
        have hwb:IntKind.i64.wrap ((nbb:Int) - 1)=(nbb:Int) - 1:=Lx.wrap_in _ (by omega)
        have e3:((nbb:Int) - 1)=((nbb - 1:Nat):Int):=by omega
        have E3:=zh e3
        have hl3z:(l3.length:Int)≤16:=by omega
        obtain⟨n3,hn3⟩:∃ n,n=l3.length:=⟨_,rfl⟩
        rw [← hn3] at z11 hl3z
        have HN3:=zh hn3
        have H5:=zh (And.intro hg5 hg5lt)
        have HL3:=zh hl3
        have z2:w6.cell? ⟨fb,2,none⟩=some (.slice (some ⟨g5,0,none⟩) nn3 c5b):=FL6.out.cell 2 _ rfl
        have hb1:fb<w6.heap.size:=World.block_lt_of_cell? w6 _ z2
        have hb2:g5<w6.heap.size:=hg5lt
        have z3:w6.cell? ⟨fb,3,none⟩=some (.slice ba3 nbb bc3):=FL6.out.cell 3 _ rfl
        have B7:Hid (Below w6.heap.size w6 ((w6.alloc (Obj.cells #[.int .i64 ((nbb:Int) - 1)] 3)).drew)):=((Below.refl _ _).alloc (Nat.le_refl _) _).drew
        have X7:=zh (show ((w6.alloc (Obj.cells #[.int .i64 ((nbb:Int) - 1)] 3)).drew).heap[w6.heap.size]?=some (.cells #[.int .i64 ((nbb:Int) - 1)] 3 (0,0)) from heap_alloc_new w6 (.cells #[.int .i64 ((nbb:Int) - 1)] 3))
        have F7:=zh (FL6.out.below B7.out ND6.out.ch.fresh)
        have R7:Hid (RR ((w6.alloc (Obj.cells #[.int .i64 ((nbb:Int) - 1)] 3)).drew) ρ7 (10+nu) 3 1 (.slice la3 n3 lc3) n3 (nats l3)):=by
         have h1:=hr3.keep (Ch.of_below (M:=fun _=>False) B7.out ND6.out.ch.fresh) id
         rw [hn3];exact h1
        have NB7:Hid (n3+1≤maxLen∧(n3+1)*8≤140737488355328):=by show _∧_;simp only [maxLen];omega
        clear hsn hnbb hnx3 hl3 hl3len hnu3 hg5 hg5lt hc5 hfz5 NE hnn3 hv3 hr3 hn3 e3
        go_wp2_with fail
        refine wp_region_held_drew (S:=(fun w'=>w'.cell? ⟨fb,2,none⟩=some (.slice (some ⟨g5,0,none⟩) nn3 c5b)∧w'.cell? ⟨fb,3,none⟩=some (.slice ba3 nbb bc3))) (by kernel_rfl) ⟨z2,z3⟩ (fun hHeld=>?_)
        obtain⟨k0,k1⟩:=hHeld
        refine wpAnyH_take (i:=0) (v:=?_) rfl (by kernel_rfl) (by kernel_rfl) (by kernel_rfl) (fun _ _ _ h=>h) (Or.inl ⟨by rfl,?_⟩) ⟨k0,k1⟩ ?_
        rotate_left
        ·(intro wz hSw;obtain⟨zk0,zk1⟩:=hSw;(try simp only [zq1,zq2,zq3]);go_simp;try with_reducible rfl)
        try simp only [Act.put,zq1,zq2,zq3,zq4,zq5,zq6]
        refine wpAnyH_take (i:=1) (v:=?_) rfl (by kernel_rfl) (by kernel_rfl) (by kernel_rfl) (fun _ _ _ h=>h) (Or.inl ⟨by rfl,?_⟩) ⟨k0,k1⟩ ?_
        rotate_left
        ·(intro wz hSw;obtain⟨zk0,zk1⟩:=hSw;(try simp only [zq1,zq2,zq3]);go_simp;try with_reducible rfl)
        try simp only [Act.put,zq1,zq2,zq3,zq4,zq5,zq6]
        refine wpAnyH_take (i:=2) (v:=?_) rfl (by kernel_rfl) (by kernel_rfl) (by kernel_rfl) (fun _ _ _ h=>h) (Or.inl ⟨by rfl,?_⟩) ⟨k0,k1⟩ ?_
        rotate_left
        ·(intro wz hSw;obtain⟨zk0,zk1⟩:=hSw;(try simp only [zq1,zq2,zq3]);go_simp;try with_reducible rfl)
        try simp only [Act.put,zq1,zq2,zq3,zq4,zq5,zq6]
        refine wpAnyH_take (i:=3) (v:=?_) rfl (by kernel_rfl) (by kernel_rfl) (by kernel_rfl) (fun _ _ _ h=>h) (Or.inl ⟨by rfl,?_⟩) ⟨k0,k1⟩ ?_
        rotate_left
        ·(intro wz hSw;obtain⟨zk0,zk1⟩:=hSw;(try simp only [zq1,zq2,zq3]);go_simp;try with_reducible rfl)
        try simp only [Act.put,zq1,zq2,zq3,zq4,zq5,zq6]
        refine wpAnyH_take (i:=4) (v:=?_) rfl (by kernel_rfl) (by kernel_rfl) (by kernel_rfl) (fun _ _ _ h=>h) (Or.inl ⟨by rfl,?_⟩) ⟨k0,k1⟩ ?_
        rotate_left
        ·(intro wz hSw;obtain⟨zk0,zk1⟩:=hSw;(try simp only [zq1,zq2,zq3]);go_simp;try with_reducible rfl)
        try simp only [Act.put,zq1,zq2,zq3,zq4,zq5,zq6]
        refine wpAnyH_take (i:=5) (v:=?_) rfl (by kernel_rfl) (by kernel_rfl) (by kernel_rfl) (fun _ _ _ h=>h) (Or.inl ⟨by rfl,?_⟩) ⟨k0,k1⟩ ?_
        rotate_left
        ·(intro wz hSw;obtain⟨zk0,zk1⟩:=hSw;(try simp only [zq1,zq2,zq3]);go_simp;try with_reducible rfl)
        try simp only [Act.put,zq1,zq2,zq3,zq4,zq5,zq6]
        refine wpAnyH_take (i:=6) (v:=?_) rfl (by kernel_rfl) (by kernel_rfl) (by kernel_rfl) (fun _ _ _ h=>h) (Or.inl ⟨by rfl,?_⟩) ⟨k0,k1⟩ ?_
        rotate_left
        ·(intro wz hSw;obtain⟨zk0,zk1⟩:=hSw;(try simp only [zq1,zq2,zq3]);go_simp;try with_reducible rfl)
        try simp only [Act.put,zq1,zq2,zq3,zq4,zq5,zq6]
        refine wpAnyH_take (i:=7) (v:=?_) rfl (by kernel_rfl) (by kernel_rfl) (by kernel_rfl) (fun _ _ _ h=>h) (Or.inl ⟨by rfl,?_⟩) ⟨k0,k1⟩ ?_
        rotate_left
        ·(intro wz hSw;obtain⟨zk0,zk1⟩:=hSw;(try simp only [zq1,zq2,zq3]);go_simp;try with_reducible rfl)
        try simp only [Act.put,zq1,zq2,zq3,zq4,zq5,zq6]
        refine wpAnyH_take (i:=8) (v:=?_) rfl (by kernel_rfl) (by kernel_rfl) (by kernel_rfl) (fun _ _ _ h=>h) (Or.inl ⟨by rfl,?_⟩) ⟨k0,k1⟩ ?_
        rotate_left
        ·(intro wz hSw;obtain⟨zk0,zk1⟩:=hSw;(try simp only [zq1,zq2,zq3]);go_simp;try with_reducible rfl)
        try simp only [Act.put,zq1,zq2,zq3,zq4,zq5,zq6]
        refine wpAnyH_take (i:=9) (v:=?_) rfl (by kernel_rfl) (by kernel_rfl) (by kernel_rfl) (fun _ _ _ h=>h) (Or.inl ⟨by rfl,?_⟩) ⟨k0,k1⟩ ?_
        rotate_left
        ·(intro wz hSw;obtain⟨zk0,zk1⟩:=hSw;(try simp only [zq1,zq2,zq3]);go_simp;try with_reducible rfl)
        try simp only [Act.put,zq1,zq2,zq3,zq4,zq5,zq6]
        refine wpAnyH_take (i:=10) (v:=?_) rfl (by kernel_rfl) (by kernel_rfl) (by kernel_rfl) (fun _ _ _ h=>h) (Or.inl ⟨by rfl,?_⟩) ⟨k0,k1⟩ ?_
        rotate_left
        ·(intro wz hSw;obtain⟨zk0,zk1⟩:=hSw;(try simp only [zq1,zq2,zq3]);go_simp;try with_reducible rfl)
        try simp only [Act.put,zq1,zq2,zq3,zq4,zq5,zq6]
        refine wpAnyH_take (i:=12) (v:=?_) rfl (by kernel_rfl) (by kernel_rfl) (by kernel_rfl) (fun _ _ _ h=>h) (Or.inl ⟨by rfl,?_⟩) ⟨k0,k1⟩ ?_
        rotate_left
        ·(intro wz hSw;obtain⟨zk0,zk1⟩:=hSw;(try simp only [zq1,zq2,zq3]);go_simp;try with_reducible rfl)
        try simp only [Act.put,zq1,zq2,zq3,zq4,zq5,zq6]
        refine wpAnyH_take (i:=13) (v:=?_) rfl (by kernel_rfl) (by kernel_rfl) (by kernel_rfl) (fun _ _ _ h=>h) (Or.inl ⟨by rfl,?_⟩) ⟨k0,k1⟩ ?_
        rotate_left
        ·(intro wz hSw;obtain⟨zk0,zk1⟩:=hSw;(try simp only [zq1,zq2,zq3]);go_simp;try with_reducible rfl)
        try simp only [Act.put,zq1,zq2,zq3,zq4,zq5,zq6]
        refine wpAnyH_take (i:=14) (v:=?_) rfl (by kernel_rfl) (by kernel_rfl) (by kernel_rfl) (fun _ _ _ h=>h) (Or.inl ⟨by rfl,?_⟩) ⟨k0,k1⟩ ?_
        rotate_left
        ·(intro wz hSw;obtain⟨zk0,zk1⟩:=hSw;(try simp only [zq1,zq2,zq3]);go_simp;try with_reducible rfl)
        try simp only [Act.put,zq1,zq2,zq3,zq4,zq5,zq6]
        refine wpAnyH_take (i:=15) (v:=?_) rfl (by kernel_rfl) (by kernel_rfl) (by kernel_rfl) (fun _ _ _ h=>h) (Or.inl ⟨by rfl,?_⟩) ⟨k0,k1⟩ ?_
        rotate_left
        ·(intro wz hSw;obtain⟨zk0,zk1⟩:=hSw;(try simp only [zq1,zq2,zq3]);go_simp;try with_reducible rfl)
        try simp only [Act.put,zq1,zq2,zq3,zq4,zq5,zq6]
        refine wpAnyH_take (i:=16) (v:=?_) rfl (by kernel_rfl) (by kernel_rfl) (by kernel_rfl) (fun _ _ _ h=>h) (Or.inl ⟨by rfl,?_⟩) ⟨k0,k1⟩ ?_
        rotate_left
        ·(intro wz hSw;obtain⟨zk0,zk1⟩:=hSw;(try simp only [zq1,zq2,zq3]);go_simp;try with_reducible rfl)
        try simp only [Act.put,zq1,zq2,zq3,zq4,zq5,zq6]
        refine wpAnyH_take (i:=17) (v:=?_) rfl (by kernel_rfl) (by kernel_rfl) (by kernel_rfl) (fun _ _ _ h=>h) (Or.inl ⟨by rfl,?_⟩) ⟨k0,k1⟩ ?_
        rotate_left
        ·(intro wz hSw;obtain⟨zk0,zk1⟩:=hSw;(try simp only [zq1,zq2,zq3]);go_simp;try with_reducible rfl)
        try simp only [Act.put,zq1,zq2,zq3,zq4,zq5,zq6]
        refine wpAnyH_ready (rs:=[11,18]) (by kernel_rfl) (by simp) ?_
        refine AllReadyH.cons rfl (fun K hK=>?_) (AllReadyH.cons rfl (fun K hK=>?_) AllReadyH.nil)
        ·try simp only [zq1,zq2,zq3]
         go_simp
         refine hK.out _ _ ?hs (fun hHeld=>?_)
         case hs=>exact⟨k0,k1⟩
         clear hK K k0 k1
         obtain⟨k0,k1⟩:=hHeld
         try simp only [Act.put,zq1,zq2,zq3,zq4,zq5,zq6]
         refine wpAnyH_ready (rs:=[18]) (by kernel_rfl) (by simp) ?_
         refine AllReadyH.cons rfl (fun K hK=>?_) AllReadyH.nil
         try simp only [zq1,zq2,zq3]
         go_simp
         refine hK.out _ _ ?hs (fun hHeld=>?_)
         case hs=>first | exact⟨Lib.cell?_alloc_some _ k0,Lib.cell?_alloc_some _ k1⟩ | go_keep
         clear hK K k0 k1
         obtain⟨k0,k1⟩:=hHeld
         try simp only [Act.put,zq1,zq2,zq3,zq4,zq5,zq6]
         refine wpAnyH_ready (rs:=[19]) (by kernel_rfl) (by simp) ?_
         refine AllReadyH.cons rfl (fun K hK=>?_) AllReadyH.nil
         refine step_append_rr rfl _ _ 40 rfl 3 i3 (.int .i64 0) 1 8 Tryz.underlying40 HI3.out.1 HI3.out.2.1 HI3.out.2.2.1 HI3.out.2.2.2 rfl (by decide) ρ7 (10+nu) (.slice la3 n3 lc3) n3 (nats l3) rfl R7.out (fun k hk=>ND6.out.ch.fresh k (Nat.le_trans B7.out.size hk)) ⟨w6.heap.size,0,none⟩ 1 1 [.int .i64 ((nbb:Int) - 1)] rfl rfl (news1' X7.out) (fun u hu=>one1 rfl hu) NB7.out.1 NB7.out.2 ?_
         intro a8 c8 w8 ρ8 hr8 hc8 hf8
         have y0:=hc8.keep F7.out.obj (by rw [F7.out.role];omega)
         have t0:w8.cell? ⟨fb,2,none⟩=some (.slice (some ⟨g5,0,none⟩) nn3 c5b):=by rw [cell_of_row _ _ 2 _ _ _ y0];rfl
         have t1:w8.cell? ⟨fb,3,none⟩=some (.slice ba3 nbb bc3):=by rw [cell_of_row _ _ 3 _ _ _ y0];rfl
         have t2:w8.cell? ⟨g5,nu,none⟩=some (.slice la3 n3 lc3):=hc8.cell (kept_below B7.out _ _ z11) (by show ¬ (ρ7 g5=10+nu);rw [H5.out.1];omega)
         have t3:w8.frozen? ⟨g5,nu,none⟩=false:=(World.frozen?_of_block (a:=⟨g5,nu,none⟩) ((hc8.block g5 (Nat.lt_of_lt_of_le H5.out.2 B7.out.size) (by show ¬ (ρ7 g5=10+nu);rw [H5.out.1];omega)).trans (B7.out.block g5 H5.out.2))).trans fz
         have hg5f:fb≠g5:=by intro hh;have h1:=F7.out.role;rw [hh] at h1;rw [H5.out.1] at h1;omega
         have N8:=zh (ND6.out.link FL6.out rfl rfl HL3.out rfl B7.out hc8 (by rw [← HN3.out,← E3.out];exact hr8) (fun q hq=>hf8 q (by simpa using hq)) (x:=nbb - 1) (by rw [← HNBB.out]))
         have S8:Hid (ScR (w8.setCell ⟨g5,nu,none⟩ (.slice a8 (n3+1) c8)) ρ8 (scope s1.vars.length vs sc) (.pointer pa)):=ScR.keep (M:=OM) (((Ch.of_below (M:=OM) B7.out ND6.out.ch.fresh).trans (hc8.mono fun r hr=>by unfold OM;omega)).setCell _ _ fun _=>by show OM (ρ7 g5);rw [H5.out.1];unfold OM;omega) OM.no0 SC6.out
         clear hr8 hc8 hf8 y0
         (try simp only [])
         refine hK.out _ _ ?hs (fun hHeld=>?_)
         case hs=>exact⟨t0,t1⟩
         clear hK K k0 k1
         obtain⟨k0,k1⟩:=hHeld
         try simp only [Act.put,zq1,zq2,zq3,zq4,zq5,zq6]
         refine wpAnyH_take (i:=20) (v:=?_) rfl (by kernel_rfl) (by kernel_rfl) (by kernel_rfl) (fun _ _ _ h=>h) (Or.inl ⟨by rfl,?_⟩) ⟨k0,k1⟩ ?_
         rotate_left
         ·(intro wz hSw;obtain⟨zk0,zk1⟩:=hSw;(try simp only [zq1,zq2,zq3]);go_simp;try with_reducible rfl)
         try simp only [Act.put,zq1,zq2,zq3,zq4,zq5,zq6]
         refine wpAnyH_ready (rs:=[21]) (by kernel_rfl) (by simp) ?_
         refine AllReadyH.cons rfl (fun K hK=>?_) AllReadyH.nil
         try simp only [zq1,zq2,zq3]
         go_simp
         refine hK.out _ _ ?hs (fun hHeld=>?_)
         case hs=>(refine⟨?_,?_⟩<;>(rw [World.cell?_setCell_far _ _ _ _ hg5f.symm];assumption))
         clear hK K hHeld k0 k1
         refine wpAnyH_done (by kernel_rfl) ?_ _
         obtain⟨V8,hV8⟩:∃ X,X=w8.setCell ⟨g5,nu,none⟩ (.slice a8 (n3+1) c8):=⟨_,rfl⟩
         rw [← hV8] at N8 S8
         try rw [← hV8]
         clear hV8 t0 t1 t2 t3 hg5f z2 z3 z11 fz F7 R7 B7 X7 FL6 ND6 SC6
         have LOW8:=zh (N8.out.low HB.out HW.out)
         have z6:V8.cell? ⟨w.heap.size,6,none⟩=some (.slice (some ⟨ga,oa,none⟩) na ca):=by rw [cell_of_row _ _ 6 _ _ _ N8.out.box];rfl
         obtain⟨q0,q1,q2,q3,q4,q5,q6,q7⟩:=CS.out.kept (kept_below LOW8.out.1)
         have CB:=zh (IH.out e1 HS1.out.1 (op:=op1) (num:=num1) (site:=site1) (ca:=ca1) (cb:=cb1) HX1.out LOW8.out.1 LOW8.out.2 N8.out.fl N8.out.ch.fresh N8.out.nine S8.out BL1.out (by have h1:=HS1.out.2;show s1.uses.length+_≤_;omega))
         obtain⟨R1,hR1⟩:∃ r,r=bodyR e1 (scope s1.vars.length vs sc) ((s1.bind vs).link nu):=⟨_,rfl⟩
         rw [← hR1] at CB FRN
         have HR1:=zh hR1
         clear hR1
         cases R1 with
         | none =>
          have RN:Hid (R=none):=FRN.out
          go_wp2_with fail
          refine CB.out.mono ?_
          rintro en w9 ⟨ρ9,hc9,h99,rfl,hr9⟩
          have C9:Hid (Ch OM ρ ρ9 w w9):=N8.out.ch.trans hc9
          clear z6 q0 q1 q2 q3 q4 q5 q6 q7
          simp only [Option.isSome_none,Option.isSome_some]
          go_wp2_with fail
          go_ret
          exact⟨ρ9,C9.out,h99,by rw [RN.out];rfl,fun st' h=>by rw [RN.out] at h;cases h⟩
         | some s2 =>
          have RS:Hid (R=fR nu sc (e.arms.kids.drop (i2+1)) s2):=FRN.out
          go_wp2_with fail
          refine CB.out.mono ?_
          rintro en w9 ⟨ρ9,hc9,h99,rfl,hr9⟩
          have N9:=zh (N8.out.next hc9 (hr9 s2 rfl) h99)
          have BB:=body_bal HR1.out.symm BL1.out
          have B9:=zh BB.1
          have U9:Hid (s2.uses.length+sizes (e.arms.kids.drop (i2+1))≤20000):=by
           have h1:=BB.2
           have h2:=HS1.out.2
           have h3:((s1.bind vs).link nu).uses.length=s1.uses.length:=rfl
           show _≤_;omega
          have X9:Hid (s2.next[nu]?=some (l++[s1.binds.length])):=by
           show _=_
           have hlt:nu<s1.next.length:=(List.getElem?_eq_some_iff.1 KNX.out).1
           rw [body_next HR1.out.symm BL1.out.next (by show nu<(s1.next.modify nu _).length;rw [List.length_modify];exact hlt)]
           show (s1.next.modify nu (· ++ [(s1.bind vs).binds.length - 1]))[nu]?=_
           rw [List.getElem?_modify]
           simp only [if_true,KNX.out]
           show some (l++[(s1.binds++[_]).length - 1])=_
           rw [List.length_append];rfl
          clear z6 q0 q1 q2 q3 q4 q5 q6 q7 BB hc9 h99 hr9
          simp only [Option.isSome_none,Option.isSome_some]
          go_wp2_with fail
          go_roundw
          case rel=>exact⟨i2+1,s2,ρ9,_,HLT2.out,by go_num,N9.out,B9.out,U9.out,RS.out.symm,X9.out,by rw [List.length_append,List.length_singleton];have:=KLL.out;omega⟩
          case measure=>have:=HLT2.out;simp [intOf];omega
        ·try simp only [zq1,zq2,zq3]
         go_simp
         refine hK.out _ _ ?hs (fun hHeld=>?_)
         case hs=>first | exact⟨Lib.cell?_alloc_some _ k0,Lib.cell?_alloc_some _ k1⟩ | go_keep
         clear hK K k0 k1
         obtain⟨k0,k1⟩:=hHeld
         try simp only [Act.put,zq1,zq2,zq3,zq4,zq5,zq6]
         refine wpAnyH_ready (rs:=[11]) (by kernel_rfl) (by simp) ?_
         refine AllReadyH.cons rfl (fun K hK=>?_) AllReadyH.nil
         try simp only [zq1,zq2,zq3]
         go_simp
         refine hK.out _ _ ?hs (fun hHeld=>?_)
         case hs=>exact⟨k0,k1⟩
         clear hK K k0 k1
         obtain⟨k0,k1⟩:=hHeld
         try simp only [Act.put,zq1,zq2,zq3,zq4,zq5,zq6]
         refine wpAnyH_ready (rs:=[19]) (by kernel_rfl) (by simp) ?_
         refine AllReadyH.cons rfl (fun K hK=>?_) AllReadyH.nil
         refine step_append_rr rfl _ _ 40 rfl 3 i3 (.int .i64 0) 1 8 Tryz.underlying40 HI3.out.1 HI3.out.2.1 HI3.out.2.2.1 HI3.out.2.2.2 rfl (by decide) ρ7 (10+nu) (.slice la3 n3 lc3) n3 (nats l3) rfl R7.out (fun k hk=>ND6.out.ch.fresh k (Nat.le_trans B7.out.size hk)) ⟨w6.heap.size,0,none⟩ 1 1 [.int .i64 ((nbb:Int) - 1)] rfl rfl (news1' X7.out) (fun u hu=>one1 rfl hu) NB7.out.1 NB7.out.2 ?_
         intro a8 c8 w8 ρ8 hr8 hc8 hf8
         have y0:=hc8.keep F7.out.obj (by rw [F7.out.role];omega)
         have t0:w8.cell? ⟨fb,2,none⟩=some (.slice (some ⟨g5,0,none⟩) nn3 c5b):=by rw [cell_of_row _ _ 2 _ _ _ y0];rfl
         have t1:w8.cell? ⟨fb,3,none⟩=some (.slice ba3 nbb bc3):=by rw [cell_of_row _ _ 3 _ _ _ y0];rfl
         have t2:w8.cell? ⟨g5,nu,none⟩=some (.slice la3 n3 lc3):=hc8.cell (kept_below B7.out _ _ z11) (by show ¬ (ρ7 g5=10+nu);rw [H5.out.1];omega)
         have t3:w8.frozen? ⟨g5,nu,none⟩=false:=(World.frozen?_of_block (a:=⟨g5,nu,none⟩) ((hc8.block g5 (Nat.lt_of_lt_of_le H5.out.2 B7.out.size) (by show ¬ (ρ7 g5=10+nu);rw [H5.out.1];omega)).trans (B7.out.block g5 H5.out.2))).trans fz
         have hg5f:fb≠g5:=by intro hh;have h1:=F7.out.role;rw [hh] at h1;rw [H5.out.1] at h1;omega
         have N8:=zh (ND6.out.link FL6.out rfl rfl HL3.out rfl B7.out hc8 (by rw [← HN3.out,← E3.out];exact hr8) (fun q hq=>hf8 q (by simpa using hq)) (x:=nbb - 1) (by rw [← HNBB.out]))
         have S8:Hid (ScR (w8.setCell ⟨g5,nu,none⟩ (.slice a8 (n3+1) c8)) ρ8 (scope s1.vars.length vs sc) (.pointer pa)):=ScR.keep (M:=OM) (((Ch.of_below (M:=OM) B7.out ND6.out.ch.fresh).trans (hc8.mono fun r hr=>by unfold OM;omega)).setCell _ _ fun _=>by show OM (ρ7 g5);rw [H5.out.1];unfold OM;omega) OM.no0 SC6.out
         clear hr8 hc8 hf8 y0
         (try simp only [])
         refine hK.out _ _ ?hs (fun hHeld=>?_)
         case hs=>exact⟨t0,t1⟩
         clear hK K k0 k1
         obtain⟨k0,k1⟩:=hHeld
         try simp only [Act.put,zq1,zq2,zq3,zq4,zq5,zq6]
         refine wpAnyH_take (i:=20) (v:=?_) rfl (by kernel_rfl) (by kernel_rfl) (by kernel_rfl) (fun _ _ _ h=>h) (Or.inl ⟨by rfl,?_⟩) ⟨k0,k1⟩ ?_
         rotate_left
         ·(intro wz hSw;obtain⟨zk0,zk1⟩:=hSw;(try simp only [zq1,zq2,zq3]);go_simp;try with_reducible rfl)
         try simp only [Act.put,zq1,zq2,zq3,zq4,zq5,zq6]
         refine wpAnyH_ready (rs:=[21]) (by kernel_rfl) (by simp) ?_
         refine AllReadyH.cons rfl (fun K hK=>?_) AllReadyH.nil
         try simp only [zq1,zq2,zq3]
         go_simp
         refine hK.out _ _ ?hs (fun hHeld=>?_)
         case hs=>(refine⟨?_,?_⟩<;>(rw [World.cell?_setCell_far _ _ _ _ hg5f.symm];assumption))
         clear hK K hHeld k0 k1
         refine wpAnyH_done (by kernel_rfl) ?_ _
         obtain⟨V8,hV8⟩:∃ X,X=w8.setCell ⟨g5,nu,none⟩ (.slice a8 (n3+1) c8):=⟨_,rfl⟩
         rw [← hV8] at N8 S8
         try rw [← hV8]
         clear hV8 t0 t1 t2 t3 hg5f z2 z3 z11 fz F7 R7 B7 X7 FL6 ND6 SC6
         have LOW8:=zh (N8.out.low HB.out HW.out)
         have z6:V8.cell? ⟨w.heap.size,6,none⟩=some (.slice (some ⟨ga,oa,none⟩) na ca):=by rw [cell_of_row _ _ 6 _ _ _ N8.out.box];rfl
         obtain⟨q0,q1,q2,q3,q4,q5,q6,q7⟩:=CS.out.kept (kept_below LOW8.out.1)
         have CB:=zh (IH.out e1 HS1.out.1 (op:=op1) (num:=num1) (site:=site1) (ca:=ca1) (cb:=cb1) HX1.out LOW8.out.1 LOW8.out.2 N8.out.fl N8.out.ch.fresh N8.out.nine S8.out BL1.out (by have h1:=HS1.out.2;show s1.uses.length+_≤_;omega))
         obtain⟨R1,hR1⟩:∃ r,r=bodyR e1 (scope s1.vars.length vs sc) ((s1.bind vs).link nu):=⟨_,rfl⟩
         rw [← hR1] at CB FRN
         have HR1:=zh hR1
         clear hR1
         cases R1 with
         | none =>
          have RN:Hid (R=none):=FRN.out
          go_wp2_with fail
          refine CB.out.mono ?_
          rintro en w9 ⟨ρ9,hc9,h99,rfl,hr9⟩
          have C9:Hid (Ch OM ρ ρ9 w w9):=N8.out.ch.trans hc9
          clear z6 q0 q1 q2 q3 q4 q5 q6 q7
          simp only [Option.isSome_none,Option.isSome_some]
          go_wp2_with fail
          go_ret
          exact⟨ρ9,C9.out,h99,by rw [RN.out];rfl,fun st' h=>by rw [RN.out] at h;cases h⟩
         | some s2 =>
          have RS:Hid (R=fR nu sc (e.arms.kids.drop (i2+1)) s2):=FRN.out
          go_wp2_with fail
          refine CB.out.mono ?_
          rintro en w9 ⟨ρ9,hc9,h99,rfl,hr9⟩
          have N9:=zh (N8.out.next hc9 (hr9 s2 rfl) h99)
          have BB:=body_bal HR1.out.symm BL1.out
          have B9:=zh BB.1
          have U9:Hid (s2.uses.length+sizes (e.arms.kids.drop (i2+1))≤20000):=by
           have h1:=BB.2
           have h2:=HS1.out.2
           have h3:((s1.bind vs).link nu).uses.length=s1.uses.length:=rfl
           show _≤_;omega
          have X9:Hid (s2.next[nu]?=some (l++[s1.binds.length])):=by
           show _=_
           have hlt:nu<s1.next.length:=(List.getElem?_eq_some_iff.1 KNX.out).1
           rw [body_next HR1.out.symm BL1.out.next (by show nu<(s1.next.modify nu _).length;rw [List.length_modify];exact hlt)]
           show (s1.next.modify nu (· ++ [(s1.bind vs).binds.length - 1]))[nu]?=_
           rw [List.getElem?_modify]
           simp only [if_true,KNX.out]
           show some (l++[(s1.binds++[_]).length - 1])=_
           rw [List.length_append];rfl
          clear z6 q0 q1 q2 q3 q4 q5 q6 q7 BB hc9 h99 hr9
          simp only [Option.isSome_none,Option.isSome_some]
          go_wp2_with fail
          go_roundw
          case rel=>exact⟨i2+1,s2,ρ9,_,HLT2.out,by go_num,N9.out,B9.out,U9.out,RS.out.symm,X9.out,by rw [List.length_append,List.length_singleton];have:=KLL.out;omega⟩
          case measure=>have:=HLT2.out;simp [intOf];omega
       ·have hlz2:(na:Int)≤i2:=by omega
        have hdi2:decide (i2<na)=false:=by simp;omega
        have RS:Hid (R=some s1):=by show _=_;rw [← KFR.out,List.drop_of_length_le (by rw [TA.kids_length,← HNA.out];omega)];rfl
        clear hlt2
        go_wp2_with fail
        go_ret
        exact⟨ρ6,KN.out.ch,KN.out.nine,by rw [RS.out];rfl,fun st' h=>by rw [RS.out,Option.some.injEq] at h;rw [← h];exact KN.out.fl⟩
end Go.Proofs.YtnkahlloahgifaaGreatDoor
