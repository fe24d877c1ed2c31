/- Part. -/
import Derived.Test.YtnkahlloahgifaaGreatDoorVDk
set_option maxHeartbeats 16000000
set_option maxRecDepth 100000
set_option linter.unusedSimpArgs false
set_option linter.unusedVariables false
namespace Go.Proofs.YtnkahlloahgifaaGreatDoor
section
open Go.RowKit RG Go.Maps RF
theorem body_any (N:Nat):∀ (e:TE),e.size≤N→∀ {W w:World} {ρ:Nat→Nat}{fb:Nat}{st:St}{sc:List (Nm×Nat)}{scv:Value}{op:ByteArray}{num site:Int}{xa aa ab:Option Addr}{xc ca cb:Nat},TEX W e xa aa ab xc→Below W.heap.size W w →
  (∀ k,k<W.heap.size→ρ k=0)→FlR w ρ fb st→(∀ k,w.heap.size≤k→ρ k=0)→(∀ k,ρ k≠9)→ScR w ρ sc scv→Bal1 st→st.uses.length+e.size≤20000 →
  Calls Tryz.prog 52 #[.pointer (some ⟨fb,0,none⟩),teV e op num site xa aa ab xc ca cb,scv] w (ByP w ρ fb (bodyR e sc st)):=by
 induction N with
 | zero=>intro e hN;have:=e.size_pos;omega
 | succ N ih =>
  intro e hN W w ρ fb st sc scv op num site xa aa ab xc ca cb hx hB hW hfl hρ h9 hsc hbal hsz
  have IH:=zh ih
  clear ih
  obtain⟨sca,rfl⟩:=hsc.ptr
  obtain⟨R,hR⟩:∃ R,R=bodyR e sc st:=⟨_,rfl⟩
  rw [← hR]
  have HR:=zh hR
  obtain⟨w0,hw0⟩:∃ x,x=w.alloc (.cells #[.int .i64 e.kind,.string e.name,.string op,.int .i64 num,.int .i64 site,.slice xa e.args.length xc,.slice aa e.arms.length ca,.slice ab e.body.length cb] 27):=⟨_,rfl⟩
  have O0:Hid (w0.heap[w.heap.size]?=some (.cells #[.int .i64 e.kind,.string e.name,.string op,.int .i64 num,.int .i64 site,.slice xa e.args.length xc,.slice aa e.arms.length ca,.slice ab e.body.length cb] 27 (0,0))):=by show _=_;rw [hw0];exact zs2 w _
  have B0:Hid (Below w.heap.size w w0):=by rw [hw0];exact(zs9 _ _).alloc (zr4 _) _
  have zc:=fun i x (hx:(#[.int .i64 e.kind,.string e.name,.string op,.int .i64 num,.int .i64 site,.slice xa e.args.length xc,.slice aa e.arms.length ca,.slice ab e.body.length cb]:Array Value)[i]?=some x)=>(zb w0 w.heap.size i _ _ _ O0.out).trans hx
  have hld:(loadVar 27 ⟨w.heap.size,0,none⟩).run Tryz.prog w0 = .ok (teV e op num site xa aa ab xc ca cb) w0:=TEC.load (o:=0) ⟨zc 0 _ rfl,zc 1 _ rfl,zc 2 _ rfl,zc 3 _ rfl,zc 4 _ rfl,zc 5 _ rfl,zc 6 _ rfl,zc 7 _ rfl⟩
  have SH:Hid (Calls Tryz.prog 82 #[.agg #[.int .i64 e.kind,.string e.name,.string op,.int .i64 num,.int .i64 site,.slice xa e.args.length xc,.slice aa e.arms.length ca,.slice ab e.body.length cb]] w0 (BoP w0 (.bool (nodeOk e)))):=shaped_any (hx.kept (zd (hB.trans (B0.out.mono hB.size))))
  have zz0:=zc 0 _ rfl
  have zz1:=zc 1 _ rfl
  have zz2:=zc 2 _ rfl
  have zz3:=zc 3 _ rfl
  have zz4:=zc 4 _ rfl
  have zz5:=zc 5 _ rfl
  have zz6:=zc 6 _ rfl
  have zz7:=zc 7 _ rfl
  replace hld:(loadVar 27 ⟨w.heap.size,0,none⟩).run Tryz.prog w0 = .ok (.agg #[.int .i64 e.kind,.string e.name,.string op,.int .i64 num,.int .i64 site,.slice xa e.args.length xc,.slice aa e.arms.length ca,.slice ab e.body.length cb]) w0:=hld
  have HAT:=zh hx.atoms
  have HAR:=zh hx.arms
  have HBO:=zh hx.body
  show Calls Tryz.prog 52 #[.pointer (some ⟨fb,0,none⟩),.agg #[.int .i64 e.kind,.string e.name,.string op,.int .i64 num,.int .i64 site,.slice xa e.args.length xc,.slice aa e.arms.length ca,.slice ab e.body.length cb],.pointer sca] w _
  obtain⟨k,hk⟩:∃ x,x=e.kind:=⟨_,rfl⟩
  obtain⟨nm,hnm⟩:∃ x,x=e.name:=⟨_,rfl⟩
  obtain⟨ng,hng⟩:∃ x,x=e.args.length:=⟨_,rfl⟩
  obtain⟨na,hna⟩:∃ x,x=e.arms.length:=⟨_,rfl⟩
  obtain⟨nb,hnb⟩:∃ x,x=e.body.length:=⟨_,rfl⟩
  rw [← hk,← hnm,← hng,← hna,← hnb]
  rw [← hk,← hnm,← hng,← hna,← hnb] at SH hld O0 hw0
  rw [← hk] at zz0
  rw [← hnm] at zz1
  rw [← hng] at zz5
  rw [← hna] at zz6
  rw [← hnb] at zz7
  rw [← hng] at HAT
  rw [← hna] at HAR
  rw [← hnb] at HBO
  have HNM:=zh hnm
  have HNG:=zh hng
  have HNA:=zh hna
  have HNB:=zh hnb
  have HNN:=zh hN
  have HB:=zh hB
  have HW:=zh hW
  have HRHO:=zh hρ
  have H9:=zh h9
  have BAL:=zh hbal
  have HSZ:=zh hsz
  have FL:=zh hfl
  have SC:=zh hsc
  clear hR hx zc hk hnm hng hna hnb hN hB hW hfl hρ h9 hsc hbal hsz
  cases hok:nodeOk e with
  | false =>
   rw [hok] at SH
   have RN:Hid (R=none):=by show _=_;rw [HR.out];exact bodyR_no hok
   clear hok
   go_enter Tryz.func52,Tryz.ntmps52
   go_upto_region 1 with fail
   rw [← hw0]
   clear hw0
   go_wp2_with (go_at_call 82;refine SH.out.mono ?_;rintro en w1 ⟨rfl,hb1⟩)
   go_ret
   exact⟨ρ,Ch.of_below (B0.out.trans (hb1.mono B0.out.size)) HRHO.out,H9.out,by rw [RN.out];rfl,fun st' h=>by rw [RN.out] at h;cases h⟩
  | true =>
   rw [hok] at SH
   have OK:=zh hok
   have OKI:=nodeOk_iff.1 hok
   have N16:Hid (ng≤16∧nb≤1):=by
    refine⟨by rw [HNG.out];exact OKI.2.2.1,?_⟩
    have:=OKI.2.1
    rw [← HNB.out] at this
    split at this<;>omega
   obtain⟨RU,hRU⟩:∃ u,u=usesR sc e.args []:=⟨_,rfl⟩
   have HRU:=zh hRU
   have hnz:(ng:Int)≤16:=by have:=N16.out;omega
   obtain⟨i9,p1,p2,p3,p4⟩:=info_parts Tryz.info9r
   have HI9:=zh (And.intro p1 (And.intro p2 (And.intro p3 p4)))
   obtain⟨i3,q1,q2,q3,q4⟩:=info_parts Tryz.info3u
   have HI3:=zh (And.intro q1 (And.intro q2 (And.intro q3 q4)))
   obtain⟨i40,r1,r2,r3,r4⟩:=info_parts Tryz.info40r
   have HI40:=zh (And.intro r1 (And.intro r2 (And.intro r3 r4)))
   clear hok OKI hRU p1 p2 p3 p4 q1 q2 q3 q4 r1 r2 r3 r4
   go_enter Tryz.func52,Tryz.ntmps52
   go_upto_region 1 with fail
   rw [← hw0]
   clear hw0
   go_wp2_with fail
   refine SH.out.mono ?_
   rintro en w1 ⟨rfl,hb1⟩
   have B1:Hid (Below w.heap.size w w1):=B0.out.trans (hb1.mono B0.out.size)
   have O1:=zm hb1 O0.out
   obtain⟨sv,su,sn,sb,sa,so,us,ns,bs,os,hf⟩:=FL.out.below B1.out HRHO.out
   have BY0:Hid (ByV w ρ fb st sc (.pointer sca) w.heap.size #[.int .i64 k,.string nm,.string op,.int .i64 num,.int .i64 site,.slice xa ng xc,.slice aa na ca,.slice ab nb cb] sv su sn sb sa so us ns bs os st.binds.length st.binds.length [] ρ (.slice none 0 0) w1) :=
    ⟨hf,Ch.of_below B1.out HRHO.out,RR.nil _ _ _ _ _,ScR.keep (Ch.of_below (M:=fun _=>False) B1.out HRHO.out) id SC.out,O1,HRHO.out _ (zr4 _)⟩
   obtain⟨ua,uc,hsu⟩:=hf.uses.shape
   obtain⟨nu,hnu⟩:∃ n,n=st.uses.length:=⟨_,rfl⟩
   rw [← hnu] at hsu
   subst hsu
   have HNU:=zh hnu
   have hnuz:(nu:Int)≤20000:=by have:=HSZ.out;omega
   have z1:w1.cell? ⟨fb,1,none⟩=some (.slice ua nu uc):=hf.cell 1 _ rfl
   clear hf O1 hnu hb1 SH hld O0 B0 zz0 zz1 zz2 zz3 zz4 zz5 zz6 zz7
   go_wp2_with fail
   go_loopw [8,9] (fun uv iv wr=>∃ (i:Nat) (acc:List Nat) (ρ1:Nat→Nat),i≤ng∧iv = .int .i64 i∧acc.length≤i∧ByV w ρ fb st sc (.pointer sca) w.heap.size #[.int .i64 k,.string nm,.string op,.int .i64 num,.int .i64 site,.slice xa ng xc,.slice aa na ca,.slice ab nb cb] sv (.slice ua nu uc) sn sb sa so us ns bs os st.binds.length st.binds.length acc ρ1 uv wr∧usesR sc (e.args.drop i) acc=RU) (fun _ iv _=>ng - (intOf iv).toNat)
   case atStart=>exact⟨0,[],ρ,zv3 _,rfl,zr4 _,BY0.out,by rw [HRU.out];rfl⟩
   rename World=>V
   obtain⟨i,acc,ρ1,hi,rfl,hal,hby,hu⟩:=hrel
   have KI:=zh hi
   have KA:=zh hal
   have KB:=zh hby
   have KU:=zh hu
   obtain⟨uva,uvc,huv⟩:=hby.row.shape
   obtain⟨nc,hnc⟩:∃ n,n=acc.length:=⟨_,rfl⟩
   rw [← hnc] at huv
   subst huv
   have HNC:=zh hnc
   have hncz:(nc:Int)≤16:=by have:=N16.out;omega
   have LOW:Hid (Below W.heap.size W V∧∀ k,k<W.heap.size→ρ1 k=0):=⟨HB.out.trans (hby.ch.below HB.out.size fun k hk=>by rw [HW.out k hk];unfold OM;omega),fun k hk=>(hby.ch.role k (zt5 hk HB.out.size)).trans (HW.out k hk)⟩
   have FRE:=zh hby.ch.fresh
   have z5:V.cell? ⟨w.heap.size,5,none⟩=some (.slice xa ng xc):=by rw [zb _ _ 5 _ _ _ hby.box];rfl
   clear hi hal hu hnc z1 BY0 hby
   by_cases hlt:i<ng
   ·have hlz:(i:Int)<ng:=by omega
    have hi0:(0:Int)≤i:=by omega
    have HLT:=zh hlt
    obtain⟨ad,cc,hsl,hat⟩:=HAT.out.at'
    simp only [Value.slice.injEq] at hsl
    obtain⟨rfl,-,rfl⟩:=hsl
    obtain⟨g,o,rfl,hat2⟩:=hat (by rw [← HNG.out];omega)
    obtain⟨a,ha⟩:∃ a,e.args[i]?=some a:=⟨_,zq9 (by rw [← HNG.out];exact hlt)⟩
    obtain⟨mm,hca,-⟩:=hat2 i a ha
    have ya:=zd LOW.out.1 _ _ hca
    have HA:=zh ha
    clear hlt hat hat2 ha hca
    by_cases h0:a.size=0
    ·have c1:a.toList.isEmpty=true:=toList_empty h0
     have KN:Hid (usesR sc (e.args.drop (i+1)) acc=RU):=by show _=_;rw [← KU.out];exact(usesR_skip HA.out h0).symm
     clear h0
     go_wp2_with fail
     go_roundw
     case rel=>exact⟨i+1,acc,ρ1,HLT.out,by go_num,Nat.le_succ_of_le KA.out,KB.out,KN.out⟩
     case measure=>have:=HLT.out;simp [intOf];omega
    have c1:a.toList.isEmpty=false:=toList_full h0
    have H0:=zh h0
    clear h0
    go_wp2_with fail
    go_loopg [10] sc.length (fun gk xv wr=>∃ sc':List (Nm×Nat),gk=sc'.length∧ScR wr ρ1 sc' xv∧RF.look sc' a=RF.look sc a∧Below V.heap.size V wr)
    case atStart=>exact⟨sc,rfl,KB.out.scp,rfl,zs9 _ _⟩
    obtain⟨sc',hgk,hsr,hlk,hbv⟩:=hrel
    have GK:=zh hgk
    have LK:=zh hlk
    have BV:=zh hbv
    have y5:=zd hbv _ _ z5
    have yn:=zd hbv _ _ ya
    clear hgk hlk hbv
    cases sc' with
    | nil =>
     have hxv:_=Value.pointer none:=hsr
     subst hxv
     have RN:Hid (R=none):=by
      show _=_
      rw [HR.out]
      refine bodyR_lost ?_
      rw [← HRU.out,← KU.out]
      exact usesR_miss HA.out H0.out LK.out.symm
     clear hsr
     go_wp2_with fail
     go_quiet (fail)
     go_wp2_with fail
     go_ret
     exact⟨rero ρ1,(KB.out.below (BV.out.trans (zj _ _ _))).ch.re H9.out,re_ne ρ1,by rw [RN.out];rfl,fun st' h=>by rw [RN.out] at h;cases h⟩
    | cons p r =>
     obtain⟨b,vp,rfl,ho,hb0,hsr2⟩:=hsr
     obtain⟨vpa,rfl⟩:=hsr2.ptr
     have x0:wr.cell? ⟨b,0,none⟩=some (.string p.1):=by rw [zb _ _ 0 _ _ _ ho];rfl
     have x1:wr.cell? ⟨b,1,none⟩=some (.int .i64 (p.2:Int)):=by rw [zb _ _ 1 _ _ _ ho];rfl
     have x2:wr.cell? ⟨b,2,none⟩=some (.pointer vpa):=by rw [zb _ _ 2 _ _ _ ho];rfl
     have SR:=zh hsr2
     have HO:=zh ho
     clear hsr2 ho hb0
     by_cases hp:p.1=a
     ·have d1:(p.1.toList==a.toList)=true:=by rw [hp];simp
      have d2:(p.1.toList != a.toList)=false:=by rw [hp];simp
      obtain⟨n,hn⟩:∃ n,n=p.2:=⟨_,rfl⟩
      rw [← hn] at x1
      have UH:Hid (usesR sc (e.args.drop (i+1)) (if n∈acc then acc else acc++[n])=RU):=by
       show _=_
       rw [← KU.out]
       refine(usesR_hit HA.out H0.out ?_).symm
       rw [← LK.out,RF.look,if_pos hp,hn]
      have BO:Hid (wr.heap[b]?=some (.cells #[.string p.1,.int .i64 (n:Int),.pointer vpa] 150 (0,0))):=by rw [hn];exact HO.out
      clear hp x2 hn
      go_wp2_with fail
      go_quiet (fail)
      obtain⟨V2,hV2⟩:∃ X,X=wr.drewN nq:=⟨_,rfl⟩
      have BQ:Hid (Below V.heap.size V V2):=by rw [hV2];exact BV.out.trans (zj _ _ _)
      have BO2:Hid (V2.heap[b]?=some (.cells #[.string p.1,.int .i64 (n:Int),.pointer vpa] 150 (0,0))):=by rw [hV2];exact BO.out
      try rw [← hV2]
      clear hV2 x0 x1 y5 yn BO HO SR
      have KB2:=zh (KB.out.below BQ.out)
      go_wp2_with fail
      go_loopw [11,12] (fun kv jv wr=>∃ j:Nat,j≤nc∧kv = .bool (decide (n∈acc.take j))∧jv = .int .i64 j∧Below V2.heap.size V2 wr) (fun _ jv _=>nc - (intOf jv).toNat)
      case atStart=>exact⟨0,zv3 _,by simp,rfl,zs9 _ _⟩
      obtain⟨j,hj,rfl,rfl,hbv⟩:=hrel
      have KJ:=zh hj
      have BJ:=zh hbv
      have x1:wr.cell? ⟨b,1,none⟩=some (.int .i64 (n:Int)):=by rw [zb _ _ 1 _ _ _ (zm hbv BO2.out)];rfl
      obtain⟨kb,hkb⟩:∃ kb,kb=decide (n∈acc.take j):=⟨_,rfl⟩
      rw [← hkb]
      have HKB:=zh hkb
      clear hj hbv hkb
      by_cases hjn:j<nc
      ·have hjz:(j:Int)<nc:=by omega
       have hj0:(0:Int)≤j:=by omega
       have HJN:=zh hjn
       obtain⟨gu,guc,hgu,_,_,hcu,_⟩:=(KB2.out.below BJ.out).row.full (by rw [← HNC.out];omega)
       simp only [Value.slice.injEq] at hgu
       obtain⟨rfl,-,rfl⟩:=hgu
       obtain⟨y,hy⟩:∃ y,acc[j]?=some y:=⟨_,zq9 (by rw [← HNC.out];exact hjn)⟩
       have yu:=hcu j _ (nats_at hy)
       have TK:Hid (∀ bq,bq=decide (y=n)→decide (n∈acc.take (j+1))=(kb||bq)):=fun bq hbq=>by rw [hbq,HKB.out];exact mem_take_more hy
       clear hjn hcu hy
       cases kb with
       | true =>
        have T1:=TK.out _ rfl
        rw [Bool.true_or] at T1
        have TH:=zh T1
        clear T1
        go_wp2_with fail
        go_quiet (fail)
        go_wp2_with fail
        go_roundw
        case rel=>exact⟨j+1,HJN.out,by rw [TH.out],by go_num,BJ.out.trans (zj _ _ _)⟩
        case measure=>have:=HJN.out;simp [intOf];omega
       | false =>
        have T1:=TK.out _ rfl
        rw [Bool.false_or] at T1
        have TH:=zh T1
        clear T1
        by_cases hyn:y=n
        ·have d3:((y:Int)==n)=true:=by simp [hyn]
         have TT:Hid (decide (y=n)=true):=by show _=_;simp [hyn]
         clear hyn
         go_wp2_with fail
         go_quiet (fail)
         go_wp2_with fail
         go_roundw
         case rel=>exact⟨j+1,HJN.out,by rw [TH.out,TT.out],by go_num,BJ.out.trans (zj _ _ _)⟩
         case measure=>have:=HJN.out;simp [intOf];omega
        have d3:((y:Int)==n)=false:=by simp;omega
        have TT:Hid (decide (y=n)=false):=by show _=_;simp [hyn]
        clear hyn
        go_wp2_with fail
        go_quiet (fail)
        go_wp2_with fail
        go_roundw
        case rel=>exact⟨j+1,HJN.out,by rw [TH.out,TT.out],by go_num,BJ.out.trans (zj _ _ _)⟩
        case measure=>have:=HJN.out;simp [intOf];omega
      have hjz:(nc:Int)≤j:=by omega
      have hdj:decide (j<nc)=false:=by simp;omega
      have HKB2:Hid (kb=decide (n∈acc)):=by show _=_;rw [HKB.out,zr3 (by rw [← HNC.out];omega)]
      have KB3:=zh (KB2.out.below BJ.out)
      clear hjn HKB
      cases kb with
      | true =>
       have UH2:Hid (usesR sc (e.args.drop (i+1)) acc=RU):=by
        have h1:=UH.out
        rw [if_pos (by simpa using HKB2.out.symm)] at h1;exact h1
       go_wp2_with fail
       go_roundw
       case rel=>exact⟨i+1,acc,ρ1,HLT.out,by go_num,Nat.le_succ_of_le KA.out,KB3.out,UH2.out⟩
       case measure=>have:=HLT.out;simp [intOf];omega
      | false =>
       have UH2:Hid (usesR sc (e.args.drop (i+1)) (acc++[n])=RU):=by
        have h1:=UH.out
        rw [if_neg (by simpa using HKB2.out.symm)] at h1;exact h1
       have BA:Hid (Below wr.heap.size wr (wr.alloc (Obj.cells #[.int .i64 (n:Int)] 3))):=(zs9 _ _).alloc (zr4 _) _
       have XA:=zh (show (wr.alloc (Obj.cells #[.int .i64 (n:Int)] 3)).heap[wr.heap.size]?=some (.cells #[.int .i64 (n:Int)] 3 (0,0)) from zs2 wr _)
       have KB4:=zh (KB3.out.below BA.out)
       have RW:Hid (RR (wr.alloc (Obj.cells #[.int .i64 (n:Int)] 3)) ρ1 9 3 1 (.slice uva nc uvc) nc (nats acc)):=by have:=KB4.out.row;rw [← HNC.out] at this;exact this
       have NB8:Hid (nc+1≤maxLen∧(nc+1)*8≤140737488355328):=by show _∧_;simp only [maxLen];omega
       go_wp2_with (at_builtin;refine wpList_append_rr rfl _ _ 40 rfl 3 i3 (.int .i64 0) 1 8 Tryz.underlying40 HI3.out.1 HI3.out.2.1 HI3.out.2.2.1 HI3.out.2.2.2 rfl (by decide) ρ1 9 (.slice uva nc uvc) nc (nats acc) rfl RW.out (fun k hk=>KB3.out.ch.fresh k (zr5 BA.out.size hk)) ⟨wr.heap.size,0,none⟩ 1 1 [.int .i64 (n:Int)] rfl rfl (news1' XA.out) (fun u hu=>one1 rfl hu) NB8.out.1 NB8.out.2 ?_)
       intro a5 c5 w5 ρ5 hr5 hc5 hf5
       have KB5:=zh (KB4.out.more (n:=n) hc5 (by rw [← HNC.out];exact hr5))
       clear hr5 hc5 hf5 x1
       go_wp2_with fail
       go_roundw
       case rel=>exact⟨i+1,acc++[n],ρ5,HLT.out,by go_num,by rw [zr2];have:=KA.out;simp;omega,KB5.out,UH2.out⟩
       case measure=>have:=HLT.out;simp [intOf];omega
     have d1:(p.1.toList==a.toList)=false:=(zt6 fun e0=>hp (toList_inj e0))
     have d2:(p.1.toList != a.toList)=true:=by unfold bne;rw [d1];rfl
     have LK2:Hid (RF.look r a=RF.look sc a):=by show _=_;rw [← LK.out,RF.look,if_neg hp]
     clear hp
     go_wp2_with fail
     go_quiet (fail)
     go_wp2_with fail
     go_roundg r.length
     case measure=>rw [GK.out];simp
     case rel=>exact⟨r,rfl,ScR.keep (Ch.of_below (M:=fun _=>False) (zj _ _ _) (fun q hq=>FRE.out q (zr5 BV.out.size hq))) id SR.out,LK2.out,BV.out.trans (zj _ _ _)⟩
   have hlz:(ng:Int)≤i:=by omega
   have hdi:decide (i<ng)=false:=by simp;omega
   have RUS:Hid (RU=some acc):=by show _=_;rw [← KU.out,List.drop_of_length_le (by rw [← HNG.out];omega)];rfl
   have RR1:Hid (R=fR nu sc e.kids (st.node acc)):=by show _=_;rw [HR.out,HNU.out];exact bodyR_on OK.out (by rw [← HRU.out];exact RUS.out)
   have F0:=zh KB.out.fl.re
   have S0:=zh (ScR.re KB.out.scp)
   have Z0:Hid (ZA V (rero ρ1) (.slice uva nc uvc) acc.length (nats acc)):=by have h1:=KB.out.row;exact ZA.of_rr h1
   have C0:Hid (Ch OM ρ (rero ρ1) w V):=KB.out.ch.re H9.out
   have N0:Hid (∀ k,rero ρ1 k≠9):=fun k=>re_ne ρ1 k
   have X0:=zh KB.out.box
   have Q0:Hid (rero ρ1 w.heap.size=0):=re_of KB.out.boxr (by decide)
   obtain⟨ρr,hρr⟩:∃ r,r=rero ρ1:=⟨_,rfl⟩
   rw [← hρr] at F0 S0 Z0 C0 N0 Q0
   obtain⟨na2,nc2,hsn⟩:=F0.out.next.shape
   have hnx:st.next.length=nu:=by rw [HNU.out];exact BAL.out.next
   rw [hnx] at hsn
   subst hsn
   have HNX:=zh hnx
   have NB:Hid (nu+1≤maxLen∧(nu+1)*24≤140737488355328):=by show _∧_;simp only [maxLen];omega
   have B2:Hid (Below V.heap.size V (V.alloc (Obj.cells #[.slice uva nc uvc] 40))):=(zs9 _ _).alloc (zr4 _) _
   have X1:=zh (show (V.alloc (Obj.cells #[.slice uva nc uvc] 40)).heap[V.heap.size]?=some (.cells #[.slice uva nc uvc] 40 (0,0)) from zs2 V _)
   have F1:=zh (F0.out.below B2.out C0.out.fresh)
   have z1:V.cell? ⟨fb,1,none⟩=some (.slice ua nu uc):=F0.out.cell 1 _ rfl
   have R1:Hid (RR (V.alloc (Obj.cells #[.slice uva nc uvc] 40)) ρr 4 40 1 (.slice ua nu uc) nu us):=by have:=F1.out.uses;rw [← HNU.out] at this;exact this
   clear KB hρr hlt KI KU RUS FRE LOW hnx
   go_wp2_with (at_builtin;refine wpList_append_rr rfl _ _ 39 rfl 40 i40 (.slice none 0 0) 1 24 Tryz.underlying39 HI40.out.1 HI40.out.2.1 HI40.out.2.2.1 HI40.out.2.2.2 rfl (by decide) ρr 4 (.slice ua nu uc) nu us rfl R1.out (fun k hk=>C0.out.fresh k (zr5 B2.out.size hk)) ⟨V.heap.size,0,none⟩ 1 1 [.slice uva nc uvc] rfl rfl (news1' X1.out) (fun u hu=>one1 rfl hu) NB.out.1 NB.out.2 ?_)
   intro a4 c4 w4 ρ4 hr4 hc4 hf4
   clear z5
   have y0:=hc4.keep F1.out.obj (by rw [F1.out.role];decide)
   have t0:w4.cell? ⟨fb,1,none⟩=some (.slice ua nu uc):=by rw [zb _ _ 1 _ _ _ y0];rfl
   have t3:w4.frozen? ⟨fb,1,none⟩=false:=zs1 _ _ 1 _ _ y0
   have c2:Ch (fun q=>q=4∨q=2) ρr ρ4 V (w4.setCell ⟨fb,1,none⟩ (.slice a4 (nu+1) c4)):=((Ch.of_below (M:=fun q=>q=4∨q=2) B2.out C0.out.fresh).trans (ch_put hc4 F1.out.lt F1.out.role))
   have F2:=zh (F1.out.putUses (v' := .slice a4 (nu+1) c4) (x := .slice uva nc uvc) (l:=acc) hc4 (by rw [← HNU.out];exact hr4) (Z0.out.keep (Ch.of_below (M:=fun _=>False) B2.out C0.out.fresh) id))
   have S2:=zh (ScR.keep c2 (by decide) S0.out)
   have C2:Hid (Ch OM ρ ρ4 w (w4.setCell ⟨fb,1,none⟩ (.slice a4 (nu+1) c4))):=C0.out.trans (c2.mono fun r hr=>by unfold OM;omega)
   have N2:Hid (∀ k,ρ4 k≠9):=n9_step hc4 N0.out (fun q hq=>hf4 q (by simpa using hq)) (by decide)
   have X2:=zh (c2.keep X0.out (by rw [Q0.out];decide))
   have Q2:Hid (ρ4 w.heap.size=0):=(c2.keepRole X0.out).trans Q0.out
   clear hr4 hc4 hf4 y0 c2 z1 R1 F0 F1 S0 C0 N0 Z0 X1 B2 X0 Q0
   go_upto_region 22 with fail
   obtain⟨V9,hV9⟩:∃ X,X=w4.setCell ⟨fb,1,none⟩ (.slice a4 (nu+1) c4):=⟨_,rfl⟩
   rw [← hV9] at F2 S2 C2 X2
   try rw [← hV9]
   clear hV9 t0 t3
   have B2:Hid (Below V9.heap.size V9 (V9.alloc (Obj.cells #[.slice none 0 0] 40))):=(zs9 _ _).alloc (zr4 _) _
   have X1:=zh (show (V9.alloc (Obj.cells #[.slice none 0 0] 40)).heap[V9.heap.size]?=some (.cells #[.slice none 0 0] 40 (0,0)) from zs2 V9 _)
   have F1:=zh (F2.out.below B2.out C2.out.fresh)
   have z2:V9.cell? ⟨fb,2,none⟩=some (.slice na2 nu nc2):=F2.out.cell 2 _ rfl
   have R1:Hid (RR (V9.alloc (Obj.cells #[.slice none 0 0] 40)) ρ4 5 40 1 (.slice na2 nu nc2) nu ns):=by have:=F1.out.next;rw [show ({ st with uses:=st.uses++[acc] }:St).next.length=nu from HNX.out] at this;exact this
   go_wp2_with (at_builtin;refine wpList_append_rr rfl _ _ 39 rfl 40 i40 (.slice none 0 0) 1 24 Tryz.underlying39 HI40.out.1 HI40.out.2.1 HI40.out.2.2.1 HI40.out.2.2.2 rfl (by decide) ρ4 5 (.slice na2 nu nc2) nu ns rfl R1.out (fun k hk=>C2.out.fresh k (zr5 B2.out.size hk)) ⟨V9.heap.size,0,none⟩ 1 1 [.slice none 0 0] rfl rfl (news1' X1.out) (fun u hu=>one1 rfl hu) NB.out.1 NB.out.2 ?_)
   intro a5 c5 w5 ρ5 hr5 hc5 hf5
   have y0:=hc5.keep F1.out.obj (by rw [F1.out.role];decide)
   have t0:w5.cell? ⟨fb,2,none⟩=some (.slice na2 nu nc2):=by rw [zb _ _ 2 _ _ _ y0];rfl
   have t3:w5.frozen? ⟨fb,2,none⟩=false:=zs1 _ _ 2 _ _ y0
   have c2:Ch (fun q=>q=5∨q=2) ρ4 ρ5 V9 (w5.setCell ⟨fb,2,none⟩ (.slice a5 (nu+1) c5)):=((Ch.of_below (M:=fun q=>q=5∨q=2) B2.out C2.out.fresh).trans (ch_put hc5 F1.out.lt F1.out.role))
   have F3:=zh (F1.out.putNext (v' := .slice a5 (nu+1) c5) hc5 (by rw [show ({ st with uses:=st.uses++[acc] }:St).next.length=nu from HNX.out];exact hr5))
   have ND:Hid (NdV w ρ fb (st.node acc) sc (.pointer sca) w.heap.size #[.int .i64 k,.string nm,.string op,.int .i64 num,.int .i64 site,.slice xa ng xc,.slice aa na ca,.slice ab nb cb] ρ5 (w5.setCell ⟨fb,2,none⟩ (.slice a5 (nu+1) c5))) :=
    ⟨⟨_,_,_,_,_,_,_,_,_,_,F3.out⟩,C2.out.trans (c2.mono fun r hr=>by unfold OM;omega),n9_step hc5 N2.out (fun q hq=>hf5 q (by simpa using hq)) (by decide),ScR.keep c2 (by decide) S2.out,c2.keep X2.out (by rw [Q2.out];decide),(c2.keepRole X2.out).trans Q2.out⟩
   have BL:=zh (BAL.out.node acc)
   have UL:Hid ((st.node acc).uses.length=nu+1):=by show (st.uses++[acc]).length=_;rw [zr2,← HNU.out];rfl
   clear hr5 hc5 hf5 y0 c2 z2 R1 F1 F2 F3 S2 C2 N2 X2 Q2 X1 B2 HNX
   go_upto_region 23 with fail
   obtain⟨V,hV⟩:∃ X,X=w5.setCell ⟨fb,2,none⟩ (.slice a5 (nu+1) c5):=⟨_,rfl⟩
   rw [← hV] at ND
   try rw [← hV]
   clear hV t0 t3
   obtain⟨S1,hS1⟩:∃ s,s=st.node acc:=⟨_,rfl⟩
   rw [← hS1] at RR1 ND BL UL
   have N1:Hid (S1.next[nu]?=some []):=by
    show _=_
    rw [hS1]
    show (st.next++[[]])[nu]?=_
    rw [show nu=st.next.length from by have:=BAL.out.next;have:=HNU.out;omega,List.getElem?_append_right (zr4 _),Nat.sub_self];rfl
   have SZ1:Hid (S1.uses.length+sizes e.kids≤20000):=by show _≤_;have h1:=UL.out;have h2:=HSZ.out;have h3:=e.size_kids;have h4:=HNU.out;omega
   have z7:V.cell? ⟨w.heap.size,7,none⟩=some (.slice ab nb cb):=by rw [zb _ _ 7 _ _ _ ND.out.box];rfl
   have z6:V.cell? ⟨w.heap.size,6,none⟩=some (.slice aa na ca):=by rw [zb _ _ 6 _ _ _ ND.out.box];rfl
   have z1:V.cell? ⟨w.heap.size,1,none⟩=some (.string nm):=by rw [zb _ _ 1 _ _ _ ND.out.box];rfl
   clear hS1
   by_cases hb:0<nb
   ·have hbz:(0:Int)<nb:=by omega
    have hbd:decide ((0:Int)<nb)=true:=by simp;omega
    obtain⟨gb,ob,rfl,htb⟩:=HBO.out hb
    obtain⟨e1,he1,hkids⟩:∃ e1,TB.nth e.body 0=some e1∧e.kids=[([e.name],e1)]:=by
     have h1:=N16.out.2
     have h2:=HNB.out
     have hok:=nodeOk_iff.1 OK.out
     have harm:e.arms.length=0:=by
      have h3:=hok.2.2.2
      have h4:=hok.2.1
      by_cases h6:e.kind≤6
      ·rw [if_neg (by omega)] at h3;exact h3
      rw [if_neg h6] at h4;omega
     obtain⟨kk,n0,xs,arms,body⟩:=e
     cases body with
     | nil=>simp [TE.body,TB.length] at h2;omega
     | cons e1 r =>
      cases r with
      | nil =>
       cases arms with
       | nil=>exact⟨e1,rfl,rfl⟩
       | cons vs e2 r2=>simp [TE.arms,TA.length] at harm
      | cons e2 r2=>simp [TE.body,TB.length] at h2;omega
    have HK:=zh hkids
    have T1:=TBAt.nth e.body gb ob 0 e1 htb he1
    obtain⟨op1,num1,site1,xa1,aa1,ab1,xc1,ca1,cb1,hcs,hx1⟩:=T1.cells
    rw [Nat.zero_mul,Nat.add_zero] at hcs
    have CS:=zh hcs
    have HX1:=zh hx1
    have HS1:Hid (e1.size≤N∧S1.uses.length+e1.size≤20000):=by
     have h1:=e.size_kids
     have h2:=SZ1.out
     have h3:=HNN.out
     rw [HK.out,zg,zw] at h1 h2
     simp only [] at h1 h2
     show _∧_;omega
    have BA:Hid (Below V.heap.size V (V.alloc (Obj.cells #[.string nm] 9))):=(zs9 _ _).alloc (zr4 _) _
    have NA:=zh (ND.out.below BA.out)
    have BD:=zh (rbind_any (names:=[nm]) (of:=(nu:Int)) NA.out.fl NA.out.ch.fresh NA.out.nine (ZA.lit V (.string nm) 9 (ND.out.ch.fresh _ (zr4 _))) (by simp) NA.out.scp (by have h1:=BL.out.vars;have h2:=BL.out.binds;have h3:=UL.out;omega) (by have h2:=BL.out.binds;have h3:=UL.out;omega) BL.out.binds.symm)
    have BL1:=zh (BL.out.bind (bs:=[nm]) (by simp) nu)
    clear hb htb he1 hkids T1 hcs hx1 z6 hbd
    go_wp2_with fail
    refine BD.out.mono ?_
    rintro en w6 ⟨ρ6,pa,rfl,hc6,h96,hf6,hs6⟩
    have ND6:=zh (NA.out.next (hc6.mono fun r=>BM.om) hf6 h96)
    have SC6:=zh hs6
    obtain⟨sv,su,sn,sb,sa,so,us,ns,bs,os,hf⟩:=hf6
    have FL6:=zh hf
    clear hc6 h96 hs6 hf BD NA ND z1 z7
    have BL1x:Hid (Bal1 (S1.bind [nm])):=⟨by show (S1.binds++[_]).length=S1.uses.length+1;rw [zr2,BL.out.binds];rfl,BL.out.next,by have h1:=BL.out.vars;show (S1.vars++[nm]).length≤16*(S1.binds++[_]).length;rw [zr2,zr2];simp;omega⟩
    obtain⟨na3,nc3,hsn⟩:=FL6.out.next.shape
    obtain⟨nbb,hnbb⟩:∃ n,n=(S1.bind [nm]).binds.length:=⟨_,rfl⟩
    obtain⟨ba3,bc3,hsb⟩:=FL6.out.binds.shape
    rw [← hnbb] at hsb
    subst hsb
    have HNBB:=zh hnbb
    have hnx3:(S1.bind [nm]).next.length=(S1.bind [nm]).uses.length:=BL1x.out.next
    obtain⟨l3,hl3,hl3len⟩:∃ l,(S1.bind [nm]).next[nu]?=some l∧l.length≤16:=⟨[],by show S1.next[nu]?=_;exact N1.out,by simp⟩
    have hnu3:=(zq8.1 hl3).1
    obtain⟨g5,c5b,hsn2,hg5,hg5lt,hc5,hfz5⟩:=FL6.out.next.full (by omega)
    have NE:=hsn2
    obtain⟨nn3,hnn3⟩:∃ n,n=(S1.bind [nm]).next.length:=⟨_,rfl⟩
    rw [← hnn3] at hsn2 NE
    subst hsn2
    have HNE:=zh NE
    obtain⟨v3,hv3,hr3⟩:=FL6.out.nextAt nu l3 hl3
    have z11:=hc5 nu _ hv3
    have fz:=hfz5 nu
    obtain⟨la3,lc3,hlv⟩:=hr3.shape
    subst hlv
    have hnuz3:(nu:Int)<nn3:=by omega
    have hnu0:(0:Int)≤nu:=by omega
    have hnbb1:1≤nbb:=by rw [hnbb];show 1≤(_++[_]).length;rw [zr2];simp
    have hbb1:(1:Int)≤nbb:=by omega
    have hbb2:(nbb:Int)≤100000:=by
     have h1:(S1.bind [nm]).binds.length=(S1.bind [nm]).uses.length+1:=BL1x.out.binds
     have h2:=HS1.out
     have h3:(S1.bind [nm]).uses.length≤20000:=by have:(S1.bind [nm]).uses.length=S1.uses.length:=rfl;omega
     omega
    have hwb:IntKind.i64.wrap ((nbb:Int) - 1)=(nbb:Int) - 1:=Lx.wrap_in _ (by omega)
    have e3:((nbb:Int) - 1)=((nbb - 1:Nat):Int):=by omega
    have E3:=zh e3
    have hl3z:(l3.length:Int)≤16:=by omega
    obtain⟨n3,hn3⟩:∃ n,n=l3.length:=⟨_,rfl⟩
    rw [← hn3] at z11 hl3z
    have HN3:=zh hn3
    have H5:=zh (And.intro hg5 hg5lt)
    have HL3:=zh hl3
    have z2:w6.cell? ⟨fb,2,none⟩=some (.slice (some ⟨g5,0,none⟩) nn3 c5b):=FL6.out.cell 2 _ rfl
    have hb1:fb<w6.heap.size:=zs3 w6 _ z2
    have hb2:g5<w6.heap.size:=hg5lt
    have z3:w6.cell? ⟨fb,3,none⟩=some (.slice ba3 nbb bc3):=FL6.out.cell 3 _ rfl
    have B7:Hid (Below w6.heap.size w6 ((w6.alloc (Obj.cells #[.int .i64 ((nbb:Int) - 1)] 3)).drew)):=((zs9 _ _).alloc (zr4 _) _).drew
    have X7:=zh (show ((w6.alloc (Obj.cells #[.int .i64 ((nbb:Int) - 1)] 3)).drew).heap[w6.heap.size]?=some (.cells #[.int .i64 ((nbb:Int) - 1)] 3 (0,0)) from zs2 w6 (.cells #[.int .i64 ((nbb:Int) - 1)] 3))
    have F7:=zh (FL6.out.below B7.out ND6.out.ch.fresh)
    have R7:Hid (RR ((w6.alloc (Obj.cells #[.int .i64 ((nbb:Int) - 1)] 3)).drew) ρ6 (10+nu) 3 1 (.slice la3 n3 lc3) n3 (nats l3)):=by
     have h1:=hr3.keep (Ch.of_below (M:=fun _=>False) B7.out ND6.out.ch.fresh) id
     rw [hn3];exact h1
    have NB7:Hid (n3+1≤maxLen∧(n3+1)*8≤140737488355328):=by show _∧_;simp only [maxLen];omega
    clear hsn hnbb hnx3 hl3 hl3len hnu3 hg5 hg5lt hc5 hfz5 NE hnn3 hv3 hr3 hn3 e3
    go_wp2_with fail
    refine wp_region_part (S:=fun w'=>w'.cell? ⟨fb,2,none⟩=some (.slice (some ⟨g5,0,none⟩) nn3 c5b)∧w'.cell? ⟨fb,3,none⟩=some (.slice ba3 nbb bc3)∧w'.cell? ⟨g5,nu,none⟩=some (.slice la3 n3 lc3)) [true,true,true,true,true,true,true,true,true,true,true,true,true,true,true,true,true,true,false,false] (by kernel_rfl) (by kernel_rfl) (fun _ _ d _ _ h=>by cases d<;>exact h) ⟨z2,z3,z11⟩ ?_
    iterate 18 (refine wpRd_step (v:=?_) (Or.inl ⟨by rfl,?_⟩) ?_;rotate_left;(intro wz hSw;obtain⟨k0,k1,k2⟩:=hSw;go_simp;try with_reducible rfl);try simp only [Act.put,zq4,zq5,zq6])
    refine wpEf_step (fun K hK=>?_)
    go_simp
    refine hK.out _ _ ⟨zs4 _ z2,zs4 _ z3,zs4 _ z11⟩ (fun hHeld=>?_)
    clear hK K hHeld
    try simp only [Act.put,zq4,zq5,zq6]
    refine wpEf_step (fun K hK=>?_)
    refine step_append_rr rfl _ _ 40 rfl 3 i3 (.int .i64 0) 1 8 Tryz.underlying40 HI3.out.1 HI3.out.2.1 HI3.out.2.2.1 HI3.out.2.2.2 rfl (by decide) ρ6 (10+nu) (.slice la3 n3 lc3) n3 (nats l3) rfl R7.out (fun k hk=>ND6.out.ch.fresh k (zr5 B7.out.size hk)) ⟨w6.heap.size,0,none⟩ 1 1 [.int .i64 ((nbb:Int) - 1)] rfl rfl (news1' X7.out) (fun u hu=>one1 rfl hu) NB7.out.1 NB7.out.2 ?_
    intro a8 c8 w8 ρ8 hr8 hc8 hf8
    have y0:=hc8.keep F7.out.obj (by rw [F7.out.role];omega)
    have t0:w8.cell? ⟨fb,2,none⟩=some (.slice (some ⟨g5,0,none⟩) nn3 c5b):=by rw [zb _ _ 2 _ _ _ y0];rfl
    have t1:w8.cell? ⟨fb,3,none⟩=some (.slice ba3 nbb bc3):=by rw [zb _ _ 3 _ _ _ y0];rfl
    have t2:w8.cell? ⟨g5,nu,none⟩=some (.slice la3 n3 lc3):=hc8.cell (zd B7.out _ _ z11) (by show ¬ (ρ6 g5=10+nu);rw [H5.out.1];omega)
    have t3:w8.frozen? ⟨g5,nu,none⟩=false:=(World.frozen?_of_block (a:=⟨g5,nu,none⟩) ((hc8.block g5 (zt5 H5.out.2 B7.out.size) (by show ¬ (ρ6 g5=10+nu);rw [H5.out.1];omega)).trans (B7.out.block g5 H5.out.2))).trans fz
    have hg5f:fb≠g5:=by intro hh;have h1:=F7.out.role;rw [hh] at h1;rw [H5.out.1] at h1;omega
    have N8:=zh (ND6.out.link FL6.out rfl rfl HL3.out rfl B7.out hc8 (by rw [← HN3.out,← E3.out];exact hr8) (fun q hq=>hf8 q (by simpa using hq)) (x:=nbb - 1) (by rw [← HNBB.out]))
    have S8:Hid (ScR (w8.setCell ⟨g5,nu,none⟩ (.slice a8 (n3+1) c8)) ρ8 (scope S1.vars.length [nm] sc) (.pointer pa)):=ScR.keep (M:=OM) (((Ch.of_below (M:=OM) B7.out ND6.out.ch.fresh).trans (hc8.mono fun r hr=>by unfold OM;omega)).setCell _ _ fun _=>by show OM (ρ6 g5);rw [H5.out.1];unfold OM;omega) OM.no0 SC6.out
    clear hr8 hc8 hf8 y0
    refine hK.out _ _ ⟨t0,t1,t2⟩ (fun hHeld=>?_)
    clear hK K hHeld
    try simp only [Act.put,zq4,zq5,zq6]
    refine wpEf_nil ?_
    simp only [behind]
    go_upto_region 26 with fail
    obtain⟨V8,hV8⟩:∃ X,X=w8.setCell ⟨g5,nu,none⟩ (.slice a8 (n3+1) c8):=⟨_,rfl⟩
    rw [← hV8] at N8 S8
    try rw [← hV8]
    clear hV8 t0 t1 t2 t3 hg5f z2 z3 z11 fz F7 R7 B7 X7 FL6 ND6 SC6
    have LOW:=zh (N8.out.low HB.out HW.out)
    have z7:V8.cell? ⟨w.heap.size,7,none⟩=some (.slice (some ⟨gb,ob,none⟩) nb cb):=by rw [zb _ _ 7 _ _ _ N8.out.box];rfl
    obtain⟨q0,q1,q2,q3,q4,q5,q6,q7⟩:=CS.out.kept (zd LOW.out.1)
    have CB:=zh (IH.out e1 HS1.out.1 (op:=op1) (num:=num1) (site:=site1) (ca:=ca1) (cb:=cb1) HX1.out LOW.out.1 LOW.out.2 N8.out.fl N8.out.ch.fresh N8.out.nine S8.out BL1.out HS1.out.2)
    have RF1:Hid (R=bodyR e1 (scope S1.vars.length [nm] sc) ((S1.bind [nm]).link nu)):=by
     show _=_
     rw [RR1.out,HK.out,fR_cons,← HNM.out]
     cases bodyR e1 (scope S1.vars.length [nm] sc) ((S1.bind [nm]).link nu) with
     | none=>rfl
     | some st'=>rfl
    have i7:0<nb:=by omega
    go_wp2_with fail
    refine CB.out.mono ?_
    rintro en w9 ⟨ρ9,hc9,h99,rfl,hr9⟩
    have C9:Hid (Ch OM ρ ρ9 w w9):=N8.out.ch.trans hc9
    rw [← RF1.out]
    clear z7 q0 q1 q2 q3 q4 q5 q6 q7
    go_wp2_with fail
    go_ret
    exact⟨ρ9,C9.out,h99,rfl,fun st' h=>hr9 st' (by rw [← RF1.out];exact h)⟩
   have hbz:(nb:Int)≤0:=by omega
   have hbd:decide ((0:Int)<nb)=false:=by simp;omega
   have hbd2:decide (0<nb)=false:=by simp;omega
   have hkids:e.kids=e.arms.kids:=by
    obtain⟨kk,n0,xs,arms,body⟩:=e
    cases body with
    | nil=>rfl
    | cons e1 r=>have h2:=HNB.out;simp [TE.body,TB.length] at h2;omega
   have HK:=zh hkids
   have hnaz:(na:Int)≤16:=by
    have h3:=(nodeOk_iff.1 OK.out).2.2.2
    rw [← HNA.out] at h3
    split at h3<;>omega
   clear hb hkids z1
   go_wp2_with fail
   go_loopw [14] (fun iv wr=>∃ (i:Nat) (s1:St) (ρ6:Nat→Nat) (l:List Nat),i≤na∧iv = .int .i64 i∧NdV w ρ fb s1 sc (.pointer sca) w.heap.size #[.int .i64 k,.string nm,.string op,.int .i64 num,.int .i64 site,.slice xa ng xc,.slice aa na ca,.slice ab nb cb] ρ6 wr∧Bal s1∧s1.uses.length+sizes (e.arms.kids.drop i)≤20000∧fR nu sc (e.arms.kids.drop i) s1=R∧s1.next[nu]?=some l∧l.length≤i) (fun iv _=>na - (intOf iv).toNat)
   case atStart=>exact⟨0,S1,ρ5,[],zv3 _,rfl,ND.out,BL.out,by rw [List.drop_zero,← HK.out];exact SZ1.out,by rw [List.drop_zero,← HK.out];exact RR1.out.symm,N1.out,zr4 _⟩
   rename World=>V
   obtain⟨i2,s1,ρ6,l,hi2,rfl,hnd,hbl,hsz,hfr,hnx,hll⟩:=hrel
   have KI2:=zh hi2
   have KN:=zh hnd
   have KBL:=zh hbl
   have KSZ:=zh hsz
   have KFR:=zh hfr
   have KNX:=zh hnx
   have KLL:=zh hll
   clear z6
   have z6:V.cell? ⟨w.heap.size,6,none⟩=some (.slice aa na ca):=by rw [zb _ _ 6 _ _ _ hnd.box];rfl
   have LOW:=zh (hnd.low HB.out HW.out)
   clear hi2 hnd hbl hsz hfr hnx hll
   by_cases hlt2:i2<na
   ·have hlz2:(i2:Int)<na:=by omega
    have hi20:(0:Int)≤i2:=by omega
    have HLT2:=zh hlt2
    obtain⟨ga,oa,rfl,hta⟩:=HAR.out (by omega)
    obtain⟨⟨vs,e1⟩,hp⟩:∃ p,e.arms.kids[i2]?=some p:=⟨_,zq9 (by rw [TA.kids_length,← HNA.out];exact hlt2)⟩
    obtain⟨⟨con,vv,y0,y1,hst⟩,T1⟩:=TAAt.nth e.arms ga oa i2 vs e1 hta (by rw [← TA.nth_kids];exact hp)
    obtain⟨op1,num1,site1,xa1,aa1,ab1,xc1,ca1,cb1,hcs,hx1⟩:=T1.cells
    have CS:=zh hcs
    have HX1:=zh hx1
    have y1:=zd LOW.out.1 _ _ y1
    have ZV:Hid (ZA V ρ6 vv vs.length (strs vs)):=ZA.of_sl hst LOW.out.1 LOW.out.2
    obtain⟨_,sa1,sc1,rfl,_⟩:=hst
    have V16:Hid (vs.length≤16):=nodeOk_kids OK.out (vs,e1) (by rw [HK.out];exact zr1 hp)
    have hsd:=sizes_drop hp
    simp only [] at hsd
    have HS1:Hid (e1.size≤N∧s1.uses.length+e1.size+sizes (e.arms.kids.drop (i2+1))≤20000):=by
     have h1:=e.size_kids
     have h3:=HNN.out
     have h4:=KSZ.out
     have h5:=zr (e.arms.kids.take i2) (e.arms.kids.drop i2)
     rw [List.take_append_drop] at h5
     rw [HK.out] at h1
     show _∧_;omega
    have FRN:Hid (R=match bodyR e1 (scope s1.vars.length vs sc) ((s1.bind vs).link nu) with
      | none=>none
      | some st'=>fR nu sc (e.arms.kids.drop (i2+1)) st'):=by show _=_;rw [← KFR.out,fR_at hp];rfl
    have BD:=zh (rbind_any (names:=vs) (of:=(nu:Int)) KN.out.fl KN.out.ch.fresh KN.out.nine ZV.out V16.out KN.out.scp (by have h1:=KBL.out.vars;have h2:=KBL.out.binds;have h3:=HS1.out;omega) (by have h2:=KBL.out.binds;have h3:=HS1.out;omega) KBL.out.binds.symm)
    have BL1:=zh (KBL.out.bind (bs:=vs) V16.out nu)
    obtain⟨nvs,hnvs⟩:∃ n,n=vs.length:=⟨_,rfl⟩
    rw [← hnvs] at y1 BD
    clear hlt2 hta hp y0 T1 hcs hx1 hsd hnvs
    go_wp2_with fail
    refine BD.out.mono ?_
    rintro en w6 ⟨ρ7,pa,rfl,hc6,h96,hf6,hs6⟩
    have ND6:=zh (KN.out.next (hc6.mono fun r=>BM.om) hf6 h96)
    have SC6:=zh hs6
    obtain⟨sv,su,sn,sb,sa,so,us,ns,bs,os,hf⟩:=hf6
    have FL6:=zh hf
    clear hc6 h96 hs6 hf BD y1 z6
    have BL1x:Hid (Bal1 (s1.bind vs)):=⟨by show (s1.binds++[_]).length=s1.uses.length+1;rw [zr2,KBL.out.binds];rfl,KBL.out.next,by have h1:=KBL.out.vars;have h2:=V16.out;show (s1.vars++vs).length≤16*(s1.binds++[_]).length;rw [zr2,zr2];simp;omega⟩
    obtain⟨na3,nc3,hsn⟩:=FL6.out.next.shape
    obtain⟨nbb,hnbb⟩:∃ n,n=(s1.bind vs).binds.length:=⟨_,rfl⟩
    obtain⟨ba3,bc3,hsb⟩:=FL6.out.binds.shape
    rw [← hnbb] at hsb
    subst hsb
    have HNBB:=zh hnbb
    have hnx3:(s1.bind vs).next.length=(s1.bind vs).uses.length:=BL1x.out.next
    obtain⟨l3,hl3,hl3len⟩:∃ l,(s1.bind vs).next[nu]?=some l∧l.length≤16:=⟨l,KNX.out,by have:=KLL.out;have:=HLT2.out;omega⟩
    have hnu3:=(zq8.1 hl3).1
    obtain⟨g5,c5b,hsn2,hg5,hg5lt,hc5,hfz5⟩:=FL6.out.next.full (by omega)
    have NE:=hsn2
    obtain⟨nn3,hnn3⟩:∃ n,n=(s1.bind vs).next.length:=⟨_,rfl⟩
    rw [← hnn3] at hsn2 NE
    subst hsn2
    have HNE:=zh NE
    obtain⟨v3,hv3,hr3⟩:=FL6.out.nextAt nu l3 hl3
    have z11:=hc5 nu _ hv3
    have fz:=hfz5 nu
    obtain⟨la3,lc3,hlv⟩:=hr3.shape
    subst hlv
    have hnuz3:(nu:Int)<nn3:=by omega
    have hnu0:(0:Int)≤nu:=by omega
    have hnbb1:1≤nbb:=by rw [hnbb];show 1≤(_++[_]).length;rw [zr2];simp
    have hbb1:(1:Int)≤nbb:=by omega
    have hbb2:(nbb:Int)≤100000:=by
     have h1:(s1.bind vs).binds.length=(s1.bind vs).uses.length+1:=BL1x.out.binds
     have h2:=HS1.out
     have h3:(s1.bind vs).uses.length≤20000:=by have:(s1.bind vs).uses.length=s1.uses.length:=rfl;omega
     omega
    have hwb:IntKind.i64.wrap ((nbb:Int) - 1)=(nbb:Int) - 1:=Lx.wrap_in _ (by omega)
    have e3:((nbb:Int) - 1)=((nbb - 1:Nat):Int):=by omega
    have E3:=zh e3
    have hl3z:(l3.length:Int)≤16:=by omega
    obtain⟨n3,hn3⟩:∃ n,n=l3.length:=⟨_,rfl⟩
    rw [← hn3] at z11 hl3z
    have HN3:=zh hn3
    have H5:=zh (And.intro hg5 hg5lt)
    have HL3:=zh hl3
    have z2:w6.cell? ⟨fb,2,none⟩=some (.slice (some ⟨g5,0,none⟩) nn3 c5b):=FL6.out.cell 2 _ rfl
    have hb1:fb<w6.heap.size:=zs3 w6 _ z2
    have hb2:g5<w6.heap.size:=hg5lt
    have z3:w6.cell? ⟨fb,3,none⟩=some (.slice ba3 nbb bc3):=FL6.out.cell 3 _ rfl
    have B7:Hid (Below w6.heap.size w6 ((w6.alloc (Obj.cells #[.int .i64 ((nbb:Int) - 1)] 3)).drew)):=((zs9 _ _).alloc (zr4 _) _).drew
    have X7:=zh (show ((w6.alloc (Obj.cells #[.int .i64 ((nbb:Int) - 1)] 3)).drew).heap[w6.heap.size]?=some (.cells #[.int .i64 ((nbb:Int) - 1)] 3 (0,0)) from zs2 w6 (.cells #[.int .i64 ((nbb:Int) - 1)] 3))
    have F7:=zh (FL6.out.below B7.out ND6.out.ch.fresh)
    have R7:Hid (RR ((w6.alloc (Obj.cells #[.int .i64 ((nbb:Int) - 1)] 3)).drew) ρ7 (10+nu) 3 1 (.slice la3 n3 lc3) n3 (nats l3)):=by
     have h1:=hr3.keep (Ch.of_below (M:=fun _=>False) B7.out ND6.out.ch.fresh) id
     rw [hn3];exact h1
    have NB7:Hid (n3+1≤maxLen∧(n3+1)*8≤140737488355328):=by show _∧_;simp only [maxLen];omega
    clear hsn hnbb hnx3 hl3 hl3len hnu3 hg5 hg5lt hc5 hfz5 NE hnn3 hv3 hr3 hn3 e3
    go_wp2_with fail
    refine wp_region_part (S:=fun w'=>w'.cell? ⟨fb,2,none⟩=some (.slice (some ⟨g5,0,none⟩) nn3 c5b)∧w'.cell? ⟨fb,3,none⟩=some (.slice ba3 nbb bc3)∧w'.cell? ⟨g5,nu,none⟩=some (.slice la3 n3 lc3)) [true,true,true,true,true,true,true,true,true,true,true,true,true,true,true,true,true,true,false,false] (by kernel_rfl) (by kernel_rfl) (fun _ _ d _ _ h=>by cases d<;>exact h) ⟨z2,z3,z11⟩ ?_
    iterate 18 (refine wpRd_step (v:=?_) (Or.inl ⟨by rfl,?_⟩) ?_;rotate_left;(intro wz hSw;obtain⟨k0,k1,k2⟩:=hSw;go_simp;try with_reducible rfl);try simp only [Act.put,zq4,zq5,zq6])
    refine wpEf_step (fun K hK=>?_)
    go_simp
    refine hK.out _ _ ⟨zs4 _ z2,zs4 _ z3,zs4 _ z11⟩ (fun hHeld=>?_)
    clear hK K hHeld
    try simp only [Act.put,zq4,zq5,zq6]
    refine wpEf_step (fun K hK=>?_)
    refine step_append_rr rfl _ _ 40 rfl 3 i3 (.int .i64 0) 1 8 Tryz.underlying40 HI3.out.1 HI3.out.2.1 HI3.out.2.2.1 HI3.out.2.2.2 rfl (by decide) ρ7 (10+nu) (.slice la3 n3 lc3) n3 (nats l3) rfl R7.out (fun k hk=>ND6.out.ch.fresh k (zr5 B7.out.size hk)) ⟨w6.heap.size,0,none⟩ 1 1 [.int .i64 ((nbb:Int) - 1)] rfl rfl (news1' X7.out) (fun u hu=>one1 rfl hu) NB7.out.1 NB7.out.2 ?_
    intro a8 c8 w8 ρ8 hr8 hc8 hf8
    have y0:=hc8.keep F7.out.obj (by rw [F7.out.role];omega)
    have t0:w8.cell? ⟨fb,2,none⟩=some (.slice (some ⟨g5,0,none⟩) nn3 c5b):=by rw [zb _ _ 2 _ _ _ y0];rfl
    have t1:w8.cell? ⟨fb,3,none⟩=some (.slice ba3 nbb bc3):=by rw [zb _ _ 3 _ _ _ y0];rfl
    have t2:w8.cell? ⟨g5,nu,none⟩=some (.slice la3 n3 lc3):=hc8.cell (zd B7.out _ _ z11) (by show ¬ (ρ7 g5=10+nu);rw [H5.out.1];omega)
    have t3:w8.frozen? ⟨g5,nu,none⟩=false:=(World.frozen?_of_block (a:=⟨g5,nu,none⟩) ((hc8.block g5 (zt5 H5.out.2 B7.out.size) (by show ¬ (ρ7 g5=10+nu);rw [H5.out.1];omega)).trans (B7.out.block g5 H5.out.2))).trans fz
    have hg5f:fb≠g5:=by intro hh;have h1:=F7.out.role;rw [hh] at h1;rw [H5.out.1] at h1;omega
    have N8:=zh (ND6.out.link FL6.out rfl rfl HL3.out rfl B7.out hc8 (by rw [← HN3.out,← E3.out];exact hr8) (fun q hq=>hf8 q (by simpa using hq)) (x:=nbb - 1) (by rw [← HNBB.out]))
    have S8:Hid (ScR (w8.setCell ⟨g5,nu,none⟩ (.slice a8 (n3+1) c8)) ρ8 (scope s1.vars.length vs sc) (.pointer pa)):=ScR.keep (M:=OM) (((Ch.of_below (M:=OM) B7.out ND6.out.ch.fresh).trans (hc8.mono fun r hr=>by unfold OM;omega)).setCell _ _ fun _=>by show OM (ρ7 g5);rw [H5.out.1];unfold OM;omega) OM.no0 SC6.out
    clear hr8 hc8 hf8 y0
    refine hK.out _ _ ⟨t0,t1,t2⟩ (fun hHeld=>?_)
    clear hK K hHeld
    try simp only [Act.put,zq4,zq5,zq6]
    refine wpEf_nil ?_
    simp only [behind]
    go_upto_region 32 with fail
    obtain⟨V8,hV8⟩:∃ X,X=w8.setCell ⟨g5,nu,none⟩ (.slice a8 (n3+1) c8):=⟨_,rfl⟩
    rw [← hV8] at N8 S8
    try rw [← hV8]
    clear hV8 t0 t1 t2 t3 hg5f z2 z3 z11 fz F7 R7 B7 X7 FL6 ND6 SC6
    have LOW8:=zh (N8.out.low HB.out HW.out)
    have z6:V8.cell? ⟨w.heap.size,6,none⟩=some (.slice (some ⟨ga,oa,none⟩) na ca):=by rw [zb _ _ 6 _ _ _ N8.out.box];rfl
    obtain⟨q0,q1,q2,q3,q4,q5,q6,q7⟩:=CS.out.kept (zd LOW8.out.1)
    have CB:=zh (IH.out e1 HS1.out.1 (op:=op1) (num:=num1) (site:=site1) (ca:=ca1) (cb:=cb1) HX1.out LOW8.out.1 LOW8.out.2 N8.out.fl N8.out.ch.fresh N8.out.nine S8.out BL1.out (by have h1:=HS1.out.2;show s1.uses.length+_≤_;omega))
    obtain⟨R1,hR1⟩:∃ r,r=bodyR e1 (scope s1.vars.length vs sc) ((s1.bind vs).link nu):=⟨_,rfl⟩
    rw [← hR1] at CB FRN
    have HR1:=zh hR1
    clear hR1
    cases R1 with
    | none =>
     have RN:Hid (R=none):=FRN.out
     go_wp2_with fail
     refine CB.out.mono ?_
     rintro en w9 ⟨ρ9,hc9,h99,rfl,hr9⟩
     have C9:Hid (Ch OM ρ ρ9 w w9):=N8.out.ch.trans hc9
     clear z6 q0 q1 q2 q3 q4 q5 q6 q7
     simp only [Option.isSome_none,Option.isSome_some]
     go_wp2_with fail
     go_ret
     exact⟨ρ9,C9.out,h99,by rw [RN.out];rfl,fun st' h=>by rw [RN.out] at h;cases h⟩
    | some s2 =>
     have RS:Hid (R=fR nu sc (e.arms.kids.drop (i2+1)) s2):=FRN.out
     go_wp2_with fail
     refine CB.out.mono ?_
     rintro en w9 ⟨ρ9,hc9,h99,rfl,hr9⟩
     have N9:=zh (N8.out.next hc9 (hr9 s2 rfl) h99)
     have BB:=body_bal HR1.out.symm BL1.out
     have B9:=zh BB.1
     have U9:Hid (s2.uses.length+sizes (e.arms.kids.drop (i2+1))≤20000):=by
      have h1:=BB.2
      have h2:=HS1.out.2
      have h3:((s1.bind vs).link nu).uses.length=s1.uses.length:=rfl
      show _≤_;omega
     have X9:Hid (s2.next[nu]?=some (l++[s1.binds.length])):=by
      show _=_
      have hlt:nu<s1.next.length:=(zq8.1 KNX.out).1
      rw [body_next HR1.out.symm BL1.out.next (by show nu<(s1.next.modify nu _).length;rw [List.length_modify];exact hlt)]
      show (s1.next.modify nu (· ++ [(s1.bind vs).binds.length - 1]))[nu]?=_
      rw [List.getElem?_modify]
      simp only [if_true,KNX.out]
      show some (l++[(s1.binds++[_]).length - 1])=_
      rw [zr2];rfl
     clear z6 q0 q1 q2 q3 q4 q5 q6 q7 BB hc9 h99 hr9
     simp only [Option.isSome_none,Option.isSome_some]
     go_wp2_with fail
     go_roundw
     case rel=>exact⟨i2+1,s2,ρ9,_,HLT2.out,by go_num,N9.out,B9.out,U9.out,RS.out.symm,X9.out,by rw [zr2,List.length_singleton];have:=KLL.out;omega⟩
     case measure=>have:=HLT2.out;simp [intOf];omega
   have hlz2:(na:Int)≤i2:=by omega
   have hdi2:decide (i2<na)=false:=by simp;omega
   have RS:Hid (R=some s1):=by show _=_;rw [← KFR.out,List.drop_of_length_le (by rw [TA.kids_length,← HNA.out];omega)];rfl
   clear hlt2
   go_wp2_with fail
   go_ret
   exact⟨ρ6,KN.out.ch,KN.out.nine,by rw [RS.out];rfl,fun st' h=>by rw [RS.out,zt3] at h;rw [← h];exact KN.out.fl⟩
end
namespace Lx
namespace LX
theorem run_take (p:Nat→Bool):∀ (l:List Nat) (k:Nat),run p (l.take k)=min (run p l) k
 | [],k=>by simp [run]
 | c :: t,0=>by simp [run]
 | c :: t,k+1=>by
  rw [List.take_succ_cons,run,run,run_take p t k]
  split<;>omega
theorem nameLen_take {l:List Nat}{k:Nat}(h:nameLen l≤k):nameLen (l.take k)=nameLen l:=by
 have hge:=nameLen_ge l
 have hr:run part (l.take k)=run part l:=by rw [run_take];omega
 unfold nameLen at h ⊢
 simp only [hr] at h ⊢
 rw [List.drop_take]
 cases hd:l.drop (run part l) with
 | nil=>rw [List.take_nil]
 | cons c t =>
  rw [hd] at h
  simp only [] at h
  cases hk:k - run part l with
  | zero =>
   simp only [List.take_zero]
   split at h
   ·omega
   rename_i hc;rw [if_neg hc]
  | succ q =>
   rw [List.take_succ_cons]
   simp only []
   rw [run_take]
   split at h
   ·rename_i hc
    have:min (run digit t) q=run digit t:=by omega
    rw [this]
   rename_i hc
   by_cases h39:c=39
   ·have h0:run digit t=0:=by
     rcases Nat.eq_zero_or_pos (run digit t) with h0 | h0
     ·exact h0
     exact absurd ⟨h39,h0⟩ hc
    rw [h0];simp
   rw [if_neg (fun e=>h39 e.1),if_neg (fun e=>h39 e.1)]
theorem number_take {l:List Nat}{n k d v':Nat}{v:Int}(h:number l n = .tok v' v d) (hk:d≤k):number (l.take k) n = .tok v' v d:=by
 have h0:=number_ok h
 unfold number at h ⊢
 have hr:n+run digit ((l.take k).drop n)=d:=by rw [List.drop_take,run_take];omega
 simp only [hr,← h0.2.1] at h ⊢
 rw [List.take_take,Nat.min_eq_left hk]
 cases hn:num (l.take d) with
 | none=>rw [hn] at h;cases h
 | some x =>
  rw [hn] at h
  simp only [] at h ⊢
  rw [List.drop_take]
  cases hd:l.drop d with
  | nil=>rw [hd] at h;rw [List.take_nil];exact h
  | cons c t =>
   rw [hd] at h
   cases hq:k - d with
   | zero =>
    simp only [List.take_zero]
    simp only [] at h
    split at h
    ·cases h
    exact h
   | succ q=>rw [List.take_succ_cons];exact h
theorem named_take {l:List Nat}{k0 k k' m:Nat}{v:Int}(h:named k0 l = .tok k' v m) (hk:m≤k):named k0 (l.take k) = .tok k' v m:=by
 have h0:=named_ok h
 have hn:=nameLen_take (l:=l) (k:=k) (by omega)
 unfold named at h ⊢
 rw [hn]
 cases hm:made k0 (nameLen l) with
 | bad e=>rw [hm] at h;cases h
 | tok a b c =>
  rw [hm] at h
  have h1:=made_ok hm
  simp only [] at h ⊢
  rw [List.take_take,Nat.min_eq_left (by omega)]
  exact h
theorem token_take {l:List Nat}{k k' m:Nat}{v:Int}(h:token l = .tok k' v m) (hk:m≤k):token (l.take k) = .tok k' v m:=by
 have hm:=token_len h
 cases l with
 | nil=>cases h
 | cons c t =>
  obtain⟨q,rfl⟩:∃ q,k=q+1:=⟨k - 1,by omega⟩
  have hd0:∀ x,head0 (t.take q)=x→x≠0→head0 t=x:=fun x hx h0=>by
   cases t with
   | nil=>simp [head0] at hx ⊢;exact hx
   | cons a t =>
    cases q with
    | zero=>simp [head0] at hx;exact absurd hx.symm h0
    | succ q=>simpa [head0] using hx
  have hd1:∀ x,head0 t=x→1≤q→head0 (t.take q)=x:=fun x hx hq=>by
   cases t with
   | nil=>simpa [head0] using hx
   | cons a t =>
    cases q with
    | zero=>omega
    | succ q=>simpa [head0] using hx
  have e:(c :: t).take (q+1)=c :: t.take q:=List.take_succ_cons
  rw [e]
  unfold token at h ⊢
  simp only [] at h ⊢
  split at h
  ·rename_i hc
   rw [if_pos hc,← e]
   exact number_take h hk
  rename_i hc
  rw [if_neg hc]
  split at h
  ·rename_i hc;rw [if_pos hc,← e];exact named_take h hk
  rename_i hc
  rw [if_neg hc]
  split at h
  ·rename_i hc;rw [if_pos hc,← e];exact named_take h hk
  rename_i hc
  rw [if_neg hc]
  split at h
  ·rename_i hc
   have h1:=made_ok h
   have hs:small (head0 (t.take q))=true:=by
    have:head0 (t.take q)=head0 t:=by
     have hp:0<run part t:=by
      cases t with
      | nil=>exact absurd hc.2 (by decide)
      | cons a t=>exact run_pos (part_small hc.2)
     exact hd1 _ rfl (by omega)
    rw [this];exact hc.2
   rw [if_pos ⟨hc.1,hs⟩,run_take]
   have:min (run part t) q=run part t:=by omega
   rw [this];exact h
  rename_i hc
  rw [if_neg (fun e2=>by
   have h2:head0 (t.take q)≠0:=fun e0=>by rw [e0] at e2;exact absurd e2.2 (by decide)
   rw [← hd0 _ rfl h2] at e2
   exact hc e2)]
  split at h
  ·rename_i hs
   cases h
   rw [if_pos ⟨hs.1,hd1 _ hs.2 (by omega)⟩]
  rename_i hs
  rw [if_neg (fun e2=>hs ⟨e2.1,hd0 _ e2.2 (by decide)⟩)]
  exact h
theorem opens_take {l:List Nat}{k:Nat}(hk:2≤k):opens (l.take k)=opens l:=by
 obtain⟨q,rfl⟩:∃ q,k=q+2:=⟨k - 2,by omega⟩
 match l with
 | []=>rfl
 | [_]=>rfl
 | a :: b :: t =>
  rw [List.take_succ_cons,List.take_succ_cons]
  unfold opens
  by_cases h:a=40∧b=42
  ·obtain⟨rfl,rfl⟩:=h;rfl
  split
  ·rename_i heq;simp only [List.cons.injEq] at heq;exact absurd ⟨heq.1,heq.2.1⟩ h
  split
  ·rename_i heq;simp only [List.cons.injEq] at heq;exact absurd ⟨heq.1,heq.2.1⟩ h
  rfl
theorem opens_take_false {l:List Nat}{k:Nat}(h:opens l=false):opens (l.take k)=false:=by
 match k with
 | 0=>rfl
 | 1 =>
  match l with
  | []=>rfl
  | a :: t =>
   show opens [a]=false
   unfold opens
   split
   ·rename_i heq;simp at heq
   rfl
 | k+2=>rw [opens_take (by omega)];exact h
end LX
end Lx
namespace Lx
namespace LX
theorem sc_forall (T:List Nat) (P:Tok→Prop) (hP:∀ j k v m,j<T.length→space (T.getD j 0)=false→opens (T.drop j)=false→token (T.drop j) = .tok k v m→P ⟨k,v,(T.drop j).take m,j⟩) :
  ∀ (n j:Nat),T.length - j=n→∀ ts cs,sc T j = .ok ts cs→∀ t∈ts,P t:=by
 intro n
 induction n using Nat.strongRecOn with
 | ind n ih =>
  intro j hn ts cs h
  rcases Nat.lt_or_ge j T.length with hj | hj
  ·rw [sc_step hj] at h
   split at h
   ·exact ih _ (by omega) (j+1) rfl ts cs h
   rename_i hsp
   split at h
   ·cases hc:cmt (T.drop j) 0 0 with
    | fin m =>
     rw [hc] at h
     simp only [] at h
     have h0:=cmt_fin hc
     cases hs:sc T (j+m) with
     | ok t2 c2 =>
      rw [hs] at h
      simp only [Res.app,Res.ok.injEq,List.nil_append] at h
      rw [← h.1]
      exact ih _ (by omega) (j+m) rfl t2 c2 hs
     | bad p e=>rw [hs] at h;cases h
    | deep m=>rw [hc] at h;cases h
    | never=>rw [hc] at h;cases h
   rename_i hop
   cases hc:token (T.drop j) with
   | tok k v m =>
    rw [hc] at h
    simp only [] at h
    have h0:=token_len hc
    cases hs:sc T (j+m) with
    | ok t2 c2 =>
     rw [hs] at h
     simp only [Res.app,Res.ok.injEq,List.cons_append,List.nil_append] at h
     rw [← h.1]
     intro t ht
     rcases List.mem_cons.1 ht with rfl | ht
     ·exact hP j k v m hj (by simpa using hsp) (by simpa using hop) hc
     exact ih _ (by omega) (j+m) rfl t2 c2 hs t ht
    | bad p e=>rw [hs] at h;cases h
   | bad e=>rw [hc] at h;cases h
  rw [sc_end hj] at h
  cases h
  intro t ht
  cases ht
theorem token_kind {l:List Nat}{k m:Nat}{v:Int}(h:token l = .tok k v m):k≠0∧m≤24∧((k=1∧num (l.take m)=some v)∨(k≠1∧v=0)):=by
 cases l with
 | nil=>cases h
 | cons c t =>
  unfold token at h
  simp only [] at h
  split at h
  ·obtain⟨h1,h2,h3⟩:=number_ok h
   obtain⟨a0,a1,a2⟩:=num_some h3
   have hl:=nat10_short (u:=v.natAbs) (by omega)
   have hm:=token_len (l:=c :: t) (k:=k) (m:=m) (v:=v) (by unfold token;simp only [];rename_i hc;rw [if_pos hc];exact h)
   have hd:(digs v).length≤20:=by
    unfold digs
    split
    ·simp only [List.length_cons];omega
    omega
   rw [a2,List.length_take] at hd
   exact⟨by omega,by omega,.inl ⟨h1,h3⟩⟩
  split at h
  ·obtain⟨h1,h2,h3,h4⟩:=named_ok h
   refine⟨?_,h3,.inr ⟨?_,h2⟩⟩<;>(rw [h4];split<;>decide)
  split at h
  ·obtain⟨h1,h2,h3,h4⟩:=named_ok h
   refine⟨?_,h3,.inr ⟨?_,h2⟩⟩<;>(rw [h4];split<;>decide)
  split at h
  ·obtain⟨h1,h2,h3,h4⟩:=made_ok h
   refine⟨by omega,by omega,.inr ⟨by omega,h3⟩⟩
  split at h
  ·cases h;exact⟨by decide,by decide,.inr ⟨by decide,rfl⟩⟩
  split at h
  ·cases h;exact⟨by decide,by decide,.inr ⟨by decide,rfl⟩⟩
  cases h
structure Good (t:Tok):Prop where
 kind:kindOf t.text=t.kind
 some:t.kind≠0
 num:t.num=if t.kind=1 then (LX.num t.text).getD 0 else 0
 alone:scan t.text = .ok [⟨t.kind,t.num,t.text,0⟩] []
 pos:0<t.text.length
 short:t.text.length≤24
 digs:t.kind=1→LX.digs t.num=t.text
theorem sc_good (T:List Nat) {j:Nat}{ts:List Tok}{cs:List (Nat×Nat)}(h:sc T j = .ok ts cs):∀ t∈ts,Good t:=by
 refine sc_forall T Good (fun j k v m hj hsp hop hc=>?_) _ j rfl ts cs h
 have h0:=token_len hc
 rw [List.length_drop] at h0
 have hlen:((T.drop j).take m).length=m:=by rw [List.length_take,List.length_drop];omega
 have hk:=token_kind hc
 have hal:scan ((T.drop j).take m) = .ok [⟨k,v,(T.drop j).take m,0⟩] []:=by
  rw [scan_sc,sc_step (by omega)]
  have e0:((T.drop j).take m).getD 0 0=T.getD j 0:=by
   rw [List.getD_eq_getElem?_getD,List.getElem?_take,if_pos (by omega),List.getElem?_drop,List.getD_eq_getElem?_getD,Nat.add_zero]
  rw [e0,hsp,if_neg (by decide),List.drop_zero,opens_take_false hop,if_neg (by decide),token_take hc (Nat.le_refl _)]
  simp only [Nat.zero_add]
  rw [sc_end (by omega),List.take_of_length_le (by omega)]
  rfl
 refine⟨?_,hk.1,?_,hal,by show 0<((T.drop j).take m).length;omega,by show ((T.drop j).take m).length≤24;omega,?_⟩
 ·show kindOf ((T.drop j).take m)=k
  unfold kindOf
  rw [hal,if_neg (by omega)]
  simp only []
  rw [if_pos trivial]
 ·show v=if k=1 then (LX.num ((T.drop j).take m)).getD 0 else 0
  rcases hk.2.2 with ⟨h1,h2⟩|⟨h1,h2⟩
  ·rw [if_pos h1,h2];rfl
  rw [if_neg h1];exact h2
 intro h1
 show LX.digs v=(T.drop j).take m
 rcases hk.2.2 with ⟨_,h2⟩|⟨h3,_⟩
 ·exact(num_some h2).2.2
 exact absurd h1 h3
theorem Good.place {t:Tok}(h:Good t) (p:Nat):Good { t with place:=p }:=⟨h.kind,h.some,h.num,h.alone,h.pos,h.short,h.digs⟩
theorem good_of_kind {l:List Nat}{k:Nat}(h:kindOf l=k) (hk:k≠0):∃ v,Good ⟨k,v,l,0⟩:=by
 unfold kindOf at h
 split at h
 ·exact absurd h.symm hk
 split at h
 ·rename_i t cs hs
  split at h
  ·rename_i ht
   have hg:=sc_good l (j:=0) hs t List.mem_cons_self
   obtain⟨k',v',x',p'⟩:=t
   simp only [] at ht h
   subst ht h
   exact⟨v',hg.place 0⟩
  exact absurd h.symm hk
 exact absurd h.symm hk
def pre (ts:List Tok) (i:Nat):Nat:=((ts.take i).map fun t=>t.text.length+1).sum
end LX
end Lx
namespace Lx
namespace LX
theorem opens_two {l:List Nat}(h:opens l=true):l.getD 0 0=40∧l.getD 1 0=42:=by
 unfold opens at h
 split at h
 ·exact⟨rfl,rfl⟩
 cases h
theorem opens_of {l:List Nat}(h0:l.getD 0 0=40) (h1:l.getD 1 0=42):opens l=true:=by
 match l with
 | []=>cases h0
 | [c]=>cases h1
 | a :: b :: t =>
  have e0:a=40:=h0
  have e1:b=42:=h1
  subst e0 e1
  rfl
end LX
end Lx
namespace Lx
namespace LX
theorem sc_lo (T:List Nat):∀ (n j:Nat),T.length - j=n→∀ ts cs,sc T j = .ok ts cs→∀ t∈ts,j≤t.place∧t.place+t.text.length≤T.length:=by
 intro n
 induction n using Nat.strongRecOn with
 | ind n ih =>
  intro j hn ts cs h
  rcases Nat.lt_or_ge j T.length with hj | hj
  ·rw [sc_step hj] at h
   split at h
   ·intro t ht
    have:=ih _ (by omega) (j+1) rfl ts cs h t ht
    omega
   split at h
   ·cases hc:cmt (T.drop j) 0 0 with
    | fin m =>
     rw [hc] at h
     simp only [] at h
     have h0:=cmt_fin hc
     cases hs:sc T (j+m) with
     | ok t2 c2 =>
      rw [hs] at h
      simp only [Res.app,Res.ok.injEq,List.nil_append] at h
      rw [← h.1]
      intro t ht
      have:=ih _ (by omega) (j+m) rfl t2 c2 hs t ht
      omega
     | bad p e=>rw [hs] at h;cases h
    | deep m=>rw [hc] at h;cases h
    | never=>rw [hc] at h;cases h
   cases hc:token (T.drop j) with
   | tok k v m =>
    rw [hc] at h
    simp only [] at h
    have h0:=token_len hc
    rw [List.length_drop] at h0
    cases hs:sc T (j+m) with
    | ok t2 c2 =>
     rw [hs] at h
     simp only [Res.app,Res.ok.injEq,List.cons_append,List.nil_append] at h
     rw [← h.1]
     intro t ht
     rcases List.mem_cons.1 ht with rfl | ht
     ·refine⟨Nat.le_refl _,?_⟩
      show j+((T.drop j).take m).length≤T.length
      rw [List.length_take,List.length_drop];omega
     have:=ih _ (by omega) (j+m) rfl t2 c2 hs t ht
     omega
    | bad p e=>rw [hs] at h;cases h
   | bad e=>rw [hc] at h;cases h
  rw [sc_end hj] at h
  cases h
  intro t ht
  cases ht
def refKind (l:List Nat):Nat:=if l=[]∨100<l.length then 0 else if space (l.headD 0)=true∨opens l=true then 0 else match token l with
 | .tok k _ n=>if n=l.length then k else 0
 | .bad _=>0
theorem headD_getD (l:List Nat):l.headD 0=l.getD 0 0:=by cases l<;>rfl
theorem good_token {t:Tok}(h:Good t):space (t.text.headD 0)=false∧opens t.text=false∧token t.text = .tok t.kind t.num t.text.length:=by
 have hs:=h.alone
 have hp:=h.pos
 rw [scan_sc,sc_step hp,List.drop_zero] at hs
 split at hs
 ·exfalso
  have:=sc_lo t.text _ (0+1) rfl _ _ hs _ List.mem_cons_self
  have h2:=this.1
  simp at h2
 rename_i hsp
 split at hs
 ·exfalso
  cases hc:cmt t.text 0 0 with
  | fin m =>
   rw [hc] at hs
   simp only [] at hs
   have h0:=cmt_fin hc
   cases hq:sc t.text (0+m) with
   | ok t2 c2 =>
    rw [hq] at hs
    simp [Res.app] at hs
   | bad p e=>rw [hq] at hs;cases hs
  | deep m=>rw [hc] at hs;cases hs
  | never=>rw [hc] at hs;cases hs
 rename_i hop
 cases hc:token t.text with
 | tok k v m =>
  rw [hc] at hs
  simp only [] at hs
  have h0:=token_len hc
  cases hq:sc t.text (0+m) with
  | ok t2 c2 =>
   rw [hq] at hs
   simp only [Res.app,Res.ok.injEq,List.cons_append,List.nil_append,List.cons.injEq,Tok.mk.injEq] at hs
   obtain⟨⟨⟨e1,e2,e3,_⟩,_⟩,_⟩:=hs
   have hm:m=t.text.length:=by
    have:=congrArg List.length e3
    rw [List.length_take] at this
    omega
   refine⟨by rw [headD_getD];simpa using hsp,by simpa using hop,by rw [e1,e2,hm]⟩
  | bad p e=>rw [hq] at hs;cases hs
 | bad e=>rw [hc] at hs;cases hs
theorem refKind_eq (l : List Nat) : refKind l = kindOf l := by
  by_cases hk : kindOf l = 0
  · rw [hk]
    unfold refKind
    split
    · rfl
    · rename_i h1
      split
      · rfl
      · rename_i h2
        cases hc : token l with
        | bad e => rfl
        | tok k v n =>
          simp only []
          split
          · rename_i hn
            exfalso
            have hkk := token_kind hc
            have h3 : scan l = .ok [⟨k, v, l, 0⟩] [] := by
              rw [scan_sc, sc_step (List.length_pos_iff.2 (fun e => h1 (.inl e)))]
              rw [← headD_getD, if_neg (fun e => h2 (.inl e)), List.drop_zero, if_neg (fun e => h2 (.inr e)), hc]
              simp only []
              rw [Nat.zero_add, sc_end (by omega), List.take_of_length_le (by omega)]
              rfl
            unfold kindOf at hk
            rw [if_neg (by omega), h3] at hk
            simp only [] at hk
            rw [if_pos trivial] at hk
            exact hkk.1 hk
          · rfl
  · obtain ⟨v, hg⟩ := good_of_kind (l := l) rfl hk
    obtain ⟨h1, h2, h3⟩ := good_token hg
    have h1' : space (l.headD 0) = false := h1
    have h2' : opens l = false := h2
    have h3' : token l = .tok (kindOf l) v l.length := h3
    have hs : l.length ≤ 24 := hg.short
    have hp : 0 < l.length := hg.pos
    unfold refKind
    rw [if_neg (fun e => by rcases e with e | e; · rw [e] at hp; simp at hp
                            · omega), if_neg (fun e => by rcases e with e | e; · rw [h1'] at e; cases e
                                                          · rw [h2'] at e; cases e), h3']
    simp only []
    rw [if_pos trivial]
end LX
end Lx
namespace Lx
open Go.RowKit
theorem rsmall_any (w:World) (c:Nat):Calls Tryz.prog 100 #[.int .u8 c] w fun e w'=>e = .returned (.bool (LX.small c))∧w'=w:=by
 by_cases h1:97≤c
 ·have k1:(97:Int)≤(c:Int):=by omega
  have e:LX.small c=decide ((c:Int)≤122):=by unfold LX.small;rw [decide_eq_true h1,Bool.true_and];exact decide_eq_decide.2 (by omega)
  rw [e]
  go_enter Tryz.func100,Tryz.ntmps100
  go_wp2
  go_ret
  exact⟨rfl,rfl⟩
 have k1:(c:Int)<97:=by omega
 have e:LX.small c=false:=by unfold LX.small;rw [decide_eq_false h1,Bool.false_and]
 rw [e]
 go_enter Tryz.func100,Tryz.ntmps100
 go_wp2
 go_ret
 exact⟨rfl,rfl⟩
theorem rgreat_any (w:World) (c:Nat):Calls Tryz.prog 102 #[.int .u8 c] w fun e w'=>e = .returned (.bool (LX.great c))∧w'=w:=by
 by_cases h1:65≤c
 ·have k1:(65:Int)≤(c:Int):=by omega
  have e:LX.great c=decide ((c:Int)≤90):=by unfold LX.great;rw [decide_eq_true h1,Bool.true_and];exact decide_eq_decide.2 (by omega)
  rw [e]
  go_enter Tryz.func102,Tryz.ntmps102
  go_wp2
  go_ret
  exact⟨rfl,rfl⟩
 have k1:(c:Int)<65:=by omega
 have e:LX.great c=false:=by unfold LX.great;rw [decide_eq_false h1,Bool.false_and]
 rw [e]
 go_enter Tryz.func102,Tryz.ntmps102
 go_wp2
 go_ret
 exact⟨rfl,rfl⟩
theorem rinner_any (w:World) (c:Nat):Calls Tryz.prog 99 #[.int .u8 c] w fun e w'=>e = .returned (.bool (LX.part c))∧w'=w:=by
 unfold LX.part
 have s:=rsmall_any w c
 have g:=rgreat_any w c
 have d:=rdigit_any w c
 cases hs:LX.small c with
 | true =>
  rw [hs] at s
  go_enter Tryz.func99,Tryz.ntmps99
  go_wp2_with (go_at_call 100;refine s.mono ?_;rintro e w' ⟨rfl,rfl⟩)
  go_ret
  exact⟨rfl,rfl⟩
 | false =>
  rw [hs] at s
  cases hg:LX.great c with
  | true =>
   rw [hg] at g
   go_enter Tryz.func99,Tryz.ntmps99
   go_wp2_with (first
    | (go_at_call 100;refine s.mono ?_;rintro e w' ⟨rfl,rfl⟩)
    | (go_at_call 102;refine g.mono ?_;rintro e w' ⟨rfl,rfl⟩))
   go_ret
   exact⟨rfl,rfl⟩
  | false =>
   rw [hg] at g
   cases hd:LX.digit c with
   | true =>
    rw [hd] at d
    go_enter Tryz.func99,Tryz.ntmps99
    go_wp2_with (first
     | (go_at_call 100;refine s.mono ?_;rintro e w' ⟨rfl,rfl⟩)
     | (go_at_call 102;refine g.mono ?_;rintro e w' ⟨rfl,rfl⟩)
     | (go_at_call 97;refine d.mono ?_;rintro e w' ⟨rfl,rfl⟩))
    go_ret
    exact⟨rfl,rfl⟩
   | false =>
    rw [hd] at d
    go_enter Tryz.func99,Tryz.ntmps99
    go_wp2_with (first
     | (go_at_call 100;refine s.mono ?_;rintro e w' ⟨rfl,rfl⟩)
     | (go_at_call 102;refine g.mono ?_;rintro e w' ⟨rfl,rfl⟩)
     | (go_at_call 97;refine d.mono ?_;rintro e w' ⟨rfl,rfl⟩))
    go_ret
    refine⟨?_,rfl⟩
    show Ending.returned (Value.bool _)=_
    congr 2
    by_cases h:c=95
    ·subst h;rfl
    rw [show (c==95)=false from by simp [h]];simp;omega
theorem rspace_any (w:World) (c:Nat):Calls Tryz.prog 83 #[.int .u8 c] w fun e w'=>e = .returned (.bool (LX.space c))∧w'=w:=by
 by_cases h2:c=9
 ·subst h2
  go_enter Tryz.func83,Tryz.ntmps83
  go_wp2
  go_ret
  exact⟨rfl,rfl⟩
 by_cases h3:c=10
 ·subst h3
  go_enter Tryz.func83,Tryz.ntmps83
  go_wp2
  go_ret
  exact⟨rfl,rfl⟩
 by_cases h4:c=13
 ·subst h4
  go_enter Tryz.func83,Tryz.ntmps83
  go_wp2
  go_ret
  exact⟨rfl,rfl⟩
 by_cases h1:c=32
 ·subst h1
  go_enter Tryz.func83,Tryz.ntmps83
  go_wp2
  go_ret
  exact⟨rfl,rfl⟩
 have k1:((c:Int)==32)=false:=zt6 (by omega)
 have k2:((c:Int)==9)=false:=zt6 (by omega)
 have k3:((c:Int)==10)=false:=zt6 (by omega)
 have k4:((c:Int)==13)=false:=zt6 (by omega)
 have e:LX.space c=false:=by
  unfold LX.space
  rw [show (c==32)=false from zt6 h1,show (c==9)=false from zt6 h2,show (c==10)=false from zt6 h3,show (c==13)=false from zt6 h4]
  rfl
 rw [e]
 clear e h1 h2 h3 h4
 go_enter Tryz.func83,Tryz.ntmps83
 go_wp2
 go_ret
 exact⟨rfl,rfl⟩
theorem rplain_any (w:World) (s:ByteArray) (hs:s.size≤400000) (i:Nat) (hi:i≤s.size):Calls Tryz.prog 101 #[.string s,.int .i64 i] w fun e w'=>e = .returned (.int .i64 ((i+LX.run LX.part ((bts s).drop i):Nat):Int))∧w'=w:=by
 have hz:(s.size:Int)≤400000:=by omega
 have HI:Hid (i≤s.size):=hi
 obtain⟨r,hr0⟩:∃ r,r=i+LX.run LX.part ((bts s).drop i):=⟨_,rfl⟩
 rw [← hr0]
 have HR0:=zh hr0
 clear hs hi hr0
 go_enter Tryz.func101,Tryz.ntmps101
 go_wp2_with fail
 go_loop [5] (fun j=>∃ k:Nat,i≤k∧k≤s.size∧j = .int .i64 k∧r=k+LX.run LX.part ((bts s).drop k)) (fun j=>s.size - (intOf j).toNat)
 case atStart=>exact⟨i,zr4 _,HI.out,rfl,HR0.out⟩
 obtain⟨k,hk1,hk2,rfl,hr⟩:=hrel
 have HR:=zh hr
 have HK:=zh hk1
 clear hr hk1
 by_cases hlt:k<s.size
 ·have hlz:(k:Int)<(s.size:Int):=by omega
  obtain⟨c,hc⟩:∃ c,(bts s).getD k 0=c:=⟨_,rfl⟩
  have bk:=byte_at s hlt hc
  have hrun:=run_drop LX.part (bts s) k (by rw [ze];exact hlt)
  rw [hc] at hrun
  have HRUN:=zh hrun
  have HLT:=zh hlt
  have D:=rinner_any w c
  cases hp:LX.part c with
  | true =>
   rw [hp] at D
   have HD:=zh D
   have HP:=zh hp
   clear hrun hc D hp hlt hk2
   go_wp2_with fail
   refine HD.out.mono ?_
   rintro e w1 ⟨rfl,rfl⟩
   go_wp2_with fail
   go_round
   case rel=>exact⟨k+1,by have:=HK.out;omega,HLT.out,by go_num,by rw [HR.out,HRUN.out,if_pos HP.out];omega⟩
   case measure=>have:=HLT.out;simp [intOf];omega
  | false =>
   rw [hp] at D
   have HD:=zh D
   have HP:=zh hp
   clear hrun hc D hp hlt hk2
   go_wp2_with fail
   refine HD.out.mono ?_
   rintro e w1 ⟨rfl,rfl⟩
   go_wp2_with fail
   go_ret
   refine⟨?_,rfl⟩
   rw [HR.out,HRUN.out,if_neg (by rw [HP.out];decide)]
   rfl
 have hge:(s.size:Int)≤(k:Int):=by omega
 have hend:LX.run LX.part ((bts s).drop k)=0:=by rw [List.drop_of_length_le (by rw [ze];omega)];rfl
 have HE:=zh hend
 clear hend hlt hk2
 go_wp2_with fail
 go_ret
 refine⟨?_,rfl⟩
 rw [HR.out,HE.out]
 rfl
end Lx
namespace Lx
open Go.RowKit
theorem run_spec (p:Nat→Bool) (T:List Nat) (i:Nat):(∀ k,i≤k→k<i+LX.run p (T.drop i)→k<T.length∧p (T.getD k 0)=true∧LX.run p (T.drop i)=(k - i)+LX.run p (T.drop k))∧(i≤T.length→i+LX.run p (T.drop i)≤T.length):=by
 generalize hn:LX.run p (T.drop i)=n
 induction n generalizing i with
 | zero=>exact⟨fun k h1 h2=>by omega,fun h=>by omega⟩
 | succ n ih =>
  have hl:i<T.length:=by
   rcases Nat.lt_or_ge i T.length with h | h
   ·exact h
   rw [List.drop_of_length_le h] at hn;cases hn
  have hs:=LX.run_step (p:=p) hl
  rw [hn] at hs
  cases hp:p (T.getD i 0) with
  | false=>rw [hp] at hs;simp at hs
  | true =>
   rw [hp,if_pos rfl] at hs
   obtain⟨h1,h2⟩:=ih (i+1) (by omega)
   refine⟨fun k a b=>?_,fun _=>by have:=h2 (by omega);omega⟩
   rcases Nat.eq_or_lt_of_le a with e | e
   ·subst e
    exact⟨hl,hp,by rw [hn];omega⟩
   obtain⟨c1,c2,c3⟩:=h1 k (by omega) (by omega)
   exact⟨c1,c2,by omega⟩
theorem nameLen_at {T:List Nat}{i n:Nat}(hn:n=LX.run LX.part (T.drop i)):LX.nameLen (T.drop i)=if i+n<T.length∧T.getD (i+n) 0=39∧0<LX.run LX.digit (T.drop (i+n+1)) then n+1+LX.run LX.digit (T.drop (i+n+1)) else n:=by
 unfold LX.nameLen
 simp only [← hn,List.drop_drop]
 rcases Nat.lt_or_ge (i+n) T.length with h | h
 ·rw [LX.drop_get h]
  simp only []
  by_cases hc:T.getD (i+n) 0=39∧0<LX.run LX.digit (T.drop (i+n+1))
  ·rw [if_pos hc,if_pos ⟨h,hc⟩]
  rw [if_neg hc,if_neg (fun e=>hc e.2)]
 rw [List.drop_of_length_le h,if_neg (fun e=>by omega)]
theorem rnamed_any (w:World) (s:ByteArray) (hs:s.size≤400000) (i:Nat) (hi:i≤s.size):Calls Tryz.prog 103 #[.string s,.int .i64 i] w fun e w'=>e = .returned (.int .i64 ((i+LX.nameLen ((bts s).drop i):Nat):Int))∧w'=w:=by
 obtain⟨n,hn⟩:∃ n,n=LX.run LX.part ((bts s).drop i):=⟨_,rfl⟩
 have hnl:=nameLen_at hn
 obtain⟨sp1,sp2⟩:=run_spec LX.part (bts s) i
 rw [← hn] at sp1 sp2
 have hle:=sp2 (by rw [ze];exact hi)
 obtain⟨m,hm⟩:∃ m,m=LX.run LX.digit ((bts s).drop (i+n+1)):=⟨_,rfl⟩
 rw [← hm] at hnl
 obtain⟨sq1,sq2⟩:=run_spec LX.digit (bts s) (i+n+1)
 rw [← hm] at sq1 sq2
 have hstop:i+n<s.size→LX.part ((bts s).getD (i+n) 0)=false:=fun h=>LX.run_stops LX.part (bts s) n i hn.symm (by rw [ze];exact h)
 have hstop2:i+n+1+m<s.size→LX.digit ((bts s).getD (i+n+1+m) 0)=false:=fun h=>LX.run_stops LX.digit (bts s) m (i+n+1) hm.symm (by rw [ze];exact h)
 rw [ze] at hnl hle
 simp only [ze] at sp1 sq1 sq2
 obtain⟨j0,hj0⟩:∃ j,j=i+n:=⟨_,rfl⟩
 obtain⟨L,hL⟩:∃ L,L=LX.nameLen ((bts s).drop i):=⟨_,rfl⟩
 rw [← hL] at hnl ⊢
 rw [← hj0] at hnl hle sp1 sq1 sq2 hstop hstop2
 have hz:(s.size:Int)≤400000:=by omega
 have HJ:=zh hj0
 have HNL:=zh hnl
 have SP1:=zh sp1
 have SQ1:=zh sq1
 have ST1:=zh hstop
 have ST2:=zh hstop2
 have HLE:Hid (i≤j0∧j0≤s.size):=⟨by omega,hle⟩
 have HM2:Hid (j0<s.size→j0+1+m≤s.size):=fun h=>sq2 (by omega)
 clear hn hnl sp1 sp2 hm sq1 sq2 hstop hstop2 hle hj0 hL hs hi
 go_enter Tryz.func103,Tryz.ntmps103
 go_wp2_with fail
 go_loop [5] (fun j=>∃ k:Nat,i≤k∧k≤j0∧j = .int .i64 k) (fun j=>s.size - (intOf j).toNat)
 case atStart=>exact⟨i,zr4 _,HLE.out.1,rfl⟩
 obtain⟨k,hk1,hk2,rfl⟩:=hrel
 have HK:Hid (i≤k):=hk1
 clear hk1
 by_cases hlt:k<j0
 ·have hks:k<s.size:=by have:=HLE.out.2;omega
  have hkz:(k:Int)<(s.size:Int):=by omega
  obtain⟨c,hc⟩:∃ c,(bts s).getD k 0=c:=⟨_,rfl⟩
  have bk:=byte_at s hks hc
  have hp:=(SP1.out k HK.out hlt).2.1
  rw [hc] at hp
  have D:=rinner_any w c
  rw [hp] at D
  have HD:=zh D
  have HLT:Hid (k<j0):=hlt
  clear hc hp D hlt hk2
  go_wp2_with fail
  refine HD.out.mono ?_
  rintro e w1 ⟨rfl,rfl⟩
  go_wp2_with fail
  go_round
  case rel=>exact⟨k+1,by have:=HK.out;omega,HLT.out,by go_num⟩
  case measure=>have:=HLT.out;have:=HLE.out.2;simp [intOf];omega
 obtain rfl:k=j0:=by omega
 clear hk2 hlt
 by_cases hend:k<s.size
 ·have hkz:(k:Int)<(s.size:Int):=by omega
  obtain⟨c,hc⟩:∃ c,(bts s).getD k 0=c:=⟨_,rfl⟩
  have bk:=byte_at s hend hc
  have hp:=ST1.out hend
  rw [hc] at hp
  have D:=rinner_any w c
  rw [hp] at D
  have HD:=zh D
  have HC:=zh hc
  have HEND:Hid (k<s.size):=hend
  clear hc hp D
  go_wp2_with fail
  refine HD.out.mono ?_
  rintro e w1 ⟨rfl,rfl⟩
  go_wp2_with fail
  go_loop [6] (fun q=>∃ p:Nat,k+1≤p∧p≤k+1+m∧q = .int .i64 p) (fun q=>s.size - (intOf q).toNat)
  case atStart=>exact⟨k+1,zr4 _,by omega,by go_num⟩
  obtain⟨p,hp1,hp2,rfl⟩:=hrel
  have HP1:Hid (k+1≤p):=hp1
  by_cases hpm:p<k+1+m
  ·have hps:=(SQ1.out p hp1 hpm).1
   have hpz:(p:Int)<(s.size:Int):=by omega
   obtain⟨d,hd⟩:∃ d,(bts s).getD p 0=d:=⟨_,rfl⟩
   have bp:=byte_at s hps hd
   have hdd:=(SQ1.out p hp1 hpm).2.1
   rw [hd] at hdd
   have DD:=rdigit_any w1 d
   rw [hdd] at DD
   have HDD:=zh DD
   have HPM:Hid (p<k+1+m∧p<s.size):=⟨hpm,hps⟩
   clear hd hdd DD hpm hps hp1 hp2
   go_wp2_with fail
   refine HDD.out.mono ?_
   rintro e w2 ⟨rfl,rfl⟩
   go_wp2_with fail
   go_round
   case rel=>exact⟨p+1,by have:=HP1.out;omega,HPM.out.1,by go_num⟩
   case measure=>have:=HPM.out.2;simp [intOf];omega
  have HPE:Hid (p=k+1+m):=by show p=k+1+m;omega
  have hm2:=HM2.out hend
  clear hpm hp1 hp2
  by_cases hpe:p<s.size
  ·have hpz:(p:Int)<(s.size:Int):=by omega
   obtain⟨d,hd⟩:∃ d,(bts s).getD p 0=d:=⟨_,rfl⟩
   have bp:=byte_at s hpe hd
   have hdd:=ST2.out (by rw [← HPE.out];exact hpe)
   rw [← HPE.out,hd] at hdd
   have DD:=rdigit_any w1 d
   rw [hdd] at DD
   have HDD:=zh DD
   clear hd hdd DD
   by_cases h39:c=39
   ·have k39:((c:Int)==39)=true:=by rw [h39];rfl
    by_cases hm0:0<m
    ·have km:(k:Int)+1<(p:Int):=by have:=HPE.out;omega
     have hfin:L=n+1+m:=by
      have:=HNL.out
      rw [if_pos ⟨hend,by rw [HC.out];exact h39,hm0⟩] at this
      exact this
     have HFIN:=zh hfin
     clear hfin h39 hm0 hend hm2 hpe
     go_wp2_with fail
     refine HDD.out.mono ?_
     rintro e w2 ⟨rfl,rfl⟩
     go_wp2_with fail
     go_ret
     refine⟨?_,rfl⟩
     rw [HFIN.out]
     show Ending.returned (Value.int .i64 _)=Ending.returned (Value.int .i64 _)
     congr 2
     have:=HJ.out
     have:=HPE.out
     omega
    have km:(p:Int)≤(k:Int)+1:=by have:=HPE.out;omega
    have hfin:L=n:=by
     have:=HNL.out
     rw [if_neg (fun e=>hm0 e.2.2)] at this
     exact this
    have HFIN:=zh hfin
    clear hfin h39 hm0 hend hm2 hpe
    go_wp2_with fail
    refine HDD.out.mono ?_
    rintro e w2 ⟨rfl,rfl⟩
    go_wp2_with fail
    go_ret
    refine⟨?_,rfl⟩
    rw [HFIN.out]
    show Ending.returned (Value.int .i64 _)=Ending.returned (Value.int .i64 _)
    congr 2
    have:=HJ.out
    have:=HPE.out
    omega
   have k39:((c:Int)==39)=false:=zt6 (by omega)
   have hfin:L=n:=by
    have:=HNL.out
    rw [if_neg (fun e=>h39 (by rw [← HC.out];exact e.2.1))] at this
    exact this
   have HFIN:=zh hfin
   clear hfin h39 hend hm2 hpe
   go_wp2_with fail
   refine HDD.out.mono ?_
   rintro e w2 ⟨rfl,rfl⟩
   go_wp2_with fail
   go_ret
   refine⟨?_,rfl⟩
   rw [HFIN.out]
   show Ending.returned (Value.int .i64 _)=Ending.returned (Value.int .i64 _)
   congr 2
   have:=HJ.out
   have:=HPE.out
   omega
  have hpz:(s.size:Int)≤(p:Int):=by omega
  by_cases h39:c=39
  ·have k39:((c:Int)==39)=true:=by rw [h39];rfl
   by_cases hm0:0<m
   ·have km:(k:Int)+1<(p:Int):=by have:=HPE.out;omega
    have hfin:L=n+1+m:=by
     have:=HNL.out
     rw [if_pos ⟨hend,by rw [HC.out];exact h39,hm0⟩] at this
     exact this
    have HFIN:=zh hfin
    clear hfin h39 hm0 hend hm2 hpe
    go_wp2_with fail
    go_ret
    refine⟨?_,rfl⟩
    rw [HFIN.out]
    show Ending.returned (Value.int .i64 _)=Ending.returned (Value.int .i64 _)
    congr 2
    have:=HJ.out
    have:=HPE.out
    omega
   have km:(p:Int)≤(k:Int)+1:=by have:=HPE.out;omega
   have hfin:L=n:=by
    have:=HNL.out
    rw [if_neg (fun e=>hm0 e.2.2)] at this
    exact this
   have HFIN:=zh hfin
   clear hfin h39 hm0 hend hm2 hpe
   go_wp2_with fail
   go_ret
   refine⟨?_,rfl⟩
   rw [HFIN.out]
   show Ending.returned (Value.int .i64 _)=Ending.returned (Value.int .i64 _)
   congr 2
   have:=HJ.out
   have:=HPE.out
   omega
  have k39:((c:Int)==39)=false:=zt6 (by omega)
  have hfin:L=n:=by
   have:=HNL.out
   rw [if_neg (fun e=>h39 (by rw [← HC.out];exact e.2.1))] at this
   exact this
  have HFIN:=zh hfin
  clear hfin h39 hend hm2 hpe
  go_wp2_with fail
  go_ret
  refine⟨?_,rfl⟩
  rw [HFIN.out]
  show Ending.returned (Value.int .i64 _)=Ending.returned (Value.int .i64 _)
  congr 2
  have:=HJ.out
  have:=HPE.out
  omega
 obtain rfl:k=s.size:=by have:=HLE.out.2;omega
 have hkz:(s.size:Int)≤(s.size:Int):=Int.le_refl _
 have hfin:L=s.size - i:=by
  have:=HNL.out
  rw [if_neg (fun e=>by omega)] at this
  have:=HJ.out
  omega
 have HF:=zh hfin
 clear hfin hend
 go_wp2_with fail
 go_loop [6] (fun q=>q = .int .i64 ((s.size:Int)+1)) (fun q=>0)
 case atStart=>rfl
 subst hrel
 go_wp2_with fail
 go_ret
 refine⟨?_,rfl⟩
 rw [HF.out]
 show Ending.returned (Value.int .i64 (s.size:Int))=Ending.returned (Value.int .i64 ((i+(s.size - i):Nat):Int))
 have:=HLE.out.1
 congr 2
 omega
end Lx
namespace Lx
open Go.RowKit
theorem bytes_neq {s t:ByteArray}(h:¬ s=t):(s.toList==t.toList)=false:=zt6 fun e=>h (by
 rw [ByteArray.toList_eq,ByteArray.toList_eq] at e
 exact bts_inj (by unfold bts;rw [e]))
theorem rword_any (w:World) (s:ByteArray):Calls Tryz.prog 104 #[.string s] w fun e w'=>e = .returned (.bool (LX.words.contains (bts s)))∧Below w.heap.size w w':=by
 rw [← words_contains]
 obtain⟨r,hr⟩:∃ r,r=(wordBs.take 15).contains s:=⟨_,rfl⟩
 rw [← hr]
 have hr2:r=(wordBs.drop 0).contains s:=hr
 have HR:=zh hr2
 clear hr hr2
 obtain⟨W,hW⟩:∃ W,w.alloc (.cells (wordBs.map Value.string).toArray 9)=W:=⟨_,rfl⟩
 have hW2:w.alloc (.cells #[Value.string { data := #[97,110,100] },Value.string { data := #[99,97,115,101] },Value.string { data := #[100,97,116,97] },Value.string { data := #[101,108,115,101] },Value.string { data := #[101,110,100] },Value.string { data := #[102,110] },Value.string { data := #[102,117,110] },Value.string { data := #[105,102] },Value.string { data := #[105,110] },Value.string { data := #[105,110,112,117,116] },Value.string { data := #[108,101,116] },Value.string { data := #[111,102] },Value.string { data := #[111,117,116,112,117,116] },Value.string { data := #[116,104,101,110] },Value.string { data := #[118,97,108] }] 9)=W:=hW
 obtain⟨z,hz⟩:∃ z,z=w.heap.size:=⟨_,rfl⟩
 have hblk:W.heap[z]?=some (.cells (wordBs.map Value.string).toArray 9 (0,0)):=by rw [← hW,hz];exact zs2 w _
 have BW:Hid (Below w.heap.size w W):=by rw [← hW];exact(zs9 _ _).alloc (zr4 _) _
 have HB:=zh hblk
 have HW2:=zh hW2
 have HZ:=zh hz
 clear hblk hW hW2 hz
 go_enter Tryz.func104,Tryz.ntmps104
 go_wp2_with fail
 rw [HW2.out,← HZ.out]
 go_loop [4] (fun i=>∃ k:Nat,k≤15∧i = .int .i64 k∧r=(wordBs.drop k).contains s) (fun i=>15 - (intOf i).toNat)
 case atStart=>exact⟨0,by decide,rfl,HR.out⟩
 obtain⟨k,hk,rfl,hrk⟩:=hrel
 have HRK:=zh hrk
 clear hrk
 by_cases hlt:k<15
 ·have hlz:(k:Int)<15:=by omega
  obtain⟨x,hx⟩:∃ x,wordBs[k]?=some x:=⟨_,zq9 (show k<wordBs.length from hlt)⟩
  have hc:W.cell? ⟨z,k,none⟩=some (.string x):=by
   rw [zb _ _ k _ _ _ HB.out]
   simp [hx]
  have hdrop:wordBs.drop k=x :: wordBs.drop (k+1):=by
   obtain⟨h1,h2⟩:=zq8.1 hx
   rw [List.drop_eq_getElem_cons h1,h2]
  have HD:=zh hdrop
  have HLT:=zh hlt
  clear hdrop hlt hk hx
  by_cases hs:x=s
  ·have HS:=zh hs
   have hb:(x.toList==s.toList)=true:=by rw [hs];simp
   clear hs
   go_wp2_with fail
   go_ret
   refine⟨?_,BW.out⟩
   have hb2:(s==x)=true:=(Go.MapKept.bytes_beq s x).2 HS.out.symm
   rw [HRK.out,HD.out,List.contains_cons,hb2,Bool.true_or]
   rfl
  have hb:=bytes_neq hs
  have hb2:(s==x)=false:=by
   cases hq:(s==x) with
   | false=>rfl
   | true=>exact absurd ((Go.MapKept.bytes_beq s x).1 hq).symm hs
  have HB2:=zh hb2
  clear hs hb2
  go_wp2_with fail
  go_round
  case rel=>exact⟨k+1,HLT.out,by go_num,by rw [HRK.out,HD.out,List.contains_cons,HB2.out,Bool.false_or]⟩
  case measure=>have:=HLT.out;simp [intOf];omega
 obtain rfl:k=15:=by omega
 clear hlt hk
 go_wp2_with fail
 go_ret
 refine⟨?_,BW.out⟩
 rw [HRK.out]
 rfl
def signBs:ByteArray:=⟨#[40,41,44,59,58,124,61,60,43,45,42,47,37,95]⟩
theorem signs_bts:bts signBs=LX.signs:=by decide +kernel
def signLen (l:List Nat):Nat:=if (LX.head0 l=61∨LX.head0 l=45)∧LX.head0 l.tail=62 then 2 else if LX.signs.contains (LX.head0 l) then 1 else 0
theorem two_at (s:ByteArray) {i c d:Nat}(h:i+1<s.size) (hc:(bts s).getD i 0=c) (hd:(bts s).getD (i+1) 0=d):∃ x:ByteArray,bts x=[c,d]∧∀ m,(Instr.slice 9 (.string s) (some (.int .i64 i)) (some (.int .i64 ((i:Int)+2))) none).run Tryz.prog m = .ok (.string x) m:=by
 refine⟨s.extract i (i+2),?_,fun m=>slice_mid s i 2 (by omega) m⟩
 rw [bts_extract,Nat.add_sub_cancel_left,LX.drop_get (by rw [ze];omega),hc,LX.drop_get (by rw [ze];omega),hd]
 rfl
theorem two_eq {x:ByteArray}{c d a b:Nat}(h:bts x=[c,d]) (y:ByteArray) (hy:bts y=[a,b]):(x.toList==y.toList)=(c==a&&d==b):=by
 by_cases h1:c=a∧d=b
 ·obtain⟨rfl,rfl⟩:=h1
  rw [bts_inj (h.trans hy.symm)];simp
 have:¬ x=y:=fun e=>h1 (by rw [e,hy] at h;simp at h;exact⟨h.1.symm,h.2.symm⟩)
 rw [bytes_neq this]
 by_cases h2:c=a
 ·have h3:¬ d=b:=fun e=>h1 ⟨h2,e⟩
  simp [h3]
 simp [h2]
end Lx
namespace Lx
open Go.RowKit
theorem lit6162:(⟨#[61,62]⟩:ByteArray).toList=[61,62]:=by decide +kernel
theorem lit4042:(⟨#[40,42]⟩:ByteArray).toList=[40,42]:=by decide +kernel
theorem lit4562:(⟨#[45,62]⟩:ByteArray).toList=[45,62]:=by decide +kernel
theorem sign_byte {k:Nat}(h:k<14):∃ e,(bts signBs).getD k 0=e∧LX.signs.drop k=e :: LX.signs.drop (k+1):=by
 rw [signs_bts]
 refine⟨_,rfl,?_⟩
 exact LX.drop_get (show k<LX.signs.length from h)
def SignPost (w:World) (n:Nat) (e:Ending) (w':World):Prop:=e = .returned (.int .i64 n)∧∃ m,w'=w.drewN m
theorem rsign_any (w:World) (s:ByteArray) (hs:s.size≤400000) (i:Nat) (hi:i<s.size):Calls Tryz.prog 105 #[.string s,.int .i64 i] w (SignPost w (signLen ((bts s).drop i))):=by
 obtain⟨c,hc⟩:∃ c,(bts s).getD i 0=c:=⟨_,rfl⟩
 have bi:=byte_at s hi hc
 have hz:(s.size:Int)≤400000:=by omega
 have hiz:(i:Int)<(s.size:Int):=by omega
 have hd0:(bts s).drop i=c :: (bts s).drop (i+1):=by rw [LX.drop_get (by rw [ze];exact hi),hc]
 obtain⟨r,hr⟩:∃ r,r=LX.signs.contains c:=⟨_,rfl⟩
 by_cases h1:i+1<s.size
 ·obtain⟨d,hd⟩:∃ d,(bts s).getD (i+1) 0=d:=⟨_,rfl⟩
  obtain⟨x,hx,sl⟩:=two_at s h1 hc hd
  have e1:=two_eq hx ⟨#[61,62]⟩ (a:=61) (b:=62) rfl
  have e2:=two_eq hx ⟨#[45,62]⟩ (a:=45) (b:=62) rfl
  rw [lit6162] at e1
  rw [lit4562] at e2
  have hd1:(bts s).drop (i+1)=d :: (bts s).drop (i+2):=by rw [LX.drop_get (by rw [ze];exact h1),hd]
  have h1z:(i:Int)+1<(s.size:Int):=by omega
  have hL:signLen ((bts s).drop i)=if (c=61∨c=45)∧d=62 then 2 else if r then 1 else 0:=by
   rw [hd0,hd1,hr];rfl
  rw [hL]
  obtain⟨L1,hL1⟩:∃ L:Nat,L=if r then 1 else 0:=⟨_,rfl⟩
  rw [← hL1]
  have HL1:=zh hL1
  clear hL1
  clear hL hd0 hd1 hc hd hi h1 hs
  by_cases h2:(c=61∨c=45)∧d=62
  ·rw [if_pos h2]
   obtain⟨h3,rfl⟩:=h2
   rcases h3 with rfl | rfl
   ·rw [show ((61:Nat)==61&&(62:Nat)==62)=true from rfl] at e1
    clear e2 hx bi hr
    go_enter Tryz.func105,Tryz.ntmps105
    go_wp2_with fail
    go_ret
    exact⟨rfl,0,rfl⟩
   rw [show ((45:Nat)==61&&(62:Nat)==62)=false from rfl] at e1
   rw [show ((45:Nat)==45&&(62:Nat)==62)=true from rfl] at e2
   clear hx bi hr
   go_enter Tryz.func105,Tryz.ntmps105
   go_wp2_with fail
   go_ret
   exact⟨rfl,0,rfl⟩
  rw [if_neg h2]
  have f1:(x.toList==([61,62]:List UInt8))=false:=by
   rw [e1];cases h:(c==61&&d==62) with
   | false=>rfl
   | true=>simp at h;exact absurd ⟨.inl h.1,h.2⟩ h2
  have f2:(x.toList==([45,62]:List UInt8))=false:=by
   rw [e2];cases h:(c==45&&d==62) with
   | false=>rfl
   | true=>simp at h;exact absurd ⟨.inr h.1,h.2⟩ h2
  have HR:Hid (r=(LX.signs.drop 0).contains c):=hr
  clear e1 e2 hx h2 hr
  go_enter Tryz.func105,Tryz.ntmps105
  go_wp2_with fail
  clear f1 f2 sl h1z
  go_loopw [6] (fun k wr=>∃ n:Nat,n≤14∧k = .int .i64 n∧r=(LX.signs.drop n).contains c∧∃ m,wr=w.drewN m) (fun k _=>14 - (intOf k).toNat)
  case atStart=>exact⟨0,by decide,rfl,HR.out,0,rfl⟩
  obtain⟨k,hk,rfl,hrk,m,rfl⟩:=hrel
  have HRK:=zh hrk
  clear hrk
  by_cases hlt:k<14
  ·have hlz:(k:Int)<14:=by omega
   obtain⟨q,hq,hdr⟩:=sign_byte hlt
   have bk:∀ m:World,(Instr.index 9 (.string ⟨#[40,41,44,59,58,124,61,60,43,45,42,47,37,95]⟩) (.int .i64 k)).run Tryz.prog m = .ok (.int .u8 (q:Int)) m:=byte_at signBs hlt hq
   have HD:=zh hdr
   have HLT:=zh hlt
   clear hq hdr hlt hk
   by_cases hqc:q=c
   ·subst hqc
    go_wp2_with fail
    go_quiet (fail)
    go_wp2_with fail
    go_ret
    refine⟨?_,_,(by first | rfl | rw [World.drewN_drewN])⟩
    rw [HL1.out,HRK.out,HD.out,List.contains_cons]
    simp
   have k1:((q:Int)==(c:Int))=false:=zt6 (by omega)
   have HQ:=zh hqc
   clear hqc
   go_wp2_with fail
   go_quiet (fail)
   go_wp2_with fail
   go_roundw
   case rel=>exact⟨k+1,HLT.out,by go_num,by rw [HRK.out,HD.out,List.contains_cons,show (c==q)=false from zt6 fun e=>HQ.out e.symm,Bool.false_or],_,(by first | rfl | rw [World.drewN_drewN])⟩
   case measure=>have:=HLT.out;simp [intOf];omega
  obtain rfl:k=14:=by omega
  clear hlt hk
  go_wp2_with fail
  go_ret
  refine⟨?_,_,(by first | rfl | rw [World.drewN_drewN])⟩
  rw [HL1.out,HRK.out]
  rfl
 have h1z:¬ (i:Int)+1<(s.size:Int):=by omega
 have hd1:(bts s).drop (i+1)=[]:=List.drop_of_length_le (by rw [ze];omega)
 have hL:signLen ((bts s).drop i)=if r then 1 else 0:=by
  rw [hd0,hd1,hr]
  unfold signLen
  rw [if_neg (fun e=>absurd e.2 (by simp [LX.head0]))]
  rfl
 rw [hL]
 obtain⟨L1,hL1⟩:∃ L:Nat,L=if r then 1 else 0:=⟨_,rfl⟩
 rw [← hL1]
 have HL1:=zh hL1
 clear hL1
 have HR:Hid (r=(LX.signs.drop 0).contains c):=hr
 clear hL hd0 hd1 hc hi h1 hs hr
 go_enter Tryz.func105,Tryz.ntmps105
 go_wp2_with fail
 clear h1z
 go_loopw [6] (fun k wr=>∃ n:Nat,n≤14∧k = .int .i64 n∧r=(LX.signs.drop n).contains c∧∃ m,wr=w.drewN m) (fun k _=>14 - (intOf k).toNat)
 case atStart=>exact⟨0,by decide,rfl,HR.out,0,rfl⟩
 obtain⟨k,hk,rfl,hrk,m,rfl⟩:=hrel
 have HRK:=zh hrk
 clear hrk
 by_cases hlt:k<14
 ·have hlz:(k:Int)<14:=by omega
  obtain⟨q,hq,hdr⟩:=sign_byte hlt
  have bk:∀ m:World,(Instr.index 9 (.string ⟨#[40,41,44,59,58,124,61,60,43,45,42,47,37,95]⟩) (.int .i64 k)).run Tryz.prog m = .ok (.int .u8 (q:Int)) m:=byte_at signBs hlt hq
  have HD:=zh hdr
  have HLT:=zh hlt
  clear hq hdr hlt hk
  by_cases hqc:q=c
  ·subst hqc
   go_wp2_with fail
   go_quiet (fail)
   go_wp2_with fail
   go_ret
   refine⟨?_,_,(by first | rfl | rw [World.drewN_drewN])⟩
   rw [HL1.out,HRK.out,HD.out,List.contains_cons]
   simp
  have k1:((q:Int)==(c:Int))=false:=zt6 (by omega)
  have HQ:=zh hqc
  clear hqc
  go_wp2_with fail
  go_quiet (fail)
  go_wp2_with fail
  go_roundw
  case rel=>exact⟨k+1,HLT.out,by go_num,by rw [HRK.out,HD.out,List.contains_cons,show (c==q)=false from zt6 fun e=>HQ.out e.symm,Bool.false_or],_,(by first | rfl | rw [World.drewN_drewN])⟩
  case measure=>have:=HLT.out;simp [intOf];omega
 obtain rfl:k=14:=by omega
 clear hlt hk
 go_wp2_with fail
 go_ret
 refine⟨?_,_,(by first | rfl | rw [World.drewN_drewN])⟩
 rw [HL1.out,HRK.out]
 rfl
end Lx
namespace Lx
open Go.RowKit
def rdV (s:ByteArray) (i:Nat):LX.TR→Value
 | .tok k v n => .tuple #[tokV k v (s.extract i (i+n)) i,.int .i64 0]
 | .bad e => .tuple #[tokV 0 0 ⟨#[]⟩ 0,.int .i64 e]
def RdPost (w:World) (v:Value) (e:Ending) (w':World):Prop:=e = .returned v∧Below w.heap.size w w'
structure RdAt (s:ByteArray) (i c:Nat):Prop where
 size:s.size≤400000
 lt:i<s.size
 byte:(bts s).getD i 0=c
theorem RdAt.drop {s:ByteArray}{i c:Nat}(h:RdAt s i c):(bts s).drop i=c :: (bts s).drop (i+1):=by
 rw [LX.drop_get (by rw [ze];exact h.lt),h.byte]
theorem rread_var (w:World) (s:ByteArray) (i:Nat) (h:RdAt s i 39) (h1:i+1<s.size) (hsm:LX.small ((bts s).getD (i+1) 0)=true) :
  Calls Tryz.prog 84 #[.string s,.int .i64 i] w (RdPost w (rdV s i (LX.token ((bts s).drop i)))):=by
 obtain⟨d,hd⟩:∃ d,(bts s).getD (i+1) 0=d:=⟨_,rfl⟩
 rw [hd] at hsm
 have hd1:(bts s).drop (i+1)=d :: (bts s).drop (i+2):=by rw [LX.drop_get (by rw [ze];exact h1),hd]
 obtain⟨n,hn⟩:∃ n,n=LX.run LX.part ((bts s).drop (i+1)):=⟨_,rfl⟩
 have htok:LX.token ((bts s).drop i)=if 24<1+n then .bad 2 else .tok 4 0 (1+n):=by
  rw [h.drop]
  unfold LX.token
  simp only []
  rw [if_neg (by decide),if_neg (by decide),if_neg (by decide),if_pos ⟨trivial,by rw [hd1];exact hsm⟩,← hn]
  rfl
 have hle:=(run_spec LX.part (bts s) (i+1)).2 (by rw [ze];omega)
 rw [← hn,ze] at hle
 have b0:=byte_at s h.lt h.byte
 have b1:∀ m,(Instr.index 9 (.string s) (.int .i64 ((i:Int)+1))).run Tryz.prog m = .ok (.int .u8 (d:Int)) m:=byte_at s h1 hd
 have PL:Hid (∀ W,Calls Tryz.prog 101 #[.string s,.int .i64 ((i:Int)+1)] W fun e w'=>e = .returned (.int .i64 ((i:Int)+1+n))∧w'=W):=fun W=>by
  have:=rplain_any W s h.size (i+1) (by omega)
  rw [← hn] at this
  exact this
 have HSM:Hid (∀ W,Calls Tryz.prog 100 #[.int .u8 d] W fun e w'=>e = .returned (.bool true)∧w'=W):=fun W=>by
  have:=rsmall_any W d
  rw [hsm] at this
  exact this
 have DG:Hid (∀ W,Calls Tryz.prog 97 #[.int .u8 39] W fun e w'=>e = .returned (.bool false)∧w'=W):=fun W=>rdigit_any W 39
 have sl:∀ m,(Instr.slice 9 (.string s) (some (.int .i64 i)) (some (.int .i64 ((i:Int)+1+n))) none).run Tryz.prog m = .ok (.string (s.extract i (i+(1+n)))) m:=fun m=>by
  have:=slice_mid s i (1+n) (by omega) m
  rw [show (i:Int)+((1+n:Nat):Int)=(i:Int)+1+n from by omega] at this
  exact this
 obtain⟨tx,htx⟩:∃ t,t=s.extract i (i+(1+n)):=⟨_,rfl⟩
 rw [← htx] at sl
 obtain⟨V,hV⟩:∃ V,V=rdV s i (LX.token ((bts s).drop i)):=⟨_,rfl⟩
 rw [← hV]
 rw [htok] at hV
 have hz:(s.size:Int)≤400000:=by have:=h.size;omega
 have hiz:(i:Int)+1<(s.size:Int):=by omega
 have hnz:(i:Int)+1+(n:Int)≤(s.size:Int):=by omega
 have hn0:(0:Int)≤(n:Int):=by omega
 by_cases h24:24<1+n
 ·have hv:V = .tuple #[tokV 0 0 ⟨#[]⟩ 0,.int .i64 2]:=by rw [hV,if_pos h24];rfl
  have HV:=zh hv
  have h24z:(24:Int)<1+(n:Int):=by omega
  clear hv hV htok hd1 hd hsm h h1 hn hle h24 htx
  go_enter Tryz.func84,Tryz.ntmps84
  go_wp2_with fail
  refine(DG.out _).mono ?_
  rintro e w1 ⟨rfl,rfl⟩
  go_wp2_with fail
  refine(HSM.out _).mono ?_
  rintro e w1 ⟨rfl,rfl⟩
  go_wp2_with fail
  refine(PL.out _).mono ?_
  rintro e w1 ⟨rfl,rfl⟩
  go_wp2_with fail
  go_returns
  exact⟨by rw [HV.out];rfl,(zs9 _ _).alloc (zr4 _) _⟩
 have hv:V = .tuple #[tokV 4 0 tx i,.int .i64 0]:=by rw [hV,if_neg h24,htx];rfl
 have HV:=zh hv
 have h24z:1+(n:Int)≤24:=by omega
 clear hv hV htok hd1 hd hsm h h1 hn hle h24 htx
 go_enter Tryz.func84,Tryz.ntmps84
 go_wp2_with fail
 refine(DG.out _).mono ?_
 rintro e w1 ⟨rfl,rfl⟩
 go_wp2_with fail
 refine(HSM.out _).mono ?_
 rintro e w1 ⟨rfl,rfl⟩
 go_wp2_with fail
 refine(PL.out _).mono ?_
 rintro e w1 ⟨rfl,rfl⟩
 go_wp2_with fail
 go_returns
 exact⟨by rw [HV.out];rfl,(zs9 _ _).alloc (zr4 _) _⟩
end Lx
namespace Lx
open Go.RowKit
theorem words_small {l:List Nat}(h:LX.words.contains l=true):LX.small (l.headD 0)=true:=by
 have h1:∀ w∈LX.words,LX.small (w.headD 0)=true:=by decide
 exact h1 l (by simpa using h)
theorem great_not_small {c:Nat}(h:LX.great c=true):LX.small c=false:=by
 unfold LX.great at h
 unfold LX.small
 simp at h ⊢
 omega
theorem not_digit {c:Nat}(h:LX.small c=true∨LX.great c=true):LX.digit c=false∧c≠126∧c≠39:=by
 unfold LX.small LX.great at h
 unfold LX.digit
 simp at h ⊢
 omega
theorem headD_take {l:List Nat}{n:Nat}(h:0<n):(l.take n).headD 0=l.headD 0:=by
 cases l with
 | nil=>simp
 | cons a l=>obtain⟨m,rfl⟩:∃ m,n=m+1:=⟨n - 1,by omega⟩;rfl
theorem tok_small {c:Nat}{l:List Nat}(h:LX.small c=true):LX.token (c :: l)=LX.named 2 (c :: l):=by
 obtain⟨a,b,_⟩:=not_digit (.inl h)
 unfold LX.token
 simp only []
 rw [if_neg (by rw [a];simp [b]),if_pos h]
theorem tok_great {c:Nat}{l:List Nat}(h:LX.great c=true):LX.token (c :: l)=LX.named 3 (c :: l):=by
 obtain⟨a,b,_⟩:=not_digit (.inr h)
 unfold LX.token
 simp only []
 rw [if_neg (by rw [a];simp [b]),if_neg (by rw [great_not_small h];decide),if_pos h]
theorem rread_great (w:World) (s:ByteArray) (i c:Nat) (h:RdAt s i c) (hc:LX.great c=true) :
  Calls Tryz.prog 84 #[.string s,.int .i64 i] w (RdPost w (rdV s i (LX.token ((bts s).drop i)))):=by
 obtain⟨n,hn⟩:∃ n,n=LX.nameLen ((bts s).drop i):=⟨_,rfl⟩
 have hle:=LX.nameLen_le ((bts s).drop i)
 rw [← hn,List.length_drop,ze] at hle
 have hge:0<n:=by
  have h1:=LX.nameLen_ge ((bts s).drop i)
  rw [← hn,h.drop,LX.run,if_pos (LX.part_great hc)] at h1
  omega
 have htok:LX.token ((bts s).drop i)=if 24<n then .bad 2 else .tok (if LX.words.contains (((bts s).drop i).take n) then 5 else 3) 0 n:=by
  rw [h.drop,tok_great hc,← h.drop]
  unfold LX.named LX.made
  rw [← hn]
  by_cases h24:24<n
  ·rw [if_pos h24,if_pos h24]
  rw [if_neg h24,if_neg h24]
 obtain⟨hdg,h126,h39⟩:=not_digit (c:=c) (.inr hc)
 have k126:((c:Int)==126)=false:=zt6 (by omega)
 have k39:((c:Int)==39)=false:=zt6 (by omega)
 have b0:=byte_at s h.lt h.byte
 have DG:Hid (∀ W,Calls Tryz.prog 97 #[.int .u8 c] W fun e w'=>e = .returned (.bool false)∧w'=W):=fun W=>by
  have:=rdigit_any W c
  rw [hdg] at this
  exact this
 have SM:Hid (∀ W,Calls Tryz.prog 100 #[.int .u8 c] W fun e w'=>e = .returned (.bool false)∧w'=W):=fun W=>by
  have:=rsmall_any W c
  rw [great_not_small hc] at this
  exact this
 have GR:Hid (∀ W,Calls Tryz.prog 102 #[.int .u8 c] W fun e w'=>e = .returned (.bool true)∧w'=W):=fun W=>by
  have:=rgreat_any W c
  rw [hc] at this
  exact this
 obtain⟨J,hJ⟩:∃ J,J=i+n:=⟨_,rfl⟩
 have NM:Hid (∀ W,Calls Tryz.prog 103 #[.string s,.int .i64 i] W fun e w'=>e = .returned (.int .i64 J)∧w'=W):=fun W=>by
  have:=rnamed_any W s h.size i (by have:=h.lt;omega)
  rw [← hn,← hJ] at this
  exact this
 have sl:∀ m,(Instr.slice 9 (.string s) (some (.int .i64 i)) (some (.int .i64 J)) none).run Tryz.prog m = .ok (.string (s.extract i (i+n))) m:=fun m=>by
  have:=slice_mid s i n (by omega) m
  rw [show (i:Int)+(n:Int)=(J:Int) from by omega] at this
  exact this
 obtain⟨tx,htx⟩:∃ t,t=s.extract i (i+n):=⟨_,rfl⟩
 rw [← htx] at sl
 have hbt:bts tx=((bts s).drop i).take n:=by rw [htx,bts_extract,Nat.add_sub_cancel_left]
 rw [← hbt] at htok
 have WD:Hid (∀ W,Calls Tryz.prog 104 #[.string tx] W fun e w'=>e = .returned (.bool (LX.words.contains (bts tx)))∧Below W.heap.size W w'):=fun W=>rword_any W tx
 obtain⟨b,hb⟩:∃ b,b=LX.words.contains (bts tx):=⟨_,rfl⟩
 rw [← hb] at WD htok
 obtain⟨V,hV⟩:∃ V,V=rdV s i (LX.token ((bts s).drop i)):=⟨_,rfl⟩
 rw [← hV]
 rw [htok] at hV
 have hz:(s.size:Int)≤400000:=by have:=h.size;omega
 have hiz:(i:Int)<(s.size:Int):=by have:=h.lt;omega
 have hJz:(J:Int)≤(s.size:Int):=by omega
 have hJi:(i:Int)<(J:Int):=by omega
 have hbf:b=false:=by
  cases hq:b with
  | false=>rfl
  | true =>
   rw [hq] at hb
   have h1:=words_small hb.symm
   rw [hbt,headD_take hge,h.drop,List.headD_cons,great_not_small hc] at h1
   cases h1
 by_cases h24:24<n
 ·have hv:V = .tuple #[tokV 0 0 ⟨#[]⟩ 0,.int .i64 2]:=by rw [hV,if_pos h24];rfl
  have HV:=zh hv
  have h24z:(24:Int)<(J:Int) - (i:Int):=by omega
  clear hv hV htok h hc hn hle h24 htx hge hdg h126 h39 hJ hbt hb
  go_enter Tryz.func84,Tryz.ntmps84
  go_wp2_with fail
  refine(DG.out _).mono ?_
  rintro e w1 ⟨rfl,rfl⟩
  go_wp2_with fail
  refine(SM.out _).mono ?_
  rintro e w1 ⟨rfl,rfl⟩
  go_wp2_with fail
  refine(GR.out _).mono ?_
  rintro e w1 ⟨rfl,rfl⟩
  go_wp2_with fail
  refine(NM.out _).mono ?_
  rintro e w1 ⟨rfl,rfl⟩
  go_wp2_with fail
  go_returns
  exact⟨by rw [HV.out];rfl,(zs9 _ _).alloc (zr4 _) _⟩
 have h24z:(J:Int) - (i:Int)≤24:=by omega
 cases b with
 | true =>
  cases hbf
 | false =>
  have hv:V = .tuple #[tokV 3 0 tx i,.int .i64 0]:=by rw [hV,if_neg h24,htx];rfl
  have HV:=zh hv
  clear hv hV htok h hc hn hle h24 htx hge hdg h126 h39 hJ hbt hb
  go_enter Tryz.func84,Tryz.ntmps84
  go_wp2_with fail
  refine(DG.out _).mono ?_
  rintro e w1 ⟨rfl,rfl⟩
  go_wp2_with fail
  refine(SM.out _).mono ?_
  rintro e w1 ⟨rfl,rfl⟩
  go_wp2_with fail
  refine(GR.out _).mono ?_
  rintro e w1 ⟨rfl,rfl⟩
  go_wp2_with fail
  refine(NM.out _).mono ?_
  rintro e w1 ⟨rfl,rfl⟩
  go_wp2_with fail
  refine(GR.out _).mono ?_
  rintro e w1 ⟨rfl,rfl⟩
  go_wp2_with fail
  go_returns
  exact⟨by rw [HV.out];rfl,(zs9 _ _).alloc (zr4 _) _⟩
theorem rread_small (w:World) (s:ByteArray) (i c:Nat) (h:RdAt s i c) (hc:LX.small c=true) :
  Calls Tryz.prog 84 #[.string s,.int .i64 i] w (RdPost w (rdV s i (LX.token ((bts s).drop i)))):=by
 obtain⟨n,hn⟩:∃ n,n=LX.nameLen ((bts s).drop i):=⟨_,rfl⟩
 have hle:=LX.nameLen_le ((bts s).drop i)
 rw [← hn,List.length_drop,ze] at hle
 have hge:0<n:=by
  have h1:=LX.nameLen_ge ((bts s).drop i)
  rw [← hn,h.drop,LX.run,if_pos (LX.part_small hc)] at h1
  omega
 have htok:LX.token ((bts s).drop i)=if 24<n then .bad 2 else .tok (if LX.words.contains (((bts s).drop i).take n) then 5 else 2) 0 n:=by
  rw [h.drop,tok_small hc,← h.drop]
  unfold LX.named LX.made
  rw [← hn]
  by_cases h24:24<n
  ·rw [if_pos h24,if_pos h24]
  rw [if_neg h24,if_neg h24]
 obtain⟨hdg,h126,h39⟩:=not_digit (c:=c) (.inl hc)
 have k126:((c:Int)==126)=false:=zt6 (by omega)
 have k39:((c:Int)==39)=false:=zt6 (by omega)
 have b0:=byte_at s h.lt h.byte
 have DG:Hid (∀ W,Calls Tryz.prog 97 #[.int .u8 c] W fun e w'=>e = .returned (.bool false)∧w'=W):=fun W=>by
  have:=rdigit_any W c
  rw [hdg] at this
  exact this
 have SM:Hid (∀ W,Calls Tryz.prog 100 #[.int .u8 c] W fun e w'=>e = .returned (.bool true)∧w'=W):=fun W=>by
  have:=rsmall_any W c
  rw [hc] at this
  exact this
 have GR:Hid (∀ W,Calls Tryz.prog 102 #[.int .u8 c] W fun e w'=>e = .returned (.bool false)∧w'=W):=fun W=>by
  have:=rgreat_any W c
  rw [show LX.great c=false from by
   cases hq:LX.great c with
   | false=>rfl
   | true=>have:=great_not_small hq;rw [hc] at this;cases this] at this
  exact this
 obtain⟨J,hJ⟩:∃ J,J=i+n:=⟨_,rfl⟩
 have NM:Hid (∀ W,Calls Tryz.prog 103 #[.string s,.int .i64 i] W fun e w'=>e = .returned (.int .i64 J)∧w'=W):=fun W=>by
  have:=rnamed_any W s h.size i (by have:=h.lt;omega)
  rw [← hn,← hJ] at this
  exact this
 have sl:∀ m,(Instr.slice 9 (.string s) (some (.int .i64 i)) (some (.int .i64 J)) none).run Tryz.prog m = .ok (.string (s.extract i (i+n))) m:=fun m=>by
  have:=slice_mid s i n (by omega) m
  rw [show (i:Int)+(n:Int)=(J:Int) from by omega] at this
  exact this
 obtain⟨tx,htx⟩:∃ t,t=s.extract i (i+n):=⟨_,rfl⟩
 rw [← htx] at sl
 have hbt:bts tx=((bts s).drop i).take n:=by rw [htx,bts_extract,Nat.add_sub_cancel_left]
 rw [← hbt] at htok
 have WD:Hid (∀ W,Calls Tryz.prog 104 #[.string tx] W fun e w'=>e = .returned (.bool (LX.words.contains (bts tx)))∧Below W.heap.size W w'):=fun W=>rword_any W tx
 obtain⟨b,hb⟩:∃ b,b=LX.words.contains (bts tx):=⟨_,rfl⟩
 rw [← hb] at WD htok
 obtain⟨V,hV⟩:∃ V,V=rdV s i (LX.token ((bts s).drop i)):=⟨_,rfl⟩
 rw [← hV]
 rw [htok] at hV
 have hz:(s.size:Int)≤400000:=by have:=h.size;omega
 have hiz:(i:Int)<(s.size:Int):=by have:=h.lt;omega
 have hJz:(J:Int)≤(s.size:Int):=by omega
 have hJi:(i:Int)<(J:Int):=by omega
 by_cases h24:24<n
 ·have hv:V = .tuple #[tokV 0 0 ⟨#[]⟩ 0,.int .i64 2]:=by rw [hV,if_pos h24];rfl
  have HV:=zh hv
  have h24z:(24:Int)<(J:Int) - (i:Int):=by omega
  clear hv hV htok h hc hn hle h24 htx hge hdg h126 h39 hJ hbt hb
  go_enter Tryz.func84,Tryz.ntmps84
  go_wp2_with fail
  refine(DG.out _).mono ?_
  rintro e w1 ⟨rfl,rfl⟩
  go_wp2_with fail
  refine(SM.out _).mono ?_
  rintro e w1 ⟨rfl,rfl⟩
  go_wp2_with fail
  refine(NM.out _).mono ?_
  rintro e w1 ⟨rfl,rfl⟩
  go_wp2_with fail
  go_returns
  exact⟨by rw [HV.out];rfl,(zs9 _ _).alloc (zr4 _) _⟩
 have h24z:(J:Int) - (i:Int)≤24:=by omega
 cases b with
 | true =>
  have hv:V = .tuple #[tokV 5 0 tx i,.int .i64 0]:=by rw [hV,if_neg h24,htx];rfl
  have HV:=zh hv
  have HLT:Hid True:=trivial
  clear hv hV htok h hc hn hle h24 htx hge hdg h126 h39 hJ hbt hb
  go_enter Tryz.func84,Tryz.ntmps84
  go_wp2_with fail
  refine(DG.out _).mono ?_
  rintro e w1 ⟨rfl,rfl⟩
  go_wp2_with fail
  refine(SM.out _).mono ?_
  rintro e w1 ⟨rfl,rfl⟩
  go_wp2_with fail
  refine(NM.out _).mono ?_
  rintro e w1 ⟨rfl,rfl⟩
  go_wp2_with fail
  refine(GR.out _).mono ?_
  rintro e w1 ⟨rfl,rfl⟩
  go_wp2_with fail
  refine(WD.out _).mono ?_
  rintro e w1 ⟨rfl,hb⟩
  have hblk:w1.heap[w.heap.size]?=some (.cells #[.int .i64 0,.int .i64 0,.string ⟨#[]⟩,.int .i64 0] 154 (0,0)):=(hb.block _ (by simp)).trans (zs2 w _)
  have e0:w1.cell? ⟨w.heap.size,0,none⟩=some (.int .i64 0):=by rw [zb _ _ 0 _ _ _ hblk];rfl
  have e1:w1.cell? ⟨w.heap.size,1,none⟩=some (.int .i64 0):=by rw [zb _ _ 1 _ _ _ hblk];rfl
  have e2:w1.cell? ⟨w.heap.size,2,none⟩=some (.string ⟨#[]⟩):=by rw [zb _ _ 2 _ _ _ hblk];rfl
  have e3:w1.cell? ⟨w.heap.size,3,none⟩=some (.int .i64 0):=by rw [zb _ _ 3 _ _ _ hblk];rfl
  have ef:∀ q,w1.frozen? ⟨w.heap.size,q,none⟩=false:=fun q=>zs1 w1 _ q _ _ hblk
  have HBK:=zh hblk
  have HBL:Hid (Below w.heap.size w w1):=((zs9 _ _).alloc (zr4 _) _).trans (hb.mono (by simp))
  clear hb hblk
  go_wp2_with fail
  exact bodyPost_ret (v := .tuple #[tokV 5 0 tx i,.int .i64 0]) (by rw [results_cell_tmp rfl];simp [asAddr,load39 (four_set HBK.out _ _ _ _)]) rfl ⟨by rw [HV.out],(((HBL.out.setCell (zr4 _) _).setCell (zr4 _) _).setCell (zr4 _) _).setCell (zr4 _) _⟩
 | false =>
  have hv:V = .tuple #[tokV 2 0 tx i,.int .i64 0]:=by rw [hV,if_neg h24,htx];rfl
  have HV:=zh hv
  clear hv hV htok h hc hn hle h24 htx hge hdg h126 h39 hJ hbt hb
  go_enter Tryz.func84,Tryz.ntmps84
  go_wp2_with fail
  refine(DG.out _).mono ?_
  rintro e w1 ⟨rfl,rfl⟩
  go_wp2_with fail
  refine(SM.out _).mono ?_
  rintro e w1 ⟨rfl,rfl⟩
  go_wp2_with fail
  refine(NM.out _).mono ?_
  rintro e w1 ⟨rfl,rfl⟩
  go_wp2_with fail
  refine(GR.out _).mono ?_
  rintro e w1 ⟨rfl,rfl⟩
  go_wp2_with fail
  refine(WD.out _).mono ?_
  rintro e w1 ⟨rfl,hb⟩
  have hblk:w1.heap[w.heap.size]?=some (.cells #[.int .i64 0,.int .i64 0,.string ⟨#[]⟩,.int .i64 0] 154 (0,0)):=(hb.block _ (by simp)).trans (zs2 w _)
  have e0:w1.cell? ⟨w.heap.size,0,none⟩=some (.int .i64 0):=by rw [zb _ _ 0 _ _ _ hblk];rfl
  have e1:w1.cell? ⟨w.heap.size,1,none⟩=some (.int .i64 0):=by rw [zb _ _ 1 _ _ _ hblk];rfl
  have e2:w1.cell? ⟨w.heap.size,2,none⟩=some (.string ⟨#[]⟩):=by rw [zb _ _ 2 _ _ _ hblk];rfl
  have e3:w1.cell? ⟨w.heap.size,3,none⟩=some (.int .i64 0):=by rw [zb _ _ 3 _ _ _ hblk];rfl
  have ef:∀ q,w1.frozen? ⟨w.heap.size,q,none⟩=false:=fun q=>zs1 w1 _ q _ _ hblk
  have HBK:=zh hblk
  have HBL:Hid (Below w.heap.size w w1):=((zs9 _ _).alloc (zr4 _) _).trans (hb.mono (by simp))
  clear hb hblk
  go_wp2_with fail
  exact bodyPost_ret (v := .tuple #[tokV 2 0 tx i,.int .i64 0]) (by rw [results_cell_tmp rfl];simp [asAddr,load39 (four_set HBK.out _ _ _ _)]) rfl ⟨by rw [HV.out],(((HBL.out.setCell (zr4 _) _).setCell (zr4 _) _).setCell (zr4 _) _).setCell (zr4 _) _⟩
end Lx
namespace Lx
open Go.RowKit
theorem tok_sign {c:Nat}{l:List Nat}(hd:LX.digit c=false) (h126:c≠126) (hs:LX.small c=false) (hg:LX.great c=false) (h39:¬ (c=39∧LX.small (LX.head0 l)=true)) :
  LX.token (c :: l)=if signLen (c :: l)=0 then .bad 11 else .tok 6 0 (signLen (c :: l)):=by
 unfold LX.token
 simp only []
 rw [if_neg (by rw [hd];simp [h126]),if_neg (by rw [hs];decide),if_neg (by rw [hg];decide),if_neg h39]
 have hL:signLen (c :: l)=if (c=61∨c=45)∧LX.head0 l=62 then 2 else if LX.signs.contains c then 1 else 0:=rfl
 rw [hL]
 by_cases h1:(c=61∨c=45)∧LX.head0 l=62
 ·rw [if_pos h1,if_pos h1,if_neg (by decide)]
 rw [if_neg h1,if_neg h1]
 cases h2:LX.signs.contains c with
 | true=>rfl
 | false=>rfl
theorem signLen_le {l:List Nat}(h:l≠[]):signLen l≤l.length:=by
 match l,h with
 | [c],_ =>
  unfold signLen
  rw [if_neg (fun e=>absurd e.2 (by simp [LX.head0]))]
  split<;>simp
 | c :: d :: r,_ =>
  unfold signLen
  split
  ·simp
  split<;>simp
theorem rread_sign (w:World) (s:ByteArray) (i c:Nat) (h:RdAt s i c) (hdg:LX.digit c=false) (h126:c≠126) (hsm:LX.small c=false) (hgr:LX.great c=false) (h39:c≠39) :
  Calls Tryz.prog 84 #[.string s,.int .i64 i] w (RdPost w (rdV s i (LX.token ((bts s).drop i)))):=by
 obtain⟨n,hn⟩:∃ n,n=signLen ((bts s).drop i):=⟨_,rfl⟩
 have hle:=signLen_le (l:=(bts s).drop i) (by rw [h.drop];simp)
 rw [← hn,List.length_drop,ze] at hle
 have h39':¬ (c=39∧LX.small (LX.head0 ((bts s).drop (i+1)))=true):=fun e=>h39 e.1
 have k39:((c:Int)==39)=false:=zt6 (by omega)
 have htok:LX.token ((bts s).drop i)=if n=0 then .bad 11 else .tok 6 0 n:=by
  rw [hn,h.drop]
  exact tok_sign hdg h126 hsm hgr h39'
 have k126:((c:Int)==126)=false:=zt6 (by omega)
 have b0:=byte_at s h.lt h.byte
 have DG:Hid (∀ W,Calls Tryz.prog 97 #[.int .u8 c] W fun e w'=>e = .returned (.bool false)∧w'=W):=fun W=>by
  have:=rdigit_any W c
  rw [hdg] at this
  exact this
 have SM:Hid (∀ W,Calls Tryz.prog 100 #[.int .u8 c] W fun e w'=>e = .returned (.bool false)∧w'=W):=fun W=>by
  have:=rsmall_any W c
  rw [hsm] at this
  exact this
 have GR:Hid (∀ W,Calls Tryz.prog 102 #[.int .u8 c] W fun e w'=>e = .returned (.bool false)∧w'=W):=fun W=>by
  have:=rgreat_any W c
  rw [hgr] at this
  exact this
 have SG:Hid (∀ W,Calls Tryz.prog 105 #[.string s,.int .i64 i] W (SignPost W n)):=fun W=>by
  rw [hn];exact rsign_any W s h.size i h.lt
 have sl:∀ m,(Instr.slice 9 (.string s) (some (.int .i64 i)) (some (.int .i64 ((i:Int)+(n:Int)))) none).run Tryz.prog m = .ok (.string (s.extract i (i+n))) m:=slice_mid s i n (by have:=h.lt;omega)
 obtain⟨tx,htx⟩:∃ t,t=s.extract i (i+n):=⟨_,rfl⟩
 rw [← htx] at sl
 obtain⟨V,hV⟩:∃ V,V=rdV s i (LX.token ((bts s).drop i)):=⟨_,rfl⟩
 rw [← hV]
 rw [htok] at hV
 have hz:(s.size:Int)≤400000:=by have:=h.size;omega
 have hiz:(i:Int)<(s.size:Int):=by have:=h.lt;omega
 have hnz:(i:Int)+(n:Int)≤(s.size:Int):=by have:=h.lt;omega
 by_cases h0:n=0
 ·have hv:V = .tuple #[tokV 0 0 ⟨#[]⟩ 0,.int .i64 11]:=by rw [hV,if_pos h0];rfl
  have HV:=zh hv
  have k0:((n:Int)==0)=true:=by rw [h0];rfl
  clear hv hV htok h hdg hsm hgr hn hle htx h126 h39' h0 h39
  go_enter Tryz.func84,Tryz.ntmps84
  go_wp2_with fail
  refine(DG.out _).mono ?_
  rintro e w1 ⟨rfl,rfl⟩
  go_wp2_with fail
  refine(SM.out _).mono ?_
  rintro e w1 ⟨rfl,rfl⟩
  go_wp2_with fail
  refine(GR.out _).mono ?_
  rintro e w1 ⟨rfl,rfl⟩
  go_wp2_with fail
  refine(SG.out _).mono ?_
  rintro e w1 ⟨rfl,m,rfl⟩
  go_wp2_with fail
  go_returns
  exact⟨by rw [HV.out];rfl,((((below_drawn ((zs9 _ _).alloc (zr4 _) _) m).setCell (zr4 _) _).setCell (zr4 _) _).setCell (zr4 _) _).setCell (zr4 _) _⟩
 have hv:V = .tuple #[tokV 6 0 tx i,.int .i64 0]:=by rw [hV,if_neg h0,htx];rfl
 have HV:=zh hv
 have k0:((n:Int)==0)=false:=zt6 (by omega)
 clear hv hV htok h hdg hsm hgr hn hle htx h126 h39' h0 h39
 go_enter Tryz.func84,Tryz.ntmps84
 go_wp2_with fail
 refine(DG.out _).mono ?_
 rintro e w1 ⟨rfl,rfl⟩
 go_wp2_with fail
 refine(SM.out _).mono ?_
 rintro e w1 ⟨rfl,rfl⟩
 go_wp2_with fail
 refine(GR.out _).mono ?_
 rintro e w1 ⟨rfl,rfl⟩
 go_wp2_with fail
 refine(SG.out _).mono ?_
 rintro e w1 ⟨rfl,m,rfl⟩
 go_wp2_with fail
 go_returns
 exact⟨by rw [HV.out];rfl,((((below_drawn ((zs9 _ _).alloc (zr4 _) _) m).setCell (zr4 _) _).setCell (zr4 _) _).setCell (zr4 _) _).setCell (zr4 _) _⟩
theorem rread_quote_end (w:World) (s:ByteArray) (i c:Nat) (h:RdAt s i c) (hdg:LX.digit c=false) (h126:c≠126) (hsm:LX.small c=false) (hgr:LX.great c=false) (h39:c=39) (hend:s.size≤i+1) :
  Calls Tryz.prog 84 #[.string s,.int .i64 i] w (RdPost w (rdV s i (LX.token ((bts s).drop i)))):=by
 obtain⟨n,hn⟩:∃ n,n=signLen ((bts s).drop i):=⟨_,rfl⟩
 have hle:=signLen_le (l:=(bts s).drop i) (by rw [h.drop];simp)
 rw [← hn,List.length_drop,ze] at hle
 have h39':¬ (c=39∧LX.small (LX.head0 ((bts s).drop (i+1)))=true):=fun e=>by
  rw [List.drop_of_length_le (by rw [ze];exact hend)] at e
  exact absurd e.2 (by decide)
 have k39:((c:Int)==39)=true:=by rw [h39];rfl
 have hend':(s.size:Int)≤(i:Int)+1:=by omega
 have htok:LX.token ((bts s).drop i)=if n=0 then .bad 11 else .tok 6 0 n:=by
  rw [hn,h.drop]
  exact tok_sign hdg h126 hsm hgr h39'
 have k126:((c:Int)==126)=false:=zt6 (by omega)
 have b0:=byte_at s h.lt h.byte
 have DG:Hid (∀ W,Calls Tryz.prog 97 #[.int .u8 c] W fun e w'=>e = .returned (.bool false)∧w'=W):=fun W=>by
  have:=rdigit_any W c
  rw [hdg] at this
  exact this
 have SM:Hid (∀ W,Calls Tryz.prog 100 #[.int .u8 c] W fun e w'=>e = .returned (.bool false)∧w'=W):=fun W=>by
  have:=rsmall_any W c
  rw [hsm] at this
  exact this
 have GR:Hid (∀ W,Calls Tryz.prog 102 #[.int .u8 c] W fun e w'=>e = .returned (.bool false)∧w'=W):=fun W=>by
  have:=rgreat_any W c
  rw [hgr] at this
  exact this
 have SG:Hid (∀ W,Calls Tryz.prog 105 #[.string s,.int .i64 i] W (SignPost W n)):=fun W=>by
  rw [hn];exact rsign_any W s h.size i h.lt
 have sl:∀ m,(Instr.slice 9 (.string s) (some (.int .i64 i)) (some (.int .i64 ((i:Int)+(n:Int)))) none).run Tryz.prog m = .ok (.string (s.extract i (i+n))) m:=slice_mid s i n (by have:=h.lt;omega)
 obtain⟨tx,htx⟩:∃ t,t=s.extract i (i+n):=⟨_,rfl⟩
 rw [← htx] at sl
 obtain⟨V,hV⟩:∃ V,V=rdV s i (LX.token ((bts s).drop i)):=⟨_,rfl⟩
 rw [← hV]
 rw [htok] at hV
 have hz:(s.size:Int)≤400000:=by have:=h.size;omega
 have hiz:(i:Int)<(s.size:Int):=by have:=h.lt;omega
 have hnz:(i:Int)+(n:Int)≤(s.size:Int):=by have:=h.lt;omega
 by_cases h0:n=0
 ·have hv:V = .tuple #[tokV 0 0 ⟨#[]⟩ 0,.int .i64 11]:=by rw [hV,if_pos h0];rfl
  have HV:=zh hv
  have k0:((n:Int)==0)=true:=by rw [h0];rfl
  clear hv hV htok h hdg hsm hgr hn hle htx h126 h39' h0 h39 hend
  go_enter Tryz.func84,Tryz.ntmps84
  go_wp2_with fail
  refine(DG.out _).mono ?_
  rintro e w1 ⟨rfl,rfl⟩
  go_wp2_with fail
  refine(SM.out _).mono ?_
  rintro e w1 ⟨rfl,rfl⟩
  go_wp2_with fail
  refine(GR.out _).mono ?_
  rintro e w1 ⟨rfl,rfl⟩
  go_wp2_with fail
  refine(SG.out _).mono ?_
  rintro e w1 ⟨rfl,m,rfl⟩
  go_wp2_with fail
  go_returns
  exact⟨by rw [HV.out];rfl,((((below_drawn ((zs9 _ _).alloc (zr4 _) _) m).setCell (zr4 _) _).setCell (zr4 _) _).setCell (zr4 _) _).setCell (zr4 _) _⟩
 have hv:V = .tuple #[tokV 6 0 tx i,.int .i64 0]:=by rw [hV,if_neg h0,htx];rfl
 have HV:=zh hv
 have k0:((n:Int)==0)=false:=zt6 (by omega)
 clear hv hV htok h hdg hsm hgr hn hle htx h126 h39' h0 h39 hend
 go_enter Tryz.func84,Tryz.ntmps84
 go_wp2_with fail
 refine(DG.out _).mono ?_
 rintro e w1 ⟨rfl,rfl⟩
 go_wp2_with fail
 refine(SM.out _).mono ?_
 rintro e w1 ⟨rfl,rfl⟩
 go_wp2_with fail
 refine(GR.out _).mono ?_
 rintro e w1 ⟨rfl,rfl⟩
 go_wp2_with fail
 refine(SG.out _).mono ?_
 rintro e w1 ⟨rfl,m,rfl⟩
 go_wp2_with fail
 go_returns
 exact⟨by rw [HV.out];rfl,((((below_drawn ((zs9 _ _).alloc (zr4 _) _) m).setCell (zr4 _) _).setCell (zr4 _) _).setCell (zr4 _) _).setCell (zr4 _) _⟩
theorem rread_quote (w:World) (s:ByteArray) (i c:Nat) (h:RdAt s i c) (hdg:LX.digit c=false) (h126:c≠126) (hsm:LX.small c=false) (hgr:LX.great c=false) (h39:c=39) (hlt:i+1<s.size) (hnx:LX.small ((bts s).getD (i+1) 0)=false) :
  Calls Tryz.prog 84 #[.string s,.int .i64 i] w (RdPost w (rdV s i (LX.token ((bts s).drop i)))):=by
 obtain⟨n,hn⟩:∃ n,n=signLen ((bts s).drop i):=⟨_,rfl⟩
 have hle:=signLen_le (l:=(bts s).drop i) (by rw [h.drop];simp)
 rw [← hn,List.length_drop,ze] at hle
 obtain⟨x,hx⟩:∃ x,(bts s).getD (i+1) 0=x:=⟨_,rfl⟩
 rw [hx] at hnx
 have h39':¬ (c=39∧LX.small (LX.head0 ((bts s).drop (i+1)))=true):=fun e=>by
  rw [LX.drop_get (by rw [ze];exact hlt),hx] at e
  have h2:LX.small x=true:=e.2
  rw [hnx] at h2
  cases h2
 have k39:((c:Int)==39)=true:=by rw [h39];rfl
 have hlt':(i:Int)+1<(s.size:Int):=by omega
 have b1:∀ m,(Instr.index 9 (.string s) (.int .i64 ((i:Int)+1))).run Tryz.prog m = .ok (.int .u8 (x:Int)) m:=byte_at s hlt hx
 have SX:Hid (∀ W,Calls Tryz.prog 100 #[.int .u8 x] W fun e w'=>e = .returned (.bool false)∧w'=W):=fun W=>by
  have:=rsmall_any W x
  rw [hnx] at this
  exact this
 have htok:LX.token ((bts s).drop i)=if n=0 then .bad 11 else .tok 6 0 n:=by
  rw [hn,h.drop]
  exact tok_sign hdg h126 hsm hgr h39'
 have k126:((c:Int)==126)=false:=zt6 (by omega)
 have b0:=byte_at s h.lt h.byte
 have DG:Hid (∀ W,Calls Tryz.prog 97 #[.int .u8 c] W fun e w'=>e = .returned (.bool false)∧w'=W):=fun W=>by
  have:=rdigit_any W c
  rw [hdg] at this
  exact this
 have SM:Hid (∀ W,Calls Tryz.prog 100 #[.int .u8 c] W fun e w'=>e = .returned (.bool false)∧w'=W):=fun W=>by
  have:=rsmall_any W c
  rw [hsm] at this
  exact this
 have GR:Hid (∀ W,Calls Tryz.prog 102 #[.int .u8 c] W fun e w'=>e = .returned (.bool false)∧w'=W):=fun W=>by
  have:=rgreat_any W c
  rw [hgr] at this
  exact this
 have SG:Hid (∀ W,Calls Tryz.prog 105 #[.string s,.int .i64 i] W (SignPost W n)):=fun W=>by
  rw [hn];exact rsign_any W s h.size i h.lt
 have sl:∀ m,(Instr.slice 9 (.string s) (some (.int .i64 i)) (some (.int .i64 ((i:Int)+(n:Int)))) none).run Tryz.prog m = .ok (.string (s.extract i (i+n))) m:=slice_mid s i n (by have:=h.lt;omega)
 obtain⟨tx,htx⟩:∃ t,t=s.extract i (i+n):=⟨_,rfl⟩
 rw [← htx] at sl
 obtain⟨V,hV⟩:∃ V,V=rdV s i (LX.token ((bts s).drop i)):=⟨_,rfl⟩
 rw [← hV]
 rw [htok] at hV
 have hz:(s.size:Int)≤400000:=by have:=h.size;omega
 have hiz:(i:Int)<(s.size:Int):=by have:=h.lt;omega
 have hnz:(i:Int)+(n:Int)≤(s.size:Int):=by have:=h.lt;omega
 by_cases h0:n=0
 ·have hv:V = .tuple #[tokV 0 0 ⟨#[]⟩ 0,.int .i64 11]:=by rw [hV,if_pos h0];rfl
  have HV:=zh hv
  have k0:((n:Int)==0)=true:=by rw [h0];rfl
  clear hv hV htok h hdg hsm hgr hn hle htx h126 h39' h0 h39 hlt hnx hx
  go_enter Tryz.func84,Tryz.ntmps84
  go_wp2_with fail
  refine(DG.out _).mono ?_
  rintro e w1 ⟨rfl,rfl⟩
  go_wp2_with fail
  refine(SX.out _).mono ?_
  rintro e w1 ⟨rfl,rfl⟩
  go_wp2_with fail
  refine(SM.out _).mono ?_
  rintro e w1 ⟨rfl,rfl⟩
  go_wp2_with fail
  refine(GR.out _).mono ?_
  rintro e w1 ⟨rfl,rfl⟩
  go_wp2_with fail
  refine(SG.out _).mono ?_
  rintro e w1 ⟨rfl,m,rfl⟩
  go_wp2_with fail
  go_returns
  exact⟨by rw [HV.out];rfl,((((below_drawn ((zs9 _ _).alloc (zr4 _) _) m).setCell (zr4 _) _).setCell (zr4 _) _).setCell (zr4 _) _).setCell (zr4 _) _⟩
 have hv:V = .tuple #[tokV 6 0 tx i,.int .i64 0]:=by rw [hV,if_neg h0,htx];rfl
 have HV:=zh hv
 have k0:((n:Int)==0)=false:=zt6 (by omega)
 clear hv hV htok h hdg hsm hgr hn hle htx h126 h39' h0 h39 hlt hnx hx
 go_enter Tryz.func84,Tryz.ntmps84
 go_wp2_with fail
 refine(DG.out _).mono ?_
 rintro e w1 ⟨rfl,rfl⟩
 go_wp2_with fail
 refine(SX.out _).mono ?_
 rintro e w1 ⟨rfl,rfl⟩
 go_wp2_with fail
 refine(SM.out _).mono ?_
 rintro e w1 ⟨rfl,rfl⟩
 go_wp2_with fail
 refine(GR.out _).mono ?_
 rintro e w1 ⟨rfl,rfl⟩
 go_wp2_with fail
 refine(SG.out _).mono ?_
 rintro e w1 ⟨rfl,m,rfl⟩
 go_wp2_with fail
 go_returns
 exact⟨by rw [HV.out];rfl,((((below_drawn ((zs9 _ _).alloc (zr4 _) _) m).setCell (zr4 _) _).setCell (zr4 _) _).setCell (zr4 _) _).setCell (zr4 _) _⟩
end Lx
namespace Lx
open Go.RowKit
theorem rread_digit (w:World) (s:ByteArray) (i c:Nat) (h:RdAt s i c) (hc:LX.digit c=true) :
  Calls Tryz.prog 84 #[.string s,.int .i64 i] w (RdPost w (rdV s i (LX.token ((bts s).drop i)))):=by
 obtain⟨d,hd⟩:∃ d,d=0+LX.run LX.digit ((bts s).drop (i+0)):=⟨_,rfl⟩
 have htok:LX.token ((bts s).drop i)=match LX.num (((bts s).drop i).take d) with
   | none => .bad 13
   | some v=>if LX.part ((bts s).getD (i+d) 0)||(bts s).getD (i+d) 0==39 then .bad 13 else .tok 1 v d:=by
  refine Eq.trans ?_ (number_eq s i 0 d hd)
  rw [h.drop]
  unfold LX.token
  simp only []
  have h126:c≠126:=fun e=>by rw [e] at hc;cases hc
  rw [if_pos (by rw [hc];rfl),if_neg h126]
 obtain⟨sp1,sp2⟩:=run_spec LX.digit (bts s) (i+0)
 have hle:=sp2 (by rw [ze];have:=h.lt;omega)
 rw [ze] at hle
 simp only [ze] at sp1
 have hstop:i+d<s.size→LX.digit ((bts s).getD (i+d) 0)=false:=fun hh=>by
  have:=LX.run_stops LX.digit (bts s) _ (i+0) rfl (by rw [ze];omega)
  rw [show i+0+LX.run LX.digit ((bts s).drop (i+0))=i+d from by omega] at this
  exact this
 have hend0:s.size≤i+d→(bts s).getD (i+d) 0=0:=fun hh=>by
  rw [zt4,List.getElem?_eq_none (by rw [ze];exact hh)];rfl
 obtain⟨J,hJ⟩:∃ J,J=i+d:=⟨_,rfl⟩
 rw [← hJ] at htok hstop hend0
 have b0:=byte_at s h.lt h.byte
 have h126:c≠126:=fun e=>by rw [e] at hc;cases hc
 have k126:((c:Int)==126)=false:=zt6 (by omega)
 have DG:Hid (∀ W,Calls Tryz.prog 97 #[.int .u8 c] W fun e w'=>e = .returned (.bool true)∧w'=W):=fun W=>by
  have:=rdigit_any W c
  rw [hc] at this
  exact this
 have sl:∀ m,(Instr.slice 9 (.string s) (some (.int .i64 i)) (some (.int .i64 J)) none).run Tryz.prog m = .ok (.string (s.extract i (i+d))) m:=fun m=>by
  have:=slice_mid s i d (by omega) m
  rw [show (i:Int)+(d:Int)=(J:Int) from by omega] at this
  exact this
 obtain⟨tx,htx⟩:∃ t,t=s.extract i (i+d):=⟨_,rfl⟩
 rw [← htx] at sl
 have hbt:bts tx=((bts s).drop i).take d:=by rw [htx,bts_extract,Nat.add_sub_cancel_left]
 rw [← hbt] at htok
 obtain⟨V,hV⟩:∃ V,V=rdV s i (LX.token ((bts s).drop i)):=⟨_,rfl⟩
 rw [← hV]
 rw [htok] at hV
 have hz:(s.size:Int)≤400000:=by have:=h.size;omega
 have hiz:(i:Int)<(s.size:Int):=by have:=h.lt;omega
 have SP1:Hid (∀ k,i+0≤k→k<J→k<s.size∧LX.digit ((bts s).getD k 0)=true):=fun k a b=>⟨(sp1 k a (by omega)).1,(sp1 k a (by omega)).2.1⟩
 have HJ:Hid (i+0≤J∧J≤s.size):=⟨by omega,by omega⟩
 have FIN:Hid (∀ v:Int,LX.num (bts tx)=some v→(LX.part ((bts s).getD J 0)||(bts s).getD J 0==39)=false→V = .tuple #[tokV 1 v tx i,.int .i64 0]):=fun v h1 h2=>by
  rw [hV,h1]
  simp only []
  rw [h2,htx]
  rfl
 have BAD:Hid ((LX.num (bts tx)=none∨(LX.part ((bts s).getD J 0)||(bts s).getD J 0==39)=true)→V = .tuple #[tokV 0 0 ⟨#[]⟩ 0,.int .i64 13]):=fun h1=>by
  rw [hV]
  cases h2:LX.num (bts tx) with
  | none=>rfl
  | some v =>
   simp only []
   rcases h1 with h1 | h1
   ·rw [h2] at h1;cases h1
   rw [h1];rfl
 have RNB:Hid (∀ W,Calls Tryz.prog 98 #[.string tx] W (RN (LX.num (bts tx)) W)):=fun W=>refNumber_any W tx
 have ST:=zh hstop
 have EN:=zh hend0
 obtain⟨r,hr⟩:∃ r,r=LX.num (bts tx):=⟨_,rfl⟩
 rw [← hr] at FIN BAD RNB
 clear hr hV htok hbt htx sp1 sp2 hle hstop hend0 hJ hd h126 hc h
 go_enter Tryz.func84,Tryz.ntmps84
 go_wp2_with fail
 refine(DG.out _).mono ?_
 rintro e w1 ⟨rfl,rfl⟩
 go_wp2_with fail
 go_loop [7] (fun j=>∃ k:Nat,i+0≤k∧k≤J∧j = .int .i64 k) (fun j=>s.size - (intOf j).toNat)
 case atStart=>exact⟨i+0,zr4 _,HJ.out.1,rfl⟩
 obtain⟨k,hk1,hk2,rfl⟩:=hrel
 have HK:Hid (i+0≤k):=hk1
 by_cases hlt:k<J
 ·obtain⟨hks,hdk⟩:=SP1.out k hk1 hlt
  have hkz:(k:Int)<(s.size:Int):=by omega
  obtain⟨x,hx⟩:∃ x,(bts s).getD k 0=x:=⟨_,rfl⟩
  have bk:=byte_at s hks hx
  rw [hx] at hdk
  have DX:Hid (∀ W,Calls Tryz.prog 97 #[.int .u8 x] W fun e w'=>e = .returned (.bool true)∧w'=W):=fun W=>by
   have:=rdigit_any W x
   rw [hdk] at this
   exact this
  have HLT:Hid (k<J∧k<s.size):=⟨hlt,hks⟩
  clear hx hdk hlt hk1 hk2 hks
  go_wp2_with fail
  refine(DX.out _).mono ?_
  rintro e w1 ⟨rfl,rfl⟩
  go_wp2_with fail
  go_round
  case rel=>exact⟨k+1,by have:=HK.out;omega,HLT.out.1,by go_num⟩
  case measure=>have:=HLT.out.2;simp [intOf];omega
 obtain rfl:k=J:=by omega
 have hJi:(i:Int)≤(k:Int):=by omega
 clear hk1 hk2 hlt
 by_cases hend:k<s.size
 ·have hkz:(k:Int)<(s.size:Int):=by omega
  obtain⟨x,hx⟩:∃ x,(bts s).getD k 0=x:=⟨_,rfl⟩
  have bk:=byte_at s hend hx
  have hdk:=ST.out hend
  rw [hx] at hdk FIN BAD
  have DX:Hid (∀ W,Calls Tryz.prog 97 #[.int .u8 x] W fun e w'=>e = .returned (.bool false)∧w'=W):=fun W=>by
   have:=rdigit_any W x
   rw [hdk] at this
   exact this
  have INX:Hid (∀ W,Calls Tryz.prog 99 #[.int .u8 x] W fun e w'=>e = .returned (.bool (LX.part x))∧w'=W):=fun W=>rinner_any W x
  clear hdk hend hx
  cases r with
  | none =>
   have HV:=zh (BAD.out (.inl rfl))
   clear FIN BAD
   go_wp2_with fail
   refine(DX.out _).mono ?_
   rintro e w1 ⟨rfl,rfl⟩
   go_wp2_with fail
   refine(RNB.out _).mono ?_
   rintro e w1 ⟨rfl,rfl⟩
   go_wp2_with fail
   go_returns
   exact⟨by rw [HV.out];rfl,(zs9 _ _).alloc (zr4 _) _⟩
  | some v =>
   obtain⟨pb,hpb⟩:∃ b,b=LX.part x:=⟨_,rfl⟩
   rw [← hpb] at FIN BAD INX
   clear hpb
   cases pb with
   | true =>
    have HV:=zh (BAD.out (.inr rfl))
    clear FIN BAD
    go_wp2_with fail
    refine(DX.out _).mono ?_
    rintro e w1 ⟨rfl,rfl⟩
    go_wp2_with fail
    refine(RNB.out _).mono ?_
    rintro e w1 ⟨rfl,rfl⟩
    go_wp2_with fail
    refine(INX.out _).mono ?_
    rintro e w1 ⟨rfl,rfl⟩
    go_wp2_with fail
    go_returns
    exact⟨by rw [HV.out];rfl,(zs9 _ _).alloc (zr4 _) _⟩
   | false =>
    by_cases h39:x=39
    ·have HV:=zh (BAD.out (.inr (by rw [h39];rfl)))
     have k39:((x:Int)==39)=true:=by rw [h39];rfl
     clear FIN BAD h39
     go_wp2_with fail
     refine(DX.out _).mono ?_
     rintro e w1 ⟨rfl,rfl⟩
     go_wp2_with fail
     refine(RNB.out _).mono ?_
     rintro e w1 ⟨rfl,rfl⟩
     go_wp2_with fail
     refine(INX.out _).mono ?_
     rintro e w1 ⟨rfl,rfl⟩
     go_wp2_with fail
     go_returns
     exact⟨by rw [HV.out];rfl,(zs9 _ _).alloc (zr4 _) _⟩
    have HV:=zh (FIN.out v rfl (by rw [show (x==39)=false from zt6 h39];rfl))
    have k39:((x:Int)==39)=false:=zt6 (by omega)
    clear FIN BAD h39
    go_wp2_with fail
    refine(DX.out _).mono ?_
    rintro e w1 ⟨rfl,rfl⟩
    go_wp2_with fail
    refine(RNB.out _).mono ?_
    rintro e w1 ⟨rfl,rfl⟩
    go_wp2_with fail
    refine(INX.out _).mono ?_
    rintro e w1 ⟨rfl,rfl⟩
    go_wp2_with fail
    go_returns
    exact⟨by rw [HV.out];rfl,(zs9 _ _).alloc (zr4 _) _⟩
 have hkz:(s.size:Int)≤(k:Int):=by omega
 have hkz2:(k:Int)≤(s.size:Int):=by have:=HJ.out.2;omega
 have he0:=EN.out (by omega)
 rw [he0] at FIN BAD
 clear he0 hend
 cases r with
 | none =>
  have HV:=zh (BAD.out (.inl rfl))
  clear FIN BAD
  go_wp2_with fail
  refine(RNB.out _).mono ?_
  rintro e w1 ⟨rfl,rfl⟩
  go_wp2_with fail
  go_returns
  exact⟨by rw [HV.out];rfl,(zs9 _ _).alloc (zr4 _) _⟩
 | some v =>
  have HV:=zh (FIN.out v rfl rfl)
  clear FIN BAD
  go_wp2_with fail
  refine(RNB.out _).mono ?_
  rintro e w1 ⟨rfl,rfl⟩
  go_wp2_with fail
  go_returns
  exact⟨by rw [HV.out];rfl,(zs9 _ _).alloc (zr4 _) _⟩
theorem rread_tilde (w:World) (s:ByteArray) (i c:Nat) (h:RdAt s i c) (hc:c=126) :
  Calls Tryz.prog 84 #[.string s,.int .i64 i] w (RdPost w (rdV s i (LX.token ((bts s).drop i)))):=by
 obtain⟨d,hd⟩:∃ d,d=1+LX.run LX.digit ((bts s).drop (i+1)):=⟨_,rfl⟩
 have htok:LX.token ((bts s).drop i)=match LX.num (((bts s).drop i).take d) with
   | none => .bad 13
   | some v=>if LX.part ((bts s).getD (i+d) 0)||(bts s).getD (i+d) 0==39 then .bad 13 else .tok 1 v d:=by
  refine Eq.trans ?_ (number_eq s i 1 d hd)
  rw [h.drop]
  unfold LX.token
  simp only []
  rw [if_pos (by rw [hc];rfl),if_pos hc]
 obtain⟨sp1,sp2⟩:=run_spec LX.digit (bts s) (i+1)
 have hle:=sp2 (by rw [ze];have:=h.lt;omega)
 rw [ze] at hle
 simp only [ze] at sp1
 have hstop:i+d<s.size→LX.digit ((bts s).getD (i+d) 0)=false:=fun hh=>by
  have:=LX.run_stops LX.digit (bts s) _ (i+1) rfl (by rw [ze];omega)
  rw [show i+1+LX.run LX.digit ((bts s).drop (i+1))=i+d from by omega] at this
  exact this
 have hend0:s.size≤i+d→(bts s).getD (i+d) 0=0:=fun hh=>by
  rw [zt4,List.getElem?_eq_none (by rw [ze];exact hh)];rfl
 obtain⟨J,hJ⟩:∃ J,J=i+d:=⟨_,rfl⟩
 rw [← hJ] at htok hstop hend0
 have b0:=byte_at s h.lt h.byte
 have k126:((c:Int)==126)=true:=by rw [hc];rfl
 have sl:∀ m,(Instr.slice 9 (.string s) (some (.int .i64 i)) (some (.int .i64 J)) none).run Tryz.prog m = .ok (.string (s.extract i (i+d))) m:=fun m=>by
  have:=slice_mid s i d (by omega) m
  rw [show (i:Int)+(d:Int)=(J:Int) from by omega] at this
  exact this
 obtain⟨tx,htx⟩:∃ t,t=s.extract i (i+d):=⟨_,rfl⟩
 rw [← htx] at sl
 have hbt:bts tx=((bts s).drop i).take d:=by rw [htx,bts_extract,Nat.add_sub_cancel_left]
 rw [← hbt] at htok
 obtain⟨V,hV⟩:∃ V,V=rdV s i (LX.token ((bts s).drop i)):=⟨_,rfl⟩
 rw [← hV]
 rw [htok] at hV
 have hz:(s.size:Int)≤400000:=by have:=h.size;omega
 have hiz:(i:Int)<(s.size:Int):=by have:=h.lt;omega
 have SP1:Hid (∀ k,i+1≤k→k<J→k<s.size∧LX.digit ((bts s).getD k 0)=true):=fun k a b=>⟨(sp1 k a (by omega)).1,(sp1 k a (by omega)).2.1⟩
 have HJ:Hid (i+1≤J∧J≤s.size):=⟨by omega,by omega⟩
 have FIN:Hid (∀ v:Int,LX.num (bts tx)=some v→(LX.part ((bts s).getD J 0)||(bts s).getD J 0==39)=false→V = .tuple #[tokV 1 v tx i,.int .i64 0]):=fun v h1 h2=>by
  rw [hV,h1]
  simp only []
  rw [h2,htx]
  rfl
 have BAD:Hid ((LX.num (bts tx)=none∨(LX.part ((bts s).getD J 0)||(bts s).getD J 0==39)=true)→V = .tuple #[tokV 0 0 ⟨#[]⟩ 0,.int .i64 13]):=fun h1=>by
  rw [hV]
  cases h2:LX.num (bts tx) with
  | none=>rfl
  | some v =>
   simp only []
   rcases h1 with h1 | h1
   ·rw [h2] at h1;cases h1
   rw [h1];rfl
 have RNB:Hid (∀ W,Calls Tryz.prog 98 #[.string tx] W (RN (LX.num (bts tx)) W)):=fun W=>refNumber_any W tx
 have ST:=zh hstop
 have EN:=zh hend0
 obtain⟨r,hr⟩:∃ r,r=LX.num (bts tx):=⟨_,rfl⟩
 rw [← hr] at FIN BAD RNB
 clear hr hV htok hbt htx sp1 sp2 hle hstop hend0 hJ hd hc h
 go_enter Tryz.func84,Tryz.ntmps84
 skip
 go_wp2_with fail
 go_loop [7] (fun j=>∃ k:Nat,i+1≤k∧k≤J∧j = .int .i64 k) (fun j=>s.size - (intOf j).toNat)
 case atStart=>exact⟨i+1,zr4 _,HJ.out.1,by go_num⟩
 obtain⟨k,hk1,hk2,rfl⟩:=hrel
 have HK:Hid (i+1≤k):=hk1
 by_cases hlt:k<J
 ·obtain⟨hks,hdk⟩:=SP1.out k hk1 hlt
  have hkz:(k:Int)<(s.size:Int):=by omega
  obtain⟨x,hx⟩:∃ x,(bts s).getD k 0=x:=⟨_,rfl⟩
  have bk:=byte_at s hks hx
  rw [hx] at hdk
  have DX:Hid (∀ W,Calls Tryz.prog 97 #[.int .u8 x] W fun e w'=>e = .returned (.bool true)∧w'=W):=fun W=>by
   have:=rdigit_any W x
   rw [hdk] at this
   exact this
  have HLT:Hid (k<J∧k<s.size):=⟨hlt,hks⟩
  clear hx hdk hlt hk1 hk2 hks
  go_wp2_with fail
  refine(DX.out _).mono ?_
  rintro e w1 ⟨rfl,rfl⟩
  go_wp2_with fail
  go_round
  case rel=>exact⟨k+1,by have:=HK.out;omega,HLT.out.1,by go_num⟩
  case measure=>have:=HLT.out.2;simp [intOf];omega
 obtain rfl:k=J:=by omega
 have hJi:(i:Int)≤(k:Int):=by omega
 clear hk1 hk2 hlt
 by_cases hend:k<s.size
 ·have hkz:(k:Int)<(s.size:Int):=by omega
  obtain⟨x,hx⟩:∃ x,(bts s).getD k 0=x:=⟨_,rfl⟩
  have bk:=byte_at s hend hx
  have hdk:=ST.out hend
  rw [hx] at hdk FIN BAD
  have DX:Hid (∀ W,Calls Tryz.prog 97 #[.int .u8 x] W fun e w'=>e = .returned (.bool false)∧w'=W):=fun W=>by
   have:=rdigit_any W x
   rw [hdk] at this
   exact this
  have INX:Hid (∀ W,Calls Tryz.prog 99 #[.int .u8 x] W fun e w'=>e = .returned (.bool (LX.part x))∧w'=W):=fun W=>rinner_any W x
  clear hdk hend hx
  cases r with
  | none =>
   have HV:=zh (BAD.out (.inl rfl))
   clear FIN BAD
   go_wp2_with fail
   refine(DX.out _).mono ?_
   rintro e w1 ⟨rfl,rfl⟩
   go_wp2_with fail
   refine(RNB.out _).mono ?_
   rintro e w1 ⟨rfl,rfl⟩
   go_wp2_with fail
   go_returns
   exact⟨by rw [HV.out];rfl,(zs9 _ _).alloc (zr4 _) _⟩
  | some v =>
   obtain⟨pb,hpb⟩:∃ b,b=LX.part x:=⟨_,rfl⟩
   rw [← hpb] at FIN BAD INX
   clear hpb
   cases pb with
   | true =>
    have HV:=zh (BAD.out (.inr rfl))
    clear FIN BAD
    go_wp2_with fail
    refine(DX.out _).mono ?_
    rintro e w1 ⟨rfl,rfl⟩
    go_wp2_with fail
    refine(RNB.out _).mono ?_
    rintro e w1 ⟨rfl,rfl⟩
    go_wp2_with fail
    refine(INX.out _).mono ?_
    rintro e w1 ⟨rfl,rfl⟩
    go_wp2_with fail
    go_returns
    exact⟨by rw [HV.out];rfl,(zs9 _ _).alloc (zr4 _) _⟩
   | false =>
    by_cases h39:x=39
    ·have HV:=zh (BAD.out (.inr (by rw [h39];rfl)))
     have k39:((x:Int)==39)=true:=by rw [h39];rfl
     clear FIN BAD h39
     go_wp2_with fail
     refine(DX.out _).mono ?_
     rintro e w1 ⟨rfl,rfl⟩
     go_wp2_with fail
     refine(RNB.out _).mono ?_
     rintro e w1 ⟨rfl,rfl⟩
     go_wp2_with fail
     refine(INX.out _).mono ?_
     rintro e w1 ⟨rfl,rfl⟩
     go_wp2_with fail
     go_returns
     exact⟨by rw [HV.out];rfl,(zs9 _ _).alloc (zr4 _) _⟩
    have HV:=zh (FIN.out v rfl (by rw [show (x==39)=false from zt6 h39];rfl))
    have k39:((x:Int)==39)=false:=zt6 (by omega)
    clear FIN BAD h39
    go_wp2_with fail
    refine(DX.out _).mono ?_
    rintro e w1 ⟨rfl,rfl⟩
    go_wp2_with fail
    refine(RNB.out _).mono ?_
    rintro e w1 ⟨rfl,rfl⟩
    go_wp2_with fail
    refine(INX.out _).mono ?_
    rintro e w1 ⟨rfl,rfl⟩
    go_wp2_with fail
    go_returns
    exact⟨by rw [HV.out];rfl,(zs9 _ _).alloc (zr4 _) _⟩
 have hkz:(s.size:Int)≤(k:Int):=by omega
 have hkz2:(k:Int)≤(s.size:Int):=by have:=HJ.out.2;omega
 have he0:=EN.out (by omega)
 rw [he0] at FIN BAD
 clear he0 hend
 cases r with
 | none =>
  have HV:=zh (BAD.out (.inl rfl))
  clear FIN BAD
  go_wp2_with fail
  refine(RNB.out _).mono ?_
  rintro e w1 ⟨rfl,rfl⟩
  go_wp2_with fail
  go_returns
  exact⟨by rw [HV.out];rfl,(zs9 _ _).alloc (zr4 _) _⟩
 | some v =>
  have HV:=zh (FIN.out v rfl rfl)
  clear FIN BAD
  go_wp2_with fail
  refine(RNB.out _).mono ?_
  rintro e w1 ⟨rfl,rfl⟩
  go_wp2_with fail
  go_returns
  exact⟨by rw [HV.out];rfl,(zs9 _ _).alloc (zr4 _) _⟩
end Lx
namespace Lx
open Go.RowKit
theorem rread_any (w:World) (s:ByteArray) (i c:Nat) (h:RdAt s i c):Calls Tryz.prog 84 #[.string s,.int .i64 i] w (RdPost w (rdV s i (LX.token ((bts s).drop i)))):=by
 cases hd:LX.digit c with
 | true=>exact rread_digit w s i c h hd
 | false =>
  by_cases h126:c=126
  ·exact rread_tilde w s i c h h126
  cases hs:LX.small c with
  | true=>exact rread_small w s i c h hs
  | false =>
   cases hg:LX.great c with
   | true=>exact rread_great w s i c h hg
   | false =>
    by_cases h39:c=39
    ·by_cases hl:i+1<s.size
     ·cases hn:LX.small ((bts s).getD (i+1) 0) with
      | true=>rw [h39] at h;exact rread_var w s i h hl hn
      | false=>exact rread_quote w s i c h hd h126 hs hg h39 hl hn
     exact rread_quote_end w s i c h hd h126 hs hg h39 (by omega)
    exact rread_sign w s i c h hd h126 hs hg h39
def RkPost (w:World) (k:Nat) (e:Ending) (w':World):Prop:=e = .returned (.int .i64 k)∧Below w.heap.size w w'
theorem slice_to (s:ByteArray) (p:Nat) (hp:p≤s.size) (m:World):(Instr.slice 9 (.string s) none (some (.int .i64 p)) none).run Tryz.prog m = .ok (.string (s.extract 0 p)) m:=by
 have:=run_slice_string_to_if (P:=Tryz.prog) m 9 s .i64 p Tryz.underlying9
 rw [this]
 simp [show (p:Int)≤(s.size:Int) from by omega]
theorem two_head (s:ByteArray) (h:1<s.size):∃ x:ByteArray,(∀ m,(Instr.slice 9 (.string s) none (some (.int .i64 2)) none).run Tryz.prog m = .ok (.string x) m)∧(x.toList==([40,42]:List UInt8))=LX.opens (bts s):=by
 have hx:bts (s.extract 0 2)=[(bts s).getD 0 0,(bts s).getD 1 0]:=by
  rw [bts_extract,List.drop_zero]
  have h1:=LX.drop_get (T:=bts s) (j:=0) (by rw [ze];omega)
  have h2:=LX.drop_get (T:=bts s) (j:=1) (by rw [ze];omega)
  rw [List.drop_zero] at h1
  rw [h1]
  show (_ :: (bts s).drop 1).take 2=_
  rw [h2]
  rfl
 refine⟨s.extract 0 2,fun m=>slice_to s 2 (by omega) m,?_⟩
 have:=two_eq hx ⟨#[40,42]⟩ (a:=40) (b:=42) rfl
 rw [lit4042] at this
 rw [this]
 cases ho:LX.opens (bts s) with
 | true =>
  obtain⟨a,b⟩:=LX.opens_two ho
  rw [a,b];rfl
 | false =>
  cases hq:((bts s).getD 0 0==40&&(bts s).getD 1 0==42) with
  | false=>rfl
  | true =>
   simp only [Bool.and_eq_true,beq_iff_eq] at hq
   rw [LX.opens_of hq.1 hq.2] at ho
   cases ho
theorem rkind_any (w:World) (s:ByteArray):Calls Tryz.prog 54 #[.string s] w (RkPost w (LX.refKind (bts s))):=by
 obtain⟨K,hK⟩:∃ K,K=LX.refKind (bts s):=⟨_,rfl⟩
 rw [← hK]
 unfold LX.refKind at hK
 rw [ze] at hK
 have ZERO:Hid (K=0→∀ w',Below w.heap.size w w'→RkPost w K (.returned (.int .i64 0)) w'):=fun h w' hb=>⟨by rw [h];rfl,hb⟩
 by_cases h0:s.size=0
 ·have e0:bts s=[]:=List.length_eq_zero_iff.1 (by rw [ze];exact h0)
  rw [if_pos (.inl e0)] at hK
  have HK:=zh hK
  have z0:((s.size:Int)==0)=true:=by rw [h0];rfl
  have z1:(s.size==0)=true:=by rw [h0];rfl
  clear hK e0 h0
  go_enter Tryz.func54,Tryz.ntmps54
  go_wp2_with fail
  go_ret
  exact ZERO.out HK.out _ (zs9 _ _)
 have hne:bts s≠[]:=fun e=>h0 (by rw [← ze,e];rfl)
 have z0:((s.size:Int)==0)=false:=zt6 (by omega)
 have z1:(s.size==0)=false:=zt6 (by omega)
 by_cases h100:100<s.size
 ·rw [if_pos (.inr h100)] at hK
  have HK:=zh hK
  have z2:(100:Int)<(s.size:Int):=by omega
  clear hK hne h0 h100
  go_enter Tryz.func54,Tryz.ntmps54
  go_wp2_with fail
  go_ret
  exact ZERO.out HK.out _ (zs9 _ _)
 rw [if_neg (fun e=>by rcases e with e | e;exact hne e;exact h100 e),LX.headD_getD] at hK
 have z2:(s.size:Int)≤100:=by omega
 have z3:(0:Int)<(s.size:Int):=by omega
 obtain⟨c,hc⟩:∃ c,(bts s).getD 0 0=c:=⟨_,rfl⟩
 have b0:∀ m,(Instr.index 9 (.string s) (.int .i64 0)).run Tryz.prog m = .ok (.int .u8 c) m:=byte_at (i:=0) s (by omega) hc
 rw [hc] at hK
 have SP:Hid (∀ W,Calls Tryz.prog 83 #[.int .u8 c] W fun e w'=>e = .returned (.bool (LX.space c))∧w'=W):=fun W=>rspace_any W c
 cases hsp:LX.space c with
 | true =>
  rw [if_pos (.inl hsp)] at hK
  rw [hsp] at SP
  have HK:=zh hK
  clear hK hne h0 h100 hc hsp
  go_enter Tryz.func54,Tryz.ntmps54
  go_wp2_with fail
  refine(SP.out _).mono ?_
  rintro e w1 ⟨rfl,rfl⟩
  go_wp2_with fail
  go_ret
  exact ZERO.out HK.out _ (zs9 _ _)
 | false =>
  rw [hsp] at SP
  have RA:Hid (∀ W,Calls Tryz.prog 84 #[.string s,.int .i64 0] W (RdPost W (rdV s 0 (LX.token (bts s))))):=fun W=>by
   have:=rread_any W s 0 c ⟨by omega,by omega,hc⟩
   rw [List.drop_zero] at this
   exact this
  have main:∀ (pre:LX.opens (bts s)=false),(∃ x:ByteArray,(1<s.size→(∀ m,(Instr.slice 9 (.string s) none (some (.int .i64 2)) none).run Tryz.prog m = .ok (.string x) m)∧(x.toList==([40,42]:List UInt8))=false))→Calls Tryz.prog 54 #[.string s] w (RkPost w K):=fun pre hx=>by
   obtain⟨x,hx⟩:=hx
   rw [if_neg (fun e=>by rcases e with e | e;rw [hsp] at e;cases e;rw [pre] at e;cases e)] at hK
   by_cases h1:1<s.size
   ·obtain⟨sl,ne⟩:=hx h1
    have z4:(1:Int)<(s.size:Int):=by omega
    clear hx h1
    cases ht:LX.token (bts s) with
    | bad er =>
     rw [ht] at hK RA
     have hee:=LX.token_bad ht
     have k0:((er:Int)==0)=false:=zt6 (by omega)
     have HK:=zh hK
     clear hK hne h0 h100 hc hsp ht hee pre
     go_enter Tryz.func54,Tryz.ntmps54
     go_wp2_with fail
     refine(SP.out _).mono ?_
     rintro e w1 ⟨rfl,rfl⟩
     go_wp2_with fail
     refine(RA.out _).mono ?_
     rintro e w1 ⟨rfl,hb⟩
     have HB:=zh hb
     clear hb
     unfold rdV tokV
     go_wp2_with fail
     go_ret
     exact ZERO.out HK.out _ (HB.out.alloc HB.out.size _)
    | tok k v n =>
     rw [ht] at hK RA
     have h9:=LX.token_len ht
     rw [ze] at h9
     obtain⟨tx,htx⟩:∃ t,t=s.extract 0 (0+n):=⟨_,rfl⟩
     have hts:tx.size=n:=by rw [htx,ByteArray.size_extract];omega
     have RA2:Hid (∀ W,Calls Tryz.prog 84 #[.string s,.int .i64 0] W (RdPost W (.tuple #[.agg #[.int .i64 k,.int .i64 v,.string tx,.int .i64 0],.int .i64 0]))):=fun W=>by rw [htx];exact RA.out W
     clear RA
     have RA:=RA2
     clear RA2
     by_cases hn:n=s.size
     ·have k1:((tx.size:Int)==(s.size:Int))=true:=by rw [hts,hn];simp
      have k2:(tx.size==s.size)=true:=by rw [hts,hn];simp
      have hv:K=k:=by rw [hK];simp only [];rw [if_pos hn]
      have HV:=zh hv
      clear hK hv hne h0 h100 hc hsp ht h9 pre htx hts hn
      go_enter Tryz.func54,Tryz.ntmps54
      go_wp2_with fail
      refine(SP.out _).mono ?_
      rintro e w1 ⟨rfl,rfl⟩
      go_wp2_with fail
      refine(RA.out _).mono ?_
      rintro e w1 ⟨rfl,hb⟩
      have HB:=zh hb
      clear hb
      go_wp2_with fail
      go_ret
      exact⟨by rw [HV.out];rfl,HB.out.alloc HB.out.size _⟩
     have k1:((tx.size:Int)==(s.size:Int))=false:=zt6 (by omega)
     have k2:(tx.size==s.size)=false:=zt6 (by omega)
     have hv:K=0:=by rw [hK];simp only [];rw [if_neg hn]
     have HV:=zh hv
     clear hK hv hne h0 h100 hc hsp ht h9 pre htx hts hn
     go_enter Tryz.func54,Tryz.ntmps54
     go_wp2_with fail
     refine(SP.out _).mono ?_
     rintro e w1 ⟨rfl,rfl⟩
     go_wp2_with fail
     refine(RA.out _).mono ?_
     rintro e w1 ⟨rfl,hb⟩
     have HB:=zh hb
     clear hb
     go_wp2_with fail
     go_ret
     exact ZERO.out HV.out _ (HB.out.alloc HB.out.size _)
   have z4:(s.size:Int)≤1:=by omega
   clear hx h1
   cases ht:LX.token (bts s) with
   | bad er =>
    rw [ht] at hK RA
    have hee:=LX.token_bad ht
    have k0:((er:Int)==0)=false:=zt6 (by omega)
    have HK:=zh hK
    clear hK hne h0 h100 hc hsp ht hee pre
    go_enter Tryz.func54,Tryz.ntmps54
    go_wp2_with fail
    refine(SP.out _).mono ?_
    rintro e w1 ⟨rfl,rfl⟩
    go_wp2_with fail
    refine(RA.out _).mono ?_
    rintro e w1 ⟨rfl,hb⟩
    have HB:=zh hb
    clear hb
    unfold rdV tokV
    go_wp2_with fail
    go_ret
    exact ZERO.out HK.out _ (HB.out.alloc HB.out.size _)
   | tok k v n =>
    rw [ht] at hK RA
    have h9:=LX.token_len ht
    rw [ze] at h9
    obtain⟨tx,htx⟩:∃ t,t=s.extract 0 (0+n):=⟨_,rfl⟩
    have hts:tx.size=n:=by rw [htx,ByteArray.size_extract];omega
    have RA2:Hid (∀ W,Calls Tryz.prog 84 #[.string s,.int .i64 0] W (RdPost W (.tuple #[.agg #[.int .i64 k,.int .i64 v,.string tx,.int .i64 0],.int .i64 0]))):=fun W=>by rw [htx];exact RA.out W
    clear RA
    have RA:=RA2
    clear RA2
    by_cases hn:n=s.size
    ·have k1:((tx.size:Int)==(s.size:Int))=true:=by rw [hts,hn];simp
     have k2:(tx.size==s.size)=true:=by rw [hts,hn];simp
     have hv:K=k:=by rw [hK];simp only [];rw [if_pos hn]
     have HV:=zh hv
     clear hK hv hne h0 h100 hc hsp ht h9 pre htx hts hn
     go_enter Tryz.func54,Tryz.ntmps54
     go_wp2_with fail
     refine(SP.out _).mono ?_
     rintro e w1 ⟨rfl,rfl⟩
     go_wp2_with fail
     refine(RA.out _).mono ?_
     rintro e w1 ⟨rfl,hb⟩
     have HB:=zh hb
     clear hb
     go_wp2_with fail
     go_ret
     exact⟨by rw [HV.out];rfl,HB.out.alloc HB.out.size _⟩
    have k1:((tx.size:Int)==(s.size:Int))=false:=zt6 (by omega)
    have k2:(tx.size==s.size)=false:=zt6 (by omega)
    have hv:K=0:=by rw [hK];simp only [];rw [if_neg hn]
    have HV:=zh hv
    clear hK hv hne h0 h100 hc hsp ht h9 pre htx hts hn
    go_enter Tryz.func54,Tryz.ntmps54
    go_wp2_with fail
    refine(SP.out _).mono ?_
    rintro e w1 ⟨rfl,rfl⟩
    go_wp2_with fail
    refine(RA.out _).mono ?_
    rintro e w1 ⟨rfl,hb⟩
    have HB:=zh hb
    clear hb
    go_wp2_with fail
    go_ret
    exact ZERO.out HV.out _ (HB.out.alloc HB.out.size _)
  by_cases h1:1<s.size
  ·obtain⟨x,sl,hx⟩:=two_head s h1
   cases ho:LX.opens (bts s) with
   | false=>exact main ho ⟨x,fun _=>⟨sl,by rw [hx,ho]⟩⟩
   | true =>
    rw [if_pos (.inr ho)] at hK
    rw [ho] at hx
    have HK:=zh hK
    have z4:(1:Int)<(s.size:Int):=by omega
    clear hK hne h0 h100 hc hsp ho main RA h1
    go_enter Tryz.func54,Tryz.ntmps54
    go_wp2_with fail
    refine(SP.out _).mono ?_
    rintro e w1 ⟨rfl,rfl⟩
    go_wp2_with fail
    go_ret
    exact ZERO.out HK.out _ (zs9 _ _)
  refine main ?_ ⟨⟨#[]⟩,fun h=>absurd h h1⟩
  cases ho:LX.opens (bts s) with
  | false=>rfl
  | true =>
   obtain⟨_,b⟩:=LX.opens_two ho
   rw [zt4,List.getElem?_eq_none (by rw [ze];omega)] at b
   cases b
end Lx
section
open Go.RowKit RG Go.Maps RF
structure FlatR (w:World) (fb:Nat) (F:List Nd):Prop where
 at':∃ (sv su sn sb sa so:Value) (us ns bs:List Value),w.heap[fb]?=some (.cells #[sv,su,sn,sb,sa,so,.bool true] 42 (0,0))∧StrsAt w sv (vars F) ∧
  SlAt w su F.length us∧SlAt w sn F.length ns∧SlAt w sb F.length bs∧SlAt w sa F.length (nats (List.range F.length)) ∧
  (∀ i,i<F.length→∃ v,us[i]?=some v∧SlAt w v (UR F i).length (nats (UR F i))) ∧
  (∀ i,i<F.length→∃ v,ns[i]?=some v∧SlAt w v (NR F i).length (nats (NR F i))) ∧
  (∀ i,i<F.length→∃ v,bs[i]?=some v∧SlAt w v (BR F i).length (nats (BR F i)))
def EmptyR (w:World) (fb:Nat):Prop:=w.heap[fb]?=some (.cells #[.slice none 0 0,.slice none 0 0,.slice none 0 0,.slice none 0 0,.slice none 0 0,.slice none 0 0,.bool false] 42 (0,0))
theorem FlatR.keep {w w':World}{fb:Nat}{F:List Nd}(h:FlatR w fb F) (hb:Below w.heap.size w w'):FlatR w' fb F:=by
 obtain⟨sv,su,sn,sb,sa,so,us,ns,bs,h0,h1,h2,h3,h4,h5,h6,h7,h8⟩:=h
 have hk:=zd hb
 exact⟨sv,su,sn,sb,sa,so,us,ns,bs,zm hb h0,h1.kept hk,h2.kept hk,h3.kept hk,h4.kept hk,h5.kept hk,
  fun i hi=>by obtain⟨v,a,b⟩:=h6 i hi;exact⟨v,a,b.kept hk⟩,fun i hi=>by obtain⟨v,a,b⟩:=h7 i hi;exact⟨v,a,b.kept hk⟩,fun i hi=>by obtain⟨v,a,b⟩:=h8 i hi;exact⟨v,a,b.kept hk⟩⟩
theorem EmptyR.keep {w w':World}{fb:Nat}(h:EmptyR w fb) (hb:Below w.heap.size w w'):EmptyR w' fb:=zm hb h
def OfRP (w:World) (ps:List Nm) (e:TE) (en:Ending) (w':World):Prop :=
 ∃ fb,en = .returned (.pointer (some ⟨fb,0,none⟩))∧Below w.heap.size w w'∧((RG.Good isNm ps e∧FlatR w' fb (F0 ps e))∨(¬ RG.Good isNm ps e∧EmptyR w' fb))
theorem FlV.read {w:World} {ρ:Nat→Nat}{fb:Nat}{st:St}{sv su sn sb sa so:Value}{us ns bs os:List Value}{na no:Nat}{F:List Nd}(h:FlV w ρ fb st sv su sn sb sa so us ns bs os na no) (hρ:∀ k,w.heap.size≤k→ρ k=0) (hw:Whole F st) (hna:na=st.binds.length) :
  FlatR (w.setCell ⟨fb,6,none⟩ (.bool true)) fb F:=by
 have c:Ch (· = 2) ρ ρ w (w.setCell ⟨fb,6,none⟩ (.bool true)):=(Ch.refl hρ).setCell _ _ fun _=>h.role
 have l1:st.uses.length=F.length:=by rw [hw.uses];simp
 have l2:st.next.length=F.length:=by rw [hw.next];simp
 have l3:st.binds.length=F.length:=by rw [hw.binds];simp
 have e1:∀ i,i<F.length→st.uses[i]?=some (UR F i):=fun i hi=>by rw [hw.uses,List.getElem?_map,List.getElem?_range hi];rfl
 have e2:∀ i,i<F.length→st.next[i]?=some (NR F i):=fun i hi=>by rw [hw.next,List.getElem?_map,List.getElem?_range hi];rfl
 have e3:∀ i,i<F.length→st.binds[i]?=some (BR F i):=fun i hi=>by rw [hw.binds,List.getElem?_map,List.getElem?_range hi];rfl
 refine⟨sv,su,sn,sb,sa,so,us,ns,bs,heap_setCell_same _ _ _ _ _ _ h.obj,?_,?_,?_,?_,?_,fun i hi=>?_,fun i hi=>?_,fun i hi=>?_⟩
 ·have:=(h.vars.keep c (by decide)).sl
  rw [hw.vars] at this;exact this
 ·have:=(h.uses.keep c (by decide)).sl
  rw [l1] at this;exact this
 ·have:=(h.next.keep c (by decide)).sl
  rw [l2] at this;exact this
 ·have:=(h.binds.keep c (by decide)).sl
  rw [l3] at this;exact this
 ·have:=(h.after.keep c (by decide)).sl
  rw [hna,l3] at this;exact this
 ·obtain⟨v,a,b⟩:=h.usesAt i _ (e1 i hi)
  exact⟨v,a,(b.keep c (by decide)).sl⟩
 ·obtain⟨v,a,b⟩:=h.nextAt i _ (e2 i hi)
  exact⟨v,a,(b.keep c (by omega)).sl⟩
 obtain⟨v,a,b⟩:=h.bindsAt i _ (e3 i hi)
 exact⟨v,a,(b.keep c (by decide)).sl⟩
theorem ZA.of_strs {ρ:Nat→Nat}{w:World}{base:Nat}{v:Value}{l:List Nm}(h:w.ownsRow base 9 1 v l.length (strs l)) (hρ:∀ k,base≤k→ρ k=0):ZA w ρ v l.length (strs l):=by
 obtain⟨h1,h2⟩:=id h
 rcases h2 with ⟨rfl,h0⟩|⟨g,cap,cur,rfl,hb,hg,k1,k2,k3,k4⟩
 ·exact⟨strs_length l,none,0,by rw [h0],fun h=>by omega⟩
 refine⟨strs_length l,some ⟨g,0,none⟩,cap,rfl,fun h0=>⟨g,0,rfl,hρ g hb,fun i x hi=>?_⟩⟩
 have hl:=(zq8.1 hi).1
 rw [strs_length] at hl
 rw [Nat.zero_add,World.ownsRow.cellAt h i (by omega)];exact hi
theorem empty_new {w:World}{k:Nat}(hk:k=w.heap.size):EmptyR (w.alloc (.cells #[.slice none 0 0,.slice none 0 0,.slice none 0 0,.slice none 0 0,.slice none 0 0,.slice none 0 0,.bool false] 42)) k:=by rw [hk];exact zs2 w _
theorem rflat0 (w:World):FlR (w.alloc (.cells #[.slice none 0 0,.slice none 0 0,.slice none 0 0,.slice none 0 0,.slice none 0 0,.slice none 0 0,.bool false] 42)) (roleAt (fun _=>0) w.heap.size 2) w.heap.size ⟨[],[],[],[]⟩ :=
 ⟨_,_,_,_,_,_,[],[],[],[],zs2 w _,roleAt_same _ _ _,RR.nil _ _ _ _ _,RR.nil _ _ _ _ _,RR.nil _ _ _ _ _,RR.nil _ _ _ _ _,RR.nil _ _ _ _ _,RR.nil _ _ _ _ _,
  fun i l hi=>by simp at hi,fun i l hi=>by simp at hi,fun i l hi=>by simp at hi⟩
theorem ofR_any {w:World}{v:Value}{ps:List Nm}{e:TE}(h:TFunV w v ps e):Calls Tryz.prog 16 #[v] w (OfRP w ps e):=by
 obtain⟨nm,op,ch,pv,va,num,site,aa,ab,ca,cb,ga,oa,gb,ob,rfl,hp,hat,ha1,ha2,hb1,hb2⟩:=h
 obtain⟨xa,xc,rfl,-⟩:=id hat.at'
 obtain⟨pa,pc,rfl,-⟩:=id hp.at'
 have TX:Hid (TEX w e xa aa ab xc):=⟨hat,fun h=>⟨ga,oa,ha1 h,ha2⟩,fun h=>⟨gb,ob,hb1 h,hb2⟩⟩
 have HP:=zh hp
 have GI:=zh (good_ref (isName:=isNm) (ps:=ps) (e:=e))
 obtain⟨np,hnp⟩:∃ n,n=ps.length:=⟨_,rfl⟩
 rw [← hnp] at HP GI ⊢
 have HNP:=zh hnp
 obtain⟨w0,hw0⟩:∃ x,x=w.alloc (.cells #[.string nm,.bool ch,.slice pa np pc,.int .i64 e.kind,.string e.name,.string op,.int .i64 num,.int .i64 site,.slice xa e.args.length xc,.slice aa e.arms.length ca,.slice ab e.body.length cb] 29):=⟨_,rfl⟩
 have O0:Hid (w0.heap[w.heap.size]?=some (.cells #[.string nm,.bool ch,.slice pa np pc,.int .i64 e.kind,.string e.name,.string op,.int .i64 num,.int .i64 site,.slice xa e.args.length xc,.slice aa e.arms.length ca,.slice ab e.body.length cb] 29 (0,0))):=by show _=_;rw [hw0];exact zs2 w _
 have B0:Hid (Below w.heap.size w w0):=by rw [hw0];exact(zs9 _ _).alloc (zr4 _) _
 have S0:Hid (w0.heap.size=w.heap.size+1):=by show _=_;rw [hw0];simp
 have O1:Hid ((w0.alloc (.cells #[.int .i64 0] 3)).heap[w.heap.size]?=some (.cells #[.string nm,.bool ch,.slice pa np pc,.int .i64 e.kind,.string e.name,.string op,.int .i64 num,.int .i64 site,.slice xa e.args.length xc,.slice aa e.arms.length ca,.slice ab e.body.length cb] 29 (0,0))):=(zt2 w0 _ _ (by rw [S0.out];omega)).trans O0.out
 have B1:Hid (Below w.heap.size w (w0.alloc (.cells #[.int .i64 0] 3))):=B0.out.alloc B0.out.size _
 have C1:Hid ((w0.alloc (.cells #[.int .i64 0] 3)).cell? ⟨w0.heap.size,0,none⟩=some (.int .i64 ((0:Nat):Int))):=by show _=_;rw [zb _ _ 0 _ _ _ (zs2 w0 _)];rfl
 have F1:Hid ((w0.alloc (.cells #[.int .i64 0] 3)).frozen? ⟨w0.heap.size,0,none⟩=false):=zs1 _ _ 0 _ _ (zs2 w0 _)
 have q:∀ i x,#[.string nm,.bool ch,.slice pa np pc,.int .i64 e.kind,.string e.name,.string op,.int .i64 num,.int .i64 site,.slice xa e.args.length xc,.slice aa e.arms.length ca,.slice ab e.body.length cb][i]?=some x→(w0.alloc (.cells #[.int .i64 0] 3)).cell? ⟨w.heap.size,i,none⟩=some x:=fun i x hx=>(zb _ _ _ _ _ _ O1.out).trans hx
 have q2:=q 2 _ rfl
 have q3:=q 3 _ rfl
 have q4:=q 4 _ rfl
 have q5:=q 5 _ rfl
 have q6:=q 6 _ rfl
 have q7:=q 7 _ rfl
 have q8:=q 8 _ rfl
 have q9:=q 9 _ rfl
 have q10:=q 10 _ rfl
 have hbs:w.heap.size<w0.heap.size:=by rw [S0.out];omega
 clear q hp hat ha1 ha2 hb1 hb2 hnp
 by_cases hpl:np≤16
 ·have d1:decide (16<(np:Int))=false:=by simp;omega
  have hnz:(np:Int)≤16:=by omega
  have P16:=zh hpl
  have MS:=zh (measure_any e.size e (zr4 _) (op:=op) (num:=num) (site:=site) (ca:=ca) (cb:=cb) (d:=1) TX.out B1.out (by have:=S0.out;omega) C1.out F1.out (by omega) (by omega) (by omega))
  clear hpl
  go_enter Tryz.func16,Tryz.ntmps16
  go_upto_region 1 with fail
  rw [← hw0]
  clear hw0
  go_wp2_with fail
  refine MS.out.mono ?_
  rintro en w2 ⟨hg,hms⟩
  have B2:Hid (Below w.heap.size w w2):=B1.out.grown hg B1.out.size (fun r e=>by simp at e;have:=S0.out;omega)
  have O2:Hid (w2.heap[w.heap.size]?=some (.cells #[.string nm,.bool ch,.slice pa np pc,.int .i64 e.kind,.string e.name,.string op,.int .i64 num,.int .i64 site,.slice xa e.args.length xc,.slice aa e.arms.length ca,.slice ab e.body.length cb] 29 (0,0))):=(hg.block _ (zq7.1 O1.out).1 (fun e=>by simp at e;have:=S0.out;omega)).trans O1.out
  have W2S:Hid (w.heap.size+2≤w2.heap.size):=by have h1:=hg.size;have h2:=S0.out;simp at h1;show _≤_;omega
  clear q2 q3 q4 q5 q6 q7 q8 q9 q10 hg
  rcases hms with ⟨hsz,rfl,-,-⟩|⟨hsz,rfl⟩
  ·have SZ:Hid (e.size≤20000):=by show _≤_;omega
   clear hsz C1 F1 MS O1 B1
   go_wp2_with fail
   have B3:Hid (Below w.heap.size w (w2.alloc (.cells #[.slice none 0 0,.slice none 0 0,.slice none 0 0,.slice none 0 0,.slice none 0 0,.slice none 0 0,.bool false] 42))):=B2.out.alloc B2.out.size _
   have FL0:=zh (rflat0 w2)
   have O3:Hid ((w2.alloc (.cells #[.slice none 0 0,.slice none 0 0,.slice none 0 0,.slice none 0 0,.slice none 0 0,.slice none 0 0,.bool false] 42)).heap[w.heap.size]?=some (.cells #[.string nm,.bool ch,.slice pa np pc,.int .i64 e.kind,.string e.name,.string op,.int .i64 num,.int .i64 site,.slice xa e.args.length xc,.slice aa e.arms.length ca,.slice ab e.body.length cb] 29 (0,0))):=(zt2 w2 _ _ (zq7.1 O2.out).1).trans O2.out
   obtain⟨w3,hw3⟩:∃ x,x=w2.alloc (.cells #[.slice none 0 0,.slice none 0 0,.slice none 0 0,.slice none 0 0,.slice none 0 0,.slice none 0 0,.bool false] 42):=⟨_,rfl⟩
   have S3:Hid (w3.heap.size=w2.heap.size+1):=by show _=_;rw [hw3];simp
   obtain⟨fb,hfb⟩:∃ x,x=w2.heap.size:=⟨_,rfl⟩
   rw [← hw3,← hfb] at FL0
   rw [← hw3] at O3 B3
   rw [← hfb] at S3
   try rw [← hw3]
   try rw [← hfb]
   obtain⟨ρ0,hρ0⟩:∃ r,r=roleAt (fun _=>0) fb 2:=⟨_,rfl⟩
   rw [← hρ0] at FL0
   have R0:Hid (∀ k,k≠fb→ρ0 k=0):=fun k hk=>by rw [hρ0];exact zv _ _ _ hk
   have R9:Hid (∀ k,ρ0 k≠9):=fun k=>by
    rw [hρ0]
    by_cases e0:k=fb
    ·rw [e0,roleAt_same];decide
    rw [zv _ _ _ e0];show (0:Nat)≠9;decide
   have FBW:Hid (w.heap.size≤fb):=by show _≤_;rw [hfb];exact B2.out.size
   have FBNE:Hid (w.heap.size≠fb):=by show _≠_;rw [hfb];have:=W2S.out;omega
   have N0:Hid (World.ownsRow w3 w3.heap.size 9 1 (.slice none 0 0) 0 (strs (ps.take 0))):=World.ownsRow_nil _ _ _ _
   obtain⟨i9,p1,p2,p3,p4⟩:=info_parts Tryz.info9r
   have HI9:=zh (And.intro p1 (And.intro p2 (And.intro p3 p4)))
   clear hw3 hfb hρ0 O2 p1 p2 p3 p4
   go_loopw [5,6] (fun vn iv wr=>∃ i:Nat,i≤np∧iv = .int .i64 i∧World.ownsRow wr w3.heap.size 9 1 vn i (strs (ps.take i))∧Below w3.heap.size w3 wr) (fun _ iv _=>np - (intOf iv).toNat)
   case atStart=>exact⟨0,zv3 _,rfl,N0.out,zs9 _ _⟩
   rename World=>V
   obtain⟨i,hi,rfl,hown,hbv⟩:=hrel
   have KI:=zh hi
   have KO:=zh hown
   have BV:=zh hbv
   have O4:=zh (zm hbv O3.out)
   have BW:Hid (Below w.heap.size w V):=B3.out.trans (hbv.mono B3.out.size)
   have z2:V.cell? ⟨w.heap.size,2,none⟩=some (.slice pa np pc):=by rw [zb _ _ 2 _ _ _ O4.out];rfl
   obtain⟨va,vc,hvn⟩:=own_sliceI hown
   subst hvn
   clear hi hown hbv N0
   by_cases hlt:i<np
   ·have hlz:(i:Int)<np:=by omega
    have hi0:(0:Int)≤i:=by omega
    have HLT:=zh hlt
    obtain⟨ad,cc,hsl,hat⟩:=HP.out.at'
    simp only [Value.slice.injEq] at hsl
    obtain⟨rfl,-,rfl⟩:=hsl
    obtain⟨g,o,rfl,hat2⟩:=hat (by rw [← HNP.out];omega)
    obtain⟨x,hx⟩:∃ x,ps[i]?=some x:=⟨_,zq9 (by rw [← HNP.out];exact hlt)⟩
    obtain⟨mb,hcx,-⟩:=hat2 i x hx
    have yx:=zd BW.out _ _ hcx
    have TK:Hid (ps.take (i+1)=ps.take i++[x]):=by show _=_;rw [List.take_add_one,hx];rfl
    have OX:Hid (World.ownsRow (V.alloc (.cells #[.string x] 9)) w3.heap.size 9 1 (.slice va i vc) i (strs (ps.take i))):=owns_keep2 KO.out fun q hq=>zt2 _ _ _ (World.ownsRow.lt KO.out q hq).2
    have NB:Hid (i+1≤maxLen∧(i+1)*16≤140737488355328):=by show _∧_;simp only [maxLen];omega
    have BA:Hid (Below w3.heap.size w3 (V.alloc (.cells #[.string x] 9))):=BV.out.alloc BV.out.size _
    clear hlt hat hat2 hx hcx
    go_wp2_with (at_builtin;refine wpList_append_own _ rfl _ _ 35 rfl w3.heap.size 9 i9 (.string ⟨#[]⟩) 1 16 Tryz.underlying35 HI9.out.1 HI9.out.2.1 HI9.out.2.2.1 HI9.out.2.2.2 rfl (by decide) (.slice va i vc) i (strs (ps.take i)) rfl OX.out ⟨V.heap.size,0,none⟩ 1 1 [.string x] rfl rfl (news1 _ _ _) (fun u hu=>one1 rfl hu) NB.out.1 NB.out.2 BA.out.size ?_)
    intro vo w6 hown hg _
    have B6:Hid (Below w3.heap.size w3 w6):=BA.out.grown hg BA.out.size (fun q e=>(OX.out.lt q e).1)
    have M6:Hid (World.ownsRow w6 w3.heap.size 9 1 vo (i+1) (strs (ps.take (i+1)))):=by
     show World.ownsRow _ _ _ _ _ _ _
     rw [TK.out]
     unfold strs at hown ⊢
     rw [List.map_append];exact hown
    clear hown hg
    go_wp2_with fail
    go_roundw
    case rel=>exact⟨i+1,HLT.out,by go_num,M6.out,B6.out⟩
    case measure=>have:=HLT.out;simp [intOf];omega
   obtain rfl:i=np:=by have:=KI.out;omega
   have hdi:decide (i<i)=false:=by simp
   have etk:ps.take i=ps:=zr3 (by have:=HNP.out;omega)
   have ZN:Hid (ZA V ρ0 (.slice va i vc) ps.length (strs ps)):=by
    have h1:=KO.out
    rw [etk] at h1
    rw [HNP.out] at h1 ⊢
    exact ZA.of_strs h1 fun k hk=>R0.out k (by have:=S3.out;omega)
   have FL1:=zh (FL0.out.below BV.out fun k hk=>R0.out k (by have:=S3.out;omega))
   have RV:Hid (∀ k,V.heap.size≤k→ρ0 k=0):=fun k hk=>R0.out k (by have:=S3.out;have:=BV.out.size;omega)
   have BD:=zh (rbind_any (names:=ps) (sc:=[]) (scv := .pointer none) (of := -1) FL1.out RV.out R9.out ZN.out (by rw [← HNP.out];exact P16.out) rfl (zv3 _) (zv3 _) rfl)
   clear hlt etk KO
   go_wp2_with fail
   refine BD.out.mono ?_
   rintro en w5 ⟨ρ5,a5,rfl,hc5,h95,hf5,hs5⟩
   have BW5:Hid (Below w.heap.size w w5):=BW.out.trans (hc5.below BW.out.size fun k hk=>by rw [R0.out k (by have:=FBW.out;omega)];exact BM.no0)
   have RW5:Hid (∀ k,k<w.heap.size→ρ5 k=0):=fun k hk=>(hc5.role k (zt5 hk BW.out.size)).trans (R0.out k (by have:=FBW.out;omega))
   have O5:=zh (hc5.keep O4.out (by rw [R0.out _ FBNE.out];exact BM.no0))
   obtain⟨R,hR⟩:∃ r,r=bodyR e (scope 0 ps []) (st0 ps):=⟨_,rfl⟩
   have HBAL:Bal1 (st0 ps):=⟨rfl,rfl,by show ([]++ps).length≤16*1;rw [List.nil_append,← HNP.out];have:=P16.out;omega⟩
   have BY:Hid (Calls Tryz.prog 52 #[.pointer (some ⟨fb,0,none⟩),teV e op num site xa aa ab xc ca cb,.pointer a5] w5 (ByP w5 ρ5 fb R)):=by
    rw [hR]
    exact body_any e.size e (zr4 _) TX.out BW5.out RW5.out hf5 hc5.fresh h95 hs5 HBAL (by show 0+e.size≤20000;have:=SZ.out;omega)
   have HR:=zh hR
   have HBL:=zh HBAL
   have q3:w5.cell? ⟨w.heap.size,3,none⟩=some (.int .i64 e.kind):=by rw [zb _ _ 3 _ _ _ O5.out];rfl
   have q4:w5.cell? ⟨w.heap.size,4,none⟩=some (.string e.name):=by rw [zb _ _ 4 _ _ _ O5.out];rfl
   have q5:w5.cell? ⟨w.heap.size,5,none⟩=some (.string op):=by rw [zb _ _ 5 _ _ _ O5.out];rfl
   have q6:w5.cell? ⟨w.heap.size,6,none⟩=some (.int .i64 num):=by rw [zb _ _ 6 _ _ _ O5.out];rfl
   have q7:w5.cell? ⟨w.heap.size,7,none⟩=some (.int .i64 site):=by rw [zb _ _ 7 _ _ _ O5.out];rfl
   have q8:w5.cell? ⟨w.heap.size,8,none⟩=some (.slice xa e.args.length xc):=by rw [zb _ _ 8 _ _ _ O5.out];rfl
   have q9:w5.cell? ⟨w.heap.size,9,none⟩=some (.slice aa e.arms.length ca):=by rw [zb _ _ 9 _ _ _ O5.out];rfl
   have q10:w5.cell? ⟨w.heap.size,10,none⟩=some (.slice ab e.body.length cb):=by rw [zb _ _ 10 _ _ _ O5.out];rfl
   have H5:=zh hc5.fresh
   clear hc5 h95 hf5 hs5 z2 BD hR HBAL
   go_wp2_with fail
   refine BY.out.mono ?_
   rintro en w6 ⟨ρ6,hc6,h96,rfl,hr6⟩
   have BW6:Hid (Below w.heap.size w w6):=BW5.out.trans (hc6.below BW5.out.size fun k hk=>by rw [RW5.out k hk];exact OM.no0)
   clear q3 q4 q5 q6 q7 q8 q9 q10 BY
   cases R with
   | none =>
    have NG:Hid (¬ RG.Good isNm ps e):=fun hg=>by obtain⟨st,h1,_⟩:=(GI.out.1 hg).2.2;rw [← HR.out] at h1;cases h1
    clear hc6 h96 hr6
    simp only [Option.isSome_none,Option.isSome_some]
    go_wp2_with fail
    go_ret
    exact⟨_,rfl,BW6.out.alloc BW6.out.size _,.inr ⟨NG.out,empty_new (by first | rfl | simp)⟩⟩
   | some st =>
    obtain⟨sv,su,sn,sb,sa,so,us,ns,bs,os,hf6⟩:=hr6 st rfl
    have HBS:Hid (bodyR e (scope 0 ps []) (st0 ps)=some st):=HR.out.symm
    have BB:=body_bal HBS.out HBL.out
    have VL:Hid (st.vars.length≤400000):=by
     have h1:=BB.1.vars
     have h2:=BB.1.binds
     have h3:st.uses.length=0+e.size:=BB.2
     have h4:=SZ.out
     show _≤_;omega
    obtain⟨va6,vc6,hsv⟩:=hf6.vars.shape
    subst hsv
    obtain⟨nv,hnv⟩:∃ n,n=st.vars.length:=⟨_,rfl⟩
    have HNV:=zh hnv
    have z0:w6.cell? ⟨fb,0,none⟩=some (.slice va6 nv vc6):=by rw [hnv];exact hf6.cell 0 _ rfl
    have SO:Hid (Calls Tryz.prog 53 #[.slice va6 nv vc6] w6 (SoP w6 st.vars)):=by
     rw [hnv]
     exact sort_any st.vars.length st.vars (zr4 _) VL.out (StC.of_own hf6.vars.row)
    have FL6:=zh hf6
    have H6:=zh hc6.fresh
    clear hc6 h96 hr6 hf6 BB hnv
    simp only [Option.isSome_none,Option.isSome_some]
    go_wp2_with fail
    refine SO.out.mono ?_
    rintro en w7 ⟨v7,l7,rfl,hst7,hpm,hpw,hb7⟩
    have FL7:=zh (FL6.out.below hb7 H6.out)
    have H7:Hid (∀ k,w7.heap.size≤k→ρ6 k=0):=fun k hk=>H6.out k (zr5 hb7.size hk)
    have BW7:Hid (Below w.heap.size w w7):=BW6.out.trans (hb7.mono BW6.out.size)
    have ST7:=zh hst7
    have PM:=zh hpm
    have PW:=zh hpw
    obtain⟨ad7,c7,rfl,-⟩:=hst7
    obtain⟨n7,hn7⟩:∃ n,n=l7.length:=⟨_,rfl⟩
    rw [← hn7] at ST7 ⊢
    have HN7:=zh hn7
    have hn7z:(n7:Int)≤400000:=by have h1:=hpm.length_eq;have h2:=VL.out;omega
    clear hpm hpw hb7 hn7 z0 SO FL6
    go_wp2_with fail
    go_loopw [9] (fun iv wr=>∃ i:Nat,i≤n7∧iv = .int .i64 i∧Below w7.heap.size w7 wr∧(∀ (j:Nat) (x:Nm),j<i→l7[j]?=some x→isNm x=true)∧∀ (j:Nat) (a b:Nm),j+1<i→l7[j]?=some a→l7[j+1]?=some b→b≠a) (fun iv _=>n7 - (intOf iv).toNat)
    case atStart=>exact⟨0,zv3 _,rfl,zs9 _ _,fun j x h=>absurd h (Nat.not_lt_zero _),fun j a b h=>absurd h (Nat.not_lt_zero _)⟩
    rename World=>V
    obtain⟨i,hi,rfl,hbv,hnm,hdf⟩:=hrel
    have KI:=zh hi
    have BV:=zh hbv
    have NM:=zh hnm
    have DF:=zh hdf
    have BWV:Hid (Below w.heap.size w V):=BW7.out.trans (hbv.mono BW7.out.size)
    clear hi hbv hnm hdf
    by_cases hlt:i<n7
    ·have hlz:(i:Int)<n7:=by omega
     have hi0:(0:Int)≤i:=by omega
     have HLT:=zh hlt
     obtain⟨g,o,x,rfl,hx,yx⟩:=(ST7.out.kept (zd BV.out)).read HN7.out hlt
     have HX:=zh hx
     have hgl:g<V.heap.size:=zs3 V _ yx
     have d0:∀ y:Lx.Wg V,y.v.cell? ⟨g,o+i,none⟩=some (.string x):=fun y=>y.cell hgl yx
     obtain⟨kk,hkk⟩:∃ k:Nat,k=Lx.LX.refKind (Lx.bts x):=⟨_,rfl⟩
     have CA:Hid (∀ y:Lx.Wg V,Calls Tryz.prog 54 #[.string x] y.v fun e w'=>e = .returned (.int .i64 (kk:Int))∧∃ z:Lx.Wg V,w'=z.v) :=
      Lx.Wg.call fun y=>by
       have:=Lx.rkind_any y.v x
       unfold Lx.RkPost at this
       rw [← hkk] at this
       exact this
     have IK:Hid (isNm x=true↔kk=2):=by show _↔_;rw [hkk,Lx.LX.refKind_eq];unfold isNm;rw [beq_iff_eq]
     have VM:Hid (x∈st.vars):=PM.out.mem_iff.1 (zr1 HX.out)
     clear hlt hx hkk
     by_cases hk2:kk=2
     ·have dk:((kk:Int) != 2)=false:=by simp [hk2]
      have IX:Hid (isNm x=true):=IK.out.2 hk2
      have NMX:Hid (∀ (j:Nat) (x:Nm),j<i+1→l7[j]?=some x→isNm x=true):=fun j x' h1 h2=>by
       by_cases e0:j=i
       ·subst e0
        rw [HX.out,zt3] at h2
        rw [← h2];exact IX.out
       exact NM.out j x' (by omega) h2
      clear hk2
      by_cases h0:i=0
      ·have DFX:Hid (∀ (j:Nat) (a b:Nm),j+1<i+1→l7[j]?=some a→l7[j+1]?=some b→b≠a):=fun j a b h=>absurd h (by omega)
       have e0:decide ((0:Int)<i)=false:=by simp;omega
       have e1:decide (0<i)=false:=by simp;omega
       clear h0
       go_wp2_with fail
       refine Lx.wp_region_below (by kernel_rfl) (by kernel_rfl) ?_
       repeat
        first
        | go_big_quiet_skip
        | (go_big_quiet_want
           go_big_quiet_op
           first
           | go_big_quiet_on
           | (refine⟨_,fun _=>rfl,?_⟩;go_big_quiet_on)
           | (apply Exists.intro
              refine⟨fun x=>?_,?_⟩
              ·(go_at_call 54;exact CA.out _)
              go_big_quiet_on))
       refine wpQuiet_nil ?_
       intro z
       go_wp2_with fail
       go_roundw
       case rel=>exact⟨i+1,HLT.out,by go_num,BV.out.trans (z.ch.mono BV.out.size),NMX.out,DFX.out⟩
       case measure=>have:=HLT.out;simp [intOf];omega
      obtain⟨j,hj⟩:∃ j,i=j+1:=⟨i - 1,by omega⟩
      have HJ:=zh hj
      have e0:decide ((0:Int)<i)=true:=by simp;omega
      have e1:decide (0<i)=true:=by simp;omega
      obtain⟨g1,o1,y,hg1,hy,yy⟩:=(ST7.out.kept (zd BV.out)).read (k:=j) HN7.out (by have:=HLT.out;omega)
      simp only [zt3] at hg1
      rw [Addr.mk.injEq] at hg1
      obtain⟨rfl,rfl,-⟩:=hg1
      have d1:∀ z:Lx.Wg V,z.v.cell? ⟨g,o+j,none⟩=some (.string y):=fun z=>z.cell hgl yy
      have HY:=zh hy
      have HX':Hid (l7[j+1]?=some x):=by show _=_;rw [← HJ.out];exact HX.out
      have hjz:(j:Int)≤400000:=by omega
      have hj0:(0:Int)≤j:=by omega
      have hjn:(j:Int)<n7:=by omega
      have hwj:IntKind.i64.wrap ((i:Int) - 1)=(j:Int):=by rw [show ((i:Int) - 1)=(j:Int) from by omega];exact Lx.wrap_in _ (by omega)
      clear h0 hj
      clear hy
      by_cases hxy:x=y
      ·have de:(x.toList==y.toList)=true:=by rw [hxy];simp
       have NG:Hid (¬ RG.Good isNm ps e):=fun hg=>by
        obtain⟨st',h1,h2,h3⟩:=(GI.out.1 hg).2.2
        rw [HBS.out,zt3] at h1
        subst h1
        have hnd:=PM.out.nodup_iff.2 h3
        rw [List.Nodup,List.pairwise_iff_getElem] at hnd
        obtain⟨a1,a2⟩:=zq8.1 HY.out
        obtain⟨b1,b2⟩:=zq8.1 HX'.out
        exact hnd j (j+1) a1 b1 (Nat.lt_succ_self j) (by rw [a2,b2,hxy])
       clear hxy
       go_wp2_with fail
       refine Lx.wp_region_below (by kernel_rfl) (by kernel_rfl) ?_
       repeat
        first
        | go_big_quiet_skip
        | (go_big_quiet_want
           go_big_quiet_op
           first
           | go_big_quiet_on
           | (refine⟨_,fun _=>rfl,?_⟩;go_big_quiet_on)
           | (apply Exists.intro
              refine⟨fun x=>?_,?_⟩
              ·(go_at_call 54;exact CA.out _)
              go_big_quiet_on))
       refine wpQuiet_nil ?_
       intro z
       go_wp2_with fail
       go_ret
       exact⟨_,rfl,(BWV.out.trans (z.ch.mono BWV.out.size)).alloc (BWV.out.trans (z.ch.mono BWV.out.size)).size _,.inr ⟨NG.out,empty_new (by first | rfl | simp)⟩⟩
      have de:(x.toList==y.toList)=false:=zt6 fun e0=>hxy (toList_inj e0)
      have DFX:Hid (∀ (q:Nat) (a b:Nm),q+1<i+1→l7[q]?=some a→l7[q+1]?=some b→b≠a):=fun q a b h1 h2 h3=>by
       by_cases e0:q=j
       ·subst e0
        rw [HY.out,zt3] at h2
        rw [HX'.out,zt3] at h3
        rw [← h2,← h3];exact hxy
       exact DF.out q a b (by have:=HJ.out;omega) h2 h3
      clear hxy
      go_wp2_with fail
      refine Lx.wp_region_below (by kernel_rfl) (by kernel_rfl) ?_
      repeat
       first
       | go_big_quiet_skip
       | (go_big_quiet_want
          go_big_quiet_op
          first
          | go_big_quiet_on
          | (refine⟨_,fun _=>rfl,?_⟩;go_big_quiet_on)
          | (apply Exists.intro
             refine⟨fun x=>?_,?_⟩
             ·(go_at_call 54;exact CA.out _)
             go_big_quiet_on))
      refine wpQuiet_nil ?_
      intro z
      go_wp2_with fail
      go_roundw
      case rel=>exact⟨i+1,HLT.out,by go_num,BV.out.trans (z.ch.mono BV.out.size),NMX.out,DFX.out⟩
      case measure=>have:=HLT.out;simp [intOf];omega
     have dk:((kk:Int) != 2)=true:=by simp;omega
     have NG:Hid (¬ RG.Good isNm ps e):=fun hg=>by
      obtain⟨st',h1,h2,h3⟩:=(GI.out.1 hg).2.2
      rw [HBS.out,zt3] at h1
      subst h1
      exact hk2 (IK.out.1 (h2 x VM.out))
     clear hk2
     go_wp2_with fail
     refine Lx.wp_region_below (by kernel_rfl) (by kernel_rfl) ?_
     repeat
      first
      | go_big_quiet_skip
      | (go_big_quiet_want
         go_big_quiet_op
         first
         | go_big_quiet_on
         | (refine⟨_,fun _=>rfl,?_⟩;go_big_quiet_on)
         | (apply Exists.intro
            refine⟨fun x=>?_,?_⟩
            ·(go_at_call 54;exact CA.out _)
            go_big_quiet_on))
     refine wpQuiet_nil ?_
     intro z
     go_wp2_with fail
     go_ret
     exact⟨_,rfl,(BWV.out.trans (z.ch.mono BWV.out.size)).alloc (BWV.out.trans (z.ch.mono BWV.out.size)).size _,.inr ⟨NG.out,empty_new (by first | rfl | simp)⟩⟩
    have hlz:(n7:Int)≤i:=by omega
    have hdi:decide (i<n7)=false:=by simp;omega
    have ND:Hid (st.vars.Nodup):=by
     show _
     refine PM.out.nodup_iff.1 (sorted_nodup PW.out fun j a b h1 h2=>DF.out j a b ?_ h1 h2)
     have:=(zq8.1 h2).1
     have:=HN7.out
     omega
    have AN:Hid (∀ x∈st.vars,isNm x=true):=fun x hx=>by
     obtain⟨j,hj⟩:=List.mem_iff_getElem?.1 (PM.out.mem_iff.2 hx)
     exact NM.out j x (by have:=(zq8.1 hj).1;have:=HN7.out;omega) hj
    have GD:Hid (RG.Good isNm ps e):=GI.out.2 ⟨P16.out,SZ.out,st,HBS.out,AN.out,ND.out⟩
    have FL8:=zh (FL7.out.below BV.out H7.out)
    have WH:Hid (Whole (F0 ps e) st):=body_whole (by have:=body_vars HBS.out;rw [← this.1];exact ND.out) HBS.out
    have c6:V.cell? ⟨fb,6,none⟩=some (.bool false):=FL8.out.cell 6 _ rfl
    have f6:V.frozen? ⟨fb,6,none⟩=false:=FL8.out.froz 6
    have FR:=zh (FL8.out.read (fun k hk=>H7.out k (zr5 BV.out.size hk)) WH.out rfl)
    have BE:Hid (Below w.heap.size w (V.setCell ⟨fb,6,none⟩ (.bool true))):=BWV.out.setCell (by have:=FBW.out;exact this) _
    clear hlt
    go_wp2_with fail
    go_ret
    exact⟨fb,rfl,BE.out,.inl ⟨GD.out,FR.out⟩⟩
  have NG:Hid (¬ RG.Good isNm ps e):=fun hg=>by have:=(GI.out.1 hg).2.1;omega
  clear hsz
  go_wp2_with fail
  go_ret
  exact⟨_,rfl,B2.out.alloc B2.out.size _,.inr ⟨NG.out,empty_new (by first | rfl | simp)⟩⟩
 have d1:decide (16<(np:Int))=true:=by simp;omega
 have NG:Hid (¬ RG.Good isNm ps e):=fun hg=>by have:=(GI.out.1 hg).1;omega
 clear hpl
 go_enter Tryz.func16,Tryz.ntmps16
 go_upto_region 1 with fail
 rw [← hw0]
 clear hw0
 go_wp2_with fail
 go_ret
 exact⟨_,rfl,B1.out.alloc B1.out.size _,.inr ⟨NG.out,empty_new (by first | rfl | simp)⟩⟩
def SmP (w:World) (ps:List Nm) (e:TE) (en:Ending) (w':World):Prop :=
 Below w.heap.size w w'∧∃ b:Bool,en = .returned (.bool b)∧(b=true→RG.Good isNm ps e→e.size≤300∧(vars (F0 ps e)).length≤300)∧(¬ RG.Good isNm ps e→b=true)
theorem small_any {w:World}{v:Value}{ps:List Nm}{e:TE}(h:TFunV w v ps e):Calls Tryz.prog 15 #[v] w (SmP w ps e):=by
 have HV:=zh h
 obtain⟨nm,op,ch,pv,va,num,site,aa,ab,ca,cb,ga,oa,gb,ob,rfl,hp,hat,-⟩:=h
 obtain⟨xa,xc,rfl,-⟩:=id hat.at'
 obtain⟨pa,pc,rfl,-⟩:=id hp.at'
 have OF:=zh (ofR_any (HV.out.kept (zd (show Below w.heap.size w (w.alloc (.cells #[.string nm,.bool ch,.slice pa ps.length pc,.int .i64 e.kind,.string e.name,.string op,.int .i64 num,.int .i64 site,.slice xa e.args.length xc,.slice aa e.arms.length ca,.slice ab e.body.length cb] 29)) from (zs9 _ _).alloc (zr4 _) _))))
 have B0:Hid (Below w.heap.size w (w.alloc (.cells #[.string nm,.bool ch,.slice pa ps.length pc,.int .i64 e.kind,.string e.name,.string op,.int .i64 num,.int .i64 site,.slice xa e.args.length xc,.slice aa e.arms.length ca,.slice ab e.body.length cb] 29))):=(zs9 _ _).alloc (zr4 _) _
 clear hp hat HV
 go_enter Tryz.func15,Tryz.ntmps15
 go_wp2_with fail
 refine OF.out.mono ?_
 rintro en w1 ⟨fb,rfl,hb,⟨hg,hfl⟩|⟨hg,hem⟩⟩
 ·obtain⟨sv,su,sn,sb,sa,so,us,ns,bs,h0,hsv,hsu,-⟩:=hfl.at'
  obtain⟨_,sva,svc,rfl,_⟩:=hsv
  obtain⟨_,sua,suc,rfl,_⟩:=hsu
  obtain⟨nv,hnv⟩:∃ n,n=(vars (F0 ps e)).length:=⟨_,rfl⟩
  obtain⟨nu,hnu⟩:∃ n,n=(F0 ps e).length:=⟨_,rfl⟩
  rw [← hnv,← hnu] at h0
  have c1:w1.cell? ⟨fb,1,none⟩=some (.slice sua nu suc):=by rw [zb _ _ 1 _ _ _ h0];rfl
  have c0:w1.cell? ⟨fb,0,none⟩=some (.slice sva nv svc):=by rw [zb _ _ 0 _ _ _ h0];rfl
  have HB:Hid (Below w.heap.size w w1):=B0.out.trans (hb.mono B0.out.size)
  have HG:=zh hg
  have HNV:=zh hnv
  have HNU:Hid (nu=e.size):=by show _=_;rw [hnu,F0_length]
  clear hb hfl h0 hnv hnu hg OF
  by_cases h1:nu≤300
  ·have d1:decide ((nu:Int)≤300)=true:=by simp;omega
   by_cases h2:nv≤300
   ·have d2:decide ((nv:Int)≤300)=true:=by simp;omega
    have E:Hid (e.size≤300∧(vars (F0 ps e)).length≤300):=by rw [← HNU.out,← HNV.out];exact⟨h1,h2⟩
    clear h1 h2
    go_wp2_with fail
    go_ret
    exact⟨HB.out,true,rfl,fun _ _=>E.out,fun h=>absurd HG.out h⟩
   have d2:decide ((nv:Int)≤300)=false:=by simp;omega
   clear h1 h2
   go_wp2_with fail
   go_ret
   exact⟨HB.out,false,rfl,(fun h=>by cases h),fun h=>absurd HG.out h⟩
  have d1:decide ((nu:Int)≤300)=false:=by simp;omega
  clear h1
  go_wp2_with fail
  go_ret
  exact⟨HB.out,false,rfl,(fun h=>by cases h),fun h=>absurd HG.out h⟩
 have h0:w1.heap[fb]?=_:=hem
 have c1:w1.cell? ⟨fb,1,none⟩=some (.slice none 0 0):=by rw [zb _ _ 1 _ _ _ h0];rfl
 have c0:w1.cell? ⟨fb,0,none⟩=some (.slice none 0 0):=by rw [zb _ _ 0 _ _ _ h0];rfl
 have HB:Hid (Below w.heap.size w w1):=B0.out.trans (hb.mono B0.out.size)
 have HG:=zh hg
 clear hb hem h0 hg OF
 go_wp2_with fail
 go_ret
 exact⟨HB.out,true,rfl,fun _ h=>absurd h HG.out,fun _=>rfl⟩
end
end Go.Proofs.YtnkahlloahgifaaGreatDoor
