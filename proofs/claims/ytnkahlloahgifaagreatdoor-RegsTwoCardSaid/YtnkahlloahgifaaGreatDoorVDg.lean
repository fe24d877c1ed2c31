/- Part. -/
import Derived.Test.YtnkahlloahgifaaGreatDoorVDf
import Derived.Test.YtnkahlloahgifaaGreatDoorVFb
set_option linter.unusedSimpArgs false
set_option linter.unusedVariables false
namespace Go.Proofs.YtnkahlloahgifaaGreatDoor
open Go.RowKit RG Go.Maps RF
theorem no_of {v:Bool}{P:Prop}(h:v=true↔P) (hn:¬ P):v=false:=by
 cases v with
 | false=>rfl
 | true=>exact absurd (h.1 rfl) hn
theorem yes_of {v:Bool}{P:Prop}(h:v=true↔P) (hp:P):v=true:=h.2 hp
def BoP (w:World) (v:Value) (e:Ending) (w':World):Prop:=e = .returned v∧Below w.heap.size w w'
set_option maxHeartbeats 4000000 in
set_option maxRecDepth 20000 in
theorem shaped_any {w:World}{e:TE}{op:ByteArray}{num site:Int}{xa aa ab:Option Addr}{xc ca cb:Nat}(h:TEX w e xa aa ab xc):Calls Tryz.prog 82 #[teV e op num site xa aa ab xc ca cb] w (BoP w (.bool (nodeOk e))):=by
 obtain⟨v,hv⟩:∃ v,v=nodeOk e:=⟨_,rfl⟩
 rw [← hv]
 have hform := @nodeOk_iff e
 rw [← hv] at hform
 have HAT:=zh h.atoms
 have HAR:=zh h.arms
 show Calls Tryz.prog 82 #[.agg #[.int .i64 e.kind,.string e.name,.string op,.int .i64 num,.int .i64 site,.slice xa e.args.length xc,.slice aa e.arms.length ca,.slice ab e.body.length cb]] w _
 obtain⟨k,hk⟩:∃ x,x=e.kind:=⟨_,rfl⟩
 obtain⟨nm,hnm⟩:∃ x,x=e.name:=⟨_,rfl⟩
 obtain⟨hdn,hhd⟩:∃ x,x=e.args.headD ⟨#[]⟩:=⟨_,rfl⟩
 obtain⟨ng,hng⟩:∃ x,x=e.args.length:=⟨_,rfl⟩
 obtain⟨na,hna⟩:∃ x,x=e.arms.length:=⟨_,rfl⟩
 obtain⟨nb,hnb⟩:∃ x,x=e.body.length:=⟨_,rfl⟩
 rw [← hk,← hng,← hna,← hnb,← hhd] at hform
 rw [← hk,← hnm,← hng,← hna,← hnb]
 rw [← hna] at HAR
 rw [← hng] at HAT
 have HV:=zh hform
 have HNG:=zh hng
 have HNA:=zh hna
 have HH:=zh hhd
 have B0:Hid (Below w.heap.size w (w.alloc (.cells #[.int .i64 k,.string nm,.string op,.int .i64 num,.int .i64 site,.slice xa ng xc,.slice aa na ca,.slice ab nb cb] 27))):=(Below.refl _ _).alloc (zr4 _) _
 clear h hv hform hk hnm hhd hng hna hnb
 by_cases k1:k<1
 ·have d1:decide (1≤k)=false:=by simp;omega
  have d2:decide (k<1)=true:=by simp;omega
  have E:Hid (v=false):=no_of HV.out (by intro h;have:=h.1.1;omega)
  clear k1
  go_enter Tryz.func82,Tryz.ntmps82
  go_wp2_with fail
  go_ret
  exact⟨by rw [E.out];rfl,B0.out⟩
 ·have d1:decide (1≤k)=true:=by simp;omega
  have d2:decide (k<1)=false:=by simp;omega
  by_cases k2:10<k
  ·have d3:decide (k≤6)=false:=by simp;omega
   have d4:decide (10<k)=true:=by simp;omega
   have E:Hid (v=false):=no_of HV.out (by intro h;have:=h.1.2;omega)
   clear k1 k2
   go_enter Tryz.func82,Tryz.ntmps82
   go_wp2_with fail
   go_ret
   exact⟨by rw [E.out];rfl,B0.out⟩
  ·have d4:decide (10<k)=false:=by simp;omega
   by_cases k6:k≤6
   ·have d3:decide (k≤6)=true:=by simp;omega
    by_cases b1:nb=1
    ·have d5:((nb:Int) != 1)=false:=by simp [b1]
     by_cases g1:16<ng
     ·have d6:decide (16<(ng:Int))=true:=by simp;omega
      have E:Hid (v=false):=no_of HV.out (by intro h;have:=h.2.2.1;omega)
      clear k1 k2 k6 b1 g1
      go_enter Tryz.func82,Tryz.ntmps82
      go_wp2_with fail
      go_ret
      exact⟨by rw [E.out];rfl,B0.out⟩
     ·have d6:decide (16<(ng:Int))=false:=by simp;omega
      have d7:(k != 7)=true:=by simp;omega
      have k7:k≠7:=by omega
      by_cases a1:na=0
      ·have d8:((na:Int)==0)=true:=by simp [a1]
       have E:Hid (v=true):=yes_of HV.out (by refine⟨by omega,?_,by omega,by rw [if_neg k7];exact a1⟩;first | (rw [if_pos (by omega)];exact b1) | (rw [if_neg (by omega)];exact b1))
       clear k1 k2 k6 b1 g1 k7 a1
       go_enter Tryz.func82,Tryz.ntmps82
       go_wp2_with fail
       go_ret
       exact⟨by rw [E.out];rfl,B0.out⟩
      ·have d8:((na:Int)==0)=false:=by simp;omega
       have E:Hid (v=false):=no_of HV.out (by intro h;have:=h.2.2.2;rw [if_neg k7] at this;exact a1 this)
       clear k1 k2 k6 b1 g1 k7 a1
       go_enter Tryz.func82,Tryz.ntmps82
       go_wp2_with fail
       go_ret
       exact⟨by rw [E.out];rfl,B0.out⟩
    ·have d5:((nb:Int) != 1)=true:=by simp;omega
     have E:Hid (v=false):=no_of HV.out (by intro h;have:=h.2.1;rw [if_pos k6] at this;omega)
     clear k1 k2 k6 b1
     go_enter Tryz.func82,Tryz.ntmps82
     go_wp2_with fail
     go_ret
     exact⟨by rw [E.out];rfl,B0.out⟩
   ·have d3:decide (k≤6)=false:=by simp;omega
    by_cases k7:k=7
    ·skip
     by_cases b1:nb=0
     ·have d5:((nb:Int) != 0)=false:=by simp [b1]
      by_cases g1:16<ng
      ·have d6:decide (16<(ng:Int))=true:=by simp;omega
       have E:Hid (v=false):=no_of HV.out (by intro h;have:=h.2.2.1;omega)
       clear k1 k2 k6 k7 b1 g1
       go_enter Tryz.func82,Tryz.ntmps82
       go_wp2_with fail
       go_ret
       exact⟨by rw [E.out];rfl,B0.out⟩
      ·have d6:decide (16<(ng:Int))=false:=by simp;omega
       have d7:(k != 7)=false:=by simp [k7]
       have H7:Hid (v=true↔ng=1∧hdn.size≠0∧1≤na∧na≤16∧∀ p∈e.arms.kids,p.1.length≤16):=by
        show _↔_
        rw [HV.out,if_pos k7,if_neg (by omega)]
        exact⟨fun h=>h.2.2.2,fun h=>⟨by omega,b1,by omega,h⟩⟩
       clear k1 k2 k6 k7 b1 g1
       by_cases n1:ng=1
       ·have d8:((ng:Int) != 1)=false:=by simp [n1]
        obtain⟨ad,c,hsl,hat⟩:=HAT.out.at'
        simp only [Value.slice.injEq] at hsl
        obtain⟨rfl,-,rfl⟩:=hsl
        obtain⟨g,q,rfl,hat2⟩:=hat (by rw [← HNG.out];omega)
        obtain⟨mm,hm,_⟩:=hat2 0 hdn (by rw [HH.out];have:=HNG.out;cases hx:e.args with | nil=>rw [hx] at this;simp at this;omega | cons a t=>rfl)
        rw [Nat.zero_mul,Nat.add_zero] at hm
        have hm:=zd B0.out _ _ hm
        have i1:(0:Int)<ng:=by omega
        have i2:0<ng:=by omega
        have N1:=zh n1
        clear hat hat2 n1
        by_cases s0:hdn.size=0
        ·have c2:hdn.toList.isEmpty=true:=toList_empty s0
         have E:Hid (v=false):=no_of H7.out (by intro h;exact h.2.1 s0)
         clear s0
         go_enter Tryz.func82,Tryz.ntmps82
         go_wp2_with fail
         go_ret
         exact⟨by rw [E.out];rfl,B0.out⟩
        ·have c2:hdn.toList.isEmpty=false:=toList_full s0
         by_cases a1:na<1
         ·have c3:decide ((na:Int)<1)=true:=by simp;omega
          have E:Hid (v=false):=no_of H7.out (by intro h;have:=h.2.2.1;omega)
          clear s0 a1
          go_enter Tryz.func82,Tryz.ntmps82
          go_wp2_with fail
          go_ret
          exact⟨by rw [E.out];rfl,B0.out⟩
         ·have c3:decide ((na:Int)<1)=false:=by simp;omega
          by_cases a2:16<na
          ·have c4:decide (16<(na:Int))=true:=by simp;omega
           have E:Hid (v=false):=no_of H7.out (by intro h;have:=h.2.2.2.1;omega)
           clear s0 a1 a2
           go_enter Tryz.func82,Tryz.ntmps82
           go_wp2_with fail
           go_ret
           exact⟨by rw [E.out];rfl,B0.out⟩
          ·have c4:decide (16<(na:Int))=false:=by simp;omega
           have H8:Hid (v=true↔∀ p∈e.arms.kids,p.1.length≤16):=by
            show _↔_
            rw [H7.out]
            exact⟨fun h=>h.2.2.2.2,fun h=>⟨N1.out,s0,by omega,by omega,h⟩⟩
           have hnz:(na:Int)≤16:=by omega
           obtain⟨ga,oa,rfl,hta⟩:=HAR.out (by omega)
           have HTA:=zh hta
           clear s0 a1 a2 hta
           go_enter Tryz.func82,Tryz.ntmps82
           go_wp2_with fail
           go_loopw [4] (fun iv wr=>∃ i:Nat,i≤na∧iv = .int .i64 i∧wr=w.alloc (.cells #[.int .i64 k,.string nm,.string op,.int .i64 num,.int .i64 site,.slice (some ⟨g,q,none⟩) ng xc,.slice (some ⟨ga,oa,none⟩) na ca,.slice ab nb cb] 27)∧∀ (j:Nat) (p:List Nm×TE),j<i→e.arms.kids[j]?=some p→p.1.length≤16) (fun iv _=>na - (intOf iv).toNat)
           case atStart=>exact⟨0,Nat.zero_le _,rfl,rfl,fun j p h=>absurd h (Nat.not_lt_zero _)⟩
           case round =>
            obtain⟨i,hi,rfl,rfl,hall⟩:=hrel
            have KI:=zh hi
            have AL:=zh hall
            clear hi hall
            by_cases hlt:i<na
            ·have hlz:(i:Int)<na:=by omega
             have hi0:(0:Int)≤i:=by omega
             have HLT:=zh hlt
             obtain⟨⟨vs,te⟩,hp⟩:∃ p,e.arms.kids[i]?=some p:=⟨_,zq9 (by rw [TA.kids_length,← HNA.out];exact hlt)⟩
             obtain⟨⟨con,vv,y0,y1,hst⟩,-⟩:=TAAt.nth e.arms ga oa i vs te HTA.out (by rw [← TA.nth_kids];exact hp)
             obtain⟨_,sa,sc,rfl,_⟩:=hst
             have y1:=zd B0.out _ _ y1
             obtain⟨nv,hnv⟩:∃ x,x=vs.length:=⟨_,rfl⟩
             rw [← hnv] at y1
             have HP:=zh hp
             have HNV:=zh hnv
             clear hlt hp y0 hnv
             by_cases v1:16<nv
             ·have c5:decide (16<(nv:Int))=true:=by simp;omega
              have E:Hid (v=false):=no_of H8.out (fun h=>by have:=h _ (zr1 HP.out);have:=HNV.out;simp only [] at *;omega)
              clear v1
              go_wp2_with fail
              go_ret
              exact⟨by rw [E.out];rfl,B0.out⟩
             ·have c5:decide (16<(nv:Int))=false:=by simp;omega
              have AX:Hid (∀ (j:Nat) (p:List Nm×TE),j<i+1→e.arms.kids[j]?=some p→p.1.length≤16):=fun j p h1 h2=>by
               by_cases e0:j=i
               ·subst e0
                rw [HP.out,Option.some.injEq] at h2
                subst h2
                have:=HNV.out;simp only [];omega
               ·exact AL.out j p (by omega) h2
              clear v1
              go_wp2_with fail
              go_roundw
              case rel=>exact⟨i+1,HLT.out,by go_num,by first | rfl | trivial,AX.out⟩
              case measure=>have:=HLT.out;simp [intOf];omega
            ·have hlz:(na:Int)≤i:=by omega
             have E:Hid (v=true):=yes_of H8.out (fun p hp=>by
              obtain⟨j,hj⟩:=List.mem_iff_getElem?.1 hp
              exact AL.out j p (by have:=(zq8.1 hj).1;rw [TA.kids_length,← HNA.out] at this;omega) hj)
             clear hlt
             go_wp2_with fail
             go_ret
             exact⟨by rw [E.out];rfl,B0.out⟩
       ·have d8:((ng:Int) != 1)=true:=by simp;omega
        have E:Hid (v=false):=no_of H7.out (by intro h;exact n1 h.1)
        clear n1
        go_enter Tryz.func82,Tryz.ntmps82
        go_wp2_with fail
        go_ret
        exact⟨by rw [E.out];rfl,B0.out⟩
     ·have d5:((nb:Int) != 0)=true:=by simp;omega
      have E:Hid (v=false):=no_of HV.out (by intro h;have:=h.2.1;rw [if_neg k6] at this;omega)
      clear k1 k2 k6 k7 b1
      go_enter Tryz.func82,Tryz.ntmps82
      go_wp2_with fail
      go_ret
      exact⟨by rw [E.out];rfl,B0.out⟩
    ·skip
     by_cases b1:nb=0
     ·have d5:((nb:Int) != 0)=false:=by simp [b1]
      by_cases g1:16<ng
      ·have d6:decide (16<(ng:Int))=true:=by simp;omega
       have E:Hid (v=false):=no_of HV.out (by intro h;have:=h.2.2.1;omega)
       clear k1 k2 k6 b1 g1
       go_enter Tryz.func82,Tryz.ntmps82
       go_wp2_with fail
       go_ret
       exact⟨by rw [E.out];rfl,B0.out⟩
      ·have d6:decide (16<(ng:Int))=false:=by simp;omega
       have d7:(k != 7)=true:=by simp;omega
       have k7:k≠7:=by omega
       by_cases a1:na=0
       ·have d8:((na:Int)==0)=true:=by simp [a1]
        have E:Hid (v=true):=yes_of HV.out (by refine⟨by omega,?_,by omega,by rw [if_neg k7];exact a1⟩;first | (rw [if_pos (by omega)];exact b1) | (rw [if_neg (by omega)];exact b1))
        clear k1 k2 k6 b1 g1 k7 a1
        go_enter Tryz.func82,Tryz.ntmps82
        go_wp2_with fail
        go_ret
        exact⟨by rw [E.out];rfl,B0.out⟩
       ·have d8:((na:Int)==0)=false:=by simp;omega
        have E:Hid (v=false):=no_of HV.out (by intro h;have:=h.2.2.2;rw [if_neg k7] at this;exact a1 this)
        clear k1 k2 k6 b1 g1 k7 a1
        go_enter Tryz.func82,Tryz.ntmps82
        go_wp2_with fail
        go_ret
        exact⟨by rw [E.out];rfl,B0.out⟩
     ·have d5:((nb:Int) != 0)=true:=by simp;omega
      have E:Hid (v=false):=no_of HV.out (by intro h;have:=h.2.1;rw [if_neg k6] at this;omega)
      clear k1 k2 k6 b1
      go_enter Tryz.func82,Tryz.ntmps82
      go_wp2_with fail
      go_ret
      exact⟨by rw [E.out];rfl,B0.out⟩
theorem sizes_len:∀ l:List (List Nm×TE),l.length≤sizes l
 | []=>Nat.zero_le _
 | p :: l=>by
  have:=sizes_len l
  have:=p.2.size_pos
  rw [zg,List.length_cons];omega
def MsP (w:World) (b c:Nat) (e:TE) (en:Ending) (w':World):Prop :=
 w.grownBy w' (some b)∧((c+e.size≤20000∧en = .returned (.bool true)∧w'.cell? ⟨b,0,none⟩=some (.int .i64 ((c+e.size:Nat):Int))∧w'.frozen? ⟨b,0,none⟩=false)∨(20000<c+e.size∧en = .returned (.bool false)))
set_option maxHeartbeats 8000000 in
set_option maxRecDepth 20000 in
theorem measure_any (N:Nat):∀ (e:TE),e.size≤N→∀ {W w:World}{op:ByteArray}{num site:Int}{xa aa ab:Option Addr}{xc ca cb b c:Nat}{d:Int},TEX W e xa aa ab xc→Below W.heap.size W w→W.heap.size≤b →
  w.cell? ⟨b,0,none⟩=some (.int .i64 (c:Int))→w.frozen? ⟨b,0,none⟩=false→c≤20000→0≤d→d≤c+1→Calls Tryz.prog 50 #[teV e op num site xa aa ab xc ca cb,.int .i64 d,.pointer (some ⟨b,0,none⟩)] w (MsP w b c e):=by
 induction N with
 | zero=>intro e hN;have:=e.size_pos;omega
 | succ N ih =>
  intro e hN W w op num site xa aa ab xc ca cb b c d hx hB hb hc hf hc2 hd0 hd
  have IH:=zh ih
  clear ih
  have HAR:=zh hx.arms
  have HBO:=zh hx.body
  have hsz:e.size=sizes (e.body.kids e.name)+sizes e.arms.kids+1:=by rw [TB.sizes_kids,TA.sizes_kids];cases e;rfl
  have HSZ:=zh hsz
  have HNN:=zh hN
  have HB:=zh hB
  have HBB:=zh hb
  show Calls Tryz.prog 50 #[.agg #[.int .i64 e.kind,.string e.name,.string op,.int .i64 num,.int .i64 site,.slice xa e.args.length xc,.slice aa e.arms.length ca,.slice ab e.body.length cb],.int .i64 d,.pointer (some ⟨b,0,none⟩)] w _
  obtain⟨k,hk⟩:∃ x,x=e.kind:=⟨_,rfl⟩
  obtain⟨nm,hnm⟩:∃ x,x=e.name:=⟨_,rfl⟩
  obtain⟨ng,hng⟩:∃ x,x=e.args.length:=⟨_,rfl⟩
  obtain⟨na,hna⟩:∃ x,x=e.arms.length:=⟨_,rfl⟩
  obtain⟨nb,hnb⟩:∃ x,x=e.body.length:=⟨_,rfl⟩
  rw [← hk,← hnm,← hng,← hna,← hnb]
  rw [← hna] at HAR
  rw [← hnb] at HBO
  have HNA:=zh hna
  have HNB:=zh hnb
  have HC2:=zh hc2
  have hblt:b<w.heap.size:=World.block_lt_of_cell? w _ hc
  have hcz:(c:Int)≤20000:=by omega
  have hpos:=e.size_pos
  have HPOS:=zh hpos
  obtain⟨w0,hw0⟩:∃ x,x=w.alloc (.cells #[.int .i64 k,.string nm,.string op,.int .i64 num,.int .i64 site,.slice xa ng xc,.slice aa na ca,.slice ab nb cb] 27):=⟨_,rfl⟩
  have O0:Hid (w0.heap[w.heap.size]?=some (.cells #[.int .i64 k,.string nm,.string op,.int .i64 num,.int .i64 site,.slice xa ng xc,.slice aa na ca,.slice ab nb cb] 27 (0,0))):=by show _=_;rw [hw0];exact heap_alloc_new w _
  have hb0:w0.heap[b]?=w.heap[b]?:=by rw [hw0];exact Below.heap_alloc _ _ _ hblt
  have c0:w0.cell? ⟨b,0,none⟩=some (.int .i64 (c:Int)):=(World.cell?_of_block (a:=⟨b,0,none⟩) hb0).trans hc
  have f0:w0.frozen? ⟨b,0,none⟩=false:=(World.frozen?_of_block (a:=⟨b,0,none⟩) hb0).trans hf
  have G0:Hid (w.grownBy w0 (some b)):=by rw [hw0];exact World.grownBy_alloc _ _ _
  have BLT:=zh hblt
  have bne:b≠w.heap.size:=by omega
  have HD:=zh hd
  clear hx hsz hN hB hb hk hnm hng hna hnb hc hf hb0 hpos
  have O1:Hid ((w0.setCell ⟨b,0,none⟩ (.int .i64 ((c:Int)+1))).heap[w.heap.size]?=some (.cells #[.int .i64 k,.string nm,.string op,.int .i64 num,.int .i64 site,.slice xa ng xc,.slice aa na ca,.slice ab nb cb] 27 (0,0))):=(Below.heap_setCell _ _ _ _ (by show w.heap.size≠b;omega)).trans O0.out
  have C1:Hid ((w0.setCell ⟨b,0,none⟩ (.int .i64 ((c:Int)+1))).cell? ⟨b,0,none⟩=some (.int .i64 ((c:Int)+1))):=World.cell?_setCell_same _ _ _ c0
  have F1:Hid ((w0.setCell ⟨b,0,none⟩ (.int .i64 ((c:Int)+1))).frozen? ⟨b,0,none⟩=false):=by show _=_;rw [World.frozen?_setCell];exact f0
  have G1:Hid (w.grownBy (w0.setCell ⟨b,0,none⟩ (.int .i64 ((c:Int)+1))) (some b)):=grown_trans G0.out (grown_setCell w0 ⟨b,0,none⟩ _) (fun r e=>by simp at e;exact .inl e.symm)
  by_cases hbig:20000<c+1
  ·have d1:decide (20000<(c:Int)+1)=true:=by simp;omega
   have E:Hid (20000<c+e.size):=by show _<_;have:=HPOS.out;omega
   clear hbig
   go_enter Tryz.func50,Tryz.ntmps50
   go_upto_region 1 with fail
   rw [← hw0]
   clear hw0
   go_wp2_with fail
   go_ret
   exact⟨G1.out,.inr ⟨E.out,rfl⟩⟩
  ·have d1:decide (20000<(c:Int)+1)=false:=by simp;omega
   have d2:decide (20000<d)=false:=by simp;omega
   have hC1:c+1≤20000:=by omega
   have HC1:=zh hC1
   have hd2:d≤20000:=by omega
   clear hbig
   go_enter Tryz.func50,Tryz.ntmps50
   go_upto_region 1 with fail
   rw [← hw0]
   clear hw0
   go_wp2_with fail
   go_loopw [7] (fun iv wr=>∃ i t:Nat,i≤na∧iv = .int .i64 i∧t=c+1+sizes (e.arms.kids.take i)∧t≤20000∧wr.cell? ⟨b,0,none⟩=some (.int .i64 (t:Int))∧wr.frozen? ⟨b,0,none⟩=false∧w.grownBy wr (some b)∧wr.heap[w.heap.size]?=some (.cells #[.int .i64 k,.string nm,.string op,.int .i64 num,.int .i64 site,.slice xa ng xc,.slice aa na ca,.slice ab nb cb] 27 (0,0))) (fun iv _=>na - (intOf iv).toNat)
   case atStart=>exact⟨0,c+1,Nat.zero_le _,rfl,by simp [zw],HC1.out,C1.out,F1.out,G1.out,O1.out⟩
   case round =>
    obtain⟨i,t,hi,rfl,ht,htl,hcl,hfr,hg,ho⟩:=hrel
    have KI:=zh hi
    have HT:=zh ht
    have HTL:=zh htl
    have HCL:=zh hcl
    have HFR:=zh hfr
    have HG:=zh hg
    have HO:=zh ho
    have z6:wr.cell? ⟨w.heap.size,6,none⟩=some (.slice aa na ca):=by rw [cell_of_row _ _ _ _ _ _ ho];rfl
    have z7:wr.cell? ⟨w.heap.size,7,none⟩=some (.slice ab nb cb):=by rw [cell_of_row _ _ _ _ _ _ ho];rfl
    have BW:Hid (Below W.heap.size W wr):=HB.out.grown hg HB.out.size (fun r e=>by simp at e;have:=HBB.out;omega)
    clear hi ht htl hcl hfr hg ho c0 f0
    rename World=>wA
    by_cases hlt:i<na
    ·have hlz:(i:Int)<na:=by omega
     have hiz:(i:Int)≤20000:=by have h1:=sizes_len (e.arms.kids.take i);rw [List.length_take,TA.kids_length,← HNA.out] at h1;have:=HT.out;have:=HTL.out;omega
     have hi0:(0:Int)≤i:=by omega
     have HLT:=zh hlt
     obtain⟨ga,oa,rfl,hta⟩:=HAR.out (by omega)
     obtain⟨⟨vs,te⟩,hp⟩:∃ p,e.arms.kids[i]?=some p:=⟨_,zq9 (by rw [TA.kids_length,← HNA.out];exact hlt)⟩
     obtain⟨-,hte⟩:=TAAt.nth e.arms ga oa i vs te hta (by rw [← TA.nth_kids];exact hp)
     obtain⟨op1,num1,site1,xa1,aa1,ab1,xc1,ca1,cb1,hcs,hx1⟩:=hte.cells
     obtain⟨q0,q1,q2,q3,q4,q5,q6,q7⟩:=hcs.kept (zd BW.out)
     have hsum:=sizes_take hp
     have hle:=sizes_take_le (l:=e.arms.kids) (i+1)
     simp only [] at hsum
     have HP:Hid (sizes (e.arms.kids.take (i+1))=sizes (e.arms.kids.take i)+te.size):=hsum
     have CL:=zh (IH.out te (by have:=HSZ.out;have:=HNN.out;omega) (op:=op1) (num:=num1) (site:=site1) (ca:=ca1) (cb:=cb1) (d:=d+1) hx1 BW.out HBB.out HCL.out HFR.out HTL.out (by omega) (by have:=HT.out;have:=HD.out;omega))
     have SUM:Hid (c+1+sizes (e.arms.kids.take i)+te.size≤c+e.size):=by show _≤_;have:=HSZ.out;omega
     clear hlt hta hp hte hcs hx1 hsum hle
     go_wp2_with fail
     refine CL.out.mono ?_
     rintro en w2 ⟨hg2,⟨h1,rfl,h2,h3⟩|⟨h1,rfl⟩⟩
     ·have G2:Hid (w.grownBy w2 (some b)):=grown_trans HG.out hg2 (fun r e=>by simp at e;exact .inl e.symm)
      have O2:Hid (w2.heap[w.heap.size]?=some (.cells #[.int .i64 k,.string nm,.string op,.int .i64 num,.int .i64 site,.slice xa ng xc,.slice (some ⟨ga,oa,none⟩) na ca,.slice ab nb cb] 27 (0,0))):=(hg2.block _ (zq7.1 HO.out).1 (fun e=>by simp at e;have:=BLT.out;omega)).trans HO.out
      have K1:=zh h1
      have K2:=zh h2
      have K3:=zh h3
      clear hg2 h1 h2 h3 z6 z7 q0 q1 q2 q3 q4 q5 q6 q7
      go_wp2_with fail
      go_roundw
      case rel=>exact⟨i+1,t+te.size,HLT.out,by go_num,by have:=HT.out;have:=HP.out;omega,K1.out,K2.out,K3.out,G2.out,O2.out⟩
      case measure=>have:=HLT.out;simp [intOf];omega
     ·have G2:Hid (w.grownBy w2 (some b)):=grown_trans HG.out hg2 (fun r e=>by simp at e;exact .inl e.symm)
      have E:Hid (20000<c+e.size):=by show _<_;have:=SUM.out;have:=HT.out;omega
      clear hg2 h1 z6 z7 q0 q1 q2 q3 q4 q5 q6 q7
      go_wp2_with fail
      go_ret
      exact⟨G2.out,.inr ⟨E.out,rfl⟩⟩
    ·have hlz:(na:Int)≤i:=by omega
     have hdi:decide (i<na)=false:=by simp;omega
     have HT2:Hid (t=c+1+sizes e.arms.kids):=by
      show _=_
      rw [HT.out,zr3 (by rw [TA.kids_length,← HNA.out];omega)]
     clear hlt HT
     go_wp2_with fail
     go_loopw [8] (fun iv wr=>∃ i s:Nat,i≤nb∧iv = .int .i64 i∧s=t+sizes ((e.body.kids e.name).take i)∧s≤20000∧wr.cell? ⟨b,0,none⟩=some (.int .i64 (s:Int))∧wr.frozen? ⟨b,0,none⟩=false∧w.grownBy wr (some b)∧wr.heap[w.heap.size]?=some (.cells #[.int .i64 k,.string nm,.string op,.int .i64 num,.int .i64 site,.slice xa ng xc,.slice aa na ca,.slice ab nb cb] 27 (0,0))) (fun iv _=>nb - (intOf iv).toNat)
     case atStart=>exact⟨0,t,Nat.zero_le _,rfl,by simp [zw],HTL.out,HCL.out,HFR.out,HG.out,HO.out⟩
     case round =>
      obtain⟨i2,s,hi,rfl,hs,hsl,hcl,hfr,hg,ho⟩:=hrel
      have KI2:=zh hi
      have HS:=zh hs
      have HSL:=zh hsl
      have HCL2:=zh hcl
      have HFR2:=zh hfr
      have HG2:=zh hg
      have HO2:=zh ho
      clear z6 z7
      have z7:wr.cell? ⟨w.heap.size,7,none⟩=some (.slice ab nb cb):=by rw [cell_of_row _ _ _ _ _ _ ho];rfl
      have BW2:Hid (Below W.heap.size W wr):=HB.out.grown hg HB.out.size (fun r e=>by simp at e;have:=HBB.out;omega)
      clear hi hs hsl hcl hfr hg ho
      by_cases hlt:i2<nb
      ·have hlz2:(i2:Int)<nb:=by omega
       have hiz:(i2:Int)≤20000:=by have h1:=sizes_len ((e.body.kids e.name).take i2);rw [List.length_take,TB.kids_length,← HNB.out] at h1;have:=HS.out;have:=HSL.out;omega
       have hi0:(0:Int)≤i2:=by omega
       have HLT:=zh hlt
       obtain⟨gb,ob,rfl,htb⟩:=HBO.out (by omega)
       obtain⟨p,hp⟩:∃ p,(e.body.kids e.name)[i2]?=some p:=⟨_,zq9 (by rw [TB.kids_length,← HNB.out];exact hlt)⟩
       obtain⟨te,hn,rfl⟩:∃ te,TB.nth e.body i2=some te∧p=([e.name],te):=by
        rw [TB.nth_kids] at hp
        obtain⟨te,h1,h2⟩:=Option.map_eq_some_iff.1 hp
        exact⟨te,h1,h2.symm⟩
       have hte:=TBAt.nth e.body gb ob i2 te htb hn
       obtain⟨op1,num1,site1,xa1,aa1,ab1,xc1,ca1,cb1,hcs,hx1⟩:=hte.cells
       obtain⟨q0,q1,q2,q3,q4,q5,q6,q7⟩:=hcs.kept (zd BW2.out)
       have hsum:=sizes_take hp
       have hle:=sizes_take_le (l:=e.body.kids e.name) (i2+1)
       simp only [] at hsum
       have HP:Hid (sizes ((e.body.kids e.name).take (i2+1))=sizes ((e.body.kids e.name).take i2)+te.size):=hsum
       have CL:=zh (IH.out te (by have:=HSZ.out;have:=HNN.out;omega) (op:=op1) (num:=num1) (site:=site1) (ca:=ca1) (cb:=cb1) (d:=d+1) hx1 BW2.out HBB.out HCL2.out HFR2.out HSL.out (by omega) (by have:=HS.out;have:=HT2.out;have:=HD.out;omega))
       have SUM:Hid (t+sizes ((e.body.kids e.name).take i2)+te.size≤c+e.size):=by show _≤_;have:=HSZ.out;have:=HT2.out;omega
       clear hlt htb hp hn hte hcs hx1 hsum hle
       go_wp2_with fail
       refine CL.out.mono ?_
       rintro en w2 ⟨hg2,⟨h1,rfl,h2,h3⟩|⟨h1,rfl⟩⟩
       ·have G2:Hid (w.grownBy w2 (some b)):=grown_trans HG2.out hg2 (fun r e=>by simp at e;exact .inl e.symm)
        have O2:Hid (w2.heap[w.heap.size]?=some (.cells #[.int .i64 k,.string nm,.string op,.int .i64 num,.int .i64 site,.slice xa ng xc,.slice aa na ca,.slice (some ⟨gb,ob,none⟩) nb cb] 27 (0,0))):=(hg2.block _ (zq7.1 HO2.out).1 (fun e=>by simp at e;have:=BLT.out;omega)).trans HO2.out
        have K1:=zh h1
        have K2:=zh h2
        have K3:=zh h3
        clear hg2 h1 h2 h3 z7 q0 q1 q2 q3 q4 q5 q6 q7
        go_wp2_with fail
        go_roundw
        case rel=>exact⟨i2+1,s+te.size,HLT.out,by go_num,by have:=HS.out;have:=HP.out;omega,K1.out,K2.out,K3.out,G2.out,O2.out⟩
        case measure=>have:=HLT.out;simp [intOf];omega
       ·have G2:Hid (w.grownBy w2 (some b)):=grown_trans HG2.out hg2 (fun r e=>by simp at e;exact .inl e.symm)
        have E:Hid (20000<c+e.size):=by show _<_;have:=SUM.out;have:=HS.out;omega
        clear hg2 h1 z7 q0 q1 q2 q3 q4 q5 q6 q7
        go_wp2_with fail
        go_ret
        exact⟨G2.out,.inr ⟨E.out,rfl⟩⟩
      ·have hlz2:(nb:Int)≤i2:=by omega
       have hdi2:decide (i2<nb)=false:=by simp;omega
       have SE:Hid (s=c+e.size):=by
        show _=_
        have h1:=HS.out
        rw [zr3 (by rw [TB.kids_length,← HNB.out];omega)] at h1
        have:=HT2.out;have:=HSZ.out;omega
       clear hlt
       go_wp2_with fail
       go_ret
       exact⟨HG2.out,.inl ⟨by have:=SE.out;have:=HSL.out;omega,rfl,by rw [← SE.out];exact HCL2.out,HFR2.out⟩⟩
end Go.Proofs.YtnkahlloahgifaaGreatDoor
