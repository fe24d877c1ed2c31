/- Part. -/
import Derived.Test.YtnkahlloahgifaaGreatDoorVGca
import Derived.Test.YtnkahlloahgifaaGreatDoorVGcc
import Derived.Test.YtnkahlloahgifaaGreatDoorVGgg
import Derived.Test.YtnkahlloahgifaaGreatDoorVOrf
import Derived.Test.YtnkahlloahgifaaGreatDoorVPtj
set_option maxHeartbeats 16000000
set_option maxRecDepth 100000
set_option linter.unusedSimpArgs false
set_option linter.unusedVariables false
namespace Go.Proofs.YtnkahlloahgifaaGreatDoor
open Go.RowKit RG Go.Maps RF
variable {w w':World} {fb:Nat} {F:List Nd} {sva:Option Addr} {svc ug uo uc ng no nc bg bo bc ag ao ac:Nat} {so:Value}
theorem posn_name {q:Nm→Bool}{p n:Nat}(hn:n=(vars F).length) (h:Fo F) (hp:p∈posn F q n):(vars F).getD p ⟨#[]⟩∈named F q∧place F ((vars F).getD p ⟨#[]⟩)=p∧p<n:=by
 obtain⟨h1,h2⟩:=mem_posn.1 hp
 refine⟨mem_named.2 ⟨getD_mem (by omega),h2⟩,place_getD h.once (by omega),h1⟩
theorem named_posn {q:Nm→Bool}{x:Nm}(h:Fo F) (hx:x∈named F q):place F x∈posn F q (vars F).length:=by
 rw [← posn_place h.once]
 exact List.mem_map.2 ⟨x,hx,rfl⟩
theorem LivesR.keep2 {v:Value}(h:LivesR w v F) (hb:Below w.heap.size w w'):LivesR w' v F:=h.kept (zd hb)
theorem rightR_any (h:FlF w fb F) {regs:Int}{v:Value}{vs:List (Nm×Int)}(hv:VarsAt w v vs) (hvl:vs.length≤9223372036854775807) :
  Calls Tryz.prog 47 #[.pointer (some ⟨fb,0,none⟩),.agg #[.int .i64 regs,v]] w fun en w'=>Below w.heap.size w w'∧en = .returned (.bool (right F (nd F 0).binds.length regs vs)):=by
 obtain⟨sva,svc,ug,uo,uc,ng,no,nc,bg,bo,bc,ag,ao,ac,so,hC⟩:=h.cells
 obtain⟨va,vc,rfl,hvat⟩:=hv
 have HF:=zh h
 have HC:=zh hC
 have VAT0:=zh hvat
 obtain⟨ans,hans⟩:∃ r,r=right F (nd F 0).binds.length regs vs:=⟨_,rfl⟩
 obtain⟨np,hnp⟩:∃ n,n=(nd F 0).binds.length:=⟨_,rfl⟩
 obtain⟨nf,hnf⟩:∃ n,n=(vars F).length:=⟨_,rfl⟩
 obtain⟨nv,hnv⟩:∃ n,n=vs.length:=⟨_,rfl⟩
 obtain⟨n,hn⟩:∃ n,n=F.length:=⟨_,rfl⟩
 rw [← hans]
 rw [← hnp] at hans
 rw [← hnv] at VAT0 ⊢
 have HNP:=zh hnp
 have HNF:=zh hnf
 have HNV:=zh hnv
 have HN:=zh hn
 have ANS:=zh hans
 have nz:(n:Int)≤300:=by have:=h.len;omega
 have nfz:(nf:Int)≤300:=by have:=h.few;omega
 have nvl:(nv:Int)≤9223372036854775807:=by omega
 obtain⟨w1,hw1⟩:∃ W,W=w.alloc (.cells #[.int .i64 regs,.slice va nv vc] 56):=⟨_,rfl⟩
 have B1:Hid (Below w.heap.size w w1):=by show Below _ _ _;rw [hw1];exact(zs9 _ _).alloc (zr4 _) _
 have BX:Hid (w1.heap[w.heap.size]?=some (.cells #[.int .i64 regs,.slice va nv vc] 56 (0,0))):=by show _=_;rw [hw1];exact zs2 w _
 have b0:w1.cell? ⟨w.heap.size,0,none⟩=some (.int .i64 regs):=by rw [zb _ _ 0 _ _ _ BX.out];rfl
 have b1:w1.cell? ⟨w.heap.size,1,none⟩=some (.slice va nv vc):=by rw [zb _ _ 1 _ _ _ BX.out];rfl
 have t0:w1.cell? ⟨fb,0,none⟩=some (.slice sva nf svc):=by rw [zb _ _ 0 _ _ _ (zm B1.out hC.row),hnf];rfl
 have S1:Hid (w1.heap.size=w.heap.size+1):=by show _=_;rw [hw1,World.size_alloc]
 have NPB:Hid (np=(BR F 0).length):=by show _=_;rw [hnp];unfold BR;rw [List.length_map]
 clear h hC hvat hvl hnp hnf hnv hn hans
 go_enter Tryz.func47,Tryz.ntmps47
 go_upto_region 1 with fail
 rw [← hw1]
 clear hw1
 by_cases h1:regs<0
 ·have d1:decide (regs<0)=true:=by simp [h1]
  have E:Hid (ans=false):=by show _=_;rw [ANS.out];exact right_not fun h=>by omega
  clear h1
  go_quiet (fail)
  go_wp2_with fail
  go_ret
  exact⟨B1.out.trans (zj _ _ _),by rw [E.out];rfl⟩
 have d1:decide (regs<0)=false:=by simp [h1]
 by_cases h2:20000<regs
 ·have d2:decide (20000<regs)=true:=by simp [h2]
  have E:Hid (ans=false):=by show _=_;rw [ANS.out];exact right_not fun h=>by omega
  clear h1 h2
  go_quiet (fail)
  go_wp2_with fail
  go_ret
  exact⟨B1.out.trans (zj _ _ _),by rw [E.out];rfl⟩
 have d2:decide (20000<regs)=false:=by simp [h2]
 by_cases h3:nv=nf
 rotate_left
 ·have d3:((nv:Int) != nf)=true:=by simp;omega
  have E:Hid (ans=false):=by show _=_;rw [ANS.out];exact right_not fun h=>h3 (by rw [HNV.out,HNF.out];exact h.2.2.1)
  clear h1 h2 h3
  go_quiet (fail)
  go_wp2_with fail
  go_ret
  exact⟨B1.out.trans (zj _ _ _),by rw [E.out];rfl⟩
 have REG:Hid (0≤regs∧regs≤20000):=by show _∧_;omega
 subst h3
 clear h1 h2
 have d3:((nv:Int) != nv)=false:=by simp
 go_quiet (fail)
 go_wp2_with fail
 clear t0 b0 b1 d1 d2 d3
 go_loopw [5] (fun iv wr=>∃ i:Nat,i≤nv∧iv = .int .i64 i∧Below w1.heap.size w1 wr∧∀ j,j<i→OkAt F np regs vs j) (fun iv _=>nv - (intOf iv).toNat)
 case atStart=>exact⟨0,Nat.zero_le _,rfl,zj _ _ _,fun j h=>absurd h (by omega)⟩
 rename World=>wo
 obtain⟨i,hi,rfl,hb,hok⟩:=hrel
 have KI:=zh hi
 have KB:=zh hb
 have OK:=zh hok
 have KW:Hid (Below w.heap.size w wo):=B1.out.trans (hb.mono B1.out.size)
 have BXo:Hid (wo.heap[w.heap.size]?=some (.cells #[.int .i64 regs,.slice va nv vc] 56 (0,0))):=(hb.block _ (by have:=S1.out;omega)).trans BX.out
 have b1:wo.cell? ⟨w.heap.size,1,none⟩=some (.slice va nv vc):=by rw [zb _ _ 1 _ _ _ BXo.out];rfl
 clear hi hb hok
 by_cases hlt:i<nv
 ·have hlz:(i:Int)<nv:=by omega
  have hi0:(0:Int)≤i:=by omega
  have HLT:=zh hlt
  obtain⟨⟨x,r⟩,hx⟩:∃ m,vs[i]?=some m:=⟨_,zq9 (by have:=HNV.out;omega)⟩
  obtain⟨z,hz⟩:∃ z,(vars F)[i]?=some z:=⟨_,zq9 (by have:=HNF.out;omega)⟩
  obtain⟨vg,vo,rfl,vat⟩:=VAT0.out (by have:=HNV.out;omega)
  obtain⟨ng,no,rfl,hn0⟩:=HC.out.names i (by have:=HNF.out;omega)
  rw [zt4,hz] at hn0
  have y0:=zd KW.out _ _ (vat i _ hx).1
  have y1:=zd KW.out _ _ (vat i _ hx).2
  have n0:=zd KW.out _ _ hn0
  simp only [Option.getD_some] at y0 y1 n0
  have HX:=zh hx
  have HZ:=zh hz
  have b0:wo.cell? ⟨w.heap.size,0,none⟩=some (.int .i64 regs):=by rw [zb _ _ 0 _ _ _ BXo.out];rfl
  have t0:wo.cell? ⟨fb,0,none⟩=some (.slice (some ⟨ng,no,none⟩) nv svc):=by rw [zb _ _ 0 _ _ _ (zm KW.out HC.out.row),HNF.out];rfl
  have t3:wo.cell? ⟨fb,3,none⟩=some (.slice (some ⟨bg,bo,none⟩) n bc):=by rw [zb _ _ 3 _ _ _ (zm KW.out HC.out.row),HN.out];rfl
  obtain⟨bad,bcc,s0,-⟩:=HC.out.binds 0 HC.out.fo.pos
  have s0:=zd KW.out _ _ s0
  rw [← NPB.out,Nat.add_zero] at s0
  have BAD:Hid (¬ OkAt F np regs vs i→ans=false):=fun h=>by rw [ANS.out];exact right_not fun h'=>h fun x r hx=>h'.2.2.2.1 i x r hx
  have npos:(0:Int)<n:=by have:=HC.out.fo.pos;have:=HN.out;omega
  clear hlt hx hz vat hn0
  go_upto_region 6 with fail
  by_cases h1:x=z
  rotate_left
  ·have d1':(x.toList==z.toList)=false:=by rw [bytes_beq];simp [h1]
   have d1:(x.toList != z.toList)=true:=by show (!(x.toList==z.toList))=true;rw [bytes_beq];simp [h1]
   have E:Hid (ans=false):=BAD.out fun h=>h1 (by have:=(h x r HX.out).1;rw [HZ.out,zt3] at this;exact this.symm)
   clear h1
   go_quiet (fail)
   go_wp2_with fail
   go_ret
   exact⟨KW.out.trans (zj _ _ _),by rw [E.out];rfl⟩
  have d1':(x.toList==z.toList)=true:=by rw [bytes_beq];simp [h1]
  have d1:(x.toList != z.toList)=false:=by show (!(x.toList==z.toList))=false;rw [bytes_beq];simp [h1]
  have XZ:=zh h1
  clear h1
  by_cases h2:r<0
  ·have d2:decide (r<0)=true:=by simp [h2]
   have E:Hid (ans=false):=BAD.out fun h=>by have:=(h x r HX.out).2.1;omega
   clear h2
   go_quiet (fail)
   go_wp2_with fail
   go_ret
   exact⟨KW.out.trans (zj _ _ _),by rw [E.out];rfl⟩
  have d2:decide (r<0)=false:=by simp [h2]
  by_cases h3:regs≤r
  ·have d3:decide (regs≤r)=true:=by simp [h3]
   have E:Hid (ans=false):=BAD.out fun h=>by have:=(h x r HX.out).2.2.1;omega
   clear h2 h3
   go_quiet (fail)
   go_wp2_with fail
   go_ret
   exact⟨KW.out.trans (zj _ _ _),by rw [E.out];rfl⟩
  have d3:decide (regs≤r)=false:=by simp [h3]
  have RR:Hid (0≤r∧r<regs):=by show _∧_;omega
  clear h2 h3
  by_cases h4:i<np
  ·have d4:decide (i<np)=true:=by simp [h4]
   have d4':decide ((i:Int)<np)=true:=by simp;omega
   by_cases h5:r=i
   ·have d5:(r != (i:Int))=false:=by simp [h5]
    have GOOD:Hid (∀ j,j<i+1→OkAt F np regs vs j):=fun j hj=>by
     by_cases e:j=i
     ·subst e
      intro x' r' hx'
      rw [HX.out,zt3,Prod.mk.injEq] at hx'
      obtain⟨rfl,rfl⟩:=hx'
      exact⟨by rw [HZ.out,XZ.out],RR.out.1,RR.out.2,fun _=>h5⟩
     exact OK.out j (by omega)
    clear h4 h5
    go_quiet (fail)
    go_wp2_with fail
    go_roundw
    case rel=>exact⟨i+1,HLT.out,by go_num,KB.out.trans (zj _ _ _),GOOD.out⟩
    case measure=>have:=HLT.out;simp [intOf];omega
   have d5:(r != (i:Int))=true:=by simp [h5]
   have E:Hid (ans=false):=BAD.out fun h=>h5 ((h x r HX.out).2.2.2 h4)
   clear h4 h5
   go_quiet (fail)
   go_wp2_with fail
   go_ret
   exact⟨KW.out.trans (zj _ _ _),by rw [E.out];rfl⟩
  have d4:decide (i<np)=false:=by simp;omega
  have d4':decide ((i:Int)<np)=false:=by simp;omega
  have GOOD:Hid (∀ j,j<i+1→OkAt F np regs vs j):=fun j hj=>by
   by_cases e:j=i
   ·subst e
    intro x' r' hx'
    rw [HX.out,zt3,Prod.mk.injEq] at hx'
    obtain⟨rfl,rfl⟩:=hx'
    exact⟨by rw [HZ.out,XZ.out],RR.out.1,RR.out.2,fun h=>absurd h h4⟩
   exact OK.out j (by omega)
  clear h4
  go_quiet (fail)
  go_wp2_with fail
  go_roundw
  case rel=>exact⟨i+1,HLT.out,by go_num,KB.out.trans (zj _ _ _),GOOD.out⟩
  case measure=>have:=HLT.out;simp [intOf];omega
 obtain rfl:i=nv:=by have:=KI.out;omega
 have hdi:decide (i<i)=false:=by simp
 have REGV:Hid (∀ p,p<i→∃ x r,vs[p]?=some (x,r)∧regOf F vs ((vars F).getD p ⟨#[]⟩)=r):=fun p hp=>by
  obtain⟨⟨x,r⟩,hx⟩:∃ m,vs[p]?=some m:=⟨_,zq9 (by have:=HNV.out;omega)⟩
  refine⟨x,r,hx,?_⟩
  refine regOf_at (x:=x) ?_
  rw [place_getD HC.out.fo.once (by have:=HNF.out;omega)]
  exact hx
 obtain⟨reg,hreg⟩:∃ f,f=regOf F vs:=⟨_,rfl⟩
 have HREG:=zh hreg
 have FIN:Hid ((∀ j,j<n→rightAt F reg j=true)→ans=true):=fun h=>by
  rw [ANS.out]
  refine right_done REG.out.1 REG.out.2 (by rw [← HNV.out,HNF.out]) (fun j hj=>OK.out j (by have:=HNV.out;omega)) (fun j hj=>?_)
  rw [← HREG.out];exact h j (by rw [HN.out];exact hj)
 have BADR:Hid (∀ j,j<F.length→¬ ApI F reg j (nd F j).binds.length→ans=false):=fun j hj h=>by
  rw [ANS.out]
  exact right_not fun h'=>h (apI_end.1 (by rw [HREG.out];exact h'.2.2.2.2 j hj))
 rw [← hreg] at REGV
 have LV:=zh (HF.out.keep KW.out).lives
 clear hlt hreg OK KB
 go_wp2_with fail
 refine LV.out.mono ?_
 rintro en w2 ⟨hb2,lt,rfl,hlt⟩
 have B2:Hid (Below w.heap.size w w2):=KW.out.trans (hb2.mono KW.out.size)
 have BX2:Hid (w2.heap[w.heap.size]?=some (.cells #[.int .i64 regs,.slice va i vc] 56 (0,0))):=(hb2.block _ (zq7.1 BXo.out).1).trans BXo.out
 have S2:Hid (w.heap.size<w2.heap.size):=(zq7.1 BX2.out).1
 have HL:=zh hlt
 obtain⟨lg,lc,rfl,-⟩:=hlt.cells
 rw [← HN.out] at HL ⊢
 clear hb2 hlt LV b1
 go_wp2_with fail
 go_loopw [7] (fun iv wr=>∃ j:Nat,j≤n∧iv = .int .i64 j∧Below w2.heap.size w2 wr∧∀ t,t<j→rightAt F reg t=true) (fun iv _=>n - (intOf iv).toNat)
 case atStart=>exact⟨0,Nat.zero_le _,rfl,zs9 _ _,fun j h=>absurd h (Nat.not_lt_zero _)⟩
 rename World=>V
 obtain⟨j,hj,rfl,hb,hall⟩:=hrel
 have KJ:=zh hj
 have KB:=zh hb
 have KA:=zh hall
 have BW:Hid (Below w.heap.size w V):=B2.out.trans (hb.mono B2.out.size)
 have c3:V.cell? ⟨fb,3,none⟩=some (.slice (some ⟨bg,bo,none⟩) n bc):=by rw [zb _ _ 3 _ _ _ (zm BW.out HC.out.row),HN.out];rfl
 clear hj hb hall
 by_cases hlt:j<n
 ·have hjz:(j:Int)<n:=by omega
  have hj0:(0:Int)≤j:=by omega
  have JLT:=zh hlt
  have JF:Hid (j<F.length):=by rw [← HN.out];exact hlt
  have CR:=zh (crosses_any (HF.out.keep BW.out) (HL.out.keep2 KB.out) JF.out)
  clear hlt
  go_wp2_with fail
  refine CR.out.mono ?_
  rintro en w3 ⟨hb3,u3,rfl,hu3⟩
  have B3:Hid (Below w2.heap.size w2 w3):=KB.out.trans (hb3.mono KB.out.size)
  have BW3:Hid (Below w.heap.size w w3):=B2.out.trans (B3.out.mono B2.out.size)
  obtain⟨l,hl⟩:∃ l,l=posn F (cross F j) (vars F).length:=⟨_,rfl⟩
  rw [← hl] at hu3
  have HLL:=zh hl
  obtain⟨-,xa,xc,rfl,xat⟩:=id hu3
  have XAT:=zh xat
  obtain⟨nl,hnl⟩:∃ n,n=l.length:=⟨_,rfl⟩
  have NLZ:Hid (nl≤300):=by show _≤_;rw [hnl,hl];exact zr5 (posn_len _ _ _) HF.out.few
  rw [← hnl] at XAT ⊢
  have HNL:=zh hnl
  have nlz:(nl:Int)≤300:=by have:=NLZ.out;omega
  obtain⟨br,hbr⟩:∃ l,l=BR F j:=⟨_,rfl⟩
  obtain⟨bad,bcc,b1,b2⟩:=HC.out.binds j JF.out
  have BL:=zh (HC.out.blen JF.out)
  rw [← hbr] at b1 b2 BL
  have HBR:=zh hbr
  obtain⟨bs,hbs⟩:∃ l,l=(nd F j).binds:=⟨_,rfl⟩
  have HBS:=zh hbs
  obtain⟨nb,hnb⟩:∃ n,n=br.length:=⟨_,rfl⟩
  have BSL:Hid (bs.length=nb):=by show _=_;rw [hbs,hnb,hbr];unfold BR;rw [List.length_map]
  have BRS:Hid (∀ (k:Nat) (x:Nm),bs[k]?=some x→br[k]?=some (place F x)):=fun k x hx=>by
   rw [HBR.out];unfold BR;rw [List.getElem?_map,← HBS.out,hx];rfl
  have BVS:Hid (∀ x∈bs,x∈vars F):=fun x hx=>by rw [HBS.out] at hx;exact binds_vars JF.out hx
  rw [← hnb] at b1 b2 BL
  have HNB:=zh hnb
  have BB1:=zh b1
  have BB2:=zh b2
  have nbz:(nb:Int)≤300:=by have:=BL.out;omega
  clear hb3 hu3 hl xat hnl hbr b1 b2 hnb CR c3 hbs
  go_wp2_with fail
  go_loopw [9] (fun kv wr=>∃ k:Nat,k≤nb∧kv = .int .i64 k∧Below w3.heap.size w3 wr∧ApI F reg j k) (fun kv _=>nb - (intOf kv).toNat)
  case atStart=>exact⟨0,Nat.zero_le _,rfl,zs9 _ _,apI_zero _ _ _⟩
  rename World=>wk
  obtain⟨k,hk,rfl,hb,hap⟩:=hrel
  have KK:=zh hk
  have KB2:=zh hb
  have KAP:=zh hap
  have BWk:Hid (Below w.heap.size w wk):=BW3.out.trans (hb.mono BW3.out.size)
  have c3:wk.cell? ⟨fb,3,none⟩=some (.slice (some ⟨bg,bo,none⟩) n bc):=by rw [zb _ _ 3 _ _ _ (zm BWk.out HC.out.row),HN.out];rfl
  have y1:=zd BWk.out _ _ BB1.out
  clear hk hb hap
  by_cases hlt:k<nb
  ·have hkz:(k:Int)<nb:=by omega
   have hk0:(0:Int)≤k:=by omega
   have KLT:=zh hlt
   obtain⟨x,hx⟩:∃ x,bs[k]?=some x:=⟨_,zq9 (by have:=BSL.out;omega)⟩
   have XV:=zh (BVS.out x (zr1 hx))
   have hp:=BRS.out k x hx
   obtain⟨p,hpp⟩:∃ p,p=place F x:=⟨_,rfl⟩
   rw [← hpp] at hp
   have hpv:p<i:=by rw [HNF.out,hpp];exact place_lt XV.out
   have hpz:(p:Int)<i:=by omega
   have hp0:(0:Int)≤p:=by omega
   obtain⟨g2,o2,rfl,hx1⟩:=(show SlAt w (.slice bad br.length bcc) br.length (nats br) by have:=BB2.out;rw [HNB.out] at this;exact this).nat hp
   have x1:=zd BWk.out _ _ hx1
   obtain⟨xn,r,hvr,hreg⟩:=REGV.out p hpv
   have RX:Hid (reg x=r):=by
    show _=_
    rw [← hreg,hpp]
    congr 1
    have:=place_at XV.out
    rw [zt4,this];rfl
   obtain⟨vg,vo,rfl,vat⟩:=VAT0.out (by have:=HNV.out;omega)
   have VAT:=zh vat
   have VR:=zh (vat p _ hvr).2
   have HXB:=zh hx
   clear hlt hx hpp hp hx1 hvr hreg vat hpv
   go_wp2_with fail
   clear x1 y1 c3
   go_loopw [11] (fun mv wr=>∃ m:Nat,m≤nl∧mv = .int .i64 m∧Below w3.heap.size w3 wr∧∀ t q,t<m→l[t]?=some q→reg ((vars F).getD q ⟨#[]⟩)≠r) (fun mv _=>nl - (intOf mv).toNat)
   case atStart=>exact⟨0,Nat.zero_le _,rfl,KB2.out,fun t q h=>absurd h (Nat.not_lt_zero _)⟩
   rename World=>wm
   obtain⟨m,hm,rfl,hb,hne⟩:=hrel
   have MK:=zh hm
   have MB:=zh hb
   have MN:=zh hne
   have BWm:Hid (Below w.heap.size w wm):=BW3.out.trans (hb.mono BW3.out.size)
   have m1:wm.cell? ⟨w.heap.size,1,none⟩=some (.slice (some ⟨vg,vo,none⟩) i vc):=by rw [zb _ _ 1 _ _ _ (((B3.out.trans (hb.mono B3.out.size)).block _ S2.out).trans BX2.out)];rfl
   have v1:=zd BWm.out _ _ VR.out
   (try simp only [] at v1)
   clear hm hb hne
   by_cases hlt:m<nl
   ·have hmz:(m:Int)<nl:=by omega
    have hm0:(0:Int)≤m:=by omega
    have MLT:=zh hlt
    obtain⟨q,hq⟩:∃ q,l[m]?=some q:=⟨_,zq9 (by have:=HNL.out;omega)⟩
    have QP:=zh (posn_name rfl HC.out.fo (by have h1:=zr1 hq;rw [HLL.out] at h1;exact h1))
    have hqv:q<i:=by have:=QP.out.2.2;have:=HNF.out;omega
    have hqz:(q:Int)<i:=by omega
    have hq0:(0:Int)≤q:=by omega
    obtain⟨g3,o3,rfl,xat⟩:=XAT.out (by omega)
    have z1:=zd MB.out _ _ (xat m _ (nats_at hq))
    obtain⟨yn,s,hvs,hrs⟩:=REGV.out q hqv
    have v2:=zd BWm.out _ _ (VAT.out q _ hvs).2
    (try simp only [] at v2)
    have HRS:=zh hrs
    have HQ:=zh hq
    clear hlt hq hqv xat hvs hrs
    go_upto_region 20 with fail
    by_cases hsr:s=r
    ·have d1:(s==r)=true:=by simp [hsr]
     have E:Hid (ans=false):=BADR.out j JF.out fun hA=>by
      have h1:=(hA k x (by rw [← HBS.out,BSL.out];exact KLT.out) (by rw [← HBS.out];exact HXB.out)).1 _ QP.out.1
      rw [HRS.out,RX.out] at h1
      exact h1 hsr
     clear hsr
     go_quiet (fail)
     go_wp2_with fail
     go_ret
     exact⟨BWm.out.trans (zj _ _ _),by rw [E.out];rfl⟩
    have d1:(s==r)=false:=by simp [hsr]
    have NX:Hid (∀ t q,t<m+1→l[t]?=some q→reg ((vars F).getD q ⟨#[]⟩)≠r):=fun t q' ht hq'=>by
     by_cases e:t=m
     ·subst e
      rw [HQ.out] at hq'
      obtain rfl:=Option.some.inj hq'
      rw [HRS.out];exact hsr
     exact MN.out t q' (by omega) hq'
    clear hsr
    go_quiet (fail)
    go_wp2_with fail
    go_roundw
    case rel=>exact⟨m+1,MLT.out,by go_num,MB.out.trans (zj _ _ _),NX.out⟩
    case measure=>have:=MLT.out;simp [intOf];omega
   have hmz:(nl:Int)≤m:=by omega
   have hdm:decide (m<nl)=false:=by simp;omega
   have A1:Hid (∀ y∈named F (cross F j),reg y≠reg x):=fun y hy=>by
    have h1:=named_posn HC.out.fo hy
    rw [← HLL.out] at h1
    obtain⟨t,ht⟩:=List.getElem?_of_mem h1
    have h2:=MN.out t _ (by have:=(zq8.1 ht).1;have:=HNL.out;omega) ht
    have h3:=place_at (mem_named.1 hy).1
    rw [zt4,h3] at h2
    rw [RX.out];exact h2
   have MB0:=MB
   clear hlt MN m1 v1
   go_wp2_with fail
   go_loopw [12] (fun mv wr=>∃ t:Nat,t≤k∧mv = .int .i64 t∧Below w3.heap.size w3 wr∧∀ m y,m<t→bs[m]?=some y→reg y≠reg x) (fun mv _=>k - (intOf mv).toNat)
   case atStart=>exact⟨0,Nat.zero_le _,rfl,MB0.out,fun t q h=>absurd h (Nat.not_lt_zero _)⟩
   rename World=>wt
   obtain⟨t,ht,rfl,hb,hne⟩:=hrel
   have TK:=zh ht
   have TB:=zh hb
   have TN:=zh hne
   have BWt:Hid (Below w.heap.size w wt):=BW3.out.trans (hb.mono BW3.out.size)
   have m1:wt.cell? ⟨w.heap.size,1,none⟩=some (.slice (some ⟨vg,vo,none⟩) i vc):=by rw [zb _ _ 1 _ _ _ (((B3.out.trans (hb.mono B3.out.size)).block _ S2.out).trans BX2.out)];rfl
   have v1:=zd BWt.out _ _ VR.out
   (try simp only [] at v1)
   have c3:wt.cell? ⟨fb,3,none⟩=some (.slice (some ⟨bg,bo,none⟩) n bc):=by rw [zb _ _ 3 _ _ _ (zm BWt.out HC.out.row),HN.out];rfl
   have y1:=zd BWt.out _ _ BB1.out
   clear ht hb hne
   by_cases hlt:t<k
   ·have htz:(t:Int)<k:=by omega
    have htb:(t:Int)<nb:=by omega
    have ht0:(0:Int)≤t:=by omega
    have TLT:=zh hlt
    obtain⟨y,hy⟩:∃ y,bs[t]?=some y:=⟨_,zq9 (by have:=BSL.out;have:=KLT.out;omega)⟩
    have YV:=zh (BVS.out y (zr1 hy))
    have hq:=BRS.out t y hy
    obtain⟨q,hqq⟩:∃ q,q=place F y:=⟨_,rfl⟩
    rw [← hqq] at hq
    have hqv:q<i:=by rw [HNF.out,hqq];exact place_lt YV.out
    have hqz:(q:Int)<i:=by omega
    have hq0:(0:Int)≤q:=by omega
    obtain⟨g4,o4,e4,hx4⟩:=(show SlAt w (.slice (some ⟨g2,o2,none⟩) br.length bcc) br.length (nats br) by have:=BB2.out;rw [HNB.out] at this;exact this).nat hq
    obtain⟨rfl,rfl⟩:=by simpa using e4
    have z1:=zd BWt.out _ _ hx4
    obtain⟨yn,s,hvs,hrs⟩:=REGV.out q hqv
    have v2:=zd BWt.out _ _ (VAT.out q _ hvs).2
    (try simp only [] at v2)
    have RY:Hid (reg y=s):=by
     show _=_
     rw [← hrs,hqq]
     congr 1
     have:=place_at YV.out
     rw [zt4,this];rfl
    have HY:=zh hy
    clear hlt hy hqq hq hqv hx4 e4 hvs hrs
    go_upto_region 25 with fail
    by_cases hsr:s=r
    ·have d1:(s==r)=true:=by simp [hsr]
     have E:Hid (ans=false):=BADR.out j JF.out fun hA=>by
      have h1:=(hA k x (by rw [← HBS.out,BSL.out];exact KLT.out) (by rw [← HBS.out];exact HXB.out)).2 t y TLT.out (by rw [← HBS.out];exact HY.out)
      rw [RY.out,RX.out] at h1
      exact h1 hsr
     clear hsr
     go_quiet (fail)
     go_wp2_with fail
     go_ret
     exact⟨BWt.out.trans (zj _ _ _),by rw [E.out];rfl⟩
    have d1:(s==r)=false:=by simp [hsr]
    have NX:Hid (∀ m y,m<t+1→bs[m]?=some y→reg y≠reg x):=fun m' y' hm' hy'=>by
     by_cases e:m'=t
     ·subst e
      rw [HY.out] at hy'
      obtain rfl:=Option.some.inj hy'
      rw [RY.out,RX.out];exact hsr
     exact TN.out m' y' (by omega) hy'
    clear hsr
    go_quiet (fail)
    go_wp2_with fail
    go_roundw
    case rel=>exact⟨t+1,TLT.out,by go_num,TB.out.trans (zj _ _ _),NX.out⟩
    case measure=>have:=TLT.out;simp [intOf];omega
   have htz:(k:Int)≤t:=by omega
   have hdt:decide (t<k)=false:=by simp;omega
   have AP:Hid (ApI F reg j (k+1)):=apI_succ KAP.out (by rw [← HBS.out];exact HXB.out) A1.out (fun m y hm hy=>TN.out m y (by have:=TK.out;omega) (by rw [HBS.out];exact hy))
   clear hlt
   go_wp2_with fail
   go_roundw
   case rel=>exact⟨k+1,KLT.out,by go_num,TB.out,AP.out⟩
   case measure=>have:=KLT.out;simp [intOf];omega
  have hkz:(nb:Int)≤k:=by omega
  have hdk:decide (k<nb)=false:=by simp;omega
  have RA:Hid (∀ t,t<j+1→rightAt F reg t=true):=fun t ht=>by
   by_cases e:t=j
   ·subst e
    refine apI_end.2 ?_
    rw [← HBS.out,BSL.out]
    have h1:=KAP.out
    have:k=nb:=by have:=KK.out;omega
    rw [this] at h1;exact h1
   exact KA.out t (by omega)
  clear hlt
  go_wp2_with fail
  go_roundw
  case rel=>exact⟨j+1,JLT.out,by go_num,B3.out.trans (KB2.out.mono B3.out.size),RA.out⟩
  case measure=>have:=JLT.out;simp [intOf];omega
 obtain rfl:j=n:=by have:=KJ.out;omega
 have hdj:decide (j<j)=false:=by simp
 have E:Hid (ans=true):=FIN.out KA.out
 clear hlt
 go_wp2_with fail
 go_ret
 exact⟨BW.out,by rw [E.out];rfl⟩
end Go.Proofs.YtnkahlloahgifaaGreatDoor
namespace Go.Proofs.YtnkahlloahgifaaGreatDoor
open Go.RowKit RG Go.Maps
theorem regR_any {w:World}{n0:Int}{v:Value}{l:List (Nm×Int)}(x:Nm) (h:VarsAt w v l) (hl:l.length≤9223372036854775807):Calls Tryz.prog 45 #[.agg #[.int .i64 n0,v],.string x] w (RgP w (regFind l x)):=by
 obtain⟨ad,c,rfl,hat⟩:=h
 have HAT:=zh hat
 obtain⟨n,hn⟩:∃ n,n=l.length:=⟨_,rfl⟩
 rw [← hn] at hl ⊢
 have HN:=zh hn
 have hnz:(n:Int)≤9223372036854775807:=by omega
 obtain⟨r,hr⟩:∃ r,r=regFind l x:=⟨_,rfl⟩
 rw [← hr]
 have HR:=zh hr
 have B0:Hid (Below w.heap.size w (w.alloc (.cells #[.int .i64 n0,.slice ad n c] 56))):=(zs9 _ _).alloc (zr4 _) _
 have O0:Hid ((w.alloc (.cells #[.int .i64 n0,.slice ad n c] 56)).heap[w.heap.size]?=some (.cells #[.int .i64 n0,.slice ad n c] 56 (0,0))):=zs2 w _
 clear hat hn hl hr
 go_enter Tryz.func45,Tryz.ntmps45
 go_wp2_with fail
 go_loopw [6] (fun iv wr=>∃ k:Nat,k≤n∧iv = .int .i64 k∧Below w.heap.size w wr∧wr.heap[w.heap.size]?=some (.cells #[.int .i64 n0,.slice ad n c] 56 (0,0))∧r=regFind (l.drop k) x) (fun iv _=>n - (intOf iv).toNat)
 case atStart=>exact⟨0,Nat.zero_le _,rfl,B0.out,O0.out,HR.out⟩
 obtain⟨k,hk,rfl,hb,hs,hq⟩:=hrel
 have HK:=zh hk
 have HB:=zh hb
 have HQ:=zh hq
 have HS:=zh hs
 have f1:wr.cell? ⟨w.heap.size,1,none⟩=some (.slice ad n c):=by rw [zb _ _ 1 _ _ _ hs];rfl
 clear hk hb hq hs
 by_cases hlt:k<n
 ·obtain⟨g,o,rfl,hat⟩:=HAT.out (by have:=HN.out;omega)
  obtain⟨⟨y,rg⟩,hx⟩:∃ m,l[k]?=some m:=⟨_,zq9 (by have:=HN.out;omega)⟩
  obtain⟨y0,y1⟩:=hat k _ hx
  have y0:=zd HB.out _ _ y0
  have y1:=zd HB.out _ _ y1
  simp only [] at y0 y1
  have HLT:=zh hlt
  have hlz:(k:Int)<n:=by omega
  have hk0:(0:Int)≤k:=by omega
  have DR:Hid (l.drop k=(y,rg) :: l.drop (k+1)):=by
   show _=_
   have hk:=(zq8.1 hx).1
   rw [zq9 hk,zt3] at hx
   rw [List.drop_eq_getElem_cons hk,hx]
  clear hat hx hlt
  by_cases hy:y=x
  ·have E2:Hid (r=some rg):=by show _=_;rw [HQ.out,DR.out];unfold regFind;rw [List.find?_cons_of_pos (by simp [hy])];rfl
   have d1:(y.toList==x.toList)=true:=by rw [bytes_beq];simp [hy]
   clear hy
   go_wp2_with fail
   go_ret2
   exact⟨HB.out,by rw [E2.out];rfl⟩
  have E2:Hid (r=regFind (l.drop (k+1)) x):=by show _=_;rw [HQ.out,DR.out];unfold regFind;rw [List.find?_cons_of_neg (by simp [hy])]
  have d1:(y.toList==x.toList)=false:=by rw [bytes_beq];simp [hy]
  clear hy
  go_wp2_with fail
  go_roundw
  case rel=>exact⟨k+1,HLT.out,by go_num,HB.out,HS.out,E2.out⟩
  case measure=>have:=HLT.out;simp [intOf];omega
 obtain rfl:k=n:=by have:=HK.out;omega
 have hdi:decide (k<k)=false:=by simp
 have E2:Hid (r=none):=by
  show _=_
  rw [HQ.out,List.drop_of_length_le (by have:=HN.out;omega)];rfl
 clear hlt
 go_wp2_with fail
 go_ret2
 exact⟨HB.out,by rw [E2.out];rfl⟩
end Go.Proofs.YtnkahlloahgifaaGreatDoor
namespace Go.Proofs.YtnkahlloahgifaaGreatDoor
open Go.RowKit RG Go.Maps RF
theorem checks_walk {w:World}(hE:Lx.Env w) {v:Value}{ps:List Nm}{e:TE}(h:FnOk Lx.Env isNm w v ps e) {oregs:Int}{u:Value}{vs:List (Nm×Int)}(hu:VarsAt w u vs) (hvl:vs.length≤9223372036854775807) (s:Nm):Calls Tryz.prog 10 #[v,.agg #[.int .i64 oregs,u],.string s] w (SnP w):=by
 have HK:=zh h
 obtain⟨ova,ovc,rfl,-⟩:=id hu
 have HU:=zh hu
 obtain⟨onv,hon⟩:∃ n,n=vs.length:=⟨_,rfl⟩
 rw [← hon] at HU ⊢
 have HVL:Hid (vs.length≤9223372036854775807):=hvl
 clear hu hvl hon
 obtain⟨nm,op,ch,pv,va,num,site,aa,ab,ca,cb,ga,oa,gb,ob,rfl,hp,hat,-⟩:=h.val
 obtain⟨xa,xc,rfl,-⟩:=id hat.at'
 obtain⟨pa,pc,rfl,-⟩:=id hp.at'
 clear h hp hat
 obtain⟨np,hnp⟩:∃ n,n=ps.length:=⟨_,rfl⟩
 obtain⟨na,hna⟩:∃ n,n=e.args.length:=⟨_,rfl⟩
 obtain⟨nc,hnc⟩:∃ n,n=e.arms.length:=⟨_,rfl⟩
 obtain⟨nb,hnb⟩:∃ n,n=e.body.length:=⟨_,rfl⟩
 obtain⟨ek,hek⟩:∃ n,n=e.kind:=⟨_,rfl⟩
 obtain⟨en0,hen⟩:∃ n,n=e.name:=⟨_,rfl⟩
 rw [← hnp,← hna,← hnc,← hnb,← hek,← hen] at HK ⊢
 have HNP:=zh hnp
 clear hnp hna hnc hnb hek hen
 have B0:Hid (Below w.heap.size w ((w.alloc (.cells #[.string nm,.bool ch,.slice pa np pc,.int .i64 ek,.string en0,.string op,.int .i64 num,.int .i64 site,.slice xa na xc,.slice aa nc ca,.slice ab nb cb] 29)).alloc (.cells #[.int .i64 oregs,.slice ova onv ovc] 56))):=((zs9 _ _).alloc (zr4 _) _).alloc (by simp) _
 have SN:Hid (Calls Tryz.prog 14 #[] ((w.alloc (.cells #[.string nm,.bool ch,.slice pa np pc,.int .i64 ek,.string en0,.string op,.int .i64 num,.int .i64 site,.slice xa na xc,.slice aa nc ca,.slice ab nb cb] 29)).alloc (.cells #[.int .i64 oregs,.slice ova onv ovc] 56)) (SnP ((w.alloc (.cells #[.string nm,.bool ch,.slice pa np pc,.int .i64 ek,.string en0,.string op,.int .i64 num,.int .i64 site,.slice xa na xc,.slice aa nc ca,.slice ab nb cb] 29)).alloc (.cells #[.int .i64 oregs,.slice ova onv ovc] 56)))):=sane_any (HK.out.law.keep _ _ _ (HK.out.law.size _ HK.out.env) HK.out.env B0.out)
 have O0:Hid (((w.alloc (.cells #[.string nm,.bool ch,.slice pa np pc,.int .i64 ek,.string en0,.string op,.int .i64 num,.int .i64 site,.slice xa na xc,.slice aa nc ca,.slice ab nb cb] 29)).alloc (.cells #[.int .i64 oregs,.slice ova onv ovc] 56)).heap[w.heap.size]?=some (.cells #[.string nm,.bool ch,.slice pa np pc,.int .i64 ek,.string en0,.string op,.int .i64 num,.int .i64 site,.slice xa na xc,.slice aa nc ca,.slice ab nb cb] 29 (0,0))):=(zt2 _ _ _ (by simp)).trans (zs2 w _)
 have P0:Hid (((w.alloc (.cells #[.string nm,.bool ch,.slice pa np pc,.int .i64 ek,.string en0,.string op,.int .i64 num,.int .i64 site,.slice xa na xc,.slice aa nc ca,.slice ab nb cb] 29)).alloc (.cells #[.int .i64 oregs,.slice ova onv ovc] 56)).heap[w.heap.size+1]?=some (.cells #[.int .i64 oregs,.slice ova onv ovc] 56 (0,0))):=by
  have:=zs2 (w.alloc (.cells #[.string nm,.bool ch,.slice pa np pc,.int .i64 ek,.string en0,.string op,.int .i64 num,.int .i64 site,.slice xa na xc,.slice aa nc ca,.slice ab nb cb] 29)) (.cells #[.int .i64 oregs,.slice ova onv ovc] 56)
  rw [World.size_alloc] at this
  exact this
 clear hE
 go_enter Tryz.func10,Tryz.ntmps10
 go_wp2_with fail
 refine SN.out.mono ?_
 rintro en w1 ⟨rfl,hb⟩
 have B1:Hid (Below w.heap.size w w1):=B0.out.trans (hb.mono B0.out.size)
 have O1:=zh ((hb.block w.heap.size (by simp;omega)).trans O0.out)
 have P1:=zh ((hb.block (w.heap.size+1) (by simp)).trans P0.out)
 have L1:Hid (w.heap.size+2≤w1.heap.size):=by have:=hb.size;simp at this;exact this
 have SM:=zh (small_any (HK.out.keep B1.out).val)
 obtain⟨q0,q1,q2,q3,q4,q5,q6,q7,q8,q9,q10⟩:=box11 O1.out
 clear hb SN O0 P0 B0
 go_wp2_with fail
 refine SM.out.mono ?_
 rintro en w2 ⟨hb,b,rfl,hs1,-⟩
 have B2:Hid (Below w.heap.size w w2):=B1.out.trans (hb.mono B1.out.size)
 have O2:=zh ((hb.block w.heap.size (by have:=L1.out;omega)).trans O1.out)
 have P2:=zh ((hb.block (w.heap.size+1) (by have:=L1.out;omega)).trans P1.out)
 have L2:Hid (w.heap.size+2≤w2.heap.size):=zr5 L1.out hb.size
 have S1:=zh hs1
 clear q0 q1 q2 q3 q4 q5 q6 q7 q8 q9 q10 hb hs1 SM
 cases b
 ·go_wp2_with fail
  go_ret
  exact⟨rfl,B2.out⟩
 have OF:=zh (ofR_any (HK.out.keep B2.out).val)
 obtain⟨q0,q1,q2,q3,q4,q5,q6,q7,q8,q9,q10⟩:=box11 O2.out
 go_wp2_with fail
 refine OF.out.mono ?_
 rintro en w3 ⟨fb,rfl,hb,⟨hg,hem⟩|⟨hng,hem⟩⟩
 rotate_left
 ·skip
  have B3:Hid (Below w.heap.size w w3):=B2.out.trans (hb.mono B2.out.size)
  have O3:=zh ((hb.block w.heap.size (by have:=L2.out;omega)).trans O2.out)
  have P3:=zh ((hb.block (w.heap.size+1) (by have:=L2.out;omega)).trans P2.out)
  have L3:Hid (w.heap.size+2≤w3.heap.size):=zr5 L2.out hb.size
  have NG:=zh hng
  have EM3:=zh hem
  clear q0 q1 q2 q3 q4 q5 q6 q7 q8 q9 q10 hb hng hem OF S1
  have RG1:=zh (reg_any (n0:=oregs) s (HU.out.kept (zd B3.out)) HVL.out)
  have f0:w3.cell? ⟨w.heap.size+1,0,none⟩=some (.int .i64 oregs):=by rw [zb _ _ 0 _ _ _ P3.out];rfl
  have f1:w3.cell? ⟨w.heap.size+1,1,none⟩=some (.slice ova onv ovc):=by rw [zb _ _ 1 _ _ _ P3.out];rfl
  go_wp2_with fail
  refine RG1.out.mono ?_
  rintro en w4 ⟨hb,rfl⟩
  have B4:Hid (Below w.heap.size w w4):=B3.out.trans (hb.mono B3.out.size)
  have O4:=zh ((hb.block w.heap.size (by have:=L3.out;omega)).trans O3.out)
  have P4:=zh ((hb.block (w.heap.size+1) (by have:=L3.out;omega)).trans P3.out)
  have L4:Hid (w.heap.size+2≤w4.heap.size):=zr5 L3.out hb.size
  have D4:=zh hb
  obtain⟨r,hr⟩:∃ r,r=regFind vs s:=⟨_,rfl⟩
  rw [← hr]
  have HR:=zh hr
  clear hb f0 f1 RG1 hr
  have RG2:=zh (regR_any (n0:=oregs) s (HU.out.kept (zd B4.out)) HVL.out)
  have f0:w4.cell? ⟨w.heap.size+1,0,none⟩=some (.int .i64 oregs):=by rw [zb _ _ 0 _ _ _ P4.out];rfl
  have f1:w4.cell? ⟨w.heap.size+1,1,none⟩=some (.slice ova onv ovc):=by rw [zb _ _ 1 _ _ _ P4.out];rfl
  go_wp2_with fail
  refine RG2.out.mono ?_
  rintro en w5 ⟨hb,rfl⟩
  rw [← HR.out]
  have B5:Hid (Below w.heap.size w w5):=B4.out.trans (hb.mono B4.out.size)
  have O5:=zh ((hb.block w.heap.size (by have:=L4.out;omega)).trans O4.out)
  have P5:=zh ((hb.block (w.heap.size+1) (by have:=L4.out;omega)).trans P4.out)
  have L5:Hid (w.heap.size+2≤w5.heap.size):=zr5 L4.out hb.size
  have D5:=zh (D4.out.trans (hb.mono D4.out.size))
  clear hb f0 f1 RG2
  obtain⟨rz,hrz⟩:∃ z,z=r.getD 0:=⟨_,rfl⟩
  obtain⟨rb,hrb⟩:∃ z,z=r.isSome:=⟨_,rfl⟩
  rw [← hrz,← hrb]
  have bz:(rz != rz)=false:=by simp
  have bb:(rb != rb)=false:=by simp
  clear hrz hrb HR
  have CK:=zh (check_any (HK.out.keep B5.out) (regs:=oregs) (HU.out.kept (zd B5.out)))
  obtain⟨q0,q1,q2,q3,q4,q5,q6,q7,q8,q9,q10⟩:=box11 O5.out
  have f0:w5.cell? ⟨w.heap.size+1,0,none⟩=some (.int .i64 oregs):=by rw [zb _ _ 0 _ _ _ P5.out];rfl
  have f1:w5.cell? ⟨w.heap.size+1,1,none⟩=some (.slice ova onv ovc):=by rw [zb _ _ 1 _ _ _ P5.out];rfl
  go_wp2_with fail
  refine CK.out.mono ?_
  rintro en w6 ⟨hb,⟨hg,-⟩|⟨-,rfl⟩⟩
  ·exact absurd hg NG.out
  have B6:Hid (Below w.heap.size w w6):=B5.out.trans (hb.mono B5.out.size)
  have x6:w6.cell? ⟨fb,6,none⟩=some (.bool false):=by rw [zb _ _ 6 _ _ _ (EM3.out.keep (D5.out.trans (hb.mono D5.out.size)))];rfl
  clear q0 q1 q2 q3 q4 q5 q6 q7 q8 q9 q10 hb f0 f1 CK
  go_wp2_with fail
  go_ret
  exact⟨rfl,B6.out⟩
 have B3:Hid (Below w.heap.size w w3):=B2.out.trans (hb.mono B2.out.size)
 have O3:=zh ((hb.block w.heap.size (by have:=L2.out;omega)).trans O2.out)
 have P3:=zh ((hb.block (w.heap.size+1) (by have:=L2.out;omega)).trans P2.out)
 have L3:Hid (w.heap.size+2≤w3.heap.size):=zr5 L2.out hb.size
 have HG:=zh hg
 have SZ:=zh (S1.out (by trivial) hg)
 have FO:=zh (good_fo hg)
 have VEN:Hid ((vars (F0 ps e)).length≤300):=SZ.out.2
 have LEN:Hid ((F0 ps e).length≤300):=by have:=SZ.out.1;rw [← F0_length ps e] at this;exact this
 have FL3:Hid (FlF w3 fb (F0 ps e)):=⟨hem,FO.out,LEN.out,VEN.out,fun k hk=>zr5 (next_few hk) (zr5 LEN.out (by omega))⟩
 obtain⟨sva,svc,ug,uo,uc,ng,no,ncc,bg,bo,bc,ag,ao,ac,so,hC⟩:=FL3.out.cells
 have FC3:=zh hC
 obtain⟨n,hn⟩:∃ n,n=(F0 ps e).length:=⟨_,rfl⟩
 obtain⟨nv,hnv⟩:∃ n,n=(vars (F0 ps e)).length:=⟨_,rfl⟩
 have HN:=zh hn
 have HNV:=zh hnv
 have nz:(n:Int)≤300:=by have:=LEN.out;omega
 have nvz:(nv:Int)≤300:=by have:=VEN.out;omega
 clear q0 q1 q2 q3 q4 q5 q6 q7 q8 q9 q10 hb hg hem hC hn hnv OF S1
 have RG1:=zh (reg_any (n0:=oregs) s (HU.out.kept (zd B3.out)) HVL.out)
 have f0:w3.cell? ⟨w.heap.size+1,0,none⟩=some (.int .i64 oregs):=by rw [zb _ _ 0 _ _ _ P3.out];rfl
 have f1:w3.cell? ⟨w.heap.size+1,1,none⟩=some (.slice ova onv ovc):=by rw [zb _ _ 1 _ _ _ P3.out];rfl
 go_wp2_with fail
 refine RG1.out.mono ?_
 rintro en w4 ⟨hb,rfl⟩
 have B4:Hid (Below w.heap.size w w4):=B3.out.trans (hb.mono B3.out.size)
 have O4:=zh ((hb.block w.heap.size (by have:=L3.out;omega)).trans O3.out)
 have P4:=zh ((hb.block (w.heap.size+1) (by have:=L3.out;omega)).trans P3.out)
 have L4:Hid (w.heap.size+2≤w4.heap.size):=zr5 L3.out hb.size
 have D4:=zh hb
 obtain⟨r,hr⟩:∃ r,r=regFind vs s:=⟨_,rfl⟩
 rw [← hr]
 have HR:=zh hr
 clear hb f0 f1 RG1 hr
 have RG2:=zh (regR_any (n0:=oregs) s (HU.out.kept (zd B4.out)) HVL.out)
 have f0:w4.cell? ⟨w.heap.size+1,0,none⟩=some (.int .i64 oregs):=by rw [zb _ _ 0 _ _ _ P4.out];rfl
 have f1:w4.cell? ⟨w.heap.size+1,1,none⟩=some (.slice ova onv ovc):=by rw [zb _ _ 1 _ _ _ P4.out];rfl
 go_wp2_with fail
 refine RG2.out.mono ?_
 rintro en w5 ⟨hb,rfl⟩
 rw [← HR.out]
 have B5:Hid (Below w.heap.size w w5):=B4.out.trans (hb.mono B4.out.size)
 have O5:=zh ((hb.block w.heap.size (by have:=L4.out;omega)).trans O4.out)
 have P5:=zh ((hb.block (w.heap.size+1) (by have:=L4.out;omega)).trans P4.out)
 have L5:Hid (w.heap.size+2≤w5.heap.size):=zr5 L4.out hb.size
 have D5:=zh (D4.out.trans (hb.mono D4.out.size))
 clear hb f0 f1 RG2
 obtain⟨rz,hrz⟩:∃ z,z=r.getD 0:=⟨_,rfl⟩
 obtain⟨rb,hrb⟩:∃ z,z=r.isSome:=⟨_,rfl⟩
 rw [← hrz,← hrb]
 have bz:(rz != rz)=false:=by simp
 have bb:(rb != rb)=false:=by simp
 clear hrz hrb HR
 have CK:=zh (check_any (HK.out.keep B5.out) (regs:=oregs) (HU.out.kept (zd B5.out)))
 obtain⟨q0,q1,q2,q3,q4,q5,q6,q7,q8,q9,q10⟩:=box11 O5.out
 have f0:w5.cell? ⟨w.heap.size+1,0,none⟩=some (.int .i64 oregs):=by rw [zb _ _ 0 _ _ _ P5.out];rfl
 have f1:w5.cell? ⟨w.heap.size+1,1,none⟩=some (.slice ova onv ovc):=by rw [zb _ _ 1 _ _ _ P5.out];rfl
 go_wp2_with fail
 refine CK.out.mono ?_
 rintro en w6 ⟨hb,⟨-,rfl⟩|⟨hng,-⟩⟩
 rotate_left
 ·exact absurd HG.out hng
 have B6:Hid (Below w.heap.size w w6):=B5.out.trans (hb.mono B5.out.size)
 have O6:=zh ((hb.block w.heap.size (by have:=L5.out;omega)).trans O5.out)
 have P6:=zh ((hb.block (w.heap.size+1) (by have:=L5.out;omega)).trans P5.out)
 have L6:Hid (w.heap.size+2≤w6.heap.size):=zr5 L5.out hb.size
 have D6:=zh (D5.out.trans (hb.mono D5.out.size))
 have FL6:=zh (FL3.out.keep D6.out)
 have x6:w6.cell? ⟨fb,6,none⟩=some (.bool true):=by rw [zb _ _ 6 _ _ _ (FC3.out.keep D6.out).row];rfl
 clear q0 q1 q2 q3 q4 q5 q6 q7 q8 q9 q10 hb f0 f1 CK
 have f0:w6.cell? ⟨w.heap.size+1,0,none⟩=some (.int .i64 oregs):=by rw [zb _ _ 0 _ _ _ P6.out];rfl
 have f1:w6.cell? ⟨w.heap.size+1,1,none⟩=some (.slice ova onv ovc):=by rw [zb _ _ 1 _ _ _ P6.out];rfl
 have RR:Hid (Calls Tryz.prog 47 #[.pointer (some ⟨fb,0,none⟩),.agg #[.int .i64 oregs,.slice ova onv ovc]] w6 fun en w'=>Below w6.heap.size w6 w'∧en = .returned (.bool (right (F0 ps e) ps.length oregs vs))):=by
  have h1:=rightR_any FL6.out (regs:=oregs) (HU.out.kept (zd B6.out)) HVL.out
  rw [F0_nd0] at h1
  exact h1
 obtain⟨rt,hrt⟩:∃ b,b=right (F0 ps e) ps.length oregs vs:=⟨_,rfl⟩
 rw [← hrt] at RR ⊢
 clear hrt
 cases rt
 ·rw [show (if false=true then (0:Int) else 161)=161 from rfl]
  go_wp2_with fail
  refine RR.out.mono ?_
  rintro en w7 ⟨hb,rfl⟩
  have B7:Hid (Below w.heap.size w w7):=B6.out.trans (hb.mono B6.out.size)
  clear hb f0 f1 RR x6
  go_wp2_with fail
  go_ret
  exact⟨rfl,B7.out⟩
 rw [show (if true=true then (0:Int) else 161)=0 from rfl]
 go_wp2_with fail
 refine RR.out.mono ?_
 rintro en w7 ⟨hb,rfl⟩
 have B7:Hid (Below w.heap.size w w7):=B6.out.trans (hb.mono B6.out.size)
 clear hb f0 f1 RR x6
 go_wp2_with fail
 go_ret
 exact⟨rfl,B7.out⟩
end Go.Proofs.YtnkahlloahgifaaGreatDoor
