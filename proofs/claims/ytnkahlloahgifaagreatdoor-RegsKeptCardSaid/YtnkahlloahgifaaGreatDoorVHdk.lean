/- Part. -/
import Derived.Test.YtnkahlloahgifaaGreatDoorVEoe
import Derived.Test.YtnkahlloahgifaaGreatDoorVGcc
import Derived.Test.YtnkahlloahgifaaGreatDoorVOrf
import Derived.Test.YtnkahlloahgifaaGreatDoorVPtk
set_option maxHeartbeats 16000000
set_option maxRecDepth 100000
set_option linter.unusedSimpArgs false
set_option linter.unusedVariables false
namespace Go.Proofs.YtnkahlloahgifaaGreatDoor
open Go.RowKit RG Go.Maps RF
variable {w w':World} {fb:Nat} {F:List Nd} {sva:Option Addr} {svc ug uo uc ng no nc bg bo bc ag ao ac:Nat} {so:Value}
def RowH (w:World) (b n:Nat) (held:Int→Int):Prop:=w.rowIs b 3 n fun q => .int .i64 (held (q:Nat))
theorem RowH.set {b n r p:Nat}{held:Int→Int}(h:RowH w b n held):RowH (w.setCell ⟨b,r,none⟩ (.int .i64 ((p:Nat):Int))) b n fun z=>if z=(r:Int) then ((p:Nat):Int) else held z :=
 (World.rowIs.set h r (.int .i64 ((p:Nat):Int))).congr fun i hi=>by
  by_cases e:i=r
  ·subst e
   rw [if_pos rfl];simp
  have e2:¬ ((i:Int)=(r:Int)):=by omega
  rw [if_neg e];simp [e2]
theorem RowH.setI {b n r:Nat}{z0:Int}{held:Int→Int}(h:RowH w b n held):RowH (w.setCell ⟨b,r,none⟩ (.int .i64 z0)) b n fun z=>if z=(r:Int) then z0 else held z :=
 (World.rowIs.set h r (.int .i64 z0)).congr fun i hi=>by
  by_cases e:i=r
  ·subst e
   rw [if_pos rfl];simp
  have e2:¬ ((i:Int)=(r:Int)):=by omega
  rw [if_neg e];simp [e2]
theorem RowH.keep {b n:Nat}{held:Int→Int}(h:RowH w b n held) (hb:w'.heap[b]?=w.heap[b]?):RowH w' b n held:=World.rowIs.of_block h hb
theorem followR_any (h:FlF w fb F) {regs:Int}{v pv:Value}{vs:List (Nm×Int)}{picks:List Int}(hv:VarsAt w v vs) (hr:right F (nd F 0).binds.length regs vs=true) (hp:IsAt w pv picks) (hpl:picks.length≤9223372036854775807) (hpi:∀ z∈picks,-9223372036854775808≤z∧z≤9223372036854775807) :
  Calls Tryz.prog 48 #[.pointer (some ⟨fb,0,none⟩),.agg #[.int .i64 regs,v],pv] w fun en w'=>Below w.heap.size w w'∧en = .returned (.bool true):=by
 obtain⟨sva,svc,ug,uo,uc,ng,no,nc,bg,bo,bc,ag,ao,ac,so,hC⟩:=h.cells
 obtain⟨va,vc,rfl,hvat⟩:=hv
 obtain⟨pa,pc,rfl⟩:=hp.shape
 obtain⟨r0,r1,r2,r3,r4⟩:=right_iff.1 hr
 obtain⟨R,hR⟩:∃ R:Nat,regs=(R:Int):=⟨regs.toNat,by omega⟩
 subst hR
 have HC:=zh hC
 have VAT:=zh hvat
 have HP:=zh hp
 have HPI:=zh hpi
 obtain⟨reg,hreg⟩:∃ f,f=regOf F vs:=⟨_,rfl⟩
 rw [← hreg] at r4
 have RA:=zh r4
 obtain⟨nv,hnv⟩:∃ n,n=vs.length:=⟨_,rfl⟩
 obtain⟨n,hn⟩:∃ n,n=F.length:=⟨_,rfl⟩
 obtain⟨npk,hnpk⟩:∃ n,n=picks.length:=⟨_,rfl⟩
 have REGV:Hid (∀ p,p<nv→∃ x r:Nat,∃ y:Nm,vs[p]?=some (y,((r:Nat):Int))∧reg ((vars F).getD p ⟨#[]⟩)=(r:Int)∧r<R∧x=p):=fun p hp=>by
  obtain⟨⟨y,z⟩,hx⟩:∃ m,vs[p]?=some m:=⟨_,zq9 (by omega)⟩
  obtain⟨h1,h2,h3,-⟩:=r3 p y z hx
  obtain⟨r,hr⟩:∃ r:Nat,z=(r:Int):=⟨z.toNat,by omega⟩
  subst hr
  refine⟨p,r,y,hx,?_,by omega,rfl⟩
  rw [hreg]
  refine regOf_at (x:=y) ?_
  rw [place_getD hC.fo.once (by omega)]
  exact hx
 rw [← hnv] at VAT r2 ⊢
 rw [← hnpk] at hpl HP ⊢
 have HNV:=zh hnv
 have NVF:Hid (nv=(vars F).length):=r2
 have HN:=zh hn
 have HNPK:=zh hnpk
 have nz:(n:Int)≤300:=by have:=hC.len;omega
 have nvz:(nv:Int)≤300:=by have:=hC.few;omega
 have pkz:(npk:Int)≤9223372036854775807:=by omega
 have Rz:(R:Int)≤20000:=r1
 obtain⟨M,hM0⟩:∃ M:Nat,M=R+1:=⟨_,rfl⟩
 have hM:(R:Int)+1=(M:Int):=by omega
 have HM:=zh hM0
 have Mz:(M:Int)≤20001:=by omega
 obtain⟨w1,hw1⟩:∃ W,W=w.alloc (.cells #[.int .i64 (R:Int),.slice va nv vc] 56):=⟨_,rfl⟩
 have B1:Hid (Below w.heap.size w w1):=by show Below _ _ _;rw [hw1];exact(zs9 _ _).alloc (zr4 _) _
 have BX:Hid (w1.heap[w.heap.size]?=some (.cells #[.int .i64 (R:Int),.slice va nv vc] 56 (0,0))):=by show _=_;rw [hw1];exact zs2 w _
 have b0:w1.cell? ⟨w.heap.size,0,none⟩=some (.int .i64 (R:Int)):=by rw [zb _ _ 0 _ _ _ BX.out];rfl
 have S1:Hid (w1.heap.size=w.heap.size+1):=by show _=_;rw [hw1,World.size_alloc]
 obtain⟨i3,h40,h41,h42,h43⟩:=info_parts Tryz.info3u
 have hms:=run_make (P:=Tryz.prog) w1 40 3 i3 (.int .i64 0) Tryz.underlying40 h40 h41 .i64 .i64 (M:Int) (M:Int) (by omega) (Int.le_refl _) (by rw [h43];omega) (by omega)
 rw [h42,Int.toNat_natCast,Nat.mul_one] at hms
 change _=Result.ok _ (w1.alloc (.cells (madeCells #[.int .i64 0] M) 3)) at hms
 have R2:Hid (RowH (w1.alloc (.cells (madeCells #[.int .i64 0] M) 3)) w1.heap.size M fun _=>0):=World.rowIs_made w1 (.int .i64 0) M 3
 obtain⟨MC,hMC⟩:∃ m,m=madeCells #[Value.int .i64 0] M:=⟨_,rfl⟩
 rw [← hMC] at hms R2
 obtain⟨hb,hhb⟩:∃ b,b=w1.heap.size:=⟨_,rfl⟩
 have HHB:=zh hhb
 have B2:Hid (Below hb w1 (w1.alloc (.cells MC 3))):=by show Below _ _ _;rw [hhb];exact(zs9 _ _).alloc (zr4 _) _
 rw [← hhb] at hms R2
 clear h hC hvat hr r0 r1 r2 r3 r4 hreg hnv hn hnpk hp hpl hpi hM0 hMC hhb h40 h41 h42 h43
 go_enter Tryz.func48,Tryz.ntmps48
 go_upto_region 1 with fail
 rw [← hw1]
 clear hw1
 go_wp2_with fail
 clear b0 hms
 go_loopw [8] (fun iv wr=>∃ i:Nat,i≤M∧iv = .int .i64 i∧Below hb w1 wr∧∃ held,RowH wr hb M held) (fun iv _=>M - (intOf iv).toNat)
 case atStart=>exact⟨0,Nat.zero_le _,rfl,B2.out,_,R2.out⟩
 rename World=>wo
 obtain⟨i,hi,rfl,hbb,held,hrow⟩:=hrel
 have KI:=zh hi
 have KB:=zh hbb
 have KR:=zh hrow
 clear hi hbb hrow R2 B2
 by_cases hlt:i<M
 ·have hlz:(i:Int)<M:=by omega
  have hi0:(0:Int)≤i:=by omega
  have HLT:=zh hlt
  have e1:=World.rowIs.cell KR.out hlt
  have ef:=World.rowIs.frozen KR.out i
  have NX:=zh (RowH.setI (r:=i) (z0 := -1) KR.out)
  obtain⟨old,hold⟩:∃ z,z=Value.int .i64 (held ((i:Nat):Int)):=⟨_,rfl⟩
  (try simp only [] at e1)
  rw [← hold] at e1
  clear hlt hold
  go_wp2_with fail
  go_roundw
  case rel=>exact⟨i+1,HLT.out,by go_num,KB.out.setCell (zr4 _) _,_,NX.out⟩
  case measure=>have:=HLT.out;simp [intOf];omega
 have hlz:(M:Int)≤i:=by omega
 have hdi:decide (i<M)=false:=by simp;omega
 clear hlt
 go_wp2_with fail
 go_loopw [9,10,11] (fun av bv sv wr=>∃ (st b:Nat) (held:Int→Int),st≤n+1∧sv = .int .i64 st∧bv = .int .i64 b∧b<F.length∧HeldK F reg held b 0∧RowH wr hb M held∧Below hb w1 wr) (fun _ _ sv _=>n+1 - (intOf sv).toNat)
 case atStart=>exact⟨0,0,held,Nat.zero_le _,rfl,rfl,HC.out.fo.pos,held_start HC.out.fo,KR.out,KB.out⟩
 rename World=>V
 obtain⟨st,b,held,hst,rfl,rfl,hbl,hhk,hrow,hbb⟩:=hrel
 have KST:=zh hst
 have BF:=zh hbl
 have HK0:=zh hhk
 have HR0:=zh hrow
 have KBV:=zh hbb
 have BV:Hid (Below w.heap.size w V):=B1.out.trans (hbb.mono (by have:=S1.out;have:=HHB.out;omega))
 have c1:V.cell? ⟨fb,1,none⟩=some (.slice (some ⟨ug,uo,none⟩) n uc):=by rw [zb _ _ 1 _ _ _ (zm BV.out HC.out.row),HN.out];rfl
 have hbz:(b:Int)<n:=by have:=HN.out;omega
 have hb0:(0:Int)≤b:=by omega
 clear hst hbl hhk hrow hbb KI KR KB
 by_cases hlt:st≤n
 ·have stz:(st:Int)≤n:=by omega
  have STL:=zh hlt
  obtain⟨br,hbr⟩:∃ l,l=BR F b:=⟨_,rfl⟩
  obtain⟨bad,bcc,b1,b2⟩:=HC.out.binds b BF.out
  have BL:=zh (HC.out.blen BF.out)
  rw [← hbr] at b1 b2 BL
  have HBR:=zh hbr
  obtain⟨bs,hbs⟩:∃ l,l=(nd F b).binds:=⟨_,rfl⟩
  have HBS:=zh hbs
  obtain⟨nb,hnb⟩:∃ n,n=br.length:=⟨_,rfl⟩
  have BSL:Hid (bs.length=nb):=by show _=_;rw [hbs,hnb,hbr];unfold BR;rw [List.length_map]
  have BRS:Hid (∀ (k:Nat) (x:Nm),bs[k]?=some x→br[k]?=some (place F x)):=fun k x hx=>by
   rw [HBR.out];unfold BR;rw [List.getElem?_map,← HBS.out,hx];rfl
  rw [← hnb] at b1 b2 BL
  have HNB:=zh hnb
  have BB1:=zh b1
  have BB2:=zh b2
  have nbz:(nb:Int)≤300:=by have:=BL.out;omega
  clear hlt hbr b1 b2 hbs hnb
  go_wp2_with fail
  clear c1
  go_loopw [12] (fun kv wr=>∃ (k:Nat) (held:Int→Int),k≤nb∧kv = .int .i64 k∧HeldK F reg held b k∧RowH wr hb M held∧Below hb w1 wr) (fun kv _=>nb - (intOf kv).toNat)
  case atStart=>exact⟨0,held,Nat.zero_le _,rfl,HK0.out,HR0.out,KBV.out⟩
  rename World=>wk
  obtain⟨k,hd,hk,rfl,hhk,hrow,hbb⟩:=hrel
  have KK:=zh hk
  have KH:=zh hhk
  have KR:=zh hrow
  have KB:=zh hbb
  have BW:Hid (Below w.heap.size w wk):=B1.out.trans (hbb.mono (by have:=S1.out;have:=HHB.out;omega))
  have c3:wk.cell? ⟨fb,3,none⟩=some (.slice (some ⟨bg,bo,none⟩) n bc):=by rw [zb _ _ 3 _ _ _ (zm BW.out HC.out.row),HN.out];rfl
  have y1:=zd BW.out _ _ BB1.out
  clear hk hhk hrow hbb
  by_cases hlt:k<nb
  ·have hkz:(k:Int)<nb:=by omega
   have hk0:(0:Int)≤k:=by omega
   have KLT:=zh hlt
   obtain⟨x,hx⟩:∃ x,bs[k]?=some x:=⟨_,zq9 (by have:=BSL.out;omega)⟩
   have XV:Hid (x∈vars F):=binds_vars BF.out (by rw [← HBS.out];exact zr1 hx)
   have hp:=BRS.out k x hx
   obtain⟨p,hpp⟩:∃ p,p=place F x:=⟨_,rfl⟩
   rw [← hpp] at hp
   have hpv:p<nv:=by rw [NVF.out,hpp];exact place_lt XV.out
   have hpz:(p:Int)<nv:=by omega
   have hp0:(0:Int)≤p:=by omega
   obtain⟨g2,o2,rfl,hx1⟩:=(show SlAt w (.slice bad br.length bcc) br.length (nats br) by have:=BB2.out;rw [HNB.out] at this;exact this).nat hp
   have x1:=zd BW.out _ _ hx1
   obtain⟨-,r,yn,hvr,hreg,hrR,-⟩:=REGV.out p hpv
   have RX:Hid (reg x=(r:Int)):=by
    show _=_
    rw [← hreg,hpp]
    congr 1
    have:=place_at XV.out
    rw [zt4,this];rfl
   obtain⟨vg,vo,rfl,vat⟩:=VAT.out (by have:=HNV.out;omega)
   have v1:=zd BW.out _ _ (vat p _ hvr).2
   (try simp only [] at v1)
   have m1:wk.cell? ⟨w.heap.size,1,none⟩=some (.slice (some ⟨vg,vo,none⟩) nv vc):=by rw [zb _ _ 1 _ _ _ ((KB.out.block _ (by have:=S1.out;have:=HHB.out;omega)).trans BX.out)];rfl
   have rM:r<M:=by have:=HM.out;omega
   have rz:(r:Int)<M:=by omega
   have rr0:(0:Int)≤r:=by omega
   have e1:=World.rowIs.cell KR.out rM
   have ef:=World.rowIs.frozen KR.out r
   have NX:=zh (RowH.set (r:=r) (p:=p) KR.out)
   have NK:Hid (HeldK F reg (fun z=>if z=(r:Int) then ((p:Nat):Int) else hd z) b (k+1)) :=
    heldK_set HC.out.fo BF.out (RA.out b BF.out) KH.out (by rw [← HBS.out];exact hx) (fun z=>by rw [RX.out,hpp])
   obtain⟨old,hold⟩:∃ z,z=Value.int .i64 (hd ((r:Nat):Int)):=⟨_,rfl⟩
   (try simp only [] at e1)
   rw [← hold] at e1
   clear hlt hold hx hp hpp hpv hx1 hvr hreg vat rM hrR
   go_upto_region 14 with fail
   refine wp_region_still_tail 27 (by kernel_rfl) (by kernel_rfl) ?_
   simp only [List.take_succ_cons,List.take_zero,List.drop_succ_cons,List.drop_zero,World.drew_eq]
   iterate 27 still_step
   refine wpStill_nil ?_
   go_wp2_with fail
   go_roundw
   case rel=>exact⟨k+1,_,KLT.out,by go_num,NK.out,NX.out.keep rfl,(KB.out.setCell (zr4 _) _).trans (zj _ _ 1)⟩
   case measure=>have:=KLT.out;simp [intOf];omega
  have hkz:(nb:Int)≤k:=by omega
  have hdk:decide (k<nb)=false:=by simp;omega
  have HE:Hid (Held F reg hd b):=heldK_end (by
   have h1:=KH.out
   have:k=(nd F b).binds.length:=by rw [← HBS.out,BSL.out];have:=KK.out;omega
   rw [this] at h1;exact h1)
  have f4:wk.cell? ⟨fb,4,none⟩=some (.slice (some ⟨ag,ao,none⟩) n ac):=by rw [zb _ _ 4 _ _ _ (zm BW.out HC.out.row),HN.out];rfl
  have a4:=zd BW.out _ _ (HC.out.after b BF.out)
  obtain⟨us,hus⟩:∃ l,l=UR F b:=⟨_,rfl⟩
  obtain⟨uad,ucc,u1,u2⟩:=HC.out.uses b BF.out
  rw [← hus] at u1 u2
  have HUS:=zh hus
  obtain⟨nu,hnu⟩:∃ n,n=us.length:=⟨_,rfl⟩
  rw [← hnu] at u1 u2
  have HNU:=zh hnu
  have UU1:=zh u1
  have UU2:=zh u2
  have nuz:(nu:Int)≤300:=by
   have h1:(usesAt F b).length≤(vars F).length:=nodup_len (once_nodup _ _ List.nodup_nil) fun x hx=>HC.out.fo.bound b BF.out x (mem_usesAt.1 hx)
   have h2:us.length=(usesAt F b).length:=by rw [hus];exact List.length_map _
   have:=HC.out.few
   omega
  have ULN:Hid (us.length=(usesAt F b).length):=by show _=_;rw [hus];exact List.length_map _
  clear hlt hus u1 u2 hnu KK
  go_wp2_with fail
  clear f4 a4 c3 y1
  go_loopw [13] (fun kv wr=>∃ t:Nat,t≤nu∧kv = .int .i64 t∧wr=wk) (fun kv _=>nu - (intOf kv).toNat)
  case atStart=>exact⟨0,Nat.zero_le _,rfl,rfl⟩
  obtain⟨t,ht,rfl,rfl⟩:=hrel
  have TK:=zh ht
  have c1:wr.cell? ⟨fb,1,none⟩=some (.slice (some ⟨ug,uo,none⟩) n uc):=by rw [zb _ _ 1 _ _ _ (zm BW.out HC.out.row),HN.out];rfl
  have y1:=zd BW.out _ _ UU1.out
  clear ht
  by_cases hlt:t<nu
  ·have htz:(t:Int)<nu:=by omega
   have ht0:(0:Int)≤t:=by omega
   have TLT:=zh hlt
   obtain⟨x,hx⟩:∃ x,(usesAt F b)[t]?=some x:=⟨_,zq9 (by have:=ULN.out;have:=HNU.out;omega)⟩
   have hp:us[t]?=some (place F x):=by rw [HUS.out];unfold UR;rw [List.getElem?_map,hx];rfl
   have XV:Hid (x∈vars F):=HC.out.fo.bound b BF.out x (mem_usesAt.1 (zr1 hx))
   have HU:=held_uses HC.out.fo BF.out HE.out (zr1 hx)
   obtain⟨p,hpp⟩:∃ p,p=place F x:=⟨_,rfl⟩
   rw [← hpp] at hp HU
   have hpv:p<nv:=by rw [NVF.out,hpp];exact place_lt XV.out
   have hpz:(p:Int)<nv:=by omega
   have hp0:(0:Int)≤p:=by omega
   obtain⟨g2,o2,rfl,hx1⟩:=(show SlAt w (.slice uad us.length ucc) us.length (nats us) by have:=UU2.out;rw [HNU.out] at this;exact this).nat hp
   have x1:=zd BW.out _ _ hx1
   obtain⟨-,r,yn,hvr,hreg,hrR,-⟩:=REGV.out p hpv
   have RX:reg x=(r:Int):=by
    rw [← hreg,hpp]
    congr 1
    have:=place_at XV.out
    rw [zt4,this];rfl
   rw [RX] at HU
   obtain⟨vg,vo,rfl,vat⟩:=VAT.out (by have:=HNV.out;omega)
   have v1:=zd BW.out _ _ (vat p _ hvr).2
   (try simp only [] at v1)
   have m1:wr.cell? ⟨w.heap.size,1,none⟩=some (.slice (some ⟨vg,vo,none⟩) nv vc):=by rw [zb _ _ 1 _ _ _ ((KB.out.block _ (by have:=S1.out;have:=HHB.out;omega)).trans BX.out)];rfl
   have rM:r<M:=by have:=HM.out;omega
   have rz:(r:Int)<M:=by omega
   have rr0:(0:Int)≤r:=by omega
   have e1:=World.rowIs.cell KR.out rM
   (try simp only [] at e1)
   rw [HU] at e1
   clear hlt hx hp HU hpp hpv hx1 hvr hreg vat rM hrR RX
   go_wp2_with fail
   go_roundw
   case rel=>exact⟨t+1,TLT.out,by go_num,trivial⟩
   case measure=>have:=TLT.out;simp [intOf];omega
  have htz:(nu:Int)≤t:=by omega
  have hdt:decide (t<nu)=false:=by simp;omega
  have c2:wr.cell? ⟨fb,2,none⟩=some (.slice (some ⟨ng,no,none⟩) n nc):=by rw [zb _ _ 2 _ _ _ (zm BW.out HC.out.row),HN.out];rfl
  obtain⟨nx,hnx⟩:∃ l,l=NR F b:=⟨_,rfl⟩
  obtain⟨nad,ncc,n1,n2⟩:=HC.out.next b BF.out
  have NL:=zh (HC.out.nlen b BF.out)
  rw [← hnx] at n1 n2 NL
  have HNX:=zh hnx
  obtain⟨nn,hnn⟩:∃ n,n=nx.length:=⟨_,rfl⟩
  rw [← hnn] at n1 n2 NL
  have HNN:=zh hnn
  have z1:=zd BW.out _ _ n1
  have N2:=zh n2
  have nnz:(nn:Int)≤20000:=by have:=NL.out;omega
  clear hlt hnx n1 n2 hnn
  by_cases hz:nn=0
  ·have dz:((nn:Int)==0)=true:=by simp [hz]
   have dz2:(nn==0)=true:=by simp [hz]
   have hz':nn=0:=hz
   clear hz
   go_wp2_with fail
   go_ret
   exact⟨BW.out,rfl⟩
  have dz:((nn:Int)==0)=false:=by simp;omega
  have dz2:(nn==0)=false:=by simp;omega
  have nn0:(0:Int)<nn:=by omega
  have NN0:Hid (0<nn):=by show _<_;omega
  have NEXT:Hid (∀ (q m:Nat),nx[q]?=some m→m<F.length∧HeldK F reg hd m 0):=fun q m hm=>by
   have h1:=zr1 hm
   rw [HNX.out] at h1
   exact⟨(HC.out.fo.nxt b BF.out m h1).2,held_next HC.out.fo BF.out h1 HE.out⟩
  have NCELL:Hid (∀ q:Nat,q<nn→∃ g o m,nad=some ⟨g,o,none⟩∧nx[q]?=some m∧wr.cell? ⟨g,o+q,none⟩=some (.int .i64 (m:Nat))):=fun q hq=>by
   obtain⟨m,hm⟩:∃ m,nx[q]?=some m:=⟨_,zq9 (by have:=HNN.out;omega)⟩
   obtain⟨g2,o2,e2,hx1⟩:=(show SlAt w (.slice nad nx.length ncc) nx.length (nats nx) by have:=N2.out;rw [HNN.out] at this;exact this).nat hm
   exact⟨g2,o2,m,e2,hm,zd BW.out _ _ hx1⟩
  clear hz
  by_cases hpk:npk=0
  ·have hpk2:¬ ((0:Int)<npk):=by omega
   have hdp:decide ((0:Int)<npk)=false:=by simp;omega
   have hdp2:decide (0<npk)=false:=by simp;omega
   obtain⟨g2,o2,m,rfl,hm,x1⟩:=NCELL.out 0 NN0.out
   rw [Nat.add_zero] at x1
   have NM:=zh (NEXT.out 0 m hm)
   clear hpk hm
   go_wp2_with fail
   go_roundw
   case rel=>exact⟨st+1,m,hd,by have:=STL.out;omega,by go_num,rfl,NM.out.1,NM.out.2,KR.out,KB.out⟩
   case measure=>have:=STL.out;simp [intOf];omega
  have hpk2:(0:Int)<npk:=by omega
  have hpk3:0<npk:=by omega
  have hdp:decide ((0:Int)<npk)=true:=by simp;omega
  have hdp2:decide (0<npk)=true:=by simp;omega
  obtain⟨s,hs⟩:∃ s,s=st % npk:=⟨_,rfl⟩
  have hsl:s<npk:=by rw [hs];exact Nat.mod_lt _ (by omega)
  have htm:(st:Int).tmod (npk:Int)=(s:Int):=by rw [hs];exact Int.ofNat_tmod st npk
  have sz:(s:Int)<npk:=by omega
  have s0:(0:Int)≤s:=by omega
  obtain⟨gp,op,z,rfl,hzp,hzc⟩:=HP.out.read HNPK.out hsl
  have zc:=zd BW.out _ _ hzc
  have ZB:=HPI.out z (zr1 hzp)
  obtain⟨q,hq⟩:∃ q:Nat,z % (nn:Int)=(q:Int):=⟨(z % (nn:Int)).toNat,by have:=Int.emod_nonneg z (show (nn:Int)≠0 by omega);omega⟩
  have hql:(q:Int)<nn:=by rw [← hq];exact Int.emod_lt_of_pos _ nn0
  have hq0:(0:Int)≤q:=by omega
  have MD:Hid (∀ W:World,Calls Tryz.prog 22 #[.int .i64 z,.int .i64 (nn:Int)] W fun e w'=>e = .returned (.int .i64 (q:Int))∧w'=W):=fun W=>by
   have h1:=modR_any W z (nn:Int) ZB nn0 (by omega)
   rw [hq] at h1
   exact h1
  obtain⟨g2,o2,m,rfl,hm,x1⟩:=NCELL.out q (by omega)
  have NM:=zh (NEXT.out q m hm)
  have HS:=zh hs
  have hpk4:¬ ((npk:Int)=0):=by omega
  clear hm hs hsl hzp hzc ZB hq
  go_upto_region 26 with fail
  refine wp_region_still_tail 15 (by kernel_rfl) (by kernel_rfl) ?_
  simp only [List.take_succ_cons,List.take_zero,List.drop_succ_cons,List.drop_zero,World.drew_eq]
  iterate 15 still_step
  refine wpStill_nil ?_
  go_wp2_with fail
  refine(MD.out _).mono ?_
  rintro en w9 ⟨rfl,rfl⟩
  have c2':(wr.drewN 1).cell? ⟨fb,2,none⟩=some (.slice (some ⟨ng,no,none⟩) n nc):=c2
  have z1':(wr.drewN 1).cell? ⟨ng,no+b,none⟩=_:=z1
  have x1':(wr.drewN 1).cell? ⟨g2,o2+q,none⟩=_:=x1
  go_wp2_with fail
  go_roundw
  case rel=>exact⟨st+1,m,hd,by have:=STL.out;omega,by go_num,rfl,NM.out.1,NM.out.2,KR.out.keep rfl,KB.out.trans (zj _ _ 1)⟩
  case measure=>have:=STL.out;simp [intOf];omega
 have stz:(n:Int)<st:=by omega
 have hds:decide (st≤n)=false:=by simp;omega
 clear hlt
 go_wp2_with fail
 go_ret
 exact⟨BV.out,rfl⟩
end Go.Proofs.YtnkahlloahgifaaGreatDoor
namespace Go.Proofs.YtnkahlloahgifaaGreatDoor
open Go.RowKit RG Go.Maps RF
theorem kept_walk {w:World}(hE:Lx.Env w) {v:Value}{ps:List Nm}{e:TE}(h:FnOk Lx.Env isNm w v ps e) {oregs:Int}{u pv:Value}{vs:List (Nm×Int)}{picks:List Int}(hu:VarsAt w u vs) (hpk:IsAt w pv picks) (hpl:picks.length≤9223372036854775807) (hpi:∀ z∈picks,-9223372036854775808≤z∧z≤9223372036854775807):Calls Tryz.prog 11 #[v,.agg #[.int .i64 oregs,u],pv] w (SnP w):=by
 have HK:=zh h
 obtain⟨ova,ovc,rfl,-⟩:=id hu
 have HU:=zh hu
 obtain⟨pka,pkc,rfl⟩:=hpk.shape
 have HPK:=zh hpk
 have HPL:=zh hpl
 have HPI:=zh hpi
 obtain⟨onv,hon⟩:∃ n,n=vs.length:=⟨_,rfl⟩
 obtain⟨npk,hnpk⟩:∃ n,n=picks.length:=⟨_,rfl⟩
 rw [← hon] at HU ⊢
 rw [← hnpk] at HPK ⊢
 clear hu hpk hpl hpi hon hnpk
 obtain⟨nm,op,ch,pv,va,num,site,aa,ab,ca,cb,ga,oa,gb,ob,rfl,hp,hat,-⟩:=h.val
 obtain⟨xa,xc,rfl,-⟩:=id hat.at'
 obtain⟨pa,pc,rfl,-⟩:=id hp.at'
 clear h hp hat
 obtain⟨np,hnp⟩:∃ n,n=ps.length:=⟨_,rfl⟩
 obtain⟨na,hna⟩:∃ n,n=e.args.length:=⟨_,rfl⟩
 obtain⟨nc,hnc⟩:∃ n,n=e.arms.length:=⟨_,rfl⟩
 obtain⟨nb,hnb⟩:∃ n,n=e.body.length:=⟨_,rfl⟩
 obtain⟨ek,hek⟩:∃ n,n=e.kind:=⟨_,rfl⟩
 obtain⟨en0,hen⟩:∃ n,n=e.name:=⟨_,rfl⟩
 rw [← hnp,← hna,← hnc,← hnb,← hek,← hen] at HK ⊢
 have HNP:=zh hnp
 clear hnp hna hnc hnb hek hen
 have B0:Hid (Below w.heap.size w ((w.alloc (.cells #[.string nm,.bool ch,.slice pa np pc,.int .i64 ek,.string en0,.string op,.int .i64 num,.int .i64 site,.slice xa na xc,.slice aa nc ca,.slice ab nb cb] 29)).alloc (.cells #[.int .i64 oregs,.slice ova onv ovc] 56))):=((zs9 _ _).alloc (zr4 _) _).alloc (by simp) _
 have SN:Hid (Calls Tryz.prog 14 #[] ((w.alloc (.cells #[.string nm,.bool ch,.slice pa np pc,.int .i64 ek,.string en0,.string op,.int .i64 num,.int .i64 site,.slice xa na xc,.slice aa nc ca,.slice ab nb cb] 29)).alloc (.cells #[.int .i64 oregs,.slice ova onv ovc] 56)) (SnP ((w.alloc (.cells #[.string nm,.bool ch,.slice pa np pc,.int .i64 ek,.string en0,.string op,.int .i64 num,.int .i64 site,.slice xa na xc,.slice aa nc ca,.slice ab nb cb] 29)).alloc (.cells #[.int .i64 oregs,.slice ova onv ovc] 56)))):=sane_any (HK.out.law.keep _ _ _ (HK.out.law.size _ HK.out.env) HK.out.env B0.out)
 have O0:Hid (((w.alloc (.cells #[.string nm,.bool ch,.slice pa np pc,.int .i64 ek,.string en0,.string op,.int .i64 num,.int .i64 site,.slice xa na xc,.slice aa nc ca,.slice ab nb cb] 29)).alloc (.cells #[.int .i64 oregs,.slice ova onv ovc] 56)).heap[w.heap.size]?=some (.cells #[.string nm,.bool ch,.slice pa np pc,.int .i64 ek,.string en0,.string op,.int .i64 num,.int .i64 site,.slice xa na xc,.slice aa nc ca,.slice ab nb cb] 29 (0,0))):=(zt2 _ _ _ (by simp)).trans (zs2 w _)
 have P0:Hid (((w.alloc (.cells #[.string nm,.bool ch,.slice pa np pc,.int .i64 ek,.string en0,.string op,.int .i64 num,.int .i64 site,.slice xa na xc,.slice aa nc ca,.slice ab nb cb] 29)).alloc (.cells #[.int .i64 oregs,.slice ova onv ovc] 56)).heap[w.heap.size+1]?=some (.cells #[.int .i64 oregs,.slice ova onv ovc] 56 (0,0))):=by
  have:=zs2 (w.alloc (.cells #[.string nm,.bool ch,.slice pa np pc,.int .i64 ek,.string en0,.string op,.int .i64 num,.int .i64 site,.slice xa na xc,.slice aa nc ca,.slice ab nb cb] 29)) (.cells #[.int .i64 oregs,.slice ova onv ovc] 56)
  rw [World.size_alloc] at this
  exact this
 clear hE
 go_enter Tryz.func11,Tryz.ntmps11
 go_wp2_with fail
 refine SN.out.mono ?_
 rintro en w1 ⟨rfl,hb⟩
 have B1:Hid (Below w.heap.size w w1):=B0.out.trans (hb.mono B0.out.size)
 have O1:=zh ((hb.block w.heap.size (by simp;omega)).trans O0.out)
 have P1:=zh ((hb.block (w.heap.size+1) (by simp)).trans P0.out)
 have L1:Hid (w.heap.size+2≤w1.heap.size):=by have:=hb.size;simp at this;exact this
 have SM:=zh (small_any (HK.out.keep B1.out).val)
 obtain⟨q0,q1,q2,q3,q4,q5,q6,q7,q8,q9,q10⟩:=box11 O1.out
 clear hb SN O0 P0 B0
 go_wp2_with fail
 refine SM.out.mono ?_
 rintro en w2 ⟨hb,b,rfl,hs1,-⟩
 have B2:Hid (Below w.heap.size w w2):=B1.out.trans (hb.mono B1.out.size)
 have O2:=zh ((hb.block w.heap.size (by have:=L1.out;omega)).trans O1.out)
 have P2:=zh ((hb.block (w.heap.size+1) (by have:=L1.out;omega)).trans P1.out)
 have L2:Hid (w.heap.size+2≤w2.heap.size):=zr5 L1.out hb.size
 have S1:=zh hs1
 clear q0 q1 q2 q3 q4 q5 q6 q7 q8 q9 q10 hb hs1 SM
 cases b
 ·go_wp2_with fail
  go_ret
  exact⟨rfl,B2.out⟩
 have OF:=zh (ofR_any (HK.out.keep B2.out).val)
 obtain⟨q0,q1,q2,q3,q4,q5,q6,q7,q8,q9,q10⟩:=box11 O2.out
 go_wp2_with fail
 refine OF.out.mono ?_
 rintro en w3 ⟨fb,rfl,hb,⟨hg,hem⟩|⟨hng,hem⟩⟩
 rotate_left
 ·skip
  have B3:Hid (Below w.heap.size w w3):=B2.out.trans (hb.mono B2.out.size)
  have O3:=zh ((hb.block w.heap.size (by have:=L2.out;omega)).trans O2.out)
  have P3:=zh ((hb.block (w.heap.size+1) (by have:=L2.out;omega)).trans P2.out)
  have L3:Hid (w.heap.size+2≤w3.heap.size):=zr5 L2.out hb.size
  have NG:=zh hng
  have EM3:=zh hem
  clear q0 q1 q2 q3 q4 q5 q6 q7 q8 q9 q10 hb hng hem OF S1
  have AL:=zh (allocate_any (HK.out.keep B3.out))
  obtain⟨q0,q1,q2,q3,q4,q5,q6,q7,q8,q9,q10⟩:=box11 O3.out
  go_wp2_with fail
  refine AL.out.mono ?_
  rintro en w4 ⟨hb,⟨hg,-⟩|⟨-,rfl⟩⟩
  ·exact absurd hg NG.out
  have B4:Hid (Below w.heap.size w w4):=B3.out.trans (hb.mono B3.out.size)
  have EM4:=zh (EM3.out.keep hb)
  clear q0 q1 q2 q3 q4 q5 q6 q7 q8 q9 q10 hb AL
  obtain⟨w5,hw5⟩:∃ W,W=w4.alloc (.cells #[.int .i64 0,.slice none 0 0] 56):=⟨_,rfl⟩
  have K5:Hid (Below w4.heap.size w4 w5):=by show Below _ _ _;rw [hw5];exact(zs9 _ _).alloc (zr4 _) _
  go_upto_region 6 with fail
  rw [← hw5]
  clear hw5
  have B5:Hid (Below w.heap.size w w5):=B4.out.trans (K5.out.mono B4.out.size)
  have x6:w5.cell? ⟨fb,6,none⟩=some (.bool false):=by rw [zb _ _ 6 _ _ _ (EM4.out.keep K5.out)];rfl
  go_wp2_with fail
  go_ret
  exact⟨rfl,B5.out⟩
 have B3:Hid (Below w.heap.size w w3):=B2.out.trans (hb.mono B2.out.size)
 have O3:=zh ((hb.block w.heap.size (by have:=L2.out;omega)).trans O2.out)
 have P3:=zh ((hb.block (w.heap.size+1) (by have:=L2.out;omega)).trans P2.out)
 have L3:Hid (w.heap.size+2≤w3.heap.size):=zr5 L2.out hb.size
 have HG:=zh hg
 have SZ:=zh (S1.out (by trivial) hg)
 have FO:=zh (good_fo hg)
 have VEN:Hid ((vars (F0 ps e)).length≤300):=SZ.out.2
 have LEN:Hid ((F0 ps e).length≤300):=by have:=SZ.out.1;rw [← F0_length ps e] at this;exact this
 have FL3:Hid (FlF w3 fb (F0 ps e)):=⟨hem,FO.out,LEN.out,VEN.out,fun k hk=>zr5 (next_few hk) (zr5 LEN.out (by omega))⟩
 obtain⟨sva,svc,ug,uo,uc,ng,no,ncc,bg,bo,bc,ag,ao,ac,so,hC⟩:=FL3.out.cells
 have FC3:=zh hC
 obtain⟨n,hn⟩:∃ n,n=(F0 ps e).length:=⟨_,rfl⟩
 obtain⟨nv,hnv⟩:∃ n,n=(vars (F0 ps e)).length:=⟨_,rfl⟩
 have HN:=zh hn
 have HNV:=zh hnv
 have nz:(n:Int)≤300:=by have:=LEN.out;omega
 have nvz:(nv:Int)≤300:=by have:=VEN.out;omega
 clear q0 q1 q2 q3 q4 q5 q6 q7 q8 q9 q10 hb hg hem hC hn hnv OF S1
 have AL:=zh (allocate_any (HK.out.keep B3.out))
 obtain⟨q0,q1,q2,q3,q4,q5,q6,q7,q8,q9,q10⟩:=box11 O3.out
 go_wp2_with fail
 refine AL.out.mono ?_
 rintro en w4 ⟨hb,⟨-,av,rfl,hav⟩|⟨hng,-⟩⟩
 rotate_left
 ·exact absurd HG.out hng
 have B4:Hid (Below w.heap.size w w4):=B3.out.trans (hb.mono B3.out.size)
 have O4:=zh ((hb.block w.heap.size (by have:=L3.out;omega)).trans O3.out)
 have P4:=zh ((hb.block (w.heap.size+1) (by have:=L3.out;omega)).trans P3.out)
 have L4:Hid (w.heap.size+2≤w4.heap.size):=zr5 L3.out hb.size
 have FL4:=zh (FL3.out.keep hb)
 have FC4:=zh (FC3.out.keep hb)
 obtain⟨ava,avc,rfl,-⟩:=id hav
 have HA4:=zh hav
 obtain⟨most,hmo⟩:∃ m,m=(alloc (F0 ps e)).2:=⟨_,rfl⟩
 obtain⟨npr,hnpr⟩:∃ m,m=(pairs (F0 ps e) (alloc (F0 ps e)).1).length:=⟨_,rfl⟩
 have NPR:Hid (npr=nv):=by show _=_;rw [hnpr,HNV.out];unfold pairs;exact List.length_map _
 rw [← hnpr] at HA4
 rw [← hmo,← hnpr]
 have RT:Hid (right (F0 ps e) (nd (F0 ps e) 0).binds.length ((most:Nat):Int) (pairs (F0 ps e) (alloc (F0 ps e)).1)=true):=by
  show _=_
  rw [hmo]
  exact alloc_right FO.out rfl (by have:=VEN.out;omega)
 have MZ:Hid (most≤300):=by
  have h1:=nodup_len (crowd_nodup FO.out) (m:=vars (F0 ps e)) (fun x hx=>by
   obtain⟨⟨i,-,h2⟩,-⟩:=crowd_spec FO.out
   rw [h2] at hx
   exact(mem_around.1 hx).1)
  have h2:=alloc_regs FO.out (by have:=VEN.out;omega)
  have:=VEN.out
  show most≤300
  rw [hmo,h2]
  exact zr5 h1 this
 have mz:(most:Int)≤300:=by have:=MZ.out;omega
 obtain⟨w5,hw5⟩:∃ W,W=w4.alloc (.cells #[.int .i64 (most:Nat),.slice ava npr avc] 56):=⟨_,rfl⟩
 have hb5:Below w4.heap.size w4 w5:=by rw [hw5];exact(zs9 _ _).alloc (zr4 _) _
 have N5:Hid (w5.heap[w4.heap.size]?=some (.cells #[.int .i64 (most:Nat),.slice ava npr avc] 56 (0,0))):=by show _=_;rw [hw5];exact zs2 w4 _
 clear q0 q1 q2 q3 q4 q5 q6 q7 q8 q9 q10 hb hav hmo hnpr AL
 have hb:=hb5
 have B5:Hid (Below w.heap.size w w5):=B4.out.trans (hb.mono B4.out.size)
 have O5:=zh ((hb.block w.heap.size (by have:=L4.out;omega)).trans O4.out)
 have P5:=zh ((hb.block (w.heap.size+1) (by have:=L4.out;omega)).trans P4.out)
 have L5:Hid (w.heap.size+2≤w5.heap.size):=zr5 L4.out hb.size
 have FL5:=zh (FL4.out.keep hb)
 have FC5:=zh (FC4.out.keep hb)
 have HA5:=zh (HA4.out.kept (zd hb))
 clear hb hb5
 go_upto_region 6 with fail
 rw [← hw5]
 clear hw5
 obtain⟨ab4,hab⟩:∃ b,b=w4.heap.size:=⟨_,rfl⟩
 rw [← hab] at N5 ⊢
 clear hab
 have x6:w5.cell? ⟨fb,6,none⟩=some (.bool true):=by rw [zb _ _ 6 _ _ _ FC5.out.row];rfl
 have c0:w5.cell? ⟨fb,0,none⟩=some (.slice sva nv svc):=by rw [zb _ _ 0 _ _ _ FC5.out.row,HNV.out];rfl
 have m0:w5.cell? ⟨ab4,0,none⟩=some (.int .i64 (most:Nat)):=by rw [zb _ _ 0 _ _ _ N5.out];rfl
 have m1:w5.cell? ⟨ab4,1,none⟩=some (.slice ava npr avc):=by rw [zb _ _ 1 _ _ _ N5.out];rfl
 have e1:((npr:Int) != (nv:Int))=false:=by have:=NPR.out;simp;omega
 have e1':(npr != nv)=false:=by have:=NPR.out;simp;omega
 have e2:decide ((1000:Int)<(most:Nat))=false:=by have:=MZ.out;simp;omega
 have e2':decide (1000<most)=false:=by have:=MZ.out;simp;omega
 have FW:Hid (Calls Tryz.prog 48 #[.pointer (some ⟨fb,0,none⟩),.agg #[.int .i64 (most:Nat),.slice ava npr avc],.slice pka npk pkc] (w5.drewN 1) fun en w'=>Below (w5.drewN 1).heap.size (w5.drewN 1) w'∧en = .returned (.bool true)) :=
  followR_any (FL5.out.keep (zj w5 _ 1)) (HA5.out.kept (zd (zj w5 _ 1))) RT.out (HPK.out.kept (zd (B5.out.trans (zj w5 _ 1)))) HPL.out HPI.out
 go_upto_region 8 with fail
 refine wp_region_still_tail 22 (by kernel_rfl) (by kernel_rfl) ?_
 simp only [List.take_succ_cons,List.take_zero,List.drop_succ_cons,List.drop_zero,World.drew_eq]
 iterate 22 still_step
 refine wpStill_nil ?_
 go_wp2_with fail
 refine FW.out.mono ?_
 rintro en w6 ⟨hb6,rfl⟩
 have hb:Below w5.heap.size w5 w6:=(zj w5 _ 1).trans (hb6.mono (zr4 _))
 have B6:Hid (Below w.heap.size w w6):=B5.out.trans (hb.mono B5.out.size)
 have O6:=zh ((hb.block w.heap.size (by have:=L5.out;omega)).trans O5.out)
 have P6:=zh ((hb.block (w.heap.size+1) (by have:=L5.out;omega)).trans P5.out)
 have L6:Hid (w.heap.size+2≤w6.heap.size):=zr5 L5.out hb.size
 have FL6:=zh (FL5.out.keep hb)
 have FC6:=zh (FC5.out.keep hb)
 clear hb hb6 x6 c0 m0 m1 e1 e1' e2 e2' FW
 have CK:=zh (check_any (HK.out.keep B6.out) (regs:=oregs) (HU.out.kept (zd B6.out)))
 obtain⟨q0,q1,q2,q3,q4,q5,q6,q7,q8,q9,q10⟩:=box11 O6.out
 have f0:w6.cell? ⟨w.heap.size+1,0,none⟩=some (.int .i64 oregs):=by rw [zb _ _ 0 _ _ _ P6.out];rfl
 have f1:w6.cell? ⟨w.heap.size+1,1,none⟩=some (.slice ova onv ovc):=by rw [zb _ _ 1 _ _ _ P6.out];rfl
 go_wp2_with fail
 refine CK.out.mono ?_
 rintro en w7 ⟨hb,⟨-,rfl⟩|⟨hng,-⟩⟩
 rotate_left
 ·exact absurd HG.out hng
 have B7:Hid (Below w.heap.size w w7):=B6.out.trans (hb.mono B6.out.size)
 have O7:=zh ((hb.block w.heap.size (by have:=L6.out;omega)).trans O6.out)
 have P7:=zh ((hb.block (w.heap.size+1) (by have:=L6.out;omega)).trans P6.out)
 have L7:Hid (w.heap.size+2≤w7.heap.size):=zr5 L6.out hb.size
 have FL7:=zh (FL6.out.keep hb)
 have FC7:=zh (FC6.out.keep hb)
 clear q0 q1 q2 q3 q4 q5 q6 q7 q8 q9 q10 hb f0 f1 CK
 obtain⟨rt,hrt⟩:∃ b,b=right (F0 ps e) ps.length oregs vs:=⟨_,rfl⟩
 rw [← hrt]
 have HRT:=zh hrt
 clear hrt
 cases rt
 ·rw [show (if false=true then (0:Int) else 161)=161 from rfl]
  go_wp2_with fail
  go_ret
  exact⟨rfl,B7.out⟩
 rw [show (if true=true then (0:Int) else 161)=0 from rfl]
 have f0:w7.cell? ⟨w.heap.size+1,0,none⟩=some (.int .i64 oregs):=by rw [zb _ _ 0 _ _ _ P7.out];rfl
 have f1:w7.cell? ⟨w.heap.size+1,1,none⟩=some (.slice ova onv ovc):=by rw [zb _ _ 1 _ _ _ P7.out];rfl
 have FW:Hid (Calls Tryz.prog 48 #[.pointer (some ⟨fb,0,none⟩),.agg #[.int .i64 oregs,.slice ova onv ovc],.slice pka npk pkc] w7 fun en w'=>Below w7.heap.size w7 w'∧en = .returned (.bool true)) :=
  followR_any FL7.out (HU.out.kept (zd B7.out)) (by rw [F0_nd0];exact HRT.out.symm) (HPK.out.kept (zd B7.out)) HPL.out HPI.out
 go_wp2_with fail
 refine FW.out.mono ?_
 rintro en w8 ⟨hb,rfl⟩
 have B8:Hid (Below w.heap.size w w8):=B7.out.trans (hb.mono B7.out.size)
 clear hb f0 f1 FW
 go_wp2_with fail
 go_ret
 exact⟨rfl,B8.out⟩
end Go.Proofs.YtnkahlloahgifaaGreatDoor
