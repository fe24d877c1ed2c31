/- Part. -/
import Derived.Test.YtnkahlloahgifaaGreatDoorVOq
import Derived.Test.YtnkahlloahgifaaGreatDoorVPtf
set_option maxHeartbeats 16000000
set_option maxRecDepth 100000
set_option linter.unusedSimpArgs false
set_option linter.unusedVariables false
namespace Go.Proofs.YtnkahlloahgifaaGreatDoor
open Go.RowKit RG Go.Maps
def IrP (w:World) (b:Bool) (en:Ending) (w':World):Prop:=Below w.heap.size w w'∧en = .returned (.bool b)
theorem isRight_any {w:World}{A:Ad}{fl:Nat}{F:List Nd}(hfl:Fl w A fl F) (h32:(vars F).length≤320000) {regs:Int}{v:Value}{vs:List (Nm×Int)}(hv:VarsAt w v vs) :
  Calls Tryz.prog 80 #[.pointer (some ⟨fl,0,none⟩),.agg #[.int .i64 regs,v]] w (IrP w (right F (nd F 0).binds.length regs vs)):=by
 obtain⟨va,vc,rfl,hvat⟩:=hv
 have HF:=zh hfl
 have VAT0:=zh hvat
 have H32:=zh h32
 obtain⟨sl,sn,sv,f0,f1,f2,f3⟩:=hfl.at'.flat
 obtain⟨ad3,c3',rfl,nat0⟩:=f3.cells
 have NAT0:=zh nat0
 have F3:Hid (w.cell? ⟨fl,3,none⟩=some (.slice ad3 (vars F).length c3')):=by show _=_;rw [zb _ _ 3 _ _ _ f0];rfl
 have F0':Hid (w.cell? ⟨fl,0,none⟩=some (.pointer (some ⟨A.lb 0,0,none⟩))):=by show _=_;rw [zb _ _ 0 _ _ _ f0];rfl
 obtain⟨sv0,hsv0,hst0⟩:=(hfl.link hfl.fo.pos).l0
 obtain⟨a0,c0',rfl,-⟩:=hst0.cells
 have S0:=zh hsv0
 obtain⟨lc,lg,lo,c1,hlat⟩:=hfl.links
 have HLAT:=zh hlat
 have C1:=zh c1
 obtain⟨np,hnp⟩:∃ n,n=(nd F 0).binds.length:=⟨_,rfl⟩
 obtain⟨nf,hnf⟩:∃ n,n=(vars F).length:=⟨_,rfl⟩
 obtain⟨nv,hnv⟩:∃ n,n=vs.length:=⟨_,rfl⟩
 obtain⟨n,hn⟩:∃ n,n=F.length:=⟨_,rfl⟩
 obtain⟨ans,hans⟩:∃ b,b=right F (nd F 0).binds.length regs vs:=⟨_,rfl⟩
 rw [← hans]
 rw [← hnp] at hans S0
 rw [← hnf] at F3 NAT0
 rw [← hnv] at VAT0 ⊢
 rw [← hn] at C1
 have HNP:=zh hnp
 have HNF:=zh hnf
 have HNV:=zh hnv
 have HN:=zh hn
 have ANS:=zh hans
 have nz:(n:Int)≤20000:=by have:=hfl.len;omega
 obtain⟨w1,hw1⟩:∃ W,W=w.alloc (.cells #[.int .i64 regs,.slice va nv vc] 56):=⟨_,rfl⟩
 have B1:Hid (Below w.heap.size w w1):=by show Below _ _ _;rw [hw1];exact(zs9 _ _).alloc (zr4 _) _
 have BX:Hid (w1.heap[w.heap.size]?=some (.cells #[.int .i64 regs,.slice va nv vc] 56 (0,0))):=by show _=_;rw [hw1];exact zs2 w _
 have b0:w1.cell? ⟨w.heap.size,0,none⟩=some (.int .i64 regs):=by rw [zb _ _ 0 _ _ _ BX.out];rfl
 have b1:w1.cell? ⟨w.heap.size,1,none⟩=some (.slice va nv vc):=by rw [zb _ _ 1 _ _ _ BX.out];rfl
 have t3:=zd B1.out _ _ F3.out
 have S1:Hid (w1.heap.size=w.heap.size+1):=by show _=_;rw [hw1,World.size_alloc]
 clear hfl hvat h32 f0 f1 f2 f3 nat0 hsv0 hst0 hlat c1 hnp hnf hnv hn hans
 go_enter Tryz.func80,Tryz.ntmps80
 go_upto_region 1 with fail
 rw [← hw1]
 clear hw1
 by_cases h1:regs<0
 ·have d1:decide (regs<0)=true:=by simp [h1]
  have E:Hid (ans=false):=by show _=_;rw [ANS.out];exact right_not fun h=>by omega
  clear h1
  go_wp2_with fail
  go_quiet (fail)
  go_wp2_with fail
  go_ret
  exact⟨B1.out.trans (zj _ _ _),by rw [E.out];rfl⟩
 have d1:decide (regs<0)=false:=by simp [h1]
 by_cases h2:20000<regs
 ·have d2:decide (20000<regs)=true:=by simp [h2]
  have E:Hid (ans=false):=by show _=_;rw [ANS.out];exact right_not fun h=>by omega
  clear h1 h2
  go_wp2_with fail
  go_quiet (fail)
  go_wp2_with fail
  go_ret
  exact⟨B1.out.trans (zj _ _ _),by rw [E.out];rfl⟩
 have d2:decide (20000<regs)=false:=by simp [h2]
 by_cases h3:nv=nf
 rotate_left
 ·have d3:((nv:Int) != nf)=true:=by simp;omega
  have E:Hid (ans=false):=by show _=_;rw [ANS.out];exact right_not fun h=>h3 (by rw [HNV.out,HNF.out];exact h.2.2.1)
  clear h1 h2 h3
  go_wp2_with fail
  go_quiet (fail)
  go_wp2_with fail
  go_ret
  exact⟨B1.out.trans (zj _ _ _),by rw [E.out];rfl⟩
 have REG:Hid (0≤regs∧regs≤20000):=by show _∧_;omega
 subst h3
 clear h1 h2
 have d3:((nv:Int) != nv)=false:=by simp
 have nvz:(nv:Int)≤320000:=by have:=H32.out;have:=HNF.out;omega
 go_wp2_with fail
 go_quiet (fail)
 go_wp2_with fail
 clear t3 b0 b1 d1 d2 d3
 go_loopw [36] (fun iv wr=>∃ i:Nat,i≤nv∧iv = .int .i64 i∧Below w1.heap.size w1 wr∧∀ j,j<i→OkAt F np regs vs j) (fun iv _=>nv - (intOf iv).toNat)
 case atStart=>exact⟨0,Nat.zero_le _,rfl,zj _ _ _,fun j h=>absurd h (by omega)⟩
 rename World=>wo
 obtain⟨i,hi,rfl,hb,hok⟩:=hrel
 have KI:=zh hi
 have KB:=zh hb
 have OK:=zh hok
 clear hi hb hok
 by_cases hlt:i<nv
 ·have hlz:(i:Int)<nv:=by omega
  have hi0:(0:Int)≤i:=by omega
  have HLT:=zh hlt
  obtain⟨⟨x,r⟩,hx⟩:∃ m,vs[i]?=some m:=⟨_,zq9 (by have:=HNV.out;omega)⟩
  obtain⟨z,hz⟩:∃ z,(vars F)[i]?=some z:=⟨_,zq9 (by have:=HNF.out;omega)⟩
  obtain⟨vg,vo,rfl,vat⟩:=VAT0.out (by omega)
  obtain⟨ng,no,rfl,nat⟩:=NAT0.out (by have:=HNF.out;omega)
  have KW:Hid (Below w.heap.size w wo):=B1.out.trans (KB.out.mono B1.out.size)
  have y0:=zd KW.out _ _ (vat i _ hx).1
  have y1:=zd KW.out _ _ (vat i _ hx).2
  have n0:=zd KW.out _ _ (nat i z hz)
  have HX:=zh hx
  have HZ:=zh hz
  clear hlt hx hz vat nat
  go_upto_region 6 with fail
  obtain⟨w5,hw5⟩:∃ W,W=wo.alloc (.cells #[.string x,.int .i64 r] 61):=⟨_,rfl⟩
  rw [← hw5]
  have B5:Hid (Below w1.heap.size w1 w5):=by show Below _ _ _;rw [hw5];exact KB.out.alloc KB.out.size _
  have B5w:Hid (Below w.heap.size w w5):=B1.out.trans (B5.out.mono B1.out.size)
  have B5o:Hid (Below wo.heap.size wo w5):=by show Below _ _ _;rw [hw5];exact(zs9 _ _).alloc (zr4 _) _
  have x0:w5.cell? ⟨wo.heap.size,0,none⟩=some (.string x):=by rw [hw5,zb _ _ 0 _ _ _ (zs2 wo _)];rfl
  have x1:w5.cell? ⟨wo.heap.size,1,none⟩=some (.int .i64 r):=by rw [hw5,zb _ _ 1 _ _ _ (zs2 wo _)];rfl
  have m0:=zd B5o.out _ _ n0
  have BX5:=(B5.out.block _ (by have:=S1.out;omega)).trans BX.out
  have b0:w5.cell? ⟨w.heap.size,0,none⟩=some (.int .i64 regs):=by rw [zb _ _ 0 _ _ _ BX5];rfl
  have t3:=zd B5w.out _ _ F3.out
  have t0:=zd B5w.out _ _ F0'.out
  have s0:=zd B5w.out _ _ S0.out
  have BAD:Hid (¬ OkAt F np regs vs i→ans=false):=fun h=>by rw [ANS.out];exact right_not fun h'=>h fun x r hx=>h'.2.2.2.1 i x r hx
  clear hw5 y0 y1 n0 BX5
  by_cases h1:x=z
  rotate_left
  ·have d1':(x.toList==z.toList)=false:=by rw [bytes_beq];simp [h1]
   have d1:(x.toList != z.toList)=true:=by show (!(x.toList==z.toList))=true;rw [bytes_beq];simp [h1]
   have E:Hid (ans=false):=BAD.out fun h=>h1 (by have:=(h x r HX.out).1;rw [HZ.out,zt3] at this;exact this.symm)
   clear h1
   go_wp2_with fail
   go_quiet (fail)
   go_wp2_with fail
   go_ret
   exact⟨B5w.out.trans (zj _ _ _),by rw [E.out];rfl⟩
  have d1':(x.toList==z.toList)=true:=by rw [bytes_beq];simp [h1]
  have d1:(x.toList != z.toList)=false:=by show (!(x.toList==z.toList))=false;rw [bytes_beq];simp [h1]
  have XZ:=zh h1
  clear h1
  by_cases h2:r<0
  ·have d2:decide (r<0)=true:=by simp [h2]
   have E:Hid (ans=false):=BAD.out fun h=>by have:=(h x r HX.out).2.1;omega
   clear h2
   go_wp2_with fail
   go_quiet (fail)
   go_wp2_with fail
   go_ret
   exact⟨B5w.out.trans (zj _ _ _),by rw [E.out];rfl⟩
  have d2:decide (r<0)=false:=by simp [h2]
  by_cases h3:regs≤r
  ·have d3:decide (regs≤r)=true:=by simp [h3]
   have E:Hid (ans=false):=BAD.out fun h=>by have:=(h x r HX.out).2.2.1;omega
   clear h2 h3
   go_wp2_with fail
   go_quiet (fail)
   go_wp2_with fail
   go_ret
   exact⟨B5w.out.trans (zj _ _ _),by rw [E.out];rfl⟩
  have d3:decide (regs≤r)=false:=by simp [h3]
  have RR:Hid (0≤r∧r<regs):=by show _∧_;omega
  clear h2 h3
  by_cases h4:i<np
  ·have d4:decide (i<np)=true:=by simp [h4]
   have d4':decide ((i:Int)<np)=true:=by simp;omega
   by_cases h5:r=i
   ·have d5:(r != (i:Int))=false:=by simp [h5]
    have GOOD:Hid (∀ j,j<i+1→OkAt F np regs vs j):=fun j hj=>by
     by_cases e:j=i
     ·subst e
      intro x' r' hx'
      rw [HX.out,zt3,Prod.mk.injEq] at hx'
      obtain⟨rfl,rfl⟩:=hx'
      exact⟨by rw [HZ.out,XZ.out],RR.out.1,RR.out.2,fun _=>h5⟩
     exact OK.out j (by omega)
    clear h4 h5
    go_wp2_with fail
    go_quiet (fail)
    go_wp2_with fail
    go_roundw
    case rel=>exact⟨i+1,HLT.out,by go_num,B5.out.trans (zj _ _ _),GOOD.out⟩
    case measure=>have:=HLT.out;simp [intOf];omega
   have d5:(r != (i:Int))=true:=by simp [h5]
   have E:Hid (ans=false):=BAD.out fun h=>h5 ((h x r HX.out).2.2.2 h4)
   clear h4 h5
   go_wp2_with fail
   go_quiet (fail)
   go_wp2_with fail
   go_ret
   exact⟨B5w.out.trans (zj _ _ _),by rw [E.out];rfl⟩
  have d4:decide (i<np)=false:=by simp;omega
  have d4':decide ((i:Int)<np)=false:=by simp;omega
  have GOOD:Hid (∀ j,j<i+1→OkAt F np regs vs j):=fun j hj=>by
   by_cases e:j=i
   ·subst e
    intro x' r' hx'
    rw [HX.out,zt3,Prod.mk.injEq] at hx'
    obtain⟨rfl,rfl⟩:=hx'
    exact⟨by rw [HZ.out,XZ.out],RR.out.1,RR.out.2,fun h=>absurd h h4⟩
   exact OK.out j (by omega)
  clear h4
  go_wp2_with fail
  go_quiet (fail)
  go_wp2_with fail
  go_roundw
  case rel=>exact⟨i+1,HLT.out,by go_num,B5.out.trans (zj _ _ _),GOOD.out⟩
  case measure=>have:=HLT.out;simp [intOf];omega
 have hlz:(nv:Int)≤i:=by omega
 have hdi:decide (i<nv)=false:=by simp;omega
 have OKA:Hid (∀ j,j<nv→OkAt F np regs vs j):=fun j hj=>OK.out j (by omega)
 have KW:Hid (Below w.heap.size w wo):=B1.out.trans (KB.out.mono B1.out.size)
 have t1:=zd KW.out _ _ C1.out
 clear hlt OK
 go_wp2_with fail
 clear t1
 go_loopw [87] (fun iv wr=>∃ i:Nat,i≤n∧iv = .int .i64 i∧Below w1.heap.size w1 wr∧∀ j,j<i→rightAt F (regOf F vs) j=true) (fun iv _=>n - (intOf iv).toNat)
 case atStart=>exact⟨0,Nat.zero_le _,rfl,KB.out,fun j h=>absurd h (by omega)⟩
 rename World=>wl
 obtain⟨q,hq,rfl,hb,hok⟩:=hrel
 have KQ:=zh hq
 have KL:=zh hb
 have OK:=zh hok
 have KLw:Hid (Below w.heap.size w wl):=B1.out.trans (hb.mono B1.out.size)
 clear hq hb hok KB KW KI
 by_cases hlt:q<n
 ·have hqz:(q:Int)<n:=by omega
  have hq0:(0:Int)≤q:=by omega
  have QLT:=zh hlt
  have QF:Hid (q<F.length):=by have:=HN.out;show _<_;omega
  have hci:=zd KLw.out _ _ (HLAT.out q QF.out)
  have LK:=zh ((HF.out.link QF.out).keep KLw.out)
  have hmm := @run_makeMap Tryz.prog
  have VB:Hid (Below wl.heap.size wl (wl.alloc (.map #[] 0))):=(zs9 _ _).alloc (zr4 _) _
  clear hlt
  go_wp2_with fail
  refine(crossing_any (LK.out.keep VB.out)).mono ?_
  rintro en w2 ⟨cb,rfl,hcb,hs2,hb2⟩
  have HC2:=zh hs2
  have HB2:Hid (Below wl.heap.size wl w2):=VB.out.trans (hb2.mono VB.out.size)
  have HT2:Hid (ISet w2 wl.heap.size (TxI F q (regOf F vs) (ikey (VSet F (cross F q))))):=by
   rw [show TxI F q (regOf F vs) (ikey (VSet F (cross F q)))=[] from TxI_start _ _ _ _ (fun x hx=>ikey_iff.2 ⟨1,vset_mem.2 ⟨x,(mem_named.1 hx).1,(mem_named.1 hx).2,rfl,rfl⟩⟩)]
   exact(ISet.made wl).keep (hb2.block _ (by simp))
  have HCB:Hid (wl.heap.size<cb∧cb<w2.heap.size):=⟨by simp at hcb;omega,IMap.lt hs2⟩
  clear hcb hs2 hb2 hci
  go_wp2_with (at_range;refine wpList_irange Tryz.underlying3 rfl _ 108 rfl Tryz.underlying108 cb (VSet F (cross F q)) rfl HC2.out ?_;intro w3 hrg0 hg0 hs0)
  go_frame
  have R0:=zh hrg0
  have HB3:Hid (Below wl.heap.size wl w3):=HB2.out.grown hg0 HB2.out.size (fun r e=>by cases e)
  have HT3:=zh (HT2.out.keep (hg0.block _ HT2.out.lt (by simp)))
  have HS3:Hid (w2.heap.size<w3.heap.size):=by show _<_;rw [hs0];exact Nat.lt_succ_self _
  have HS1:Hid (w1.heap.size≤wl.heap.size):=KL.out.size
  obtain⟨tb,htb⟩:∃ b,b=wl.heap.size:=⟨_,rfl⟩
  rw [← htb] at HT3 HCB HB3 HS1 ⊢
  have HTB:=zh htb
  clear hrg0 hg0 hs0 htb HT2 HB2 HC2
  go_loopw [10] (fun _ wy=>∃ (todo:Int→Bool) (cnt:Nat),IRg Tryz.prog wy cb w2.heap.size (VSet F (cross F q)) todo cnt∧ISet wy tb (TxI F q (regOf F vs) todo)∧Below tb wl wy∧w2.heap.size<wy.heap.size) (fun _ wy=>wy.rangeLeft cb w2.heap.size)
  case atStart=>exact⟨_,_,R0.out,HT3.out,HB3.out,HS3.out⟩
  obtain⟨todo,cnt,hrg,hset,hbl,hsz⟩:=hrel
  have RG1:=zh hrg
  have KT:=zh hset
  have KB:=zh hbl
  have KS:=zh hsz
  clear hrg hset hbl hsz
  go_wp2_with (at_next;refine wpList_inext Tryz.underlying3 rfl _ rfl cb w2.heap.size _ todo cnt rfl RG1.out ?_ ?_)
  ·intro hl0
   have HT4:Hid (ISet wr tb ((named F (cross F q)).map (regOf F vs))):=by have:=KT.out;rw [TxI_end _ _ _ _ hl0] at this;exact this
   have KBW:Hid (Below w1.heap.size w1 wr):=KL.out.trans (KB.out.mono HS1.out)
   have KBWw:Hid (Below w.heap.size w wr):=B1.out.trans (KBW.out.mono B1.out.size)
   have LK4:=zh ((HF.out.link QF.out).keep KBWw.out)
   obtain⟨svq,hsv1,hst⟩:=(HF.out.link QF.out).l0
   obtain⟨sa,sc,rfl,hsl⟩:=hst.cells
   have HSL:=zh hsl
   have hsv:=zd KBWw.out _ _ hsv1
   clear hsv1
   obtain⟨bs,hbs⟩:∃ b,b=(nd F q).binds:=⟨_,rfl⟩
   obtain⟨nb,hnb⟩:∃ n,n=bs.length:=⟨_,rfl⟩
   rw [← hbs] at hsv HSL
   rw [← hnb] at hsv HSL
   have HBS:=zh hbs
   have HNB:=zh hnb
   have HBV:Hid (∀ x∈bs,x∈vars F):=fun x hx=>LK4.out.sub x (by rw [← hbs];exact hx)
   have hnbz:nb≤320000:=by have h1:=binds_le (F:=F) (i:=q) QF.out;rw [← hbs,← hnb] at h1;have:=H32.out;omega
   have HNBZ:=zh hnbz
   have hnbi:(nb:Int)≤320000:=by omega
   have AP0:Hid (apart F (regOf F vs) (bs.drop 0) ((named F (cross F q)).map (regOf F vs))=rightAt F (regOf F vs) q):=by show _=_;rw [List.drop_zero,hbs];rfl
   have TL0:Hid (((named F (cross F q)).map (regOf F vs)).length≤320000+0):=by show _≤_;rw [List.length_map];have:=named_le (F:=F) (cross F q);have:=H32.out;omega
   have TBL:Hid (w1.heap.size≤tb):=HS1.out
   clear hl0 hsl hst hbs hnb hnbz KB KT KS RG1 R0 HT3 HB3 HS3
   go_wp2_with fail
   clear hsv
   go_loopw [112] (fun iv wy=>∃ (k:Nat) (T:List Int),k≤nb∧iv = .int .i64 k∧Below w1.heap.size w1 wy∧ISet wy tb T∧T.length≤320000+k∧apart F (regOf F vs) (bs.drop k) T=rightAt F (regOf F vs) q) (fun iv _=>nb - (intOf iv).toNat)
   case atStart=>exact⟨0,_,Nat.zero_le _,rfl,KBW.out,HT4.out,TL0.out,AP0.out⟩
   rename World=>wy
   obtain⟨k,T,hk,rfl,hbl,hse,htl,hap⟩:=hrel
   have KK:=zh hk
   have KB:=zh hbl
   have KT:=zh hse
   have TL:=zh htl
   have AP:=zh hap
   clear hk hbl hse htl hap HT4 AP0 TL0
   by_cases hlt:k<nb
   ·have hklz:(k:Int)<nb:=by omega
    have hk0:(0:Int)≤k:=by omega
    obtain⟨g4,o4,rfl,hat⟩:=HSL.out (by have:=HNB.out;omega)
    obtain⟨x,hx⟩:∃ x,bs[k]?=some x:=⟨_,zq9 (by have:=HNB.out;omega)⟩
    have KBy:Hid (Below w.heap.size w wy):=B1.out.trans (KB.out.mono B1.out.size)
    have hcx:=zd KBy.out _ _ (hat k x hx)
    have HX:=zh hx
    have HXV:=zh (HBV.out x (zr1 hx))
    have HKL:=zh hlt
    have hpl:=place_lt HXV.out
    obtain⟨⟨x',r⟩,hv'⟩:∃ m,vs[place F x]?=some m:=⟨_,zq9 (by have:=HNV.out;have:=HNF.out;omega)⟩
    have HRG:=zh (regOf_at hv')
    have OKR:Hid (0≤r∧r<regs):=by
     have:=OKA.out (place F x) (by have:=HNF.out;omega) x' r hv'
     exact⟨this.2.1,this.2.2.1⟩
    have WFR:Hid ((Lit.int .i64 r).wf=true):=by have h1:=OKR.out;have h2:=REG.out;exact WalkArith.wf_i64 (by omega)
    obtain⟨vg,vo,rfl,vat⟩:=VAT0.out (by have:=HNF.out;omega)
    have e1:=zd KBy.out _ _ (vat _ _ hv').2
    have BXy:=(KB.out.block _ (by have:=S1.out;omega)).trans BX.out
    have b1:wy.cell? ⟨w.heap.size,1,none⟩=some (.slice (some ⟨vg,vo,none⟩) nv vc):=by rw [zb _ _ 1 _ _ _ BXy];rfl
    have LKy:=(HF.out.link QF.out).keep KBy.out
    have p2:=LKy.f4
    have p1:∀ m,(Instr.lookup 116 (.map (some A.pl)) (.string x) false).run Tryz.prog (wy.drewN m) = .ok (.int .i64 (place F x:Nat)) (wy.drewN m):=fun m=>pmap_run (w:=wy.drewN m) (LKy.pm.keep rfl) HXV.out
    have hplz:((place F x:Nat):Int)<nv:=by have:=HNF.out;omega
    have hpl0:(0:Int)≤(place F x:Nat):=by omega
    obtain⟨pl,hpp⟩:∃ q,q=place F x:=⟨_,rfl⟩
    rw [← hpp] at e1 p1 hplz hpl0
    clear hlt hx hat hv' vat BXy LKy hpl hpp
    go_upto_region 20 with fail
    go_quiet (fail)
    obtain⟨wz,hwz⟩:∃ W,W=wy.drewN nq:=⟨_,rfl⟩
    rw [← hwz]
    have KTz:Hid (ISet wz tb T):=by rw [hwz];exact KT.out.keep rfl
    have KBz:Hid (Below w1.heap.size w1 wz):=by rw [hwz];exact KB.out.trans (zj _ _ _)
    clear hwz e1 p1 p2 b1 hcx
    have DR:Hid (bs.drop k=x :: bs.drop (k+1)):=by
     show _=_
     rw [List.drop_eq_getElem_cons (by have:=HKL.out;have:=HNB.out;omega)];congr 1;exact(zq8.1 HX.out).2
    by_cases hm:r∈T
    ·have E:Hid (ans=false):=by
      show _=_
      rw [ANS.out]
      refine right_not fun h=>?_
      have h1:=h.2.2.2.2 q QF.out
      rw [← AP.out,DR.out,apart_in (by rw [HRG.out];exact hm)] at h1
      cases h1
     have hm':(r∈T)=True:=by simp [hm]
     clear hm
     go_wp2_with (at_lookup;refine wpList_sat rfl _ _ rfl tb T rfl KTz.out r rfl WFR.out ?_;simp only [hm',if_true])
     go_ret
     exact⟨B1.out.trans (KBz.out.mono B1.out.size),by rw [E.out];rfl⟩
    have AP2:Hid (apart F (regOf F vs) (bs.drop (k+1)) (T++[r])=rightAt F (regOf F vs) q):=by
     show _=_
     rw [← AP.out,DR.out,apart_out (by rw [HRG.out];exact hm),HRG.out]
    have hm':(r∈T)=False:=by simp [hm]
    clear hm
    go_upto_region 23 with (at_lookup;refine wpList_sat rfl _ _ rfl tb T rfl KTz.out r rfl WFR.out ?_;simp only [hm',if_false])
    go_wp2_with (at_mapUpdate;refine wpList_sput rfl _ _ _ rfl tb T rfl KTz.out ?_ ?_ r rfl rfl WFR.out ?_)
    ·have:=TL.out;have:=HNBZ.out;have:=HKL.out;omega
    ·intro l hn hl
     have h1:=nodup_sub_len hn hl
     have:=TL.out;have:=HNBZ.out;have:=HKL.out;omega
    intro w6 hm6 hg6
    have KT6:=zh hm6
    have B6:Hid (Below w1.heap.size w1 w6):=KBz.out.grown hg6 KBz.out.size (fun r e=>by simp at e;have:=TBL.out;omega)
    clear hm6 hg6
    go_wp2_with fail
    go_roundw
    case rel=>exact⟨k+1,T++[r],HKL.out,by go_num,B6.out,KT6.out,by have:=TL.out;rw [zr2,List.length_singleton];omega,AP2.out⟩
    case measure=>have:=HKL.out;simp [intOf];omega
   have hkn:k=nb:=by have:=KK.out;omega
   have hklz:(nb:Int)≤k:=by omega
   have OK2:Hid (∀ j,j<q+1→rightAt F (regOf F vs) j=true):=fun j hj=>by
    by_cases e:j=q
    ·subst e
     have h1:=AP.out
     rw [hkn,HNB.out,List.drop_length] at h1
     rw [← h1];rfl
    exact OK.out j (by omega)
   have hdk:decide (k<nb)=false:=by simp;omega
   clear hkn hlt
   go_wp2_with fail
   go_roundw
   case rel=>exact⟨q+1,QLT.out,by go_num,KB.out,OK2.out⟩
   case measure=>have:=QLT.out;simp [intOf];omega
  intro x v w5 cnt1 hwx hx htx hrg1 hlt1 hg1 hs1 hen
  obtain⟨y,hyv,hyc,rfl,rfl⟩:=vset_mem.1 hx
  have hpl:=place_lt hyv
  have htw:tb≤w2.heap.size:=by have:=HCB.out;omega
  have B5:Hid (Below tb wl w5):=KB.out.grown hg1 (by have:=KS.out;omega) (fun r e=>by simp at e;omega)
  have B51:Hid (Below w1.heap.size w1 w5):=KL.out.trans (B5.out.mono HS1.out)
  have B5w:Hid (Below w.heap.size w w5):=B1.out.trans (B51.out.mono B1.out.size)
  obtain⟨⟨x',r⟩,hv'⟩:∃ m,vs[place F y]?=some m:=⟨_,zq9 (by have:=HNV.out;have:=HNF.out;omega)⟩
  have HRG:=zh (regOf_at hv')
  have OKR:Hid (0≤r∧r<regs):=by
   have:=OKA.out (place F y) (by have:=HNF.out;omega) x' r hv'
   exact⟨this.2.1,this.2.2.1⟩
  have WFR:Hid ((Lit.int .i64 r).wf=true):=by have h1:=OKR.out;have h2:=REG.out;exact WalkArith.wf_i64 (by omega)
  obtain⟨vg,vo,rfl,vat⟩:=VAT0.out (by have:=HNF.out;omega)
  have e1:=zd B5w.out _ _ (vat _ _ hv').2
  have BX5:=(B51.out.block _ (by have:=S1.out;omega)).trans BX.out
  have b1:w5.cell? ⟨w.heap.size,1,none⟩=some (.slice (some ⟨vg,vo,none⟩) nv vc):=by rw [zb _ _ 1 _ _ _ BX5];rfl
  have hplz:((place F y:Nat):Int)<nv:=by have:=HNF.out;omega
  have hpl0:(0:Int)≤(place F y:Nat):=by omega
  have STP:=zh (fun t=>TxI_step (reg:=regOf F vs) hyv hyc htx t)
  rw [HRG.out] at STP
  obtain⟨pl,hpp⟩:∃ q,q=place F y:=⟨_,rfl⟩
  rw [← hpp] at e1 hplz hpl0 hwx hx htx hrg1 hen STP ⊢
  have K4:=zh hrg1
  have K5:=zh hlt1
  have KT5:=zh (KT.out.keep (hg1.block tb KT.out.lt (by intro e;simp at e;have:=HCB.out;omega)))
  have KS5:Hid (w2.heap.size<w5.heap.size):=zt5 KS.out hg1.size
  clear hpl hyv hyc hpp hrg1 hlt1 hg1 hs1 hwx hx htx hv' vat BX5
  go_wp2_with (at_mapUpdate;refine wpList_sput rfl _ _ _ rfl tb (TxI F q (regOf F vs) todo) rfl KT5.out ?_ ?_ r rfl rfl WFR.out ?_)
  ·have:=TxI_len F q (regOf F vs) todo;have:=H32.out;omega
  ·intro l hn hl
   have h1:=nodup_sub_len hn hl
   have h2:=TxI_len F q (regOf F vs) todo
   have h3:=H32.out
   omega
  intro w6 hm6 hg6
  have KT6:=zh (hm6.congr fun t=>STP.out t)
  have RG6:=zh (K4.out.kept hg6 (by intro e;simp at e;have:=HCB.out;omega) (by intro e;simp at e;have:=HCB.out;omega))
  have B6:Hid (Below tb wl w6):=B5.out.grown hg6 (by have:=KS5.out;omega) (fun r e=>by simp at e;omega)
  have KS6:Hid (w2.heap.size<w6.heap.size):=zt5 KS5.out hg6.size
  clear hm6 hg6 hen e1 b1
  go_wp2_with fail
  go_roundw
  case rel=>exact⟨_,cnt1,RG6.out,KT6.out,B6.out,KS6.out⟩
  case measure=>rw [RG6.out.left_eq,RG1.out.left_eq];exact K5.out
 have hqz:(n:Int)≤q:=by omega
 have E:Hid (ans=true):=by
  show _=_
  rw [ANS.out]
  exact right_done REG.out.1 REG.out.2 (by rw [← HNV.out,HNF.out]) (fun j hj=>OKA.out j (by rw [HNV.out];exact hj)) (fun j hj=>OK.out j (by have:=HN.out;omega))
 clear hlt
 go_wp2_with fail
 go_ret
 exact⟨KLw.out,by rw [E.out];rfl⟩
def CkP (isName:Nm→Bool) (w:World) (ps:List Nm) (e:TE) (regs:Int) (vs:List (Nm×Int)) (en:Ending) (w':World):Prop :=
 Below w.heap.size w w'∧((RG.Good isName ps e∧en = .returned (.int .i64 (if right (F0 ps e) ps.length regs vs then 0 else 161)))∨(¬ RG.Good isName ps e∧en = .returned (.int .i64 160)))
theorem check_any {Env:World→Prop}{isName:Nm→Bool}{w:World}{v:Value}{ps:List Nm}{e:TE}(h:FnOk Env isName w v ps e) {regs:Int}{u:Value}{vs:List (Nm×Int)}(hu:VarsAt w u vs) :
  Calls Tryz.prog 46 #[v,.agg #[.int .i64 regs,u]] w (CkP isName w ps e regs vs):=by
 obtain⟨cs,rfl⟩:=h.cells
 have HU:=zh hu
 obtain⟨ua,uc,rfl,-⟩:=hu
 obtain⟨nu,hnu⟩:∃ n,n=vs.length:=⟨_,rfl⟩
 rw [← hnu] at HU ⊢
 have BB:Hid (Below (w.alloc (.cells cs 29)).heap.size (w.alloc (.cells cs 29)) ((w.alloc (.cells cs 29)).alloc (.cells #[.int .i64 regs,.slice ua nu uc] 56))):=(zs9 _ _).alloc (zr4 _) _
 have RD:Hid (Calls Tryz.prog 58 #[.pointer (some ⟨w.heap.size,0,none⟩)] ((w.alloc (.cells cs 29)).alloc (.cells #[.int .i64 regs,.slice ua nu uc] 56)) (fun en w'=>ReadP isName ((w.alloc (.cells cs 29)).alloc (.cells #[.int .i64 regs,.slice ua nu uc] 56)) ps e en w')):=h.boxedAt BB.out
 have B0:Hid (Below w.heap.size w ((w.alloc (.cells cs 29)).alloc (.cells #[.int .i64 regs,.slice ua nu uc] 56))):=((zs9 _ _).alloc (zr4 _) _).alloc (by simp) _
 clear h hnu
 go_enter Tryz.func46,Tryz.ntmps46
 go_wp2_with fail
 refine RD.out.mono ?_
 rintro en w1 ⟨hb,⟨hg,A,fl,rfl,hfl⟩|⟨hng,rfl⟩⟩
 rotate_left
 ·have B1:Hid (Below w.heap.size w w1):=B0.out.trans (hb.mono B0.out.size)
  have NG:=zh hng
  clear hb hng
  go_wp2_with fail
  go_ret
  exact⟨B1.out,.inr ⟨NG.out,rfl⟩⟩
 have B1:Hid (Below w.heap.size w w1):=B0.out.trans (hb.mono B0.out.size)
 have HG:=zh hg
 have rb:w1.heap[w.heap.size+1]?=some (.cells #[.int .i64 regs,.slice ua nu uc] 56):=by
  rw [hb.block _ (by simp)]
  have:=zs2 (w.alloc (.cells cs 29)) (.cells #[.int .i64 regs,.slice ua nu uc] 56)
  rw [World.size_alloc] at this
  exact this
 have r0:w1.cell? ⟨w.heap.size+1,0,none⟩=some (.int .i64 regs):=by rw [zb _ _ 0 _ _ _ rb];rfl
 have r1:w1.cell? ⟨w.heap.size+1,1,none⟩=some (.slice ua nu uc):=by rw [zb _ _ 1 _ _ _ rb];rfl
 have IR:=zh (isRight_any (regs:=regs) hfl hg.few (HU.out.kept (zd B1.out)))
 have PE:Hid ((nd (F0 ps e) 0).binds.length=ps.length):=by show _=_;rw [F0_nd0]
 obtain⟨ans,hans⟩:∃ b,b=right (F0 ps e) ps.length regs vs:=⟨_,rfl⟩
 rw [PE.out,← hans] at IR
 have ANS:=zh hans
 clear hb hg hfl rb RD BB hans
 go_wp2_with fail
 refine IR.out.mono ?_
 rintro en w2 ⟨hb,rfl⟩
 have B2:Hid (Below w.heap.size w w2):=B1.out.trans (hb.mono B1.out.size)
 clear hb r0 r1 IR
 cases ans
 ·go_wp2_with fail
  go_ret
  exact⟨B2.out,.inl ⟨HG.out,by rw [← ANS.out];rfl⟩⟩
 go_wp2_with fail
 go_ret
 exact⟨B2.out,.inl ⟨HG.out,by rw [← ANS.out];rfl⟩⟩
end Go.Proofs.YtnkahlloahgifaaGreatDoor
namespace Go.Proofs.YtnkahlloahgifaaGreatDoor
open Go.ChangeShapes Go.WideShapes Go.ChangeAt Go.RowKit Go.Deep RG
section
variable {H:Type} {enc:TypeId×Value→H} {W:World}
theorem cells61:Tryz.prog.cellsOf 61=2:=by kernel_rfl
theorem cells56:Tryz.prog.cellsOf 56=2:=by kernel_rfl
theorem cells54:Tryz.prog.cellsOf 54=1:=by kernel_rfl
theorem under61:∃ fs:Array Field,Tryz.prog.underlying 61=some (.struct fs)∧fs.toList.map (fun f=>(f.type,f.offset))=[(9,0),(3,1)]:=⟨_,Tryz.underlying61,by kernel_rfl⟩
theorem under56:∃ fs:Array Field,Tryz.prog.underlying 56=some (.struct fs)∧fs.toList.map (fun f=>(f.type,f.offset))=[(3,0),(54,1)]:=⟨_,Tryz.underlying56,by kernel_rfl⟩
def VrWf (l:List (Nm×Int)):Prop:=(∀ t∈l,t.1.size≤maxLen∧(Lit.int .i64 t.2).wf=true)∧l.length≤maxLen
theorem open_vars {n:Nat}{v:Value}{x:DataW H×List MemPlace}(h:DataW.trod enc Tryz.prog W 0 (fun _=>true) true n 54 [v]=some x):∃ l:List (Nm×Int),VarsAt W v l∧VrWf l:=by
 obtain⟨ad,len,cap,rfl,hl,hc,hat⟩:=trod_els Tryz.underlying54 h
 have key:∀ i,i<len→∃ s:Nm×Int,(s.1.size≤maxLen∧(Lit.int .i64 s.2).wf=true)∧∃ a,ad=some a∧W.cell? (a.add (i*2))=some (.string s.1)∧W.cell? ((a.add (i*2)).add 1)=some (.int .i64 s.2):=fun i hi=>by
  obtain⟨a,m,ha,_,hel⟩:=hat (by omega)
  obtain⟨cs,y,hcl,hcell,ht⟩:=hel i hi
  rw [cells61] at hcl hcell
  obtain⟨fs,hu,hL⟩:=under61
  obtain⟨m',_,_,hf⟩:=trod_field hL hu ht
  obtain⟨c0,c1,rfl⟩:=len2 hcl
  obtain⟨y0,h0⟩:=hf 0 9 0 rfl
  obtain⟨y1,h1⟩:=hf 1 3 1 rfl
  rw [cells1.1] at h0
  rw [cells1.2.1] at h1
  obtain⟨s,hs,_,hz⟩:=DataW.trod_string Tryz.underlying9 h0
  obtain⟨m1,hm,_,hwf⟩:=DataW.trod_int Tryz.underlying3 h1
  simp at hs hm
  subst hs hm
  exact⟨(s,m1),⟨hz,hwf⟩,a,ha,hcell 0 (by decide),hcell 1 (by decide)⟩
 haveI:Inhabited (Nm×Int):=⟨(⟨#[]⟩,0)⟩
 obtain⟨ns,hns,hq⟩:=pick_list key
 refine⟨ns,⟨ad,cap,by rw [hns],fun h0=>?_⟩,fun x hx=>?_,by omega⟩
 ·obtain⟨x0,hx0⟩:∃ x,ns[0]?=some x:=⟨_,zq9 h0⟩
  obtain⟨_,a,ha,hc0,_⟩:=hq 0 x0 hx0
  obtain⟨g,o,rfl⟩:∃ g o,a=⟨g,o,none⟩:=plain_of (show W.cell? a=some _ from hc0)
  refine⟨g,o,ha,fun i s hs=>?_⟩
  obtain⟨_,a',ha',hca,hcb⟩:=hq i s hs
  rw [ha,zt3] at ha'
  subst ha'
  rw [add_plain] at hca hcb
  rw [add_plain] at hcb
  exact⟨hca,hcb⟩
 obtain⟨i,hi⟩:=List.mem_iff_getElem?.1 hx
 exact(hq i x hi).1
theorem open_alloc {v:Value}{d:DataW H}{p:List MemPlace}{base:Nat}(hv:Value.okWide Tryz.prog W .any base 56 v) (h:DataW.Trod enc Tryz.prog W 0 (fun _=>true) true 56 v d p) :
  ∃ (r:Int) (u:Value) (l:List (Nm×Int)),v = .agg #[.int .i64 r,u]∧(Lit.int .i64 r).wf=true∧VarsAt W u l∧VrWf l:=by
 obtain⟨cs,rfl,hsz⟩:=okWide_struct Tryz.underlying56 hv
 obtain⟨fuel,hf⟩:=h
 replace hf:DataW.trod enc Tryz.prog W 0 (fun _=>true) true fuel 56 cs.toList=some (d,p):=hf
 obtain⟨fs,hu,hL⟩:=under56
 obtain⟨m,rfl,hcl,hg⟩:=trod_field hL hu hf
 rw [cells56] at hcl
 obtain⟨a0,a1,hcs⟩:=len2 hcl
 obtain⟨y0,h0⟩:=hg 0 3 0 rfl
 obtain⟨y1,h1⟩:=hg 1 54 1 rfl
 rw [hcs] at h0 h1
 rw [cells1.2.1] at h0
 rw [cells54] at h1
 obtain⟨r,e0,_,hwf⟩:=DataW.trod_int Tryz.underlying3 h0
 simp at e0
 subst e0
 obtain⟨l,hl,hw⟩:=open_vars (show DataW.trod enc Tryz.prog W 0 (fun _=>true) true m 54 [a1]=some y1 from h1)
 refine⟨r,a1,l,?_,hwf,hl,hw⟩
 congr 1
 apply Array.toList_inj.1
 rw [hcs]
end
end Go.Proofs.YtnkahlloahgifaaGreatDoor
