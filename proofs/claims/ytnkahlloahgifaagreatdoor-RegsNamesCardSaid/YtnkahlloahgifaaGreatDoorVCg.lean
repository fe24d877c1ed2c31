/- Part. -/
import Derived.Test.YtnkahlloahgifaaGreatDoorVLxL0
import Derived.Lib.ItoaLen
import Derived.Lib.SplitLaws
import Derived.Lib.AtoiErrMem
import Derived.RecoverIn
import Derived.RegionTactic
import Derived.RangeFuncBox
import Derived.RangeFuncIn
import Derived.Maps.AppendAt
import Derived.Lib.SlicesS
import Derived.Lib.LazyBuf
import Derived.Deep.OwnRows
import Derived.Lib.SliceRun
import Derived.Laws.OwnMore
import Derived.Laws.Cover1
set_option maxHeartbeats 16000000
set_option maxRecDepth 100000
set_option linter.unusedSimpArgs false
set_option linter.unusedVariables false
namespace Go.Proofs.YtnkahlloahgifaaGreatDoor
namespace Lx
open Go.RowKit
theorem below_more (w:World) (os:Array Obj) (B:Nat) (hB:B≤w.heap.size):Below B w (Go.Sort.grow w os) :=
 ⟨rfl,rfl,rfl,by show w.heap.size≤(w.heap++os).size;rw [Array.size_append];omega,fun k hk=>by
  show (w.heap++os)[k]?=w.heap[k]?
  rw [Array.getElem?_append_left (zt5 hk hB)]⟩
theorem digits_any {w:World}(henv:Env w) (n:Int) (h0 : -9223372036854775808≤n) (h1:n≤9223372036854775807) :
  Calls Tryz.prog 163 #[.int .i64 n] w fun e w'=>e = .returned (.string (digS n))∧Below w.heap.size w w':=by
 obtain⟨m,hm⟩:=henv.max
 have IT:=Tryz.strconv_Itoa n h0 h1 w henv.tab
 have HM:=zh hm
 have HE:=zh henv
 have hl:=Lib.itoa_length_le n h0 h1
 have HL:Hid ((⟨(Lib.itoa n).toArray⟩:ByteArray).size≤21):=hl
 have HR:Hid ((⟨(Lib.replace (⟨(Lib.itoa n).toArray⟩:ByteArray).data.toList [45] [126] 1).toArray⟩:ByteArray)=digS n):=by
  show ByteArray.mk _=ByteArray.mk _
  rw [show (⟨(Lib.itoa n).toArray⟩:ByteArray).data.toList=Lib.itoa n from rfl,replace_itoa]
 clear hm henv h0 h1 hl
 obtain⟨tx,htx⟩:∃ t:ByteArray,t=⟨(Lib.itoa n).toArray⟩:=⟨_,rfl⟩
 rw [← htx] at IT HL HR
 clear htx
 go_enter Tryz.func163,Tryz.ntmps163
 go_wp2_with fail
 refine IT.mono ?_
 clear IT
 rintro e w1 ⟨rfl,k,os,rfl⟩
 have HB:Hid (Below w.heap.size w (Go.Sort.grow (w.drewN k) os)):=(below_drawn (zs9 w.heap.size w) k).trans (below_more (w.drewN k) os _ (zr4 _))
 go_wp2_with fail
 obtain⟨W,hW⟩:∃ W,W=Go.Sort.grow (w.drewN k) os:=⟨_,rfl⟩
 rw [← hW] at HB ⊢
 clear hW
 have RP:=Tryz.strings_Replace tx ⟨#[45]⟩ ⟨#[126]⟩ 1 m W (by have:=HL.out;omega) (by rw [HB.out.cell (by show 0<_;have:=HE.out.size;omega)];exact HM.out) (by decide) (by
  have hc:=Lib.countB_le (⟨#[45]⟩:ByteArray) (by decide) tx.size tx (zr4 _)
  have:=HL.out
  have e1:(⟨#[126]⟩:ByteArray).size=1:=rfl
  rw [e1]
  omega)
 rw [show (⟨#[45]⟩:ByteArray).data.toList=[45] from rfl,show (⟨#[126]⟩:ByteArray).data.toList=[126] from rfl,HR.out] at RP
 refine RP.mono ?_
 clear RP
 rintro e w2 ⟨rfl,hb⟩
 go_wp2_with fail
 go_ret
 exact⟨rfl,HB.out.trans (hb.mono HB.out.size)⟩
theorem index_in (a:UInt8):∀ l:List UInt8,Lib.index l [a] = -1∨(0≤Lib.index l [a]∧Lib.index l [a]<l.length)
 | [] => .inl rfl
 | b :: l=>by
  have ih:=index_in a l
  unfold Lib.index
  split
  ·exact .inr ⟨by decide,by simp only [zv2];omega⟩
  split
  ·exact .inl rfl
  rename_i h
  rcases ih with ih | ih
  ·rw [ih] at h;exact absurd rfl h
  exact .inr ⟨by omega,by simp;omega⟩
theorem replaceK_length (a b:UInt8):∀ (k:Nat) (s:List UInt8),(Lib.replaceK [a] [b] k s).length=s.length
 | 0,_=>rfl
 | k+1,s=>by
  unfold Lib.replaceK
  split
  ·rfl
  rename_i h
  rcases index_in a s with ih | ih
  ·rw [ih] at h;exact absurd rfl h
  simp only [zr2,replaceK_length a b k,List.length_take,List.length_drop,List.length_singleton]
  omega
theorem replace_length (a b:UInt8) (s:List UInt8):(Lib.replace s [a] [b] 1).length=s.length:=by
 unfold Lib.replace
 split
 ·rfl
 exact replaceK_length a b _ s
theorem digS_size (n:Int) (h0 : -9223372036854775808≤n) (h1:n≤9223372036854775807):(digS n).size≤21:=by
 show (digL n).length≤21
 rw [← replace_itoa,replace_length]
 exact Lib.itoa_length_le n h0 h1
theorem number_law:NumLaw:=by
 intro w t henv ht
 obtain⟨m,hm⟩:=henv.max
 have HM:=zh hm
 have HE:=zh henv
 have HT:=zh ht
 clear hm henv ht
 have RP:=Tryz.strings_Replace t ⟨#[126]⟩ ⟨#[45]⟩ 1 m w (by have:=HT.out;omega) HM.out (by decide) (by
  have hc:=Lib.countB_le (⟨#[126]⟩:ByteArray) (by decide) t.size t (zr4 _)
  have:=HT.out
  have e1:(⟨#[45]⟩:ByteArray).size=1:=rfl
  rw [e1]
  omega)
 rw [show (⟨#[45]⟩:ByteArray).data.toList=[45] from rfl,show (⟨#[126]⟩:ByteArray).data.toList=[126] from rfl] at RP
 obtain⟨x,hx⟩:∃ x,x=Lib.replace t.data.toList [126] [45] 1:=⟨_,rfl⟩
 have HX:=zh hx
 rw [← hx] at RP
 clear hx
 go_enter Tryz.func158,Tryz.ntmps158
 go_wp2_with fail
 refine RP.mono ?_
 clear RP
 rintro e w1 ⟨rfl,hb1⟩
 have HB1:=zh hb1
 have HE1:Hid (Env w1):=HE.out.keep hb1 HE.out.size
 have HXS:Hid ((⟨x.toArray⟩:ByteArray).size≤400000):=by
  show x.length≤_
  rw [HX.out,replace_length]
  exact HT.out
 clear hb1
 go_wp2_with fail
 have BAD:Hid (LX.num (bts t)=none→∀ w',Below w.heap.size w w'→NumPost w t (.returned (.tuple #[.int .i64 0,.int .i64 13])) w'):=fun h w' hb=>by
  unfold NumPost
  rw [h]
  exact⟨rfl,hb⟩
 cases hv:LX.num (bts t) with
 | some v =>
  obtain⟨e1,e2⟩:=atoi_of_num hv
  obtain⟨h0,h1,-⟩:=num_some hv
  have HV:=zh hv
  rw [← HX.out] at e2
  have AT:=Tryz.strconv_Atoi_ok ⟨x.toArray⟩ (by have:=HXS.out;omega) v e2 w1
  have D:=fun (W:World) (h:Env W)=>digits_any h v h0 h1
  have HD:=zh D
  have HT2:=zh e1
  clear hv e1 e2 D h0 h1
  refine AT.mono ?_
  clear AT
  rintro e w2 ⟨rfl,hw2⟩
  have HB2:Hid (Below w1.heap.size w1 w2):=by
   rcases hw2 with rfl | ⟨u,rfl⟩
   ·exact zs9 _ _
   exact Lib.bytesWorld_below _ _ _
  clear hw2
  go_wp2_with fail
  refine(HD.out w2 (HE1.out.keep HB2.out HE1.out.size)).mono ?_
  rintro e w3 ⟨rfl,hb3⟩
  rw [← HT2.out]
  have HB3:=zh hb3
  clear hb3
  go_wp2_with fail
  go_returns
  unfold NumPost
  rw [HV.out]
  exact⟨rfl,HB1.out.trans ((HB2.out.trans (HB3.out.mono HB2.out.size)).mono HB1.out.size)⟩
 | none =>
  have HV:=zh hv
  have NE:Hid (∀ v,-9223372036854775808≤v→v≤9223372036854775807→digS v≠t):=ne_of_num hv
  clear hv
  cases ha:Lib.atoiAll x with
  | ok v =>
   obtain⟨h0,h1⟩:=atoi_range ha
   have AT:=Tryz.strconv_Atoi_ok ⟨x.toArray⟩ (by have:=HXS.out;omega) v ha w1
   have D:=fun (W:World) (h:Env W)=>digits_any h v h0 h1
   have HD:=zh D
   have hne:((digS v).toList==t.toList)=false:=zt6 fun e=>NE.out v h0 h1 (by rw [ByteArray.toList_eq,ByteArray.toList_eq] at e;exact bts_inj (by unfold bts;rw [e]))
   clear ha D h0 h1
   refine AT.mono ?_
   clear AT
   rintro e w2 ⟨rfl,hw2⟩
   have HB2:Hid (Below w1.heap.size w1 w2):=by
    rcases hw2 with rfl | ⟨u,rfl⟩
    ·exact zs9 _ _
    exact Lib.bytesWorld_below _ _ _
   clear hw2
   go_wp2_with fail
   refine(HD.out w2 (HE1.out.keep HB2.out HE1.out.size)).mono ?_
   rintro e w3 ⟨rfl,hb3⟩
   have HB3:=zh hb3
   clear hb3
   go_wp2_with fail
   go_returns
   exact BAD.out HV.out _ (HB1.out.trans ((HB2.out.trans (HB3.out.mono HB2.out.size)).mono HB1.out.size))
  | range =>
   obtain⟨tp,p,hvar⟩:=HE1.out.rng
   have AT:=Tryz.strconv_Atoi_range ⟨x.toArray⟩ (by have:=HXS.out;omega) ha _ w1 hvar (.inr ⟨tp,p,rfl⟩)
   clear ha hvar
   refine AT.mono ?_
   clear AT
   rintro e w2 ⟨N,rfl,-,-,hb2⟩
   have HB2:=zh hb2
   clear hb2
   go_wp2_with fail
   go_returns
   exact BAD.out HV.out _ (HB1.out.trans ((HB2.out).mono HB1.out.size))
  | _ =>
   obtain⟨tp,p,hvar⟩:=HE1.out.syn
   have AT:=Tryz.strconv_Atoi_syntax ⟨x.toArray⟩ (by have:=HXS.out;omega) (by rw [ha]<;>rfl) _ w1 hvar (.inr ⟨tp,p,rfl⟩)
   clear ha hvar
   refine AT.mono ?_
   clear AT
   rintro e w2 ⟨N,rfl,-,-,hb2⟩
   have HB2:=zh hb2
   clear hb2
   go_wp2_with fail
   go_returns
   exact BAD.out HV.out _ (HB1.out.trans ((HB2.out).mono HB1.out.size))
end Lx
namespace Lx
open Go.RowKit
def APost (n0:Nat) (w:World) (b mb ib:Nat) (s:ByteArray) (j:Nat) (cs:List (Nat×Nat)) (e:Ending) (w':World):Prop :=
 (∃ p er:Nat,e=thrown p er∧LX.sc (bts s) j = .bad p er∧Kt n0 w w') ∨
 (∃ n cv' cs',e = .returned (.tuple #[])∧It n0 w' b mb ib s n cv' (cs++cs')∧Kt n0 w w'∧LX.sc (bts s) j=(LX.sc (bts s) n).app [] cs'∧j≤n∧n≤s.size∧(cs++cs').length≤n ∧
  (n<s.size→LX.space ((bts s).getD n 0)=false∧LX.opens ((bts s).drop n)=false))
theorem pass_it {n0:Nat}{w:World}{b mb ib j:Nat}{s:ByteArray}{cv:Value}{cs:List (Nat×Nat)}(h:It n0 w b mb ib s j cv cs) (hl:cs.length≤j) :
  Calls Tryz.prog 142 #[.pointer (some ⟨b,0,none⟩)] w (APost n0 w b mb ib s j cs):=by
 refine(pass_any h.sc h.cm hl).mono ?_
 have hj:j≤(bts s).length:=by rw [ze];exact h.sc.2.1
 have hp:=LX.sc_pass (bts s) (s.size+1) j hj (by rw [ze];omega)
 intro e w' hq
 rcases hr:LX.passN (s.size+1) ((bts s).drop j) j with ⟨n,cs'⟩|⟨p,er⟩
 case bad =>
  rw [hr] at hp hq
  obtain⟨rfl,cv',hf⟩:=hq
  exact .inl ⟨p,er,rfl,hp,hf.kt h.sc h.cm h.hb h.hcv⟩
 case «to» =>
  rw [hr] at hp hq
  obtain⟨rfl,cv',hs,hc,hf⟩:=hq
  obtain⟨h1,h2,h3,h4,h5⟩:=hp
  rw [ze] at h3 h5
  exact .inr ⟨n,cv',cs',rfl,h.fr hf hs hc,hf.kt h.sc h.cm h.hb h.hcv,h1,h2,h3,by rw [zr2];omega,h5⟩
def IPost (n0:Nat) (J:List LX.Tok→World→Prop) (b mb ib:Nat) (s:ByteArray) (e:Ending) (w':World):Prop :=
 match LX.scan (bts s) with
 | .ok ts cs=>e = .returned (.tuple #[])∧J ts w'∧∃ i cv,It n0 w' b mb ib s i cv cs
 | .bad p er=>e=thrown p er∧∃ ts,J ts w'
theorem toks_in {n0:Nat}{w:World}{b mb ib:Nat}{s:ByteArray}{cv:Value}(n l:Nat) (J:List LX.Tok→World→Prop)
  (hJ:∀ ts W W',J ts W→Kt n0 W W'→J ts W')
  (hY:∀ (ts:List LX.Tok) (k:Nat) (v:Int) (p:Nat) (tx:ByteArray) (W:World),J ts W→ts.length<s.size→YieldAt Fence.wide n Tryz.prog l #[tokV k v tx p] W fun e W'=>e = .returned (.bool true)∧J (ts++[⟨k,v,bts tx,p⟩]) W'∧Kb n0 W W')
  (h:It n0 w b mb ib s 0 cv []) (h0:J [] w) :
  Calls Tryz.prog 141 #[.func (.yield l) #[] #[],.pointer (some ⟨ib,0,none⟩)] w (IPost n0 J b mb ib s):=by
 have c0:w.cell? ⟨ib,0,none⟩=some (.pointer (some ⟨b,0,none⟩)):=by rw [zb _ _ 0 _ _ _ h.box];rfl
 have PA:=zh (pass_it h (zr4 _))
 have HJ:=zh hJ
 have HY:=zh hY
 have H0:=zh h0
 have HI:=zh h
 have HZ:=zh h.sc.2.2
 clear hJ hY h0 h
 go_enter Tryz.func141,Tryz.ntmps141
 go_wp2_with fail
 refine PA.out.mono ?_
 clear PA c0
 rintro e w1 (⟨p,er,rfl,hb,hk⟩|⟨n1,cv1,cs1,rfl,hi1,hk1,hs1,hj1,hn1,hc1,hp1⟩)
 ·unfold thrown
  have HB:=zh hb
  have HK:=zh hk
  clear hb hk
  go_wp2_with fail
  refine⟨rfl,?_⟩
  unfold IPost
  rw [LX.scan_sc,HB.out]
  exact⟨rfl,[],HJ.out _ _ _ H0.out HK.out⟩
 have K1:=zh hi1
 have K2:=zh hk1
 have K3:=zh hs1
 have K4:=zh (And.intro hn1 hc1)
 have K5:=zh hp1
 clear hi1 hk1 hs1 hj1 hn1 hc1 hp1
 go_wp2_with fail
 go_loopg [3] (s.size - n1) (fun gk v wr=>∃ (j:Nat) (ts:List LX.Tok) (cs:List (Nat×Nat)) (cv':Value),j≤s.size∧gk=s.size - j∧It n0 wr b mb ib s j cv' cs∧J ts wr∧ts.length≤j∧cs.length≤j ∧
  (j<s.size→LX.space ((bts s).getD j 0)=false∧LX.opens ((bts s).drop j)=false)∧LX.sc (bts s) 0=(LX.sc (bts s) j).app ts cs)
 case atStart=>exact⟨n1,[],cs1,cv1,K4.out.1,rfl,K1.out,HJ.out _ _ _ H0.out K2.out,zv3 _,K4.out.2,K5.out,K3.out⟩
 obtain⟨j,ts,cs,cv',hjs,hgk,hit,hJt,htl,hcl,hsp,hsc⟩:=hrel
 obtain⟨e0,e1,elt,ele,esz⟩:=hit.sc.at'
 have ef:∀ q,wr.frozen? ⟨b,q,none⟩=false:=fun q=>zs1 wr b q _ _ hit.sc.1
 have eb:wr.cell? ⟨ib,0,none⟩=some (.pointer (some ⟨b,0,none⟩)):=by rw [zb _ _ 0 _ _ _ hit.box];rfl
 have H1:=zh hit
 have H2:=zh hJt
 have H3:=zh (And.intro htl hcl)
 have H4:=zh hsp
 have H5:=zh hsc
 have H6:=zh hgk
 have hjz:(j:Int)≤400000:=by omega
 clear hit hJt htl hcl hsp hsc hgk ele esz
 by_cases hlt:j<s.size
 ·have hlz:(j:Int)<(s.size:Int):=by omega
  have HLT:=zh hlt
  clear hlt hjs
  go_wp2_with fail
  go_quiet (fail)
  go_wp2_with fail
  refine(token_any number_law (H1.out.drewN nq).sc (H1.out.drewN nq).env (H1.out.drewN nq).wd (H1.out.drewN nq).hmb HLT.out).mono ?_
  intro e w2 hq
  have hstep:=LX.sc_step (T:=bts s) (j:=j) (by rw [ze];exact HLT.out)
  rw [(H4.out HLT.out).1,if_neg (by decide),(H4.out HLT.out).2,if_neg (by decide)] at hstep
  rcases ht:LX.token ((bts s).drop j) with ⟨k,v,m⟩|⟨er⟩
  case bad =>
   rw [ht] at hq hstep
   obtain⟨rfl,hb⟩:=hq
   have G1:=zh hb
   have G2:=zh hstep
   clear hb hstep ht
   unfold thrown
   go_wp2_with fail
   refine⟨rfl,?_⟩
   unfold IPost
   rw [LX.scan_sc,H5.out,G2.out]
   exact⟨rfl,ts,HJ.out _ _ _ H2.out (Kt.of_below (zu G1.out))⟩
  rw [ht] at hq hstep
  obtain⟨rfl,hb⟩:=hq
  have hm:=LX.token_len ht
  rw [List.length_drop,ze] at hm
  have G1:=zh hb
  have G2:=zh hstep
  have G3:=zh hm
  have hmz:(j:Int)+(m:Int)≤400000:=by have:=HZ.out;omega
  obtain⟨tx,htx⟩:∃ t,t=s.extract j (j+m):=⟨_,rfl⟩
  rw [← htx]
  have htl:tx.size=m:=by rw [htx,ByteArray.size_extract];omega
  have G4:=zh htx
  have G5:=zh htl
  clear hb hstep ht hm htx htl e0 e1 elt ef eb
  unfold tokV
  go_wp2_with fail
  obtain⟨z,hz⟩:∃ z,z=w2.heap.size:=⟨_,rfl⟩
  obtain⟨V,hV⟩:∃ V,V=w2.alloc (.cells #[.int .i64 k,.int .i64 v,.string tx,.int .i64 j] 154):=⟨_,rfl⟩
  rw [← hV,← hz]
  have I2:=(H1.out.drewN nq).below G1.out
  have BV:Below w2.heap.size w2 V:=by rw [hV];exact(zs9 _ _).alloc (zr4 _) _
  have I3:=I2.below BV
  have KV:Hid (Kt n0 wr V):=(Kt.of_below (zu G1.out)).trans (Kt.of_below BV)
  have hVz:V.heap[z]?=some (.cells #[.int .i64 k,.int .i64 v,.string tx,.int .i64 j] 154 (0,0)):=by rw [hV,hz];exact zs2 w2 _
  have hne:z≠b:=by have:=(zq7.1 I2.sc.1).1;omega
  have v0:V.cell? ⟨b,0,none⟩=some (.string s):=I3.sc.at'.c0
  have v1:V.cell? ⟨b,1,none⟩=some (.int .i64 j):=I3.sc.at'.c1
  have vf:V.frozen? ⟨b,1,none⟩=false:=zs1 V b 1 _ _ I3.sc.1
  have vb:V.cell? ⟨ib,0,none⟩=some (.pointer (some ⟨b,0,none⟩)):=by rw [zb _ _ 0 _ _ _ I3.box];rfl
  have z2:V.cell? ⟨z,2,none⟩=some (.string tx):=by rw [zb _ _ 2 _ _ _ hVz];rfl
  have hwr:IntKind.i64.wrap ((j:Int)+(tx.size:Int))=(j:Int)+(tx.size:Int):=wrap_in _ (by rw [G5.out];omega)
  have J1:=zh I3
  have J2:=zh hVz
  have J3:=zh hne
  clear hz hV I2 BV I3 hVz hne
  refine wp_region_still_tail 12 (by kernel_rfl) (by kernel_rfl) ?_
  simp only [List.take_succ_cons,List.take_zero,List.drop_succ_cons,List.drop_zero,World.drew_eq]
  iterate 12 still_step
  refine wpStill_nil ?_
  go_upto_region 5 with (fail)
  clear v0 v1 vf vb z2 hwr
  obtain⟨U,hU⟩:∃ U,U=(V.setCell ⟨b,1,none⟩ (.int .i64 ((j:Int)+(tx.size:Int)))).drew:=⟨_,rfl⟩
  rw [← hU]
  have MU:Mv V U b ((j+m:Nat):Int):=by
   have e:((j+m:Nat):Int)=(j:Int)+(tx.size:Int):=by rw [G5.out];push_cast;rfl
   rw [hU,e]
   have M0:=Mv.of_set V b ((j:Int)+(tx.size:Int))
   exact⟨M0.os,M0.tape,M0.output,M0.size,M0.block,M0.cell⟩
  have A1:=J1.out.adv MU (by have:=G3.out;have:=HLT.out;omega)
  have hJU:J ts U:=HJ.out _ _ _ H2.out (KV.out.trans A1.2)
  have z2:U.heap[z]?=some (.cells #[.int .i64 k,.int .i64 v,.string tx,.int .i64 j] 154 (0,0)):=(MU.block z J3.out).trans J2.out
  have z0:U.cell? ⟨z,0,none⟩=some (.int .i64 k):=by rw [zb _ _ 0 _ _ _ z2];rfl
  have z1:U.cell? ⟨z,1,none⟩=some (.int .i64 v):=by rw [zb _ _ 1 _ _ _ z2];rfl
  have z2':U.cell? ⟨z,2,none⟩=some (.string tx):=by rw [zb _ _ 2 _ _ _ z2];rfl
  have z3:U.cell? ⟨z,3,none⟩=some (.int .i64 j):=by rw [zb _ _ 3 _ _ _ z2];rfl
  obtain⟨fn,tmps,assign,body,hy,hR⟩:=HY.out ts k v j tx U hJU (by have:=H3.out.1;have:=HLT.out;omega)
  unfold tokV at hy
  have A2:=zh A1.1
  have A3:=zh hR
  clear A1 hJU z2 hU MU hR
  refine(wpIn_wide (n:=n+1)).1 ?_
  gi_wp2
  refine A3.out.mono ?_
  rintro e U' ⟨rfl,hJ',hk'⟩
  have B1:=A2.out.kb hk'
  have B2:=zh hJ'
  have B3:=pass_it B1 (zr5 H3.out.2 (Nat.le_add_right _ _))
  have vb:U'.cell? ⟨ib,0,none⟩=some (.pointer (some ⟨b,0,none⟩)):=by rw [zb _ _ 0 _ _ _ B1.box];rfl
  have B4:=zh B3
  clear B1 hJ' B3 hk' z0 z1 z2' z3 hy
  gi_wp2
  go_wp2_with fail
  have hjm:j+m≤s.size:=by have:=G3.out;have:=HLT.out;omega
  have hbt:bts tx=((bts s).drop j).take m:=by rw [G4.out,bts_extract,Nat.add_sub_cancel_left]
  have C1:Hid (LX.sc (bts s) 0=(LX.sc (bts s) (j+m)).app (ts++[⟨k,v,bts tx,j⟩]) cs):=by
   show _=_
   rw [H5.out,G2.out,LX.Res.app_app,hbt,List.append_nil]
  have C2:=zh hjm
  clear hjm hbt
  refine B4.out.mono ?_
  clear B4 vb
  rintro e w3 (⟨p,er,rfl,hb,hk⟩|⟨n2,cv2,cs2,rfl,hi2,hk2,hs2,hj2,hn2,hc2,hp2⟩)
  ·unfold thrown
   have HB:=zh hb
   have HK:=zh hk
   clear hb hk
   go_wp2_with fail
   refine⟨rfl,?_⟩
   unfold IPost
   rw [LX.scan_sc,C1.out,HB.out]
   exact⟨rfl,_,HJ.out _ _ _ B2.out HK.out⟩
  have K1':=zh hi2
  have K2':=zh hk2
  have K3':Hid (LX.sc (bts s) 0=(LX.sc (bts s) n2).app (ts++[⟨k,v,bts tx,j⟩]) (cs++cs2)):=by
   show _=_
   rw [C1.out,hs2,LX.Res.app_app,List.append_nil]
  have K4':=zh (And.intro hn2 hc2)
  have K5':=zh hp2
  have K6':=zh hj2
  clear hi2 hk2 hs2 hj2 hn2 hc2 hp2
  go_wp2_with fail
  go_roundg (s.size - n2)
  case measure=>have:=H6.out;have:=HLT.out;have:=G3.out;have:=K6'.out;have:=K4'.out;omega
  exact⟨n2,_,_,cv2,K4'.out.1,rfl,K1'.out,HJ.out _ _ _ B2.out K2'.out,by have:=H3.out;have:=G3.out;have:=K6'.out;simp only [zr2,zv2,List.length_nil];omega,K4'.out.2,K5'.out,K3'.out⟩
 have hlz:(s.size:Int)≤(j:Int):=by omega
 have HE:Hid (j=s.size):=by show _=_;omega
 clear hlt hjs
 go_wp2_with fail
 go_quiet (fail)
 go_wp2_with fail
 (try simp only [Exit.inBlock,Exit.then])
 refine bodyPost_end (results_none rfl _ _ _) rfl ?_
 unfold IPost
 rw [LX.scan_sc,H5.out,LX.sc_end (by rw [ze,HE.out];exact zr4 _)]
 simp only [LX.Res.app,List.append_nil]
 exact⟨trivial,HJ.out _ _ _ H2.out ((Kt.refl _ _).drewN _),j,cv',H1.out.drewN _⟩
end Lx
namespace Lx
open Go.RowKit
theorem tokens_any (w:World) (b:Nat):Calls Tryz.prog 139 #[.pointer (some ⟨b,0,none⟩)] w fun e w'=>e = .returned (.func (.func 141) #[] #[.pointer (some ⟨w.heap.size,0,none⟩)])∧w'=w.alloc (.cells #[.pointer (some ⟨b,0,none⟩)] 200):=by
 go_enter Tryz.func139,Tryz.ntmps139
 go_wp2
 go_ret
 exact⟨rfl,rfl⟩
theorem caught_idle (n lb wb:Nat) (w:World) :
  CallsDIn Fence.wide n Tryz.prog 138 #[.pointer (some ⟨lb,0,none⟩),.pointer (some ⟨wb,0,none⟩)] .returning w fun e u' w'=>e = .returned (.tuple #[])∧u' = .returning∧w'=w:=by
 refine callsDIn_of_wpSIn Tryz.func138 rfl (by trivial) fun c₀ cs hu=>?_
 apply wpSIn_seq
 apply wpSIn_region
 simp [wpOpsSIn,go_sem,recoverD,hu,Tryz.ntmps138,Exit.thenS]
 refine wpSIn_of_wpIn rfl (wpIn_wide.2 ?_)
 go_wp2
 cases c₀
 simp_all [bodyPostS,results,Tryz.results138]
structure Two (w w':World) (x y:Nat) (ox oy:Obj):Prop where
 os:w'.os=w.os
 tape:w'.tape=w.tape
 output:w'.output=w.output
 size:w.heap.size≤w'.heap.size
 hx:w'.heap[x]?=some ox
 hy:w'.heap[y]?=some oy
 block:∀ k,k<w.heap.size→k≠x→k≠y→w'.heap[k]?=w.heap[k]?
theorem caught_thrown (n lb wb:Nat) (w:World) (i e:Int) (v x y:Value) (hl:w.heap[lb]?=some (.cells #[v] 201 (0,0))) (hw:w.heap[wb]?=some (.cells #[x,y] 203 (0,0))) (hne:lb≠wb) :
  CallsDIn Fence.wide n Tryz.prog 138 #[.pointer (some ⟨lb,0,none⟩),.pointer (some ⟨wb,0,none⟩)] (.panicking [{ v := .iface 203 (.agg #[.int .i64 i,.int .i64 e]),recovered:=false }]) w
   fun r u' w'=>r = .returned (.tuple #[])∧u' = .panicking [{ v := .iface 203 (.agg #[.int .i64 i,.int .i64 e]),recovered:=true }] ∧
    Two w w' lb wb (.cells #[.slice none 0 0] 201 (0,0)) (.cells #[.int .i64 i,.int .i64 e] 203 (0,0)):=by
 have h0:w.cell? ⟨lb,0,none⟩=some v:=by rw [zb _ _ 0 _ _ _ hl];rfl
 have h1:w.cell? ⟨wb,0,none⟩=some x:=by rw [zb _ _ 0 _ _ _ hw];rfl
 have h2:w.cell? ⟨wb,1,none⟩=some y:=by rw [zb _ _ 1 _ _ _ hw];rfl
 have f0:w.frozen? ⟨lb,0,none⟩=false:=zs1 w lb 0 _ _ hl
 have f1:w.frozen? ⟨wb,0,none⟩=false:=zs1 w wb 0 _ _ hw
 have f2:w.frozen? ⟨wb,1,none⟩=false:=zs1 w wb 1 _ _ hw
 have HL:=zh hl
 have HW:=zh hw
 have HN:=zh hne
 have hta:∀ W:World,(Instr.typeAssert (.iface 203 (.agg #[.int .i64 i,.int .i64 e])) 20 203 true).run Tryz.prog W = .ok (.tuple #[.agg #[.int .i64 i,.int .i64 e],.bool true]) W:=fun W=>by kernel_rfl
 refine callsDIn_of_wpSIn Tryz.func138 rfl (by trivial) fun c₀ cs hu=>?_
 simp only [Tryz.ntmps138,List.size_toArray,zv2,List.length_nil,Nat.reduceAdd,Nat.reduceSub,Array.replicate_succ,Array.replicate_zero,List.push_toArray,List.append_toArray,List.nil_append,List.cons_append]
 apply wpSIn_seq
 apply wpSIn_region
 simp [wpOpsSIn,go_sem,recoverD,hu,Exit.thenS]
 refine wpSIn_of_wpIn rfl (wpIn_wide.2 ?_)
 clear hl hw hne
 go_wp2
 obtain⟨z,hz⟩:∃ z,z=w.heap.size:=⟨_,rfl⟩
 obtain⟨V,hV⟩:∃ V,V=w.alloc (.cells #[.int .i64 i,.int .i64 e] 203):=⟨_,rfl⟩
 rw [← hV,← hz]
 have hlt:lb<w.heap.size∧wb<w.heap.size:=⟨(zq7.1 HL.out).1,(zq7.1 HW.out).1⟩
 have kb:∀ k,k<w.heap.size→V.heap[k]?=w.heap[k]?:=fun k hk=>by rw [hV];exact zt2 _ _ _ hk
 have vl:=(kb lb hlt.1).trans HL.out
 have vw:=(kb wb hlt.2).trans HW.out
 have vz:V.heap[z]?=some (.cells #[.int .i64 i,.int .i64 e] 203 (0,0)):=by rw [hV,hz];exact zs2 w _
 have nlz:lb≠z:=by omega
 have nwz:wb≠z:=by omega
 have c0:V.cell? ⟨lb,0,none⟩=some v:=by rw [zb _ _ 0 _ _ _ vl];rfl
 have c1:V.cell? ⟨wb,0,none⟩=some x:=by rw [zb _ _ 0 _ _ _ vw];rfl
 have c2:V.cell? ⟨wb,1,none⟩=some y:=by rw [zb _ _ 1 _ _ _ vw];rfl
 have g0:V.frozen? ⟨lb,0,none⟩=false:=zs1 V lb 0 _ _ vl
 have g1:V.frozen? ⟨wb,0,none⟩=false:=zs1 V wb 0 _ _ vw
 have g2:V.frozen? ⟨wb,1,none⟩=false:=zs1 V wb 1 _ _ vw
 have c3:V.cell? ⟨z,0,none⟩=some (.int .i64 i):=by rw [zb _ _ 0 _ _ _ vz];rfl
 have c4:V.cell? ⟨z,1,none⟩=some (.int .i64 e):=by rw [zb _ _ 1 _ _ _ vz];rfl
 have hne:=HN.out
 have END:Hid (Two w (((V.setCell ⟨lb,0,none⟩ (.slice none 0 0)).setCell ⟨wb,0,none⟩ (.int .i64 i)).setCell ⟨wb,1,none⟩ (.int .i64 e)) lb wb (.cells #[.slice none 0 0] 201 (0,0)) (.cells #[.int .i64 i,.int .i64 e] 203 (0,0))):=by
  have k1:∀ k,k≠lb→k≠wb→(((V.setCell ⟨lb,0,none⟩ (.slice none 0 0)).setCell ⟨wb,0,none⟩ (.int .i64 i)).setCell ⟨wb,1,none⟩ (.int .i64 e)).heap[k]?=V.heap[k]?:=fun k h1 h2=>by
   rw [zt1 _ _ _ k h2,zt1 _ _ _ k h2,zt1 _ _ _ k h1]
  refine⟨by rw [hV];rfl,by rw [hV];rfl,by rw [hV];rfl,by rw [hV];simp,?_,?_,fun k hk h1 h2=>(k1 k h1 h2).trans (kb k hk)⟩
  ·rw [zt1 _ _ _ lb HN.out,zt1 _ _ _ lb HN.out]
   exact heap_setCell_same _ lb 0 _ _ _ vl
  have h1:(V.setCell ⟨lb,0,none⟩ (.slice none 0 0)).heap[wb]?=some (.cells #[x,y] 203 (0,0)):=(zt1 _ _ _ wb (Ne.symm HN.out)).trans vw
  exact heap_setCell_same _ wb 1 _ _ _ (heap_setCell_same _ wb 0 _ _ (.int .i64 i) h1)
 clear hV hz hlt kb vl vw vz h0 h1 h2 f0 f1 f2
 go_region
 all_goals
  have E:=END.out
  exact⟨rfl,_,rfl,.tuple #[],results_none rfl _ _ _,rfl,rfl,⟨E.os,E.tape,E.output,E.size,E.hx,E.hy,E.block⟩⟩
end Lx
namespace Lx
open Go.RowKit
def ofB (l:List Nat):ByteArray:=⟨(l.map UInt8.ofNat).toArray⟩
theorem ofB_bts (t:ByteArray):ofB (bts t)=t:=by
 unfold ofB bts
 rw [List.map_map]
 have:(UInt8.ofNat ∘ UInt8.toNat)=id:=by funext x;simp
 rw [this,List.map_id]
def flatT:List LX.Tok→List Value
 | []=>[]
 | t :: r => .int .i64 t.kind :: .int .i64 t.num :: .string (ofB t.text) :: .int .i64 t.place :: flatT r
theorem flatT_append (a b:List LX.Tok):flatT (a++b)=flatT a++flatT b:=by
 induction a with
 | nil=>rfl
 | cons x r ih=>simp [flatT,ih]
theorem owns_keep {w w':World}{base e size n:Nat}{v:Value}{xs:List Value}(h:w.ownsRow base e size v n xs) (hk:∀ k,v.ownBlock=some k→w'.heap[k]?=w.heap[k]?):w'.ownsRow base e size v n xs:=by
 obtain⟨h1,h2⟩:=h
 rcases h2 with h2 | ⟨g,cap,cur,rfl,hb,hg,rest⟩
 ·exact⟨h1,.inl h2⟩
 exact⟨h1,.inr ⟨g,cap,cur,rfl,hb,(hk g rfl).trans hg,rest⟩⟩
theorem owns_blk {w:World}{base e size n:Nat}{v:Value}{xs:List Value}(h:w.ownsRow base e size v n xs) {k:Nat}(hk:v.ownBlock=some k):base≤k∧∃ c,w.heap[k]?=some (.cells c e (0,0)):=by
 rcases h.2 with ⟨rfl,_⟩|⟨g,cap,cur,rfl,hb,hg,_⟩
 ·simp [Value.ownBlock] at hk
 simp [Value.ownBlock] at hk;subst hk;exact⟨hb,_,hg⟩
structure Jt (w:World) (D l lb wb:Nat) (rcd:Loop) (ts:List LX.Tok) (W:World):Prop where
 blk:W.heap[D]?=some (.deferred (some []))
 loop:W.heap[l]?=some (.loop rcd)
 wrong:W.heap[wb]?=some (.cells #[.int .i64 0,.int .i64 0] 203 (0,0))
 row:∃ v,Boxed W lb 201 v∧W.ownsRow w.heap.size 154 4 v ts.length (flatT ts)
 below:Below w.heap.size w W
theorem Jt.kt {w W W':World}{D l lb wb:Nat}{rcd:Loop}{ts:List LX.Tok}(h:Jt w D l lb wb rcd ts W) (k:Kt w.heap.size W W'):Jt w D l lb wb rcd ts W':=by
 obtain⟨v,h1,h2⟩:=h.row
 refine⟨k.block _ _ h.blk (.inr ⟨nofun,nofun⟩),k.block _ _ h.loop (.inr ⟨nofun,nofun⟩),k.block _ _ h.wrong (.inr ⟨fun c r e=>?_,fun c r e=>?_⟩),⟨v,k.block _ _ h1 (.inr ⟨fun c r e=>?_,fun c r e=>?_⟩),owns_keep h2 fun q hq=>?_⟩,h.below.trans (k.below h.below.size)⟩
 ·simp at e
 ·simp at e
 ·simp at e
 ·simp at e
 obtain⟨_,c,hc⟩:=owns_blk h2 hq
 rw [hc]
 exact k.block _ _ hc (.inr ⟨fun c r e=>by simp at e,fun c r e=>by simp at e⟩)
theorem Jt.put {w W:World}{D l lb wb:Nat}{rcd:Loop}{ts:List LX.Tok}(h:Jt w D l lb wb rcd ts W) (r':Loop) (hl:w.heap.size≤l):Jt w D l lb wb r' ts (W.putObj l (.loop r'))∧Kb w.heap.size W (W.putObj l (.loop r')):=by
 have ho:∀ k o,W.heap[k]?=some o→(∀ r:Loop,o≠Obj.loop r)→(W.putObj l (.loop r')).heap[k]?=some o:=fun k o hk hr =>
  (World.putObj_heap_other fun e=>by subst e;rw [h.loop] at hk;simp only [zt3] at hk;exact hr _ hk.symm).trans hk
 obtain⟨v,h1,h2⟩:=h.row
 refine⟨⟨ho _ _ h.blk nofun,World.putObj_heap_same (zq7.1 h.loop).1,ho _ _ h.wrong nofun,⟨v,ho _ _ h1 nofun,owns_keep h2 fun q hq=>?_⟩,?_⟩,?_⟩
 ·obtain⟨_,c,hc⟩:=owns_blk h2 hq
  rw [hc]
  exact ho _ _ hc nofun
 ·exact h.below.trans ⟨rfl,rfl,rfl,by simp,fun k hk=>World.putObj_heap_other (by omega)⟩
 refine⟨rfl,rfl,rfl,by simp,fun k o hk ht=>?_⟩
 rcases ht with ht | ⟨c,rfl⟩|⟨c,rfl⟩|⟨es,cl,rfl⟩|⟨c,rfl⟩
 ·exact(World.putObj_heap_other (by omega)).trans hk
 ·exact ho _ _ hk nofun
 ·exact ho _ _ hk nofun
 ·exact ho _ _ hk nofun
 exact ho _ _ hk nofun
theorem Kb.trans {n0:Nat}{w w1 w2:World}(h:Kb n0 w w1) (k:Kb n0 w1 w2):Kb n0 w w2 :=
 ⟨k.os.trans h.os,k.tape.trans h.tape,k.output.trans h.output,zr5 h.size k.size,fun q o ho hq=>k.block q o (h.block q o ho hq) hq⟩
theorem Kb.of_below {n0:Nat}{w w':World}(h:Below w.heap.size w w'):Kb n0 w w' :=
 ⟨h.os,h.tape,h.output,h.size,fun k o ho _=>(h.block k (zq7.1 ho).1).trans ho⟩
theorem Jt.alloc {w W:World}{D l lb wb:Nat}{rcd:Loop}{ts:List LX.Tok}(h:Jt w D l lb wb rcd ts W) (o:Obj):Jt w D l lb wb rcd ts (W.alloc o)∧Kb w.heap.size W (W.alloc o):=by
 have hb:Below W.heap.size W (W.alloc o):=(zs9 _ _).alloc (zr4 _) _
 exact⟨h.kt (Kt.of_below hb),Kb.of_below hb⟩
theorem Jt.more {w W w1:World}{D l lb wb:Nat}{rcd:Loop}{ts:List LX.Tok}{v v':Value}{tmp:Obj}(h:Jt w D l lb wb rcd ts W) (t:LX.Tok) (hv:Boxed W lb 201 v) (hrow:W.ownsRow w.heap.size 154 4 v ts.length (flatT ts))
  (hlb:w.heap.size≤lb) (hown:w1.ownsRow w.heap.size 154 4 v' (ts.length+1) (flatT ts++[.int .i64 t.kind,.int .i64 t.num,.string (ofB t.text),.int .i64 t.place])) (hg:(W.alloc tmp).grownBy w1 v.ownBlock) :
  Boxed w1 lb 201 v∧Jt w D l lb wb rcd (ts++[t]) (w1.setCell ⟨lb,0,none⟩ v')∧Kb w.heap.size W (w1.setCell ⟨lb,0,none⟩ v'):=by
 obtain⟨b1,b2,b3,b4,b5⟩:=hv.appended (by decide) hrow h.below.size hlb hown hg
 have keep:∀ k o,W.heap[k]?=some o→(∀ c:Array Value,o≠Obj.cells c 154 (0,0))→(∀ c:Array Value,o≠Obj.cells c 201 (0,0))→(w1.setCell ⟨lb,0,none⟩ v').heap[k]?=some o:=fun k o hk h39 h35=>by
  have hlt:=(zq7.1 hk).1
  rw [zt1 _ _ _ k (fun e=>by
   have e:k=lb:=e
   subst e
   rw [show W.heap[k]?=_ from hv] at hk
   simp only [zt3] at hk
   exact h35 _ hk.symm)]
  refine(hg.block k (by simp;omega) fun e=>?_).trans ((zt2 W tmp k hlt).trans hk)
  obtain⟨_,c,hc⟩:=owns_blk hrow e.symm
  rw [hc] at hk
  simp only [zt3] at hk
  exact h39 _ hk.symm
 refine⟨b1,⟨keep _ _ h.blk nofun nofun,keep _ _ h.loop nofun nofun,keep _ _ h.wrong (fun c e=>by simp at e) (fun c e=>by simp at e),⟨v',b2,?_⟩,h.below.trans b5⟩,⟨b5.os,b5.tape,b5.output,b5.size,fun k o hk ht=>?_⟩⟩
 ·rw [zr2,flatT_append]
  exact b3
 rcases ht with ht | ⟨c,rfl⟩|⟨c,rfl⟩|⟨es,cl,rfl⟩|⟨c,rfl⟩
 ·exact(b5.block k ht).trans hk
 ·exact keep _ _ hk (fun c e=>by simp at e) (fun c e=>by simp at e)
 ·exact keep _ _ hk (fun c e=>by simp at e) (fun c e=>by simp at e)
 ·exact keep _ _ hk nofun nofun
 exact keep _ _ hk (fun c e=>by simp at e) (fun c e=>by simp at e)
end Lx
namespace Lx
open Go.RowKit
def recOf (fn:FuncId) (tmps:Array Value) (assign body:Code) (D:Nat) (st:LoopState):Loop:={ state:=st,pending:=none,fn,tmps,params := #[11],assign,body,defers:=D }
theorem loop_law {assign body:Code}{Q:Exit→Act→World→Prop}{a:Act}{w W2:World}{b mb ib lb:Nat}{s:ByteArray}
  (hg:a.eval (.tmp 10) = .func (.func 141) #[] #[.pointer (some ⟨ib,0,none⟩)])
  (hI:It w.heap.size W2 b mb ib s 0 (.slice none 0 0) [])
  (hw:W2.heap[lb+1]?=some (.cells #[.int .i64 0,.int .i64 0] 203 (0,0))) (hv:Boxed W2 lb 201 (.slice none 0 0)) (hB:Below w.heap.size w W2)
  (hround:∀ (rcd:Loop) (ts:List LX.Tok) (k:Nat) (v:Int) (p:Nat) (tx:ByteArray) (W:World),rcd.state = .ready→rcd.pending=none→Jt w W2.heap.size (W2.heap.size+1) lb (lb+1) rcd ts W→ts.length<s.size →
   assign.wpIn (Fence.wide.inRound (W2.heap.size+1)) 1 Tryz.prog (Exit.then (fun a₁ w₁=>∃ w₂,(Instr.beginRound (W2.heap.size+1)).run Tryz.prog w₁ = .ok () w₂ ∧
    body.wpIn (Fence.wide.inRound (W2.heap.size+1)) 1 Tryz.prog (roundPost Tryz.prog (W2.heap.size+1) fun e W'=>e = .returned (.bool true) ∧
     Jt w W2.heap.size (W2.heap.size+1) lb (lb+1) rcd (ts++[⟨k,v,bts tx,p⟩]) W'∧Kb w.heap.size W W') a₁ w₂) (fun _ _ _=>False))
    { tmps:=a.tmps.setIfInBounds 11 (tokV k v tx p),defers:=[] } W)
  (hdone:∀ (rcd:Loop) (W:World) (i:Nat) (cv:Value) (ts:List LX.Tok) (cs:List (Nat×Nat)),LX.scan (bts s) = .ok ts cs →
   Jt w W2.heap.size (W2.heap.size+1) lb (lb+1) rcd ts W→It w.heap.size W b mb ib s i cv cs →
   Q .normal { a with defers:={ target := .collected W2.heap.size,args := #[] } :: a.defers } W)
  (hthrown:∀ (rcd:Loop) (W:World) (p er:Nat) (ts:List LX.Tok),LX.scan (bts s) = .bad p er →
   Jt w W2.heap.size (W2.heap.size+1) lb (lb+1) rcd ts W →
   Q (.panic [{ v := .iface 203 (.agg #[.int .i64 p,.int .i64 er]),recovered:=false }]) { a with defers:={ target := .collected W2.heap.size,args := #[] } :: a.defers } W) :
  (Code.rangeFunc (.tmp 10) #[11] assign body).wp Tryz.prog Q a W2:=by
 refine(wpIn_wide (n:=2)).1 ?_
 refine wpIn_rangeFunc ?_
 intro fn hfn
 obtain⟨D,hD⟩:∃ D,D=W2.heap.size:=⟨_,rfl⟩
 obtain⟨l,hl⟩:∃ l,l=W2.heap.size+1:=⟨_,rfl⟩
 obtain⟨W3,hW3⟩:∃ W,W=(W2.alloc (.deferred (some []))).alloc (.loop (recOf fn a.tmps assign body W2.heap.size .ready)):=⟨_,rfl⟩
 have he:(Instr.enterLoop fn a.tmps #[11] assign body Fence.wide.round).run Tryz.prog W2 = .ok (l,[{ target := .collected D,args := #[] }]) W3:=by
  rw [hl,hD,hW3]
  exact run_enterLoop_outer fn a.tmps #[11] assign body
 have h3:Below W2.heap.size W2 W3:=by rw [hW3];exact((zs9 _ _).alloc (zr4 _) _).alloc (by simp) _
 have hD3:W3.heap[D]?=some (.deferred (some [])):=by
  rw [hW3,hD,zt2 _ _ _ (by simp)];exact World.alloc_heap_new W2 _
 have hl3:W3.heap[l]?=some (.loop (recOf fn a.tmps assign body W2.heap.size .ready)):=by
  rw [hW3,hl]
  have:=World.alloc_heap_new (W2.alloc (.deferred (some []))) (.loop (recOf fn a.tmps assign body W2.heap.size .ready))
  rw [World.size_alloc] at this
  exact this
 refine⟨l,[{ target := .collected D,args := #[] }],W3,{ target := .fn (.func 141) #[.pointer (some ⟨ib,0,none⟩)],args := #[.func (.yield l) #[] #[]] },W3,141,
  #[.func (.yield l) #[] #[]] ++ #[.pointer (some ⟨ib,0,none⟩)],W3,he,?_,?_,?_,(fun _=>by decide),?_⟩
 ·simp only [resolve,hg]
  simp [go_sem]
 ·intro f' _;exact trivial
 ·have eg:=enters_of Tryz.func141 (by kernel_rfl) rfl
  simp [invoke,go_sem,eg]
 subst hD
 subst hl
 have J0:Jt w W2.heap.size (W2.heap.size+1) lb (lb+1) (recOf fn a.tmps assign body W2.heap.size .ready) [] W3 :=
  ⟨hD3,hl3,(h3.block _ (zq7.1 hw).1).trans hw,⟨_,(h3.block _ (zq7.1 hv).1).trans hv,World.ownsRow_nil _ _ _ _⟩,hB.trans (h3.mono hB.size)⟩
 refine callsIn_wide.2 ((toks_in (n0:=w.heap.size) 1 (W2.heap.size+1) (Jt w W2.heap.size (W2.heap.size+1) lb (lb+1) (recOf fn a.tmps assign body W2.heap.size .ready)) (fun ts W W' h k=>h.kt k) ?_ (hI.below h3) J0).mono ?_)
 ·intro ts k v p tx W hJ hlen
  have hy:=run_yield (P:=Tryz.prog) (args := #[tokV k v tx p]) hJ.loop rfl
  have hf:((recOf fn a.tmps assign body W2.heap.size .ready).params.zip #[tokV k v tx p]).foldl (fun tmps (t,a)=>tmps.setIfInBounds t a) (recOf fn a.tmps assign body W2.heap.size .ready).tmps=a.tmps.setIfInBounds 11 (tokV k v tx p):=by
   simp [recOf]
  rw [hf] at hy
  exact⟨fn,_,assign,body,hy,roundIn_of_wpIn trivial (hround _ ts k v p tx W rfl rfl hJ hlen)⟩
 intro e W hp
 unfold IPost at hp
 cases hs:LX.scan (bts s) with
 | ok ts cs =>
  rw [hs] at hp
  obtain⟨rfl,hJ,i,cv,hit⟩:=hp
  have h2:=hJ.put (recOf fn a.tmps assign body W2.heap.size .exhausted) (by have:=hB.size;omega)
  refine⟨none,W.putObj (W2.heap.size+1) (.loop (recOf fn a.tmps assign body W2.heap.size .exhausted)),run_endLoop hJ.loop (by simp [recOf]),?_⟩
  exact hdone _ _ i cv ts cs hs h2.1 (hit.kb h2.2)
 | bad p er =>
  rw [hs] at hp
  obtain⟨rfl,ts,hJ⟩:=hp
  exact hthrown _ W p er ts hs hJ
end Lx
namespace Lx
open Go.RowKit
attribute [local go_sem] Oper.semAt_some
def SPost (w:World) (s:ByteArray) (e:Ending) (w':World):Prop :=
 match LX.scan (bts s) with
 | .ok ts cs=>∃ b mb i cv tv,e = .returned (.tuple #[.pointer (some ⟨b,0,none⟩),tv,.agg #[.int .i64 0,.int .i64 0]])∧Sc w' b s i mb cv∧Cm w' b cv cs∧w'.ownsRow w.heap.size 154 4 tv ts.length (flatT ts) ∧
   Below w.heap.size w w'∧w.heap.size≤b∧∀ k,cv.ownBlock=some k→w.heap.size≤k
 | .bad p er=>∃ b,e = .returned (.tuple #[.pointer (some ⟨b,0,none⟩),.slice none 0 0,.agg #[.int .i64 p,.int .i64 er]])∧Below w.heap.size w w'
theorem Tryz.info154:(Tryz.prog.info? 154).map (fun i=>(i.zero,i.size,i.bytes))=some (some (.agg #[.int .i64 0,.int .i64 0,.string ⟨#[]⟩,.int .i64 0]),4,40):=by kernel_rfl
theorem scanned_any {w:World}(henv:Env w) (s:ByteArray) (hs:s.size≤400000):Calls Tryz.prog 130 #[.string s] w (SPost w s):=by
 have HS:=zh hs
 have HE:=zh henv
 clear hs henv
 refine(callsIn_wide (n:=3)).1 (callsIn_of_wp_marks Tryz.func130 rfl trivial ?_ rfl)
 refine wpIn_wide.2 ?_
 simp only [Tryz.ntmps130,List.size_toArray,zv2,List.length_nil,Nat.reduceAdd,Nat.reduceSub,Array.replicate_succ,Array.replicate_zero,List.push_toArray,List.append_toArray,List.nil_append,List.cons_append]
 go_wp2_with fail
 obtain⟨lb,hlb⟩:∃ z,z=w.heap.size:=⟨_,rfl⟩
 obtain⟨W0,hW0⟩:∃ W,W=(w.alloc (.cells #[.slice none 0 0] 201)).alloc (.cells #[.int .i64 0,.int .i64 0] 203):=⟨_,rfl⟩
 rw [← hW0,← hlb]
 have B0:Hid (Below w.heap.size w W0):=by rw [hW0];exact((zs9 _ _).alloc (zr4 _) _).alloc (by simp) _
 have Z0:Hid (W0.heap.size=lb+2):=by rw [hW0,hlb];show _=_;simp
 have L0:Hid (W0.heap[lb]?=some (.cells #[.slice none 0 0] 201 (0,0))):=by
  rw [hW0,hlb]
  show _=_
  rw [zt2 _ _ _ (by simp)];exact zs2 w _
 have R0:Hid (W0.heap[lb+1]?=some (.cells #[.int .i64 0,.int .i64 0] 203 (0,0))):=by
  rw [hW0,hlb]
  have:=zs2 (w.alloc (.cells #[.slice none 0 0] 201)) (.cells #[.int .i64 0,.int .i64 0] 203)
  rw [World.size_alloc] at this
  exact this
 have HL:=zh hlb
 clear hlb hW0
 refine(newScanner_any W0 s HS.out).mono ?_
 rintro e W1 ⟨rfl,hsc,hwd,hb1,hz1⟩
 obtain⟨b,hb⟩:∃ b,b=W0.heap.size+1:=⟨_,rfl⟩
 obtain⟨mb,hmb⟩:∃ m,m=W0.heap.size:=⟨_,rfl⟩
 rw [← hb]
 have hlb:w.heap.size=lb:=HL.out.symm
 have hz0:W0.heap.size=lb+2:=Z0.out
 obtain⟨ib,hib⟩:∃ i,i=W1.heap.size:=⟨_,rfl⟩
 obtain⟨W2,hW2⟩:∃ W,W=W1.alloc (.cells #[.pointer (some ⟨b,0,none⟩)] 200):=⟨_,rfl⟩
 have b12:Below W1.heap.size W1 W2:=by rw [hW2];exact(zs9 _ _).alloc (zr4 _) _
 have bb:Below w.heap.size w W2:=B0.out.trans ((hb1.mono (by omega)).trans (b12.mono (by omega)))
 have I2:Hid (It w.heap.size W2 b mb ib s 0 (.slice none 0 0) []):=by
  refine⟨?_,⟨World.ownsRow_nil _ _ _ _,by simp [Value.ownBlock]⟩,by omega,by simp [Value.ownBlock],?_,HE.out.keep bb HE.out.size,by omega,?_,HE.out.size,bb.size⟩
  ·rw [hmb,hb]
   exact⟨(b12.block _ (by omega)).trans hsc.1,hsc.2⟩
  ·rw [hmb]
   exact hwd.keep fun o ho _=>(b12.block _ (by omega)).trans ho
  rw [hW2,hib];exact zs2 W1 _
 have V2:Hid (Boxed W2 lb 201 (.slice none 0 0)):=(b12.block _ (by omega)).trans ((hb1.block _ (by omega)).trans L0.out)
 have R2:Hid (W2.heap[lb+1]?=some (.cells #[.int .i64 0,.int .i64 0] 203 (0,0))):=(b12.block _ (by omega)).trans ((hb1.block _ (by omega)).trans R0.out)
 have BB:=zh bb
 have HW2:=zh hW2
 have HIB:=zh hib
 clear hsc hwd hb1 hz1 hb hmb hlb hz0 hW2 hib b12 bb
 go_wp2_with fail
 refine(tokens_any W1 b).mono ?_
 rintro e W2' ⟨rfl,rfl⟩
 rw [← HW2.out,← HIB.out]
 go_wp2_with fail
 refine loop_law (w:=w) (lb:=lb) (ib:=ib) (b:=b) (mb:=mb) (s:=s) rfl I2.out R2.out V2.out BB.out ?round ?done ?thrown
 case round =>
  intro rcd ts k v p tx W hr1 hr2 hJ hlen
  unfold tokV
  simp only [zq4,zq6,zq5]
  have J0:=zh hJ
  have HR:=zh (And.intro hr1 hr2)
  have HT:Hid (ts.length<400000):=zt5 hlen HS.out
  have JA:=zh (J0.out.alloc (.cells #[.int .i64 k,.int .i64 v,.string tx,.int .i64 p] 154))
  have LN:Hid (w.heap.size≤W2.heap.size+1):=Nat.le_succ_of_le BB.out.size
  clear hJ hr1 hr2 hlen
  gi_wp2
  obtain⟨z,hz⟩:∃ z,z=W.heap.size:=⟨_,rfl⟩
  obtain⟨Wa,hWa⟩:∃ V,V=W.alloc (.cells #[.int .i64 k,.int .i64 v,.string tx,.int .i64 p] 154):=⟨_,rfl⟩
  have JA2:=JA.out
  have az:Wa.heap[z]?=some (.cells #[.int .i64 k,.int .i64 v,.string tx,.int .i64 p] 154 (0,0)):=by rw [hWa,hz];exact zs2 W _
  rw [← hWa] at JA2
  rw [← hWa,← hz]
  refine⟨_,run_beginRound JA2.1.loop HR.out.1,?_⟩
  obtain⟨JB1,JB2⟩:=JA2.1.put { rcd with state := .busy } LN.out
  obtain⟨Wb,hWb⟩:∃ V,V=Wa.putObj (W2.heap.size+1) (.loop { rcd with state := .busy }):=⟨_,rfl⟩
  rw [← hWb] at JB1 JB2
  rw [← hWb]
  have bz:Wb.heap[z]?=some (.cells #[.int .i64 k,.int .i64 v,.string tx,.int .i64 p] 154 (0,0)):=by
   rw [hWb,World.putObj_heap_other (fun e=>by rw [e,JA2.1.loop] at az;simp at az)];exact az
  have KB:Hid (Kb w.heap.size W Wb):=JA2.2.trans JB2
  have JB:=zh JB1
  obtain⟨sv,hsv,hrow⟩:=JB1.row
  have c0:=hsv.cell
  have cf:=hsv.frozen
  have z0:Wb.cell? ⟨z,0,none⟩=some (.int .i64 k):=by rw [zb _ _ 0 _ _ _ bz];rfl
  have z1:Wb.cell? ⟨z,1,none⟩=some (.int .i64 v):=by rw [zb _ _ 1 _ _ _ bz];rfl
  have z2:Wb.cell? ⟨z,2,none⟩=some (.string tx):=by rw [zb _ _ 2 _ _ _ bz];rfl
  have z3:Wb.cell? ⟨z,3,none⟩=some (.int .i64 p):=by rw [zb _ _ 3 _ _ _ bz];rfl
  have SV:=zh (And.intro hsv hrow)
  have HO:Hid ((Wb.alloc (.cells #[.int .i64 k,.int .i64 v,.string tx,.int .i64 p] 154)).ownsRow w.heap.size 154 4 sv ts.length (flatT ts)) :=
   owns_keep hrow fun q hq=>zt2 _ _ _ (by obtain⟨_,c,hc⟩:=owns_blk hrow hq;exact(zq7.1 hc).1)
  have HN:Hid (∀ j u,[Value.int .i64 k,.int .i64 v,.string tx,.int .i64 p][j]?=some u→(Wb.alloc (.cells #[.int .i64 k,.int .i64 v,.string tx,.int .i64 p] 154)).cell? ((⟨Wb.heap.size,0,none⟩:Addr).add j)=some u):=fun j u hu=>by
   rw [Addr.add_lit,zb _ _ _ _ _ _ (zs2 Wb _)]
   match j,hu with
   | 0,hu=>simpa using hu
   | 1,hu=>simpa using hu
   | 2,hu=>simpa using hu
   | 3,hu=>simpa using hu
   | j+4,hu=>simp at hu
  have HBs:Hid (w.heap.size≤Wb.heap.size):=JB1.below.size
  obtain⟨i0,hi0,hz0,hz1,hz2⟩:=info_parts Tryz.info154
  have I0:=zh (And.intro hi0 (And.intro hz0 (And.intro hz1 hz2)))
  clear JA2 az hWa hWb hz JB1 JB2 bz hsv hrow hi0 hz0 hz1 hz2
  gi_wp2_with (gi_at_builtin;refine wpListIn_append_own _ rfl _ _ 201 rfl w.heap.size 154 i0 _ 4 40 Tryz.underlying201 I0.out.1 I0.out.2.1 I0.out.2.2.1 I0.out.2.2.2 rfl (by decide) sv ts.length (flatT ts) rfl HO.out ⟨Wb.heap.size,0,none⟩ 1 1 _ rfl rfl HN.out ?c1 ?c2 ?c3 ?c4 ?c5)
  case c1=>intro u hu;simp at hu;rcases hu with rfl | rfl | rfl | rfl<;>rfl
  case c2=>have:=HT.out;unfold maxLen;omega
  case c3=>have:=HT.out;omega
  case c4=>have:=HBs.out;simp;omega
  case c5 =>
   intro v' w1 hown hg hnil
   obtain⟨M1,M2,M3⟩:=JB.out.more (t:=⟨k,v,bts tx,p⟩) SV.out.1 SV.out.2 (by have:=HL.out;omega) (by rw [ofB_bts];exact hown) hg
   obtain⟨g,cap,rfl⟩:=ownsRow_succ hown
   have d0:=M1.cell
   have df:=M1.frozen
   have N2:=zh M2
   have N3:=zh M3
   clear hown hg hnil M1 M2 M3 c0 cf z0 z1 z2 z3
   gi_wp2
   have h:=N2.out.put rcd LN.out
   have hr:=run_endRound (P:=Tryz.prog) none N2.out.loop
   have hq:({ state := .ready,pending:=none,fn:=rcd.fn,tmps:=rcd.tmps,params:=rcd.params,assign:=rcd.assign,body:=rcd.body,defers:=rcd.defers }:Loop)=rcd:=by
    have h1:=HR.out.1
    have h2:=HR.out.2
    cases rcd
    simp only at h1 h2
    subst h1
    subst h2
    rfl
   simp only [Option.isNone_none,if_true,hq] at hr
   exact⟨_,_,hr,rfl,h.1,KB.out.trans (N3.out.trans h.2)⟩
 case done =>
  intro rcd W i cv ts cs hscan hJ hI
  have HSC:=zh hscan
  have HI:=zh hI
  have HJ:=zh hJ
  obtain⟨sv,hsv,hrow⟩:=hJ.row
  obtain⟨sa,sc,hslice⟩:∃ a c,sv = .slice a ts.length c:=by
   rcases hrow.2 with ⟨rfl,h0⟩|⟨g,cap,cur,rfl,_⟩
   ·rw [h0];exact⟨_,_,rfl⟩
   exact⟨_,_,rfl⟩
  obtain⟨tn,htn⟩:∃ n,n=ts.length:=⟨_,rfl⟩
  rw [← htn] at hslice
  subst hslice
  have c0:=hsv.cell
  have cf:=hsv.frozen
  have d0:W.cell? ⟨lb+1,0,none⟩=some (.int .i64 0):=by rw [zb _ _ 0 _ _ _ hJ.wrong];rfl
  have d1:W.cell? ⟨lb+1,1,none⟩=some (.int .i64 0):=by rw [zb _ _ 1 _ _ _ hJ.wrong];rfl
  have df:∀ q,W.frozen? ⟨lb+1,q,none⟩=false:=fun q=>zs1 W (lb+1) q _ _ hJ.wrong
  have SV:=zh (And.intro hsv hrow)
  have TN:=zh htn
  clear hscan hI hJ hsv hrow htn
  go_wp2_with fail
  go_region
  go_wp2_with fail
  obtain⟨V,hV⟩:∃ V,V=(((W.setCell ⟨lb,0,none⟩ (.slice sa tn sc)).setCell ⟨lb+1,0,none⟩ (.int .i64 0)).setCell ⟨lb+1,1,none⟩ (.int .i64 0)).drew:=⟨_,rfl⟩
  rw [← hV]
  have same:∀ k:Nat,V.heap[k]?=W.heap[k]?:=fun k=>by
   rw [hV]
   show (((W.setCell ⟨lb,0,none⟩ (.slice sa tn sc)).setCell ⟨lb+1,0,none⟩ (.int .i64 0)).setCell ⟨lb+1,1,none⟩ (.int .i64 0)).heap[k]?=_
   by_cases h1:k=lb+1
   ·subst h1
    have e1:(W.setCell ⟨lb,0,none⟩ (.slice sa tn sc)).heap[lb+1]?=some (.cells #[.int .i64 0,.int .i64 0] 203 (0,0)):=(zt1 _ _ _ (lb+1) (by show lb+1≠lb;omega)).trans HJ.out.wrong
    rw [HJ.out.wrong]
    exact heap_setCell_same _ (lb+1) 1 _ _ _ (heap_setCell_same _ (lb+1) 0 _ _ (.int .i64 0) e1)
   rw [zt1 _ _ _ k h1,zt1 _ _ _ k h1]
   by_cases h2:k=lb
   ·subst h2
    rw [show W.heap[k]?=_ from SV.out.1]
    exact heap_setCell_same _ k 0 _ _ _ SV.out.1
   exact zt1 _ _ _ k h2
  have kv:Kb w.heap.size W V:=⟨by rw [hV];rfl,by rw [hV];rfl,by rw [hV];rfl,by rw [hV];simp,fun k o hk _=>(same k).trans hk⟩
  have hD:V.heap[W2.heap.size]?=some (.deferred (some [])):=(same _).trans HJ.out.blk
  obtain⟨U,hU⟩:∃ U,U=V.putObj W2.heap.size (.deferred none):=⟨_,rfl⟩
  have hother:∀ (k:Nat) (o:Obj),W.heap[k]?=some o→(∀ ds:Option (List Deferred),o≠Obj.deferred ds)→U.heap[k]?=some o:=fun k o hk hne=>by
   rw [hU]
   refine(World.putObj_heap_other fun e=>?_).trans ((same k).trans hk)
   subst e
   rw [HJ.out.blk] at hk
   simp only [zt3] at hk
   exact hne _ hk.symm
  have ku:Kb w.heap.size W U:=by
   refine kv.trans ⟨by rw [hU];rfl,by rw [hU];rfl,by rw [hU];rfl,by rw [hU];simp,fun k o hk hk2=>?_⟩
   rw [hU]
   refine(World.putObj_heap_other fun e=>?_).trans hk
   subst e
   rcases hk2 with hk2 | hk2
   ·have:=BB.out.size;omega
   rw [hD] at hk
   simp only [zt3] at hk
   subst hk
   rcases hk2 with ⟨c,e⟩|⟨c,e⟩|⟨es,cl,e⟩|⟨c,e⟩<;>cases e
  have u0:U.cell? ⟨lb,0,none⟩=some (.slice sa tn sc):=by rw [zb _ _ 0 _ _ _ (hother _ _ SV.out.1 nofun)];rfl
  have u1:U.cell? ⟨lb+1,0,none⟩=some (.int .i64 0):=by rw [zb _ _ 0 _ _ _ (hother _ _ HJ.out.wrong nofun)];rfl
  have u2:U.cell? ⟨lb+1,1,none⟩=some (.int .i64 0):=by rw [zb _ _ 1 _ _ _ (hother _ _ HJ.out.wrong nofun)];rfl
  have IU:=HI.out.kb ku
  refine⟨by simp,.inl ⟨_,_,rfl,run_takeDeferred hD,?_⟩⟩
  rw [← hU]
  refine⟨by simp,.inr ⟨fun _=>by decide,.func 138,#[.pointer (some ⟨lb,0,none⟩),.pointer (some ⟨lb+1,0,none⟩)],138,#[.pointer (some ⟨lb,0,none⟩),.pointer (some ⟨lb+1,0,none⟩)],rfl,?_,fun _ _=>trivial,?_⟩⟩
  ·have eg:=enters_of Tryz.func138 (by kernel_rfl) rfl
   simp [invoke,go_sem,eg]
  refine(caught_idle _ lb (lb+1) U).mono ?_
  rintro e u' w' ⟨rfl,rfl,rfl⟩
  refine⟨.tuple #[.pointer (some ⟨b,0,none⟩),.slice sa tn sc,.agg #[.int .i64 0,.int .i64 0]],?_,?_⟩
  ·simp [results,Tryz.results130,go_sem,u0,u1,u2]
  unfold SPost
  rw [HSC.out]
  refine⟨b,mb,i,cv,.slice sa tn sc,rfl,IU.sc,IU.cm,owns_keep SV.out.2 fun k hk=>?_,HJ.out.below.trans (ku.below HJ.out.below.size),IU.hb,IU.hcv⟩
  obtain⟨_,c,hc⟩:=owns_blk SV.out.2 hk
  rw [hc]
  exact hother _ _ hc nofun
 case thrown =>
  intro rcd W p er ts hscan hJ
  have HSC:=zh hscan
  have HJ:=zh hJ
  clear hscan hJ
  (try simp only [Exit.inBlock,Exit.then])
  obtain⟨U,hU⟩:∃ U,U=W.putObj W2.heap.size (.deferred none):=⟨_,rfl⟩
  have hother:∀ (k:Nat) (o:Obj),W.heap[k]?=some o→(∀ ds:Option (List Deferred),o≠Obj.deferred ds)→U.heap[k]?=some o:=fun k o hk hne=>by
   rw [hU]
   refine(World.putObj_heap_other fun e=>?_).trans hk
   subst e
   rw [HJ.out.blk] at hk
   simp only [zt3] at hk
   exact hne _ hk.symm
  have bu:Below w.heap.size w U:=HJ.out.below.trans ⟨by rw [hU];rfl,by rw [hU];rfl,by rw [hU];rfl,by rw [hU];simp,fun k hk=>by rw [hU];exact World.putObj_heap_other (by have:=BB.out.size;omega)⟩
  obtain⟨sv,hsv,hrow⟩:=HJ.out.row
  refine⟨by simp,.inl ⟨_,_,rfl,run_takeDeferred HJ.out.blk,?_⟩⟩
  rw [← hU]
  refine⟨by simp,.inr ⟨fun _=>by decide,.func 138,#[.pointer (some ⟨lb,0,none⟩),.pointer (some ⟨lb+1,0,none⟩)],138,#[.pointer (some ⟨lb,0,none⟩),.pointer (some ⟨lb+1,0,none⟩)],rfl,?_,fun _ _=>trivial,?_⟩⟩
  ·have eg:=enters_of Tryz.func138 (by kernel_rfl) rfl
   simp [invoke,go_sem,eg]
  refine(caught_thrown _ lb (lb+1) U p er sv _ _ (hother _ _ hsv nofun) (hother _ _ HJ.out.wrong nofun) (by omega)).mono ?_
  rintro e u' X ⟨rfl,rfl,h2⟩
  have u0:X.cell? ⟨lb,0,none⟩=some (.slice none 0 0):=by rw [zb _ _ 0 _ _ _ h2.hx];rfl
  have u1:X.cell? ⟨lb+1,0,none⟩=some (.int .i64 p):=by rw [zb _ _ 0 _ _ _ h2.hy];rfl
  have u2:X.cell? ⟨lb+1,1,none⟩=some (.int .i64 er):=by rw [zb _ _ 1 _ _ _ h2.hy];rfl
  refine⟨.tuple #[.pointer (some ⟨b,0,none⟩),.slice none 0 0,.agg #[.int .i64 p,.int .i64 er]],?_,?_⟩
  ·simp [results,Tryz.results130,go_sem,u0,u1,u2]
  unfold SPost
  rw [HSC.out]
  refine⟨b,rfl,bu.trans ⟨h2.os,h2.tape,h2.output,h2.size,fun k hk=>h2.block k (zt5 hk bu.size) ?_ ?_⟩⟩
  ·have:=HL.out;omega
  have:=HL.out;omega
end Lx
namespace Lx
namespace LX
def Res.toks:Res→List Tok
 | .ok l _=>l
 | .bad _ _=>[]
end LX
open Go.RowKit
theorem owns_slice {w:World}{base e size n:Nat}{v:Value}{xs:List Value}(h:w.ownsRow base e size v n xs):∃ a c,v = .slice a n c:=by
 rcases h.2 with ⟨rfl,h0⟩|⟨g,cap,cur,rfl,_⟩
 ·rw [h0];exact⟨_,_,rfl⟩
 exact⟨_,_,rfl⟩
end Lx
namespace Lx
namespace LX
def kindOf (l:List Nat):Nat:=if 24<l.length then 0 else match scan l with
 | .ok [t] _=>if t.text=l then t.kind else 0
 | _=>0
def Bt (ts:List Tok):Prop:=∀ t∈ts,∀ c∈t.text,c<256
theorem sc_bytes (T:List Nat) (hT:∀ c∈T,c<256):∀ (n j:Nat),T.length - j=n→∀ ts cs,sc T j = .ok ts cs→Bt ts:=by
 intro n
 induction n using Nat.strongRecOn with
 | ind n ih =>
  intro j hn ts cs h
  rcases Nat.lt_or_ge j T.length with hj | hj
  ·rw [sc_step hj] at h
   split at h
   ·exact ih _ (by omega) (j+1) rfl ts cs h
   split at h
   ·cases hc:cmt (T.drop j) 0 0 with
    | fin m =>
     rw [hc] at h
     simp only [] at h
     have h0:=cmt_fin hc
     cases hs:sc T (j+m) with
     | ok t2 c2 =>
      rw [hs] at h
      simp only [Res.app,Res.ok.injEq,List.nil_append] at h
      rw [← h.1]
      exact ih _ (by omega) (j+m) rfl t2 c2 hs
     | bad p e=>rw [hs] at h;cases h
    | deep m=>rw [hc] at h;cases h
    | never=>rw [hc] at h;cases h
   cases hc:token (T.drop j) with
   | tok k v m =>
    rw [hc] at h
    simp only [] at h
    have h0:=token_len hc
    cases hs:sc T (j+m) with
    | ok t2 c2 =>
     rw [hs] at h
     simp only [Res.app,Res.ok.injEq,List.cons_append,List.nil_append] at h
     rw [← h.1]
     intro t ht
     rcases List.mem_cons.1 ht with rfl | ht
     ·intro c hc
      exact hT c (List.mem_of_mem_drop (List.mem_of_mem_take hc))
     exact ih _ (by omega) (j+m) rfl t2 c2 hs t ht
    | bad p e=>rw [hs] at h;cases h
   | bad e=>rw [hc] at h;cases h
  rw [sc_end hj] at h
  cases h
  intro t ht
  cases ht
theorem token_bad {l:List Nat}{e:Nat}(h:token l = .bad e):e=2∨e=11∨e=13:=by
 have hm:∀ k n,made k n = .bad e→e=2:=fun k n h=>by
  unfold made at h
  split at h
  ·cases h;rfl
  cases h
 have hn:∀ k,named k l = .bad e→e=2:=fun k h=>by
  unfold named at h
  cases hq:made k (nameLen l) with
  | bad e2=>rw [hq] at h;cases h;exact hm _ _ hq
  | tok a b c=>rw [hq] at h;cases h
 cases l with
 | nil=>cases h;exact .inr (.inl rfl)
 | cons c t =>
  unfold token at h
  simp only [] at h
  split at h
  ·unfold number at h
   simp only [] at h
   split at h
   ·cases h;exact .inr (.inr rfl)
   split at h
   ·cases h
   split at h
   ·cases h;exact .inr (.inr rfl)
   cases h
  split at h
  ·exact .inl (hn _ h)
  split at h
  ·exact .inl (hn _ h)
  split at h
  ·exact .inl (hm _ _ h)
  split at h
  ·cases h
  split at h
  ·cases h
  cases h;exact .inr (.inl rfl)
theorem cmt_deep_lt:∀ (l:List Nat) (d n m:Nat),cmt l d n = .deep m→n≤m∧m<n+l.length
 | [],_,_,_,h=>by cases h
 | [_],_,_,_,h=>by cases h
 | a :: b :: t,d,n,m,h=>by
  rw [cmt] at h
  simp only [List.length_cons]
  split at h
  ·split at h
   ·cases h;omega
   have:=cmt_deep_lt t _ _ _ h;omega
  split at h
  ·split at h
   ·cases h
   have:=cmt_deep_lt t _ _ _ h;omega
  have:=cmt_deep_lt (b :: t) _ _ _ h
  simp only [List.length_cons] at this
  omega
theorem sc_bad (T:List Nat):∀ (n j:Nat),T.length - j=n→∀ p e,sc T j = .bad p e→(e=2∨e=6∨e=11∨e=12∨e=13)∧j≤p∧p<T.length:=by
 intro n
 induction n using Nat.strongRecOn with
 | ind n ih =>
  intro j hn p e h
  rcases Nat.lt_or_ge j T.length with hj | hj
  ·rw [sc_step hj] at h
   split at h
   ·have:=ih _ (by omega) (j+1) rfl p e h
    exact⟨this.1,by omega,this.2.2⟩
   split at h
   ·cases hc:cmt (T.drop j) 0 0 with
    | fin m =>
     rw [hc] at h
     simp only [] at h
     have h0:=cmt_fin hc
     cases hs:sc T (j+m) with
     | ok t2 c2=>rw [hs] at h;cases h
     | bad p2 e2 =>
      rw [hs] at h
      simp only [Res.app,Res.bad.injEq] at h
      obtain⟨rfl,rfl⟩:=h
      have:=ih _ (by omega) (j+m) rfl p2 e2 hs
      exact⟨this.1,by omega,this.2.2⟩
    | deep m =>
     rw [hc] at h
     simp only [Res.bad.injEq] at h
     obtain⟨rfl,rfl⟩:=h
     have:=cmt_deep_lt _ _ _ _ hc
     rw [List.length_drop] at this
     exact⟨.inr (.inl rfl),by omega,by omega⟩
    | never =>
     rw [hc] at h
     simp only [Res.bad.injEq] at h
     obtain⟨rfl,rfl⟩:=h
     exact⟨.inr (.inr (.inr (.inl rfl))),by omega,by omega⟩
   cases hc:token (T.drop j) with
   | tok k v m =>
    rw [hc] at h
    simp only [] at h
    have h0:=token_len hc
    cases hs:sc T (j+m) with
    | ok t2 c2=>rw [hs] at h;cases h
    | bad p2 e2 =>
     rw [hs] at h
     simp only [Res.app,Res.bad.injEq] at h
     obtain⟨rfl,rfl⟩:=h
     have:=ih _ (by omega) (j+m) rfl p2 e2 hs
     exact⟨this.1,by omega,this.2.2⟩
   | bad e2 =>
    rw [hc] at h
    simp only [Res.bad.injEq] at h
    obtain⟨rfl,rfl⟩:=h
    refine⟨?_,by omega,by omega⟩
    rcases token_bad hc with h | h | h
    ·exact .inl h
    ·exact .inr (.inr (.inl h))
    exact .inr (.inr (.inr (.inr h)))
  rw [sc_end hj] at h
  cases h
theorem scan_bad {T:List Nat}{p e:Nat}(h:scan T = .bad p e):(e=2∨e=6∨e=11∨e=12∨e=13)∧p<T.length :=
 ⟨(sc_bad T _ 0 rfl p e h).1,(sc_bad T _ 0 rfl p e h).2.2⟩
end LX
open Go.RowKit
theorem bts_small (s:ByteArray):∀ c∈bts s,c<256:=by
 intro c hc
 unfold bts at hc
 obtain⟨u,_,rfl⟩:=List.mem_map.1 hc
 exact u.toNat_lt
theorem bts_ofB {l:List Nat}(h:∀ c∈l,c<256):bts (ofB l)=l:=by
 unfold bts ofB
 simp only [List.map_map]
 conv=>rhs;rw [← List.map_id l]
 refine List.map_congr_left fun c hc=>?_
 simp only [Function.comp,id]
 rw [UInt8.toNat_ofNat']
 exact Nat.mod_eq_of_lt (h c hc)
theorem scan_bytes (s:ByteArray):LX.Bt (LX.scan (bts s)).toks:=by
 cases h:LX.scan (bts s) with
 | ok ts cs=>exact LX.sc_bytes (bts s) (bts_small s) _ 0 rfl ts cs h
 | bad p e=>intro t ht;cases ht
theorem owns_cells {w:World}{base e size n:Nat}{a:Option Addr}{c:Nat}{xs:List Value}(h:w.ownsRow base e size (.slice a n c) n xs) (hn:0<n) :
  ∃ g,a=some ⟨g,0,none⟩∧base≤g∧g<w.heap.size∧n≤c∧∀ j u,xs[j]?=some u→w.cell? ⟨g,j,none⟩=some u:=by
 rcases h.2 with ⟨hv,h0⟩|⟨g,cap,cur,hv,hb,hg,hnc,_,hcs,htake⟩
 ·omega
 simp only [Value.slice.injEq] at hv
 obtain⟨rfl,_,rfl⟩:=hv
 refine⟨g,rfl,hb,(Array.getElem?_eq_some_iff.1 hg).1,hnc,fun j u hu=>?_⟩
 have hj:j<n*size:=by rw [← h.1];exact(List.getElem?_eq_some_iff.1 hu).1
 rw [cell_of_row w g j cur e (0,0) hg,← Array.getElem?_toList]
 rw [← htake,List.getElem?_take,if_pos hj] at hu
 exact hu
def KPost (w:World) (s:ByteArray) (e:Ending) (w':World):Prop:=e = .returned (.int .i64 (LX.kindOf (bts s)))∧Below w.heap.size w w'
theorem kind_any {w:World}(henv:Env w) (s:ByteArray) (hmax:s.size≤9223372036854775807):Calls Tryz.prog 117 #[.string s] w (KPost w s):=by
 obtain⟨r,hr⟩:∃ r,r=LX.kindOf (bts s):=⟨_,rfl⟩
 unfold KPost
 rw [← hr]
 unfold LX.kindOf at hr
 rw [ze] at hr
 by_cases hs:24<s.size
 ·rw [if_pos hs] at hr
  subst hr
  have hz:(24:Int)<(s.size:Int):=by omega
  clear hs
  go_enter Tryz.func117,Tryz.ntmps117
  go_wp2_with fail
  go_ret
  exact⟨rfl,Below.refl _ _⟩
 rw [if_neg hs] at hr
 have hz:(s.size:Int)≤24:=by omega
 have SC:=Lib.hid (scanned_any henv s (by omega))
 have BY:=Lib.hid (scan_bytes s)
 have HR:=Lib.hid hr
 clear hs hr
 go_enter Tryz.func117,Tryz.ntmps117
 go_wp2_with fail
 refine SC.out.mono ?_
 intro e w1 hp
 unfold SPost at hp
 cases hq:LX.scan (bts s) with
 | bad p er =>
  rw [hq] at hp
  have h0:r=0:=by rw [HR.out,hq]
  subst h0
  obtain⟨b,rfl,hb⟩:=hp
  have HB:=Lib.hid hb
  clear hb
  have he:=(LX.scan_bad hq).1
  have e1:((er:Int) != 0)=true:=by simp;omega
  have e2:((er:Int)==0)=false:=by simp;omega
  clear he hq HR
  go_wp2_with fail
  go_ret
  exact⟨rfl,HB.out.trans ((Below.refl _ _).alloc HB.out.size _)⟩
 | ok ts cs =>
  rw [hq] at hp
  obtain⟨b,mb,i,cv,tv,rfl,_,_,hrow,hb,_,_⟩:=hp
  obtain⟨a,c,rfl⟩:=owns_slice hrow
  have HB:=Lib.hid hb
  clear hb
  match ts,hq,hrow with
  | [],hq,hrow =>
   have h0:r=0:=by rw [HR.out,hq]
   subst h0
   clear hq HR hrow
   go_wp2_with fail
   go_ret
   exact⟨rfl,HB.out.trans ((Below.refl _ _).alloc HB.out.size _)⟩
  | [t],hq,hrow =>
   have h0:r=if t.text=bts s then t.kind else 0:=by rw [HR.out,hq]
   have ht:bts (ofB t.text)=t.text:=by
    have h1:=BY.out
    rw [hq] at h1
    exact bts_ofB (h1 t (List.mem_singleton_self _))
   obtain⟨g,rfl,hbg,hlt,hcap,hcells⟩:=owns_cells hrow (Nat.succ_pos 0)
   obtain⟨V,hV⟩:∃ V,V=w1.alloc (.cells #[.int .i64 0,.int .i64 0] 203):=⟨_,rfl⟩
   have kb:∀ q,V.cell? ⟨g,q,none⟩=w1.cell? ⟨g,q,none⟩:=fun q=>by
    have:V.heap[g]?=w1.heap[g]?:=by rw [hV];exact Below.heap_alloc _ _ _ hlt
    rw [World.cell?_of_block this]
   have z0:V.cell? ⟨g,0,none⟩=some (.int .i64 t.kind):=(kb 0).trans (hcells 0 _ rfl)
   have z2:V.cell? ⟨g,2,none⟩=some (.string (ofB t.text)):=(kb 2).trans (hcells 2 _ rfl)
   have hc1:(1:Nat)≤c:=hcap
   have v0:V.cell? ⟨w1.heap.size,0,none⟩=some (.int .i64 0):=by rw [hV];simp
   have v1:V.cell? ⟨w1.heap.size,1,none⟩=some (.int .i64 0):=by rw [hV];simp
   have HV:=Lib.hid hV
   have BV:Hid (Below w.heap.size w V):=by rw [hV];exact HB.out.trans ((Below.refl _ _).alloc HB.out.size _)
   have HT:=Lib.hid ht
   have HC:=Lib.hid hcap
   have H0:=Lib.hid h0
   obtain⟨tx,htx⟩:∃ x,x=ofB t.text:=⟨_,rfl⟩
   rw [← htx] at z2
   have TX:=Lib.hid htx
   clear hq HR hrow hbg hcells kb hV ht h0 hcap htx
   go_upto_region 4 with (fail)
   rw [← HV.out]
   by_cases hsame:tx=s
   ·have hb:(tx.toList==s.toList)=true:=(Lib.bytes_beq_iff _ _).2 hsame
    have hr:r=t.kind:=by rw [H0.out,if_pos (by rw [← HT.out,← TX.out,hsame])]
    have HRR:=Lib.hid hr
    clear hsame hr
    go_wp2_with fail
    go_ret
    exact⟨by rw [HRR.out];rfl,BV.out⟩
   have hb:(tx.toList==s.toList)=false:=(Lib.bytes_beq_false_iff _ _).2 hsame
   have hr:r=0:=by rw [H0.out,if_neg (fun e=>hsame (by rw [TX.out];exact bts_inj (by rw [HT.out,e])))]
   have HRR:=Lib.hid hr
   clear hsame hr
   go_wp2_with fail
   go_ret
   exact⟨by rw [HRR.out];rfl,BV.out⟩
  | t :: u :: ts,hq,hrow =>
   have h0:r=0:=by rw [HR.out,hq]
   subst h0
   obtain⟨tn,htn⟩:∃ n,n=(t :: u :: ts).length:=⟨_,rfl⟩
   have h1:((tn:Int) != 1)=true:=by rw [htn];simp;omega
   have h2:((tn:Int)==1)=false:=by rw [htn];simp;omega
   rw [← htn]
   clear hq HR hrow htn
   go_wp2_with fail
   go_ret
   exact⟨rfl,HB.out.trans ((Below.refl _ _).alloc HB.out.size _)⟩
end Lx
namespace Lx
open Go.RowKit
structure Wg (w:World) where
 v:World
 ch:Below w.heap.size w v
def Wg.first (w:World):Wg w:=⟨w.drew,(zs9 _ _).drew⟩
theorem Wg.cell {w:World}(x:Wg w) {b o:Nat}{v:Value}(hb:b<w.heap.size) (h:w.cell? ⟨b,o,none⟩=some v):x.v.cell? ⟨b,o,none⟩=some v:=(x.ch.cell (p:=⟨b,o,none⟩) hb).trans h
theorem Wg.call {P:Program}{w:World}{f:FuncId}{args:Array Value}{v:Value}(h:∀ x:Wg w,Calls P f args x.v fun e w'=>e = .returned v∧Below x.v.heap.size x.v w') (x:Wg w) :
  Calls P f args x.v fun e w'=>e = .returned v∧∃ y:Wg w,w'=y.v:=by
 refine(h x).mono ?_
 rintro e w' ⟨rfl,hb⟩
 exact⟨rfl,⟨w',x.ch.trans (hb.mono x.ch.size)⟩,rfl⟩
theorem wp_region_below {P:Program}{id:Nat}{Q:Exit→Act→World→Prop}{a:Act}{w:World}{l:List Oper}(hm:P.follows .mixedOrders=true) (hB:Region.lexB .any l.toArray=true)
  (h:wpQuiet P l.toArray (fun w'=>∃ x:Wg w,w'=x.v) (fun a'=>∀ x:Wg w,Q .normal a' x.v) l a):(Code.region id l.toArray true).wp P Q a w:=by
 refine wp_region_quiet (C:=fun w'=>∃ x:Wg w,w'=x.v) hm hB ⟨Wg.first w,rfl⟩ ?_
 simp only [List.toList_toArray]
 have e:(fun a'=>∀ x:Wg w,Q .normal a' x.v)=fun a'=>∀ w',(∃ x:Wg w,w'=x.v)→Q .normal a' w':=by
  funext a'
  exact propext ⟨fun h w' ⟨x,e⟩=>e ▸ h x,fun h x=>h _ ⟨x,rfl⟩⟩
 rw [← e]
 exact h
end Lx
namespace Lx
open Go.RowKit
theorem isName_any {w:World}(henv:Env w) (s:ByteArray) (hmax:s.size≤9223372036854775807) :
  Calls Tryz.prog 108 #[.string s] w fun e w'=>e = .returned (.bool (LX.kindOf (bts s)==2))∧Below w.heap.size w w':=by
 have K:=Lib.hid (kind_any henv s hmax)
 obtain⟨r,hr⟩:∃ r,r=LX.kindOf (bts s):=⟨_,rfl⟩
 unfold KPost at K
 rw [← hr] at K ⊢
 have e1:((r:Int)==2)=(r==2):=by rw [Bool.eq_iff_iff,beq_iff_eq,beq_iff_eq];omega
 have HE:=Lib.hid e1
 clear hr henv e1
 go_enter Tryz.func108,Tryz.ntmps108
 go_wp2_with fail
 refine K.out.mono ?_
 rintro e w1 ⟨rfl,hb⟩
 have HB:=Lib.hid hb
 clear hb
 go_wp2_with fail
 go_ret
 exact⟨by rw [← HE.out];rfl,HB.out⟩
end Lx
section
open Go.RowKit RG
def isNm (s:Nm):Bool:=Lx.LX.kindOf (Lx.bts s)==2
theorem nlaw:NLaw Lx.Env isNm where
 call:=fun W s he hs=>Lx.isName_any he s (by unfold maxLen at hs;omega)
 keep:=fun B W W' hB h hb=>Lx.Env.keep h hb hB
 size:=fun W h=>h.size
theorem sort_law:Go.Proofs.YtnkahlloahgifaaGreatDoor.SortLaw:=by
 intro blk cap zs w h1 h2 h3
 exact Tryz.slices_Sort_int blk 0 cap zs w h1 h2 h3
end
namespace Lx
namespace LX
def rfold:List Nat→Int→Option Int
 | [],n=>some n
 | c :: t,n=>if digit c=false then none else if 10*n - ((c:Int) - 48) < -9223372036854775808 then none else rfold t (10*n - ((c:Int) - 48))
def refNum (l:List Nat):Option Int :=
 let i:=if l.headD 0=126 then 1 else 0
 if l.length=i∨30<l.length∨(l.getD i 0=48∧1<l.length) then none
 else match rfold (l.drop i) 0 with
  | none=>none
  | some n=>if i=1 then some n else if n = -9223372036854775808 then none else some (-n)
def allDig (l:List Nat):Prop:=∀ c∈l,48≤c∧c≤57
theorem digit_iff {c:Nat}:digit c=true↔48≤c∧c≤57:=by simp [digit]
theorem foldl_mag (t:List Nat):∀ a:Nat,t.foldl (fun a c=>10*a+(c - 48)) a=a*10 ^ t.length+mag t:=by
 induction t with
 | nil=>intro a;simp [mag]
 | cons c t ih =>
  intro a
  have h1:mag (c :: t)=t.foldl (fun a c=>10*a+(c - 48)) (10*0+(c - 48)):=rfl
  rw [h1,List.foldl_cons,ih,ih,List.length_cons,Nat.pow_succ]
  rw [Nat.mul_zero,Nat.zero_add,Nat.add_mul,← Nat.add_assoc]
  congr 2
  rw [Nat.mul_comm 10 a,Nat.mul_assoc,Nat.mul_comm 10]
theorem mag_cons (c:Nat) (t:List Nat):mag (c :: t)=(c - 48)*10 ^ t.length+mag t:=by
 have h1:mag (c :: t)=t.foldl (fun a c=>10*a+(c - 48)) (10*0+(c - 48)):=rfl
 rw [h1,foldl_mag,Nat.mul_zero,Nat.zero_add]
theorem rfold_dig:∀ (t:List Nat) (m:Nat),allDig t→m≤9223372036854775808→rfold t (-(m:Int))=if m*10 ^ t.length+mag t≤9223372036854775808 then some (-((m*10 ^ t.length+mag t:Nat):Int)) else none
 | [],m,_,hm=>by simp [rfold,mag,hm]
 | c :: t,m,h,hm=>by
  have hc:=h c List.mem_cons_self
  have ht:allDig t:=fun x hx=>h x (List.mem_cons_of_mem _ hx)
  rw [rfold,if_neg (by simp [digit_iff.2 hc])]
  have e:(10:Int)*(-(m:Int)) - ((c:Int) - 48) = -((10*m+(c - 48):Nat):Int):=by omega
  have e2:m*10 ^ (c :: t).length+mag (c :: t)=(10*m+(c - 48))*10 ^ t.length+mag t:=by
   rw [mag_cons,List.length_cons,Nat.pow_succ,Nat.add_mul,← Nat.add_assoc,Nat.mul_comm 10 m,Nat.mul_assoc,Nat.mul_comm 10]
  rw [e,e2]
  have hp:1≤10 ^ t.length:=Nat.one_le_pow _ _ (by decide)
  have hle:10*m+(c - 48)≤(10*m+(c - 48))*10 ^ t.length:=Nat.le_mul_of_pos_right _ hp
  by_cases h2:10*m+(c - 48)≤9223372036854775808
  ·rw [if_neg (by omega)]
   exact rfold_dig t _ ht h2
  rw [if_pos (by omega),if_neg (by omega)]
theorem rfold_some:∀ (t:List Nat) (n v:Int),rfold t n=some v→allDig t
 | [],_,_,_=>fun c hc=>by cases hc
 | c :: t,n,v,h=>by
  rw [rfold] at h
  by_cases hc:digit c=false
  ·rw [if_pos hc] at h;cases h
  rw [if_neg hc] at h
  split at h
  ·cases h
  intro x hx
  rcases List.mem_cons.1 hx with rfl | hx
  ·exact digit_iff.1 (by simpa using hc)
  exact rfold_some t _ _ h x hx
theorem nat10_mag:∀ (f:Nat) (t:List Nat),allDig t→t≠[]→(t.headD 0=48→t.length=1)→mag t<10 ^ f→1≤f→nat10 f (mag t)=t
 | 0,_,_,_,_,_,h=>by omega
 | f+1,t,hd,hne,hz,hm,_=>by
  obtain⟨r,c,rfl⟩:∃ r c,t=r++[c]:=⟨t.dropLast,t.getLast hne,(List.dropLast_concat_getLast hne).symm⟩
  have hc:=hd c (by simp)
  rw [mag_append] at hm ⊢
  rw [nat10]
  by_cases hr:r=[]
  ·subst hr
   have:mag []=0:=rfl
   rw [this,if_pos (by omega)]
   simp
   omega
  have hr0:(r++[c]).headD 0=r.headD 0:=by cases r with
   | nil=>exact absurd rfl hr
   | cons a r=>rfl
  have hlen:(r++[c]).length≠1:=by
   cases r with
   | nil=>exact absurd rfl hr
   | cons a r=>simp
  have hz':r.headD 0≠48:=fun e=>hlen (hz (hr0.trans e))
  have hdr:allDig r:=fun x hx=>hd x (by simp [hx])
  have hpos:1≤mag r:=by
   cases r with
   | nil=>exact absurd rfl hr
   | cons a r =>
    rw [mag_cons]
    have ha:=hdr a List.mem_cons_self
    have hz2:a≠48:=hz'
    have hp:1≤10 ^ r.length:=Nat.one_le_pow _ _ (by decide)
    have h3:1*1≤(a - 48)*10 ^ r.length:=Nat.mul_le_mul (by omega) hp
    omega
  have hf:1≤f:=by
   rcases Nat.eq_zero_or_pos f with rfl | h0
   ·simp at hm;omega
   exact h0
  rw [if_neg (by omega),show (10*mag r+(c - 48)) / 10=mag r from by omega,nat10_mag f r hdr hr (fun e=>absurd e hz') (by rw [Nat.pow_succ] at hm;omega) hf]
  congr 2
  omega
theorem nat10_ne (f u:Nat) (h:1≤f):nat10 f u≠[]:=by
 obtain⟨g,rfl⟩:∃ g,f=g+1:=⟨f - 1,by omega⟩
 rw [nat10]
 split<;>simp
theorem nat10_head:∀ (f u:Nat),1≤f→10≤u→u<10 ^ f→(nat10 f u).headD 0≠48
 | 0,_,h,_,_=>by omega
 | f+1,u,_,h10,hu=>by
  have hf:1≤f:=by
   rcases Nat.eq_zero_or_pos f with rfl | h0
   ·simp at hu;omega
   exact h0
  rw [nat10,if_neg (by omega)]
  have hne:=nat10_ne f (u / 10) hf
  have e:(nat10 f (u / 10)++[48+u % 10]).headD 0=(nat10 f (u / 10)).headD 0:=by
   cases hq:nat10 f (u / 10) with
   | nil=>exact absurd hq hne
   | cons a r=>rfl
  rw [e]
  by_cases h100:10≤u / 10
  ·exact nat10_head f (u / 10) hf h100 (by rw [Nat.pow_succ] at hu;omega)
  obtain⟨g,rfl⟩:∃ g,f=g+1:=⟨f - 1,by omega⟩
  rw [nat10,if_pos (by omega)]
  show 48+u / 10≠48
  omega
theorem nat10_zero (f u:Nat) (h:1≤f) (hu:u<10 ^ f):(nat10 f u).headD 0=48→(nat10 f u).length=1:=by
 intro e
 rcases Nat.lt_or_ge u 10 with h1 | h1
 ·obtain⟨g,rfl⟩:∃ g,f=g+1:=⟨f - 1,by omega⟩
  rw [nat10,if_pos h1];rfl
 exact absurd e (nat10_head f u h h1 hu)
theorem nat10_length:∀ (f u:Nat),(nat10 f u).length≤f
 | 0,_=>Nat.le_refl _
 | f+1,u=>by
  rw [nat10]
  split
  ·simp
  have:=nat10_length f (u / 10);simp;omega
theorem nat10_fuel:∀ (f g u:Nat),1≤f→1≤g→u<10 ^ f→u<10 ^ g→nat10 f u=nat10 g u
 | 0,_,_,h,_,_,_=>by omega
 | _+1,0,_,_,h,_,_=>by omega
 | f+1,g+1,u,_,_,hf,hg=>by
  rw [nat10,nat10]
  by_cases h10:u<10
  ·rw [if_pos h10,if_pos h10]
  rw [if_neg h10,if_neg h10]
  have hf1:1≤f:=by
   rcases Nat.eq_zero_or_pos f with rfl | h0
   ·simp at hf;omega
   exact h0
  have hg1:1≤g:=by
   rcases Nat.eq_zero_or_pos g with rfl | h0
   ·simp at hg;omega
   exact h0
  rw [nat10_fuel f g (u / 10) hf1 hg1 (by rw [Nat.pow_succ] at hf;omega) (by rw [Nat.pow_succ] at hg;omega)]
theorem pow30:(10:Nat) ^ 30=1000000000000000000000000000000:=by decide
theorem pow19:(10:Nat) ^ 19=10000000000000000000:=by decide
theorem nat10_short {u:Nat}(h:u≤9223372036854775808):(nat10 30 u).length≤19:=by
 rw [nat10_fuel 30 19 u (by decide) (by decide) (by rw [pow30];omega) (by rw [pow19];omega)]
 exact nat10_length 19 u
theorem ref_some {l:List Nat}{v:Int}(h:refNum l=some v):num l=some v:=by
 unfold refNum at h
 simp only [] at h
 by_cases h126:l.headD 0=126
 ·rw [if_pos h126] at h
  by_cases hb:l.length=1∨30<l.length∨(l.getD 1 0=48∧1<l.length)
  ·rw [if_pos hb] at h;cases h
  rw [if_neg hb] at h
  obtain⟨t,rfl⟩:∃ t,l=126 :: t:=by
   cases l with
   | nil=>cases h126
   | cons a t=>exact⟨t,by rw [show a=126 from h126]⟩
  simp only [List.drop_succ_cons,List.drop_zero] at h
  cases hq:rfold t 0 with
  | none=>rw [hq] at h;cases h
  | some n =>
   rw [hq] at h
   simp only [if_true,Option.some.injEq] at h
   subst h
   have hd:=rfold_some _ _ _ hq
   have hr:=rfold_dig t 0 hd (by decide)
   rw [show (-((0:Nat):Int))=0 from rfl,hq,Nat.zero_mul,Nat.zero_add] at hr
   by_cases hm:mag t≤9223372036854775808
   ·rw [if_pos hm] at hr
    simp only [Option.some.injEq] at hr
    subst hr
    have hne:t≠[]:=fun e=>hb (.inl (by rw [e];rfl))
    have hz:t.headD 0=48→t.length=1:=fun e=>by
     exfalso
     refine hb (.inr (.inr ⟨?_,?_⟩))
     ·cases t with
      | nil=>exact absurd rfl hne
      | cons a t=>exact e
     cases t with
     | nil=>exact absurd rfl hne
     | cons a t=>simp
    have h1:=nat10_mag 30 t hd hne hz (by rw [pow30];omega) (by decide)
    have hpos:1≤mag t:=by
     rcases Nat.eq_zero_or_pos (mag t) with h0 | h0
     ·rw [h0] at h1
      have:t=[48]:=by rw [← h1];rfl
      exfalso
      rw [this] at hb
      exact hb (.inr (.inr ⟨rfl,by decide⟩))
     exact h0
    have h2:digs (-(mag t:Int))=126 :: t:=by
     unfold digs
     rw [if_pos (by omega),show (-(mag t:Int)).natAbs=mag t from by omega,h1]
    rw [← h2]
    exact num_digs _ (by omega) (by omega)
   rw [if_neg hm] at hr;cases hr
 rw [if_neg h126] at h
 by_cases hb:l.length=0∨30<l.length∨(l.getD 0 0=48∧1<l.length)
 ·rw [if_pos hb] at h;cases h
 rw [if_neg hb] at h
 simp only [List.drop_zero] at h
 cases hq:rfold l 0 with
 | none=>rw [hq] at h;cases h
 | some n =>
  rw [hq] at h
  simp only [show ¬ (0:Nat)=1 from by decide,if_false] at h
  have hd:=rfold_some _ _ _ hq
  have hr:=rfold_dig l 0 hd (by decide)
  rw [show (-((0:Nat):Int))=0 from rfl,hq,Nat.zero_mul,Nat.zero_add] at hr
  by_cases hm:mag l≤9223372036854775808
  ·rw [if_pos hm] at hr
   simp only [Option.some.injEq] at hr
   subst hr
   by_cases hl : -(mag l:Int) = -9223372036854775808
   ·rw [if_pos hl] at h;cases h
   rw [if_neg hl] at h
   simp only [Option.some.injEq] at h
   subst h
   have hne:l≠[]:=fun e=>hb (.inl (by rw [e];rfl))
   have hz:l.headD 0=48→l.length=1:=fun e=>by
    rcases Nat.lt_or_ge 1 l.length with h3 | h3
    ·exfalso
     refine hb (.inr (.inr ⟨?_,h3⟩))
     cases l with
     | nil=>exact absurd rfl hne
     | cons a t=>exact e
    cases l with
    | nil=>exact absurd rfl hne
    | cons a t=>simp at h3 ⊢;exact h3
   have h1:=nat10_mag 30 l hd hne hz (by rw [pow30];omega) (by decide)
   have h2:digs (mag l:Int)=l:=by
    unfold digs
    rw [if_neg (by omega),show ((mag l:Int)).natAbs=mag l from by omega,h1]
   conv=>lhs;rw [← h2]
   rw [show (- -(mag l:Int))=(mag l:Int) from by omega]
   exact num_digs _ (by omega) (by omega)
  rw [if_neg hm] at hr;cases hr
theorem ref_digs (v : Int) (h0 : -9223372036854775808 ≤ v) (h1 : v ≤ 9223372036854775807) : refNum (digs v) = some v := by
  have hn : v.natAbs < 10 ^ 30 := by rw [pow30]; omega
  have hm := mag_nat10 30 v.natAbs (by decide) hn
  have hd : allDig (nat10 30 v.natAbs) := nat10_digit 30 v.natAbs
  have hs := nat10_short (u := v.natAbs) (by omega)
  have hne := nat10_ne 30 v.natAbs (by decide)
  have hz := nat10_zero 30 v.natAbs (by decide) hn
  have hr := rfold_dig (nat10 30 v.natAbs) 0 hd (by decide)
  rw [Nat.zero_mul, Nat.zero_add, hm, if_pos (by omega)] at hr
  unfold digs
  generalize hg : nat10 30 v.natAbs = t at *
  have hlen : 0 < t.length := List.length_pos_iff.2 hne
  by_cases hv : v < 0
  · rw [if_pos hv]
    unfold refNum
    have h48 : ¬ (t.headD 0 = 48) := fun e => by
      have e1 := hz e
      match t, e1, e with
      | [a], _, e =>
        have e' : a = 48 := e
        subst e'
        have : mag [48] = 0 := rfl
        omega
    have hg2 : (126 :: t).getD 1 0 = t.headD 0 := by cases t <;> rfl
    simp only [List.headD_cons, if_true, List.length_cons, List.drop_succ_cons, List.drop_zero, hg2]
    rw [if_neg (by intro e; rcases e with e | e | ⟨e, _⟩; · omega
                   · omega
                   · exact h48 e)]
    rw [show rfold t 0 = rfold t (-((0 : Nat) : Int)) from rfl, hr]
    simp only [Option.some.injEq]
    omega
  · rw [if_neg hv]
    have h126 : ¬ t.headD 0 = 126 := by
      cases t with
      | nil => exact absurd rfl hne
      | cons a t => have := hd a List.mem_cons_self; show ¬ a = 126; omega
    have hg2 : t.getD 0 0 = t.headD 0 := by cases t <;> rfl
    unfold refNum
    simp only [if_neg h126, List.drop_zero, hg2]
    rw [if_neg (by intro e; rcases e with e | e | ⟨e, e2⟩; · omega
                   · omega
                   · have := hz e; omega)]
    rw [show rfold t 0 = rfold t (-((0 : Nat) : Int)) from rfl, hr]
    simp only [show ¬ (0 : Nat) = 1 from by decide, if_false]
    rw [if_neg (by omega)]
    simp only [Option.some.injEq]
    omega
theorem refNum_eq (l:List Nat):refNum l=num l:=by
 cases h:num l with
 | some v =>
  obtain⟨h0,h1,h2⟩:=num_some h
  rw [← h2];exact ref_digs v h0 h1
 | none =>
  cases h2:refNum l with
  | none=>rfl
  | some v=>rw [ref_some h2] at h;cases h
def dd (m:Nat):List Nat:=if h:m=0 then [] else dd (m / 10)++[48+m % 10]
decreasing_by omega
theorem dd_nat10:∀ (f m:Nat),0<m→m<10 ^ f→nat10 f m=dd m
 | 0,m,h,h2=>by simp at h2;omega
 | f+1,m,h,h2=>by
  rw [nat10,dd,dif_neg (by omega)]
  by_cases h10:m<10
  ·rw [if_pos h10,show m / 10=0 from by omega,dd,dif_pos rfl,List.nil_append,Nat.mod_eq_of_lt h10]
  rw [if_neg h10,dd_nat10 f (m / 10) (by omega) (by rw [Nat.pow_succ] at h2;omega)]
theorem dd_zero:dd 0=[]:=by rw [dd,dif_pos rfl]
theorem dd_step {m:Nat}(h:0<m):dd m=dd (m / 10)++[48+m % 10]:=by rw [dd,dif_neg (by omega)]
end LX
end Lx
namespace Lx
open Go.RowKit
theorem slice_mid (s:ByteArray) (i n:Nat) (h:i+n≤s.size) (m:World):(Instr.slice 9 (.string s) (some (.int .i64 i)) (some (.int .i64 ((i:Int)+(n:Int)))) none).run Tryz.prog m = .ok (.string (s.extract i (i+n))) m:=by
 have:=run_slice_string (P:=Tryz.prog) m 9 s .i64 .i64 i ((i:Int)+(n:Int)) Tryz.underlying9 (by omega) (by omega) (by omega)
 rw [this]
 have e:((i:Int)+(n:Int)).toNat=i+n:=by omega
 rw [e]
 simp
theorem byte_at (s:ByteArray) {i c:Nat}(h:i<s.size) (hc:(bts s).getD i 0=c) (m:World):(Instr.index 9 (.string s) (.int .i64 i)).run Tryz.prog m = .ok (.int .u8 (c:Int)) m:=by
 rw [run_byte s i i rfl h m,hc]
end Lx
namespace Lx
open Go.RowKit
theorem rdigit_any (w:World) (c:Nat):Calls Tryz.prog 97 #[.int .u8 c] w fun e w'=>e = .returned (.bool (LX.digit c))∧w'=w:=by
 by_cases h1:48≤c
 ·have k1:(48:Int)≤(c:Int):=by omega
  have e:LX.digit c=decide ((c:Int)≤57):=by unfold LX.digit;rw [decide_eq_true h1,Bool.true_and];exact decide_eq_decide.2 (by omega)
  rw [e]
  go_enter Tryz.func97,Tryz.ntmps97
  go_wp2
  go_ret
  exact⟨rfl,rfl⟩
 have k1:(c:Int)<48:=by omega
 have e:LX.digit c=false:=by unfold LX.digit;rw [decide_eq_false h1,Bool.false_and]
 rw [e]
 go_enter Tryz.func97,Tryz.ntmps97
 go_wp2
 go_ret
 exact⟨rfl,rfl⟩
def RN (r:Option Int) (w:World) (e:Ending) (w':World):Prop:=e = .returned (.tuple #[.int .i64 (r.getD 0),.int .i64 (if r.isSome then 0 else 13)])∧w'=w
def rOut (i:Nat) (r:Option Int):Option Int:=match r with | none=>none | some n=>if i=1 then some n else if n = -9223372036854775808 then none else some (-n)
theorem rn_none (i:Nat) (w:World):RN (rOut i none) w (.returned (.tuple #[.int .i64 0,.int .i64 13])) w:=⟨rfl,rfl⟩
theorem w64_in (n:Int) (h : -9223372036854775808≤n∧n≤9223372036854775807):wrap64 n=n:=by unfold wrap64;omega
theorem tdiv_lt {v d:Int}(h0:0≤d) (h1:d≤9):v<(-9223372036854775808+d).tdiv 10↔10*v - d < -9223372036854775808:=by
 have e:(-9223372036854775808+d).tdiv 10 = -((9223372036854775808 - d) / 10):=by
  rw [show (-9223372036854775808+d:Int) = -(9223372036854775808 - d) from by omega,Int.neg_tdiv,Int.tdiv_eq_ediv_of_nonneg (by omega)]
 rw [e]
 omega
theorem refNumber_pos (w:World) (s:ByteArray) (hz:s.size≤30) (c0:Nat) (h0:(bts s).getD 0 0=c0) (hpos:0<s.size) (h126:c0≠126) (h48:c0≠48∨s.size=1) :
  Calls Tryz.prog 98 #[.string s] w (RN (rOut 0 (LX.rfold ((bts s).drop 0) 0)) w):=by
 have b0:∀ m,(Instr.index 9 (.string s) (.int .i64 0)).run Tryz.prog m = .ok (.int .u8 c0) m:=byte_at s hpos h0
 have z0:(0:Int)<(s.size:Int):=by omega
 have z30:(s.size:Int)≤30:=by omega
 have z00:((s.size:Int)==0)=false:=zt6 (by omega)
 have z01:(s.size==0)=false:=zt6 (by omega)
 have k126:((c0:Int)==126)=false:=zt6 (fun e=>h126 (by omega))
 obtain⟨r,hr⟩:∃ r,r=LX.rfold ((bts s).drop 0) 0:=⟨_,rfl⟩
 rw [← hr]
 have HR:=zh hr
 have HZ:=zh hz
 have HP:Hid (0≤s.size):=zv3 _
 by_cases h:c0=48
 ·have k48:((c0:Int)==48)=true:=by rw [h];rfl
  have z1:(s.size:Int)≤1:=by omega
  clear h hz h0 hpos h126 h48 hr
  go_enter Tryz.func98,Tryz.ntmps98
  go_wp2_with fail
  clear b0 k126 k48 z00 z0 z01
  go_loop [5,7] (fun n j=>∃ (k:Nat) (v:Int),0≤k∧k≤s.size∧j = .int .i64 k∧n = .int .i64 v ∧ -9223372036854775808≤v∧v≤0∧r=LX.rfold ((bts s).drop k) v) (fun _ j=>s.size - (intOf j).toNat)
  case atStart=>exact⟨0,0,zr4 _,HP.out,rfl,rfl,by decide,by decide,HR.out⟩
  obtain⟨k,v,hki,hk,rfl,rfl,hv1,hv2,hrr⟩:=hrel
  have HRR:=zh hrr
  have HKI:=zh hki
  clear hrr hki
  by_cases hlt:k<s.size
  ·have hltz:(k:Int)<(s.size:Int):=by omega
   obtain⟨c,hc⟩:∃ c,(bts s).getD k 0=c:=⟨_,rfl⟩
   have bk:=byte_at s hlt hc
   have hdrop:(bts s).drop k=c :: (bts s).drop (k+1):=by rw [LX.drop_get (by rw [ze];exact hlt),hc]
   have HD:=zh hdrop
   have HLT:=zh hlt
   have DC:=rdigit_any w c
   cases hd:LX.digit c with
   | false =>
    have hn:r=none:=by rw [HRR.out,HD.out,LX.rfold,if_pos hd]
    have HN:=zh hn
    rw [hd] at DC
    have DG:=zh DC
    clear hd DC hc hdrop hn hlt hk
    go_wp2_with fail
    refine DG.out.mono ?_
    rintro e w1 ⟨rfl,rfl⟩
    go_wp2_with fail
    go_ret2
    rw [HN.out]
    exact rn_none 0 _
   | true =>
    obtain⟨h1,h2⟩:=LX.digit_iff.1 hd
    have c1:(48:Int)≤(c:Int):=by omega
    have c2:(c:Int)≤57:=by omega
    have HD2:=zh hd
    rw [hd] at DC
    have DG:=zh DC
    have HV:=zh (And.intro hv1 hv2)
    clear hd DC hc hdrop hlt hk h1 h2
    go_wp2_with fail
    refine DG.out.mono ?_
    rintro e w1 ⟨rfl,rfl⟩
    go_wp2_with fail
    ·have hq:v<(-9223372036854775808+((c:Int) - 48)).tdiv 10:=by assumption
     rw [tdiv_lt (by omega) (by omega)] at hq
     have hn:r=none:=by rw [HRR.out,HD.out,LX.rfold,if_neg (by rw [HD2.out];decide),if_pos hq]
     go_ret2
     rw [hn]
     exact rn_none 0 _
    have hq:(-9223372036854775808+((c:Int) - 48)).tdiv 10≤v:=by assumption
    have hq2:¬ 10*v - ((c:Int) - 48) < -9223372036854775808:=by
     rw [← tdiv_lt (by omega) (by omega)];omega
    go_round
    case rel=>exact⟨k+1,10*v - ((c:Int) - 48),by have:=HKI.out;omega,HLT.out,by go_num,by first | rfl | (rw [w64_in (10*v) (by omega),w64_in _ (by omega)]),by omega,by have:=HV.out;omega,by rw [HRR.out,HD.out,LX.rfold,if_neg (by rw [HD2.out];decide),if_neg hq2]⟩
    case measure=>have:=HLT.out;simp [intOf];omega
  have hge:(s.size:Int)≤(k:Int):=by omega
  have hv:r=some v:=by rw [HRR.out,List.drop_of_length_le (by rw [ze];omega)];rfl
  have HVR:=zh hv
  clear hv hlt hk
  by_cases hm:v = -9223372036854775808
  ·have km:(v == -9223372036854775808)=true:=by simpa using hm
   have HM:=zh hm
   clear hm
   go_wp2_with fail
   go_ret2
   rw [HVR.out]
   exact⟨by unfold rOut;simp only [show ¬ (0:Nat)=1 from by decide,if_false,if_pos HM.out];rfl,rfl⟩
  have km:(v == -9223372036854775808)=false:=by simpa using hm
  have hng:IntKind.i64.wrap (-v) = -v:=wrap_in _ (by omega)
  have HM:=zh hm
  clear hm
  go_wp2_with fail
  go_ret2
  rw [HVR.out]
  exact⟨by unfold rOut;simp only [show ¬ (0:Nat)=1 from by decide,if_false,if_neg HM.out];rfl,rfl⟩
 have k48:((c0:Int)==48)=false:=zt6 (fun e=>h (by omega))
 clear h hz h0 hpos h126 h48 hr
 go_enter Tryz.func98,Tryz.ntmps98
 go_wp2_with fail
 clear b0 k126 k48 z00 z0 z01
 go_loop [5,7] (fun n j=>∃ (k:Nat) (v:Int),0≤k∧k≤s.size∧j = .int .i64 k∧n = .int .i64 v ∧ -9223372036854775808≤v∧v≤0∧r=LX.rfold ((bts s).drop k) v) (fun _ j=>s.size - (intOf j).toNat)
 case atStart=>exact⟨0,0,zr4 _,HP.out,rfl,rfl,by decide,by decide,HR.out⟩
 obtain⟨k,v,hki,hk,rfl,rfl,hv1,hv2,hrr⟩:=hrel
 have HRR:=zh hrr
 have HKI:=zh hki
 clear hrr hki
 by_cases hlt:k<s.size
 ·have hltz:(k:Int)<(s.size:Int):=by omega
  obtain⟨c,hc⟩:∃ c,(bts s).getD k 0=c:=⟨_,rfl⟩
  have bk:=byte_at s hlt hc
  have hdrop:(bts s).drop k=c :: (bts s).drop (k+1):=by rw [LX.drop_get (by rw [ze];exact hlt),hc]
  have HD:=zh hdrop
  have HLT:=zh hlt
  have DC:=rdigit_any w c
  cases hd:LX.digit c with
  | false =>
   have hn:r=none:=by rw [HRR.out,HD.out,LX.rfold,if_pos hd]
   have HN:=zh hn
   rw [hd] at DC
   have DG:=zh DC
   clear hd DC hc hdrop hn hlt hk
   go_wp2_with fail
   refine DG.out.mono ?_
   rintro e w1 ⟨rfl,rfl⟩
   go_wp2_with fail
   go_ret2
   rw [HN.out]
   exact rn_none 0 _
  | true =>
   obtain⟨h1,h2⟩:=LX.digit_iff.1 hd
   have c1:(48:Int)≤(c:Int):=by omega
   have c2:(c:Int)≤57:=by omega
   have HD2:=zh hd
   rw [hd] at DC
   have DG:=zh DC
   have HV:=zh (And.intro hv1 hv2)
   clear hd DC hc hdrop hlt hk h1 h2
   go_wp2_with fail
   refine DG.out.mono ?_
   rintro e w1 ⟨rfl,rfl⟩
   go_wp2_with fail
   ·have hq:v<(-9223372036854775808+((c:Int) - 48)).tdiv 10:=by assumption
    rw [tdiv_lt (by omega) (by omega)] at hq
    have hn:r=none:=by rw [HRR.out,HD.out,LX.rfold,if_neg (by rw [HD2.out];decide),if_pos hq]
    go_ret2
    rw [hn]
    exact rn_none 0 _
   have hq:(-9223372036854775808+((c:Int) - 48)).tdiv 10≤v:=by assumption
   have hq2:¬ 10*v - ((c:Int) - 48) < -9223372036854775808:=by
    rw [← tdiv_lt (by omega) (by omega)];omega
   go_round
   case rel=>exact⟨k+1,10*v - ((c:Int) - 48),by have:=HKI.out;omega,HLT.out,by go_num,by first | rfl | (rw [w64_in (10*v) (by omega),w64_in _ (by omega)]),by omega,by have:=HV.out;omega,by rw [HRR.out,HD.out,LX.rfold,if_neg (by rw [HD2.out];decide),if_neg hq2]⟩
   case measure=>have:=HLT.out;simp [intOf];omega
 have hge:(s.size:Int)≤(k:Int):=by omega
 have hv:r=some v:=by rw [HRR.out,List.drop_of_length_le (by rw [ze];omega)];rfl
 have HVR:=zh hv
 clear hv hlt hk
 by_cases hm:v = -9223372036854775808
 ·have km:(v == -9223372036854775808)=true:=by simpa using hm
  have HM:=zh hm
  clear hm
  go_wp2_with fail
  go_ret2
  rw [HVR.out]
  exact⟨by unfold rOut;simp only [show ¬ (0:Nat)=1 from by decide,if_false,if_pos HM.out];rfl,rfl⟩
 have km:(v == -9223372036854775808)=false:=by simpa using hm
 have hng:IntKind.i64.wrap (-v) = -v:=wrap_in _ (by omega)
 have HM:=zh hm
 clear hm
 go_wp2_with fail
 go_ret2
 rw [HVR.out]
 exact⟨by unfold rOut;simp only [show ¬ (0:Nat)=1 from by decide,if_false,if_neg HM.out];rfl,rfl⟩
theorem refNumber_neg (w:World) (s:ByteArray) (hz:s.size≤30) (c0:Nat) (h0:(bts s).getD 1 0=c0) (hpos:1<s.size) (h126:(bts s).getD 0 0=126) (h48:c0≠48) :
  Calls Tryz.prog 98 #[.string s] w (RN (rOut 1 (LX.rfold ((bts s).drop 1) 0)) w):=by
 have b0:∀ m,(Instr.index 9 (.string s) (.int .i64 0)).run Tryz.prog m = .ok (.int .u8 126) m:=byte_at (i:=0) s (by omega) h126
 have b1:∀ m,(Instr.index 9 (.string s) (.int .i64 1)).run Tryz.prog m = .ok (.int .u8 c0) m:=byte_at s hpos h0
 have z0:(0:Int)<(s.size:Int):=by omega
 have z1:(1:Int)<(s.size:Int):=by omega
 have z30:(s.size:Int)≤30:=by omega
 have z00:((s.size:Int)==1)=false:=zt6 (by omega)
 have z01:(s.size==1)=false:=zt6 (by omega)
 obtain⟨r,hr⟩:∃ r,r=LX.rfold ((bts s).drop 1) 0:=⟨_,rfl⟩
 rw [← hr]
 have HR:=zh hr
 have HZ:=zh hz
 have HP:Hid (1≤s.size):=by show 1≤s.size;omega
 first
 | (exfalso;exact absurd rfl h48)
 | skip
 have k48:((c0:Int)==48)=false:=zt6 (fun e=>h48 (by omega))
 clear hz h0 hpos h126 h48 hr
 go_enter Tryz.func98,Tryz.ntmps98
 go_wp2_with fail
 clear b0 b1 k48 z00 z0 z01 z1
 go_loop [5,7] (fun n j=>∃ (k:Nat) (v:Int),1≤k∧k≤s.size∧j = .int .i64 k∧n = .int .i64 v ∧ -9223372036854775808≤v∧v≤0∧r=LX.rfold ((bts s).drop k) v) (fun _ j=>s.size - (intOf j).toNat)
 case atStart=>exact⟨1,0,zr4 _,HP.out,rfl,rfl,by decide,by decide,HR.out⟩
 obtain⟨k,v,hki,hk,rfl,rfl,hv1,hv2,hrr⟩:=hrel
 have HRR:=zh hrr
 have HKI:=zh hki
 clear hrr hki
 by_cases hlt:k<s.size
 ·have hltz:(k:Int)<(s.size:Int):=by omega
  obtain⟨c,hc⟩:∃ c,(bts s).getD k 0=c:=⟨_,rfl⟩
  have bk:=byte_at s hlt hc
  have hdrop:(bts s).drop k=c :: (bts s).drop (k+1):=by rw [LX.drop_get (by rw [ze];exact hlt),hc]
  have HD:=zh hdrop
  have HLT:=zh hlt
  have DC:=rdigit_any w c
  cases hd:LX.digit c with
  | false =>
   have hn:r=none:=by rw [HRR.out,HD.out,LX.rfold,if_pos hd]
   have HN:=zh hn
   rw [hd] at DC
   have DG:=zh DC
   clear hd DC hc hdrop hn hlt hk
   go_wp2_with fail
   refine DG.out.mono ?_
   rintro e w1 ⟨rfl,rfl⟩
   go_wp2_with fail
   go_ret2
   rw [HN.out]
   exact rn_none 1 _
  | true =>
   obtain⟨h1,h2⟩:=LX.digit_iff.1 hd
   have c1:(48:Int)≤(c:Int):=by omega
   have c2:(c:Int)≤57:=by omega
   have HD2:=zh hd
   rw [hd] at DC
   have DG:=zh DC
   have HV:=zh (And.intro hv1 hv2)
   clear hd DC hc hdrop hlt hk h1 h2
   go_wp2_with fail
   refine DG.out.mono ?_
   rintro e w1 ⟨rfl,rfl⟩
   go_wp2_with fail
   ·have hq:v<(-9223372036854775808+((c:Int) - 48)).tdiv 10:=by assumption
    rw [tdiv_lt (by omega) (by omega)] at hq
    have hn:r=none:=by rw [HRR.out,HD.out,LX.rfold,if_neg (by rw [HD2.out];decide),if_pos hq]
    go_ret2
    rw [hn]
    exact rn_none 1 _
   have hq:(-9223372036854775808+((c:Int) - 48)).tdiv 10≤v:=by assumption
   have hq2:¬ 10*v - ((c:Int) - 48) < -9223372036854775808:=by
    rw [← tdiv_lt (by omega) (by omega)];omega
   go_round
   case rel=>exact⟨k+1,10*v - ((c:Int) - 48),by have:=HKI.out;omega,HLT.out,by go_num,by first | rfl | (rw [w64_in (10*v) (by omega),w64_in _ (by omega)]),by omega,by have:=HV.out;omega,by rw [HRR.out,HD.out,LX.rfold,if_neg (by rw [HD2.out];decide),if_neg hq2]⟩
   case measure=>have:=HLT.out;simp [intOf];omega
 have hge:(s.size:Int)≤(k:Int):=by omega
 have hv:r=some v:=by rw [HRR.out,List.drop_of_length_le (by rw [ze];omega)];rfl
 have HVR:=zh hv
 clear hv hlt hk
 go_wp2_with fail
 go_ret2
 rw [HVR.out]
 exact⟨rfl,rfl⟩
theorem refNumber_bad (w:World) (s:ByteArray) (h:s.size=(if (bts s).headD 0=126 then 1 else 0)∨30<s.size∨((bts s).getD (if (bts s).headD 0=126 then 1 else 0) 0=48∧1<s.size)) :
  Calls Tryz.prog 98 #[.string s] w (RN none w):=by
 have hh:(bts s).headD 0=(bts s).getD 0 0:=by cases bts s<;>rfl
 rw [hh] at h
 have fin:Hid (RN none w (.returned (.tuple #[.int .i64 0,.int .i64 13])) w):=rn_none 0 w
 by_cases h0:s.size=0
 ·have z0:¬ (0:Int)<(s.size:Int):=by omega
  have z1:(s.size:Int)=0:=by omega
  clear h hh h0
  go_enter Tryz.func98,Tryz.ntmps98
  go_wp2_with fail
  go_ret2
  exact fin.out
 have hpos:0<s.size:=by omega
 have zp:(0:Int)<(s.size:Int):=by omega
 obtain⟨c0,hc0⟩:∃ c,(bts s).getD 0 0=c:=⟨_,rfl⟩
 have b0:∀ m,(Instr.index 9 (.string s) (.int .i64 0)).run Tryz.prog m = .ok (.int .u8 c0) m:=byte_at s hpos hc0
 rw [hc0] at h
 by_cases h126:c0=126
 ·rw [if_pos h126] at h
  have k126:((c0:Int)==126)=true:=by rw [h126];rfl
  by_cases h1:s.size=1
  ·have z1:((s.size:Int)==1)=true:=by rw [h1];rfl
   clear h h1 h126 hc0 hpos h0 hh
   go_enter Tryz.func98,Tryz.ntmps98
   go_wp2_with fail
   go_ret2
   exact fin.out
  have z1:((s.size:Int)==1)=false:=zt6 (by omega)
  have z1':(s.size==1)=false:=zt6 (by omega)
  by_cases h30:30<s.size
  ·have z30:(30:Int)<(s.size:Int):=by omega
   clear h h1 h126 hc0 hpos h0 hh h30
   go_enter Tryz.func98,Tryz.ntmps98
   go_wp2_with fail
   go_ret2
   exact fin.out
  have z30:(s.size:Int)≤30:=by omega
  have g48:(bts s).getD 1 0=48:=by
   rcases h with h | h | h
   ·omega
   ·omega
   exact h.1
  have b1:∀ m,(Instr.index 9 (.string s) (.int .i64 1)).run Tryz.prog m = .ok (.int .u8 48) m:=byte_at (i:=1) s (by omega) g48
  have z2:(1:Int)<(s.size:Int):=by omega
  clear h h1 h126 hc0 hpos h0 hh h30 g48
  go_enter Tryz.func98,Tryz.ntmps98
  go_wp2_with fail
  go_ret2
  exact fin.out
 rw [if_neg h126] at h
 have k126:((c0:Int)==126)=false:=zt6 (fun e=>h126 (by omega))
 have z1:((s.size:Int)==0)=false:=zt6 (by omega)
 have z1':(s.size==0)=false:=zt6 (by omega)
 by_cases h30:30<s.size
 ·have z30:(30:Int)<(s.size:Int):=by omega
  clear h h126 hc0 hpos h0 hh h30
  go_enter Tryz.func98,Tryz.ntmps98
  go_wp2_with fail
  go_ret2
  exact fin.out
 have z30:(s.size:Int)≤30:=by omega
 obtain rfl:c0=48:=by omega
 have z2:(1:Int)<(s.size:Int):=by omega
 clear h h126 hc0 hpos h0 hh h30 k126
 go_enter Tryz.func98,Tryz.ntmps98
 go_wp2_with fail
 go_ret2
 exact fin.out
theorem rOut_ref (l:List Nat):LX.refNum l=if l.length=(if l.headD 0=126 then 1 else 0)∨30<l.length∨(l.getD (if l.headD 0=126 then 1 else 0) 0=48∧1<l.length) then none else rOut (if l.headD 0=126 then 1 else 0) (LX.rfold (l.drop (if l.headD 0=126 then 1 else 0)) 0):=by
 unfold LX.refNum rOut
 rfl
theorem refNumber_any (w:World) (s:ByteArray):Calls Tryz.prog 98 #[.string s] w (RN (LX.num (bts s)) w):=by
 rw [← LX.refNum_eq,rOut_ref,ze]
 by_cases h:s.size=(if (bts s).headD 0=126 then 1 else 0)∨30<s.size∨((bts s).getD (if (bts s).headD 0=126 then 1 else 0) 0=48∧1<s.size)
 ·rw [if_pos h];exact refNumber_bad w s h
 rw [if_neg h]
 have hh:(bts s).headD 0=(bts s).getD 0 0:=by cases bts s<;>rfl
 rw [hh] at h ⊢
 by_cases h126:(bts s).getD 0 0=126
 ·rw [if_pos h126] at h ⊢
  have h0:0<s.size:=by
   rcases Nat.eq_zero_or_pos s.size with h0 | h0
   ·have:bts s=[]:=List.length_eq_zero_iff.1 (by rw [ze];exact h0)
    rw [this] at h126;cases h126
   exact h0
  exact refNumber_neg w s (by omega) _ rfl (by omega) h126 (fun e=>h (.inr (.inr ⟨e,by omega⟩)))
 rw [if_neg h126] at h ⊢
 refine refNumber_pos w s (by omega) _ rfl (by omega) h126 ?_
 by_cases h48:(bts s).getD 0 0=48
 ·right
  by_cases h1:s.size=1
  ·exact h1
  exact absurd (.inr (.inr ⟨h48,by omega⟩)) h
 exact .inl h48
end Lx
namespace Lx
open Go.RowKit
def chB (d:Nat):ByteArray:=⟨#[UInt8.ofNat (48+d)]⟩
theorem enc_digit (d:Nat) (h:d≤9):Utf8.encode (48+(d:Int))=chB d:=by
 rcases (by omega:d=0∨d=1∨d=2∨d=3∨d=4∨d=5∨d=6∨d=7∨d=8∨d=9) with rfl | rfl | rfl | rfl | rfl | rfl | rfl | rfl | rfl | rfl<;>rfl
theorem bts_ch (d:Nat) (h:d≤9) (x:ByteArray):bts (chB d++x)=(48+d) :: bts x:=by
 unfold chB bts
 rw [ByteArray.data_append,Array.toList_append,List.map_append]
 simp
 omega
theorem dd_length:∀ (f m:Nat),m<10 ^ f→(LX.dd m).length≤f
 | 0,m,h=>by
  simp at h
  subst h
  rw [LX.dd_zero];exact zr4 _
 | f+1,m,h=>by
  rcases Nat.eq_zero_or_pos m with h0 | h0
  ·rw [h0,LX.dd_zero];exact zv3 _
  rw [LX.dd_step h0,zr2]
  have:=dd_length f (m / 10) (by rw [Nat.pow_succ] at h;omega)
  simp
  omega
theorem refDigits_neg (w:World) (m:Nat) (h0:0<m) (h1:m≤9223372036854775808) :
  Calls Tryz.prog 114 #[.int .i64 (-(m:Int))] w fun e w'=>e = .returned (.string (digS (-(m:Int))))∧w'=w:=by
 have z0:((-(m:Int))==0)=false:=zt6 (by omega)
 have z1:¬ (0:Int) < -(m:Int):=by omega
 have z2 : -(m:Int)<0:=by omega
 have HD:Hid (∀ x:ByteArray,LX.dd m=bts x→digS (-(m:Int))=⟨#[126]⟩++x):=fun x hx=>bts_inj (by
  rw [bts_digS _ (by omega) (by omega),show bts (⟨#[126]⟩++x)=126 :: bts x from by
   unfold bts;rw [ByteArray.data_append,Array.toList_append,List.map_append];rfl]
  unfold LX.digs
  rw [if_pos (by omega),← hx,show (-(m:Int)).natAbs=m from by omega,LX.dd_nat10 30 m (by omega) (by rw [LX.pow30];omega)])
 have HM:Hid (m≤9223372036854775808):=h1
 have HL:Hid ((LX.dd m).length≤30):=dd_length 30 m (by rw [LX.pow30];omega)
 clear h0 h1
 go_enter Tryz.func114,Tryz.ntmps114
 go_wp2_with fail
 go_loop [3,4] (fun r o=>∃ (k:Nat) (x:ByteArray),k≤m∧r = .int .i64 (-(k:Int))∧o = .string x∧LX.dd m=LX.dd k++bts x) (fun r _=>(intOf r).natAbs)
 case atStart=>exact⟨m,⟨#[]⟩,zr4 _,rfl,rfl,by rw [show bts ⟨#[]⟩=[] from rfl,List.append_nil]⟩
 obtain⟨k,x,hk,rfl,rfl,hx⟩:=hrel
 have HX:=zh hx
 have hxs:x.size≤30:=by
  have:=congrArg List.length hx
  rw [zr2,ze] at this
  have:=HL.out
  omega
 clear hx
 by_cases h:k=0
 ·have zk:(-(k:Int))=0:=by omega
  have zk1:((-(k:Int))==0)=true:=by rw [zk];rfl
  have HK:=zh h
  have hsz:(⟨#[126]⟩:ByteArray).size+x.size≤9223372036854775807:=by
   show 1+x.size≤_
   omega
  clear h zk
  go_wp2_with fail
  go_ret
  refine⟨?_,rfl⟩
  rw [HD.out x (by have:=HX.out;rw [HK.out,LX.dd_zero,List.nil_append] at this;exact this)]
  rfl
 have zk:((-(k:Int)) != 0)=true:=by simp;omega
 have henc:Utf8.encode (48+(k:Int) % 10)=chB (k % 10):=by
  rw [show (48+(k:Int) % 10)=48+((k % 10:Nat):Int) from by omega]
  exact enc_digit _ (by omega)
 have HE:=zh henc
 have kb:(-(k:Int))≤0:=by omega
 have kb2 : -9223372036854775808≤(-(k:Int)):=by have:=HM.out;omega
 have hsz:(Utf8.encode (48+(k:Int) % 10)).size+x.size≤9223372036854775807:=by
  rw [henc]
  show 1+x.size≤_
  omega
 have HK:Hid (0<k∧k≤m):=⟨by omega,hk⟩
 clear henc h hk hxs
 go_wp2_with fail
 go_round
 case rel =>
  refine⟨k / 10,chB (k % 10)++x,by have:=HK.out;omega,by first | rfl | (congr 1;omega),by rw [HE.out],?_⟩
  rw [HX.out,LX.dd_step HK.out.1,bts_ch _ (by omega),List.append_assoc]
  rfl
 case measure=>have:=HK.out;simp [intOf];omega
theorem refDigits_pos (w:World) (m:Nat) (h0:0<m) (h1:m≤9223372036854775807) :
  Calls Tryz.prog 114 #[.int .i64 (m:Int)] w fun e w'=>e = .returned (.string (digS (m:Int)))∧w'=w:=by
 have z0:((m:Int)==0)=false:=zt6 (by omega)
 have z1:(0:Int)<(m:Int):=by omega
 have z3:(m:Int)≤9223372036854775807:=by omega
 have HD:Hid (∀ x:ByteArray,LX.dd m=bts x→digS (m:Int)=x):=fun x hx=>bts_inj (by
  rw [bts_digS _ (by omega) (by omega)]
  unfold LX.digs
  rw [if_neg (by omega),← hx,show ((m:Int)).natAbs=m from by omega,LX.dd_nat10 30 m (by omega) (by rw [LX.pow30];omega)])
 have HM:Hid (m≤9223372036854775808):=by show m≤_;omega
 have HL:Hid ((LX.dd m).length≤30):=dd_length 30 m (by rw [LX.pow30];omega)
 have hw:IntKind.i64.wrap (-(m:Int)) = -(m:Int):=wrap_in _ (by omega)
 clear h0 h1
 go_enter Tryz.func114,Tryz.ntmps114
 go_wp2_with fail
 go_loop [3,4] (fun r o=>∃ (k:Nat) (x:ByteArray),k≤m∧r = .int .i64 (-(k:Int))∧o = .string x∧LX.dd m=LX.dd k++bts x) (fun r _=>(intOf r).natAbs)
 case atStart=>exact⟨m,⟨#[]⟩,zr4 _,rfl,rfl,by rw [show bts ⟨#[]⟩=[] from rfl,List.append_nil]⟩
 obtain⟨k,x,hk,rfl,rfl,hx⟩:=hrel
 have HX:=zh hx
 have hxs:x.size≤30:=by
  have:=congrArg List.length hx
  rw [zr2,ze] at this
  have:=HL.out
  omega
 clear hx
 by_cases h:k=0
 ·have zk:(-(k:Int))=0:=by omega
  have zk1:((-(k:Int))==0)=true:=by rw [zk];rfl
  have HK:=zh h
  have z2:¬ (m:Int)<0:=by omega
  clear h zk
  go_wp2_with fail
  go_ret
  refine⟨?_,rfl⟩
  rw [HD.out x (by have:=HX.out;rw [HK.out,LX.dd_zero,List.nil_append] at this;exact this)]
  rfl
 have zk:((-(k:Int)) != 0)=true:=by simp;omega
 have henc:Utf8.encode (48+(k:Int) % 10)=chB (k % 10):=by
  rw [show (48+(k:Int) % 10)=48+((k % 10:Nat):Int) from by omega]
  exact enc_digit _ (by omega)
 have HE:=zh henc
 have kb:(-(k:Int))≤0:=by omega
 have kb2 : -9223372036854775808≤(-(k:Int)):=by have:=HM.out;omega
 have hsz:(Utf8.encode (48+(k:Int) % 10)).size+x.size≤9223372036854775807:=by
  rw [henc]
  show 1+x.size≤_
  omega
 have HK:Hid (0<k∧k≤m):=⟨by omega,hk⟩
 clear henc h hk hxs
 go_wp2_with fail
 go_round
 case rel =>
  refine⟨k / 10,chB (k % 10)++x,by have:=HK.out;omega,by first | rfl | (congr 1;omega),by rw [HE.out],?_⟩
  rw [HX.out,LX.dd_step HK.out.1,bts_ch _ (by omega),List.append_assoc]
  rfl
 case measure=>have:=HK.out;simp [intOf];omega
theorem refDigits_zero (w:World):Calls Tryz.prog 114 #[.int .i64 0] w fun e w'=>e = .returned (.string (digS 0))∧w'=w:=by
 rw [show digS 0=⟨#[48]⟩ from bts_inj (by rw [bts_digS _ (by decide) (by decide)];rfl)]
 go_enter Tryz.func114,Tryz.ntmps114
 go_wp2_with fail
 go_ret
 exact⟨rfl,rfl⟩
theorem refDigits_any (w:World) (n:Int) (h0 : -9223372036854775808≤n) (h1:n≤9223372036854775807) :
  Calls Tryz.prog 114 #[.int .i64 n] w fun e w'=>e = .returned (.string (digS n))∧w'=w:=by
 rcases Int.lt_trichotomy n 0 with h | h | h
 ·obtain⟨m,rfl⟩:∃ m:Nat,n = -(m:Int):=⟨n.natAbs,by omega⟩
  exact refDigits_neg w m (by omega) (by omega)
 ·subst h;exact refDigits_zero w
 obtain⟨m,rfl⟩:∃ m:Nat,n=(m:Int):=⟨n.natAbs,by omega⟩
 exact refDigits_pos w m (by omega) (by omega)
end Lx
section
open Go.RowKit RG
def yk (k:Nat):Nm:=⟨#[121]⟩++Lx.digS (k:Int)
theorem yk_all:((List.range 701).all fun k=>isNm (yk k))=true:=by kernel_rfl
theorem yk_name {k:Nat}(h:k<701):isNm (yk k)=true:=List.all_eq_true.1 yk_all k (List.mem_range.2 h)
theorem yk_inj {i j:Nat}(hi:i<100000) (hj:j<100000) (h:yk i=yk j):i=j:=by
 have h1:(Lx.digS (i:Int)).data=(Lx.digS (j:Int)).data:=by
  have:=congrArg (fun s:ByteArray=>s.data.toList) h
  unfold yk at this
  simp only [ByteArray.data_append,Array.toList_append,List.append_cancel_left_eq] at this
  exact Array.ext' this
 have h2:Lx.digS (i:Int)=Lx.digS (j:Int):=ByteArray.ext h1
 have e1:=Lx.bts_digS (i:Int) (by omega) (by omega)
 have e2:=Lx.bts_digS (j:Int) (by omega) (by omega)
 rw [h2,e2] at e1
 have n1:=Lx.num_digs (i:Int) (by omega) (by omega)
 rw [← e1,Lx.num_digs (j:Int) (by omega) (by omega)] at n1
 have:=Option.some.inj n1
 omega
theorem yk_size (k:Nat):(yk k).size≠0:=by
 unfold yk
 rw [ByteArray.size_append]
 show 1+_≠0
 omega
end
section
open Go.RowKit RG Go.Maps
def MvsAt (w:World) (v:Value) (l:List RM.Mv):Prop :=
 ∃ (ad:Option Addr) (c:Nat),v = .slice ad l.length c∧(0<l.length→∃ g o,ad=some ⟨g,o,none⟩∧∀ (i:Nat) m,l[i]?=some m→w.cell? ⟨g,o+i*2,none⟩=some (.int .i64 m.1)∧w.cell? ⟨g,o+i*2+1,none⟩=some (.int .i64 m.2))
theorem MvsAt.kept {w w':World}{v:Value}{l:List RM.Mv}(h:MvsAt w v l) (hk:Kept w w'):MvsAt w' v l:=by
 obtain⟨ad,c,e,h1⟩:=h
 exact⟨ad,c,e,fun h0=>by obtain⟨g,o,e2,hat⟩:=h1 h0;exact⟨g,o,e2,fun i m hi=>⟨hk _ _ (hat i m hi).1,hk _ _ (hat i m hi).2⟩⟩⟩
theorem isReg_any (r:Int) (w:World):Calls Tryz.prog 96 #[.int .i64 r] w fun e w'=>e = .returned (.bool (RM.isReg r))∧w=w':=by
 by_cases h1:0≤r
 ·by_cases h2:r≤20000
  ·go_enter Tryz.func96,Tryz.ntmps96
   go_wp2_with fail
   go_ret
   exact⟨by simp [RM.isReg,h1,h2],rfl⟩
  have hd:decide (r≤20000)=false:=by simpa using h2
  go_enter Tryz.func96,Tryz.ntmps96
  go_wp2_with fail
  go_ret
  exact⟨by simp [RM.isReg,h1,h2],rfl⟩
 have hd:decide (0≤r)=false:=by simpa using h1
 go_enter Tryz.func96,Tryz.ntmps96
 go_wp2_with fail
 go_ret
 exact⟨by simp [RM.isReg];omega,rfl⟩
theorem isReg_yes {r:Int}(h:RM.isReg r=true) (w:World):Calls Tryz.prog 96 #[.int .i64 r] w fun e w'=>e = .returned (.bool true)∧w=w':=by have:=isReg_any r w;rw [h] at this;exact this
theorem isReg_no {r:Int}(h:RM.isReg r=false) (w:World):Calls Tryz.prog 96 #[.int .i64 r] w fun e w'=>e = .returned (.bool false)∧w=w':=by have:=isReg_any r w;rw [h] at this;exact this
theorem isReg_wf {r:Int}(h:RM.isReg r=true):(Lit.int .i64 r).wf=true:=by
 unfold RM.isReg at h
 simp at h
 exact WalkArith.wf_i64 (by omega)
theorem right_no {spare a b:Int}{s:List Int}{l:List RM.Mv}{k:Nat}(hx:l[k]?=some (a,b)) (h:¬ (RM.isReg a=true∧RM.isReg b=true∧a≠spare∧b≠spare∧a∉s)):RM.rightFrom spare s (l.drop k)=false:=by
 have hk:=(zq8.1 hx).1
 rw [zq9 hk,zt3] at hx
 rw [List.drop_eq_getElem_cons hk,hx,RM.rightFrom]
 apply if_neg
 intro h2
 apply h
 simp only [Bool.and_eq_true,Bool.not_eq_true',decide_eq_false_iff_not,List.any_eq_false,decide_eq_true_eq] at h2
 exact⟨h2.1.1.1.1,h2.1.1.1.2,h2.1.1.2,h2.1.2,fun hm=>h2.2 a hm rfl⟩
theorem right_yes {spare a b:Int}{s:List Int}{l:List RM.Mv}{k:Nat}(hx:l[k]?=some (a,b)) (h1:RM.isReg a=true) (h2:RM.isReg b=true) (h3:a≠spare) (h4:b≠spare) (h5:a∉s):RM.rightFrom spare s (l.drop k)=RM.rightFrom spare (a :: s) (l.drop (k+1)):=by
 have hk:=(zq8.1 hx).1
 rw [zq9 hk,zt3] at hx
 rw [List.drop_eq_getElem_cons hk,hx,RM.rightFrom]
 apply if_pos
 simp only [Bool.and_eq_true,Bool.not_eq_true',decide_eq_false_iff_not,List.any_eq_false,decide_eq_true_eq]
 exact⟨⟨⟨⟨h1,h2⟩,h3⟩,h4⟩,fun x hm e=>h5 (e ▸ hm)⟩
theorem few_of {a b:List Int}(hn:a.Nodup) (hs:∀ x∈a,x∈b) (hb:b.length≤16):a.length≤900000:=by
 by_cases h:b.length≤a.length
 ·have:=(RM.perm_of_sub hn hs h).length_eq
  omega
 omega
theorem imap_run {w:World}{b:Nat}{l:List (Int×Int)}(h:IMap Tryz.prog w b l) {k:Int}(hk:(Lit.int .i64 k).wf=true) (t:TypeId) (ht:Tryz.prog.underlying t=some (.map 3 3)):(Instr.lookup t (.map (some b)) (.int .i64 k) false).run Tryz.prog w = .ok (.int .i64 (iat l k)) w:=by
 obtain⟨D,h1,h2,h3,h4,h5⟩:=h
 obtain⟨c,hrun,hat,_⟩:=h1.lookup_int (int_keyed Tryz.underlying3) ht Tryz.underlying3 (zero3 w) (key_wf Tryz.underlying3 hk)
 have:c=iat l k:=by
  cases hq:ikey l k with
  | true =>
   obtain⟨v,hv⟩:=ikey_iff.1 hq
   rw [(h4 k v hv).2.2] at hat
   simp at hat
   rw [← hat,iat_mem h3 hv]
  | false =>
   have hno:Maps.has D (.int .i64 k)=false:=by
    cases hq2:Maps.has D (.int .i64 k) with
    | false=>rfl
    | true=>rw [ikey_iff.2 (h5 k hq2)] at hq;cases hq
   rw [Maps.atKey_of_not_has hno] at hat
   simp at hat
   rw [← hat,iat_none hq]
 rw [this] at hrun
 exact hrun
theorem iset_run {w:World}{b:Nat}{T:List Int}(h:ISet w b T) {k:Int}(hk:(Lit.int .i64 k).wf=true):(Instr.lookup 108 (.map (some b)) (.int .i64 k) false).run Tryz.prog w = .ok (.int .i64 (if k∈T then 1 else 0)) w:=by
 obtain⟨l,h1,h2,h3,h4⟩:=h
 have:=imap_run h1 hk 108 Tryz.underlying108
 rw [iat_set h1.nodup h3 h4] at this
 exact this
def AmP (w:World) (b:Bool) (e:Ending) (w':World):Prop:=e = .returned (.bool b)∧Below w.heap.size w w'
theorem areMoves_any {w:World}{v:Value}{l:List RM.Mv}{spare:Int}(h:MvsAt w v l):Calls Tryz.prog 68 #[v,.int .i64 spare] w (AmP w (RM.areMoves l spare)):=by
 obtain⟨ad,c,rfl,hat⟩:=h
 have HAT:=zh hat
 obtain⟨n,hn⟩:∃ n,n=l.length:=⟨_,rfl⟩
 rw [← hn]
 have HN:=zh hn
 have hmm := @run_makeMap Tryz.prog
 obtain⟨ans,hans⟩:∃ a,a=RM.areMoves l spare:=⟨_,rfl⟩
 rw [← hans]
 have HA:=zh hans
 clear hat hn hans
 by_cases h16:n≤16
 ·have d16:decide (16<(n:Int))=false:=by simp;omega
  have hnz:(n:Int)≤16:=by omega
  have H16:=zh h16
  clear h16
  cases hsp:RM.isReg spare with
  | false =>
   have E:Hid (ans=false):=by show _=_;rw [HA.out];unfold RM.areMoves;rw [hsp];simp
   have CS:=zh (isReg_no hsp)
   clear hsp
   go_enter Tryz.func68,Tryz.ntmps68
   go_wp2_with (go_at_call 96;refine(CS.out _).mono ?_;rintro e w' ⟨rfl,rfl⟩)
   go_ret
   exact⟨by rw [E.out];rfl,zs9 _ _⟩
  | true =>
   have CS:=zh (isReg_yes hsp)
   have E:Hid (ans=RM.rightFrom spare [] l):=by show _=_;rw [HA.out];unfold RM.areMoves;rw [hsp,← HN.out];simp [H16.out]
   clear hsp
   go_enter Tryz.func68,Tryz.ntmps68
   go_wp2_with (go_at_call 96;refine(CS.out _).mono ?_;rintro e w' ⟨rfl,rfl⟩)
   go_loopw [19] (fun iv wr=>∃ (k:Nat) (s:List Int),k≤n∧iv = .int .i64 k∧ISet wr w.heap.size s∧s.length=k∧Below w.heap.size w wr∧ans=RM.rightFrom spare s (l.drop k)) (fun iv _=>n - (intOf iv).toNat)
   case atStart=>exact⟨0,[],zv3 _,rfl,ISet.made w,rfl,(zs9 _ _).alloc (zr4 _) _,E.out⟩
   obtain⟨k,s,hk,rfl,hset,hsl,hb,he⟩:=hrel
   have HK:=zh hk
   have HS:=zh hset
   have HSL:=zh hsl
   have HB:=zh hb
   have HE:=zh he
   clear hk hset hsl hb he E hmm
   by_cases hlt:k<n
   ·obtain⟨g,o,rfl,hat⟩:=HAT.out (by have:=HN.out;omega)
    obtain⟨⟨a,b⟩,hx⟩:∃ m,l[k]?=some m:=⟨_,zq9 (by have:=HN.out;omega)⟩
    obtain⟨y0,y1⟩:=hat k _ hx
    have y0:=zd HB.out _ _ y0
    have y1:=zd HB.out _ _ y1
    simp only [] at y0 y1
    have HX:=zh hx
    have HLT:=zh hlt
    have hlz:(k:Int)<n:=by omega
    have V0:Hid (∀ o,ISet (wr.alloc o) w.heap.size s):=fun o=>HS.out.keep (zt2 _ _ _ HS.out.lt)
    have VB:Hid (∀ o,Below w.heap.size w (wr.alloc o)):=fun o=>HB.out.alloc HB.out.size _
    clear hat hx hlt
    cases ha:RM.isReg a with
    | false =>
     have C1:=zh (isReg_no ha)
     have E2:Hid (ans=false):=by show _=_;rw [HE.out];exact right_no HX.out (fun h=>by rw [ha] at h;cases h.1)
     clear ha
     go_wp2_with (go_at_call 96;refine(C1.out _).mono ?_;rintro e w' ⟨rfl,rfl⟩)
     go_ret
     exact⟨by rw [E2.out];rfl,VB.out _⟩
    | true =>
     have C1:=zh (isReg_yes ha)
     have WFA:=zh (isReg_wf ha)
     have HA1:=zh ha
     clear ha
     cases hb2:RM.isReg b with
     | false =>
      have C2:=zh (isReg_no hb2)
      have E2:Hid (ans=false):=by show _=_;rw [HE.out];exact right_no HX.out (fun h=>by rw [hb2] at h;cases h.2.1)
      clear hb2
      go_wp2_with (go_at_call 96;(first | ((with_reducible refine(C1.out _).mono ?_);rintro e w' ⟨rfl,rfl⟩) | ((with_reducible refine(C2.out _).mono ?_);rintro e w' ⟨rfl,rfl⟩)))
      go_ret
      exact⟨by rw [E2.out];rfl,VB.out _⟩
     | true =>
      have C2:=zh (isReg_yes hb2)
      have HB1:=zh hb2
      clear hb2
      by_cases h3:a=spare
      ·have d3:(a==spare)=true:=by simp [h3]
       have E2:Hid (ans=false):=by show _=_;rw [HE.out];exact right_no HX.out (fun h=>h.2.2.1 h3)
       clear h3
       go_wp2_with (go_at_call 96;(first | ((with_reducible refine(C1.out _).mono ?_);rintro e w' ⟨rfl,rfl⟩) | ((with_reducible refine(C2.out _).mono ?_);rintro e w' ⟨rfl,rfl⟩)))
       go_ret
       exact⟨by rw [E2.out];rfl,VB.out _⟩
      have d3:(a==spare)=false:=by simp [h3]
      have H3:=zh h3
      clear h3
      by_cases h4:b=spare
      ·have d4:(b==spare)=true:=by simp [h4]
       have E2:Hid (ans=false):=by show _=_;rw [HE.out];exact right_no HX.out (fun h=>h.2.2.2.1 h4)
       clear h4
       go_wp2_with (go_at_call 96;(first | ((with_reducible refine(C1.out _).mono ?_);rintro e w' ⟨rfl,rfl⟩) | ((with_reducible refine(C2.out _).mono ?_);rintro e w' ⟨rfl,rfl⟩)))
       go_ret
       exact⟨by rw [E2.out];rfl,VB.out _⟩
      have d4:(b==spare)=false:=by simp [h4]
      have H4:=zh h4
      clear h4
      by_cases h5:a∈s
      ·have E2:Hid (ans=false):=by show _=_;rw [HE.out];exact right_no HX.out (fun h=>h.2.2.2.2 h5)
       have e5:∀ o,(Instr.lookup 108 (.map (some w.heap.size)) (.int .i64 a) false).run Tryz.prog (wr.alloc o) = .ok (.int .i64 1) (wr.alloc o):=fun o=>by have:=iset_run (V0.out o) WFA.out;rw [if_pos h5] at this;exact this
       clear h5
       go_wp2_with (first | (go_at_call 96;(first | ((with_reducible refine(C1.out _).mono ?_);rintro e w' ⟨rfl,rfl⟩) | ((with_reducible refine(C2.out _).mono ?_);rintro e w' ⟨rfl,rfl⟩))))
       go_ret
       exact⟨by rw [E2.out];rfl,VB.out _⟩
      have E2:Hid (ans=RM.rightFrom spare (a :: s) (l.drop (k+1))):=by show _=_;rw [HE.out];exact right_yes HX.out HA1.out HB1.out H3.out H4.out h5
      have e5:∀ o,(Instr.lookup 108 (.map (some w.heap.size)) (.int .i64 a) false).run Tryz.prog (wr.alloc o) = .ok (.int .i64 0) (wr.alloc o):=fun o=>by have:=iset_run (V0.out o) WFA.out;rw [if_neg h5] at this;exact this
      clear h5
      go_wp2_with (first | (go_at_call 96;(first | ((with_reducible refine(C1.out _).mono ?_);rintro e w' ⟨rfl,rfl⟩) | ((with_reducible refine(C2.out _).mono ?_);rintro e w' ⟨rfl,rfl⟩))) | (at_mapUpdate;refine wpList_sput rfl _ _ _ rfl w.heap.size s rfl (V0.out _) (zr5 (Nat.le_of_eq HSL.out) (zr5 HK.out (zr5 H16.out (by decide)))) (fun l2 hn2 hs2=>few_of hn2 hs2 (zr5 (Nat.le_of_eq HSL.out) (zr5 HK.out H16.out))) a rfl rfl WFA.out ?_))
      intro w2 hm2 hg2
      have HM2:=zh (hm2.congr (T':=a :: s) (fun q=>by simp [or_comm]))
      have HB2:=zh ((VB.out _).grown hg2 (VB.out _).size (fun r e=>by simp at e;omega))
      clear hm2 hg2
      go_wp2_with fail
      go_roundw
      case rel=>exact⟨k+1,a :: s,HLT.out,by go_num,HM2.out,by rw [zv2,HSL.out],HB2.out,E2.out⟩
      case measure=>have:=HLT.out;simp [intOf];omega
   have hlz:(n:Int)≤k:=by omega
   have E2:Hid (ans=true):=by
    show _=_
    have hkl:l.length≤k:=by have:=HN.out;omega
    rw [HE.out,List.drop_of_length_le hkl]
    rfl
   clear hlt
   go_wp2_with fail
   go_ret
   exact⟨by rw [E2.out];rfl,HB.out⟩
 have d16:decide (16<(n:Int))=true:=by simp;omega
 have E:Hid (ans=false):=by show _=_;rw [HA.out];unfold RM.areMoves;rw [← HN.out];simp [h16]
 clear h16
 go_enter Tryz.func68,Tryz.ntmps68
 go_wp2_with fail
 go_ret
 exact⟨by rw [E.out];rfl,zs9 _ _⟩
end
section
open Go.RowKit RG Go.Maps
structure MFun (G:Nat) (cap:Array Value) (p:RM.Mv→Bool) (Ok:World→Prop):Prop where
 enter:∀ args w,(callFunc G args).run Tryz.prog w = .ok (.enter G args) w
 call:∀ (W:World) (a b:Int),Ok W→Calls Tryz.prog G (#[.agg #[.int .i64 a,.int .i64 b]]++cap) W fun e W'=>e = .returned (.bool (p (a,b)))∧Below W.heap.size W W'
 keep:∀ W W',Ok W→Below W.heap.size W W'→Ok W'
theorem idx_at {l:List RM.Mv}{p:RM.Mv→Bool}{k:Nat}{x:RM.Mv}(h:∀ (i:Nat) m,i<k→l[i]?=some m→p m=false) (hx:l[k]?=some x) (hp:p x=true):l.findIdx p=k:=by
 have hk:=(zq8.1 hx).1
 rw [zq9 hk,zt3] at hx
 rw [List.findIdx_eq hk]
 exact⟨by rw [hx];exact hp,fun j hj=>h j _ hj (zq9 (by omega))⟩
theorem idx_none {l:List RM.Mv}{p:RM.Mv→Bool}(h:∀ (i:Nat) m,l[i]?=some m→p m=false):¬ l.findIdx p<l.length:=fun hl=>by
 have h1:=List.findIdx_getElem (w:=hl)
 rw [h _ _ (zq9 hl)] at h1
 cases h1
def IxP (w:World) (l:List RM.Mv) (p:RM.Mv→Bool) (e:Ending) (w':World):Prop :=
 Below w.heap.size w w'∧e = .returned (.int .i64 (if l.findIdx p<l.length then (l.findIdx p:Int) else -1))
theorem indexFunc_any {G:Nat}{cap:Array Value}{p:RM.Mv→Bool}{Ok:World→Prop}(M:MFun G cap p Ok) {w:World}{v:Value}{l:List RM.Mv}(h:MvsAt w v l) (hl:l.length≤1000000) (hok:Ok w):Calls Tryz.prog 72 #[v,.func (.func G) #[] cap] w (IxP w l p):=by
 obtain⟨ad,c,rfl,hat⟩:=h
 have HAT:=zh hat
 have HM:=zh M
 have HOK:=zh hok
 have eg:=M.enter
 obtain⟨n,hn⟩:∃ n,n=l.length:=⟨_,rfl⟩
 rw [← hn] at hl ⊢
 have HN:=zh hn
 have hnz:(n:Int)≤1000000:=by omega
 clear hat hn hl M hok
 go_enter Tryz.func72,Tryz.ntmps72
 go_wp2_with fail
 go_loopw [8] (fun iv wr=>∃ k:Nat,k≤n∧iv = .int .i64 k∧Below w.heap.size w wr∧∀ (i:Nat) m,i<k→l[i]?=some m→p m=false) (fun iv _=>n - (intOf iv).toNat)
 case atStart=>exact⟨0,zv3 _,rfl,zs9 _ _,fun i m hi=>absurd hi (Nat.not_lt_zero i)⟩
 obtain⟨k,hk,rfl,hb,hno⟩:=hrel
 have HK:=zh hk
 have HB:=zh hb
 have HNO:=zh hno
 clear hk hb hno
 by_cases hlt:k<n
 ·obtain⟨g,o,rfl,hat⟩:=HAT.out (by have:=HN.out;omega)
  obtain⟨⟨a,b⟩,hx⟩:∃ m,l[k]?=some m:=⟨_,zq9 (by have:=HN.out;omega)⟩
  obtain⟨y0,y1⟩:=hat k _ hx
  have y0:=zd HB.out _ _ y0
  have y1:=zd HB.out _ _ y1
  simp only [] at y0 y1
  have HX:=zh hx
  have HLT:=zh hlt
  have hlz:(k:Int)<n:=by omega
  clear hat hx hlt
  go_wp2_with fail
  refine(HM.out.call wr a b (HM.out.keep _ _ HOK.out HB.out)).mono ?_
  rintro e w1 ⟨rfl,hb1⟩
  have HB1:Hid (Below w.heap.size w w1):=HB.out.trans (hb1.mono HB.out.size)
  clear hb1 y0 y1
  cases hp:p (a,b) with
  | true =>
   have E:Hid (l.findIdx p=k):=idx_at HNO.out HX.out hp
   clear hp
   go_wp2_with fail
   go_ret
   exact⟨HB1.out,by rw [E.out,if_pos (by have:=HLT.out;have:=HN.out;omega)];rfl⟩
  | false =>
   have NX:Hid (∀ (i:Nat) m,i<k+1→l[i]?=some m→p m=false):=fun i m hi hm=>by
    by_cases e2:i=k
    ·subst e2
     rw [HX.out,zt3] at hm
     rw [← hm];exact hp
    exact HNO.out i m (by omega) hm
   clear hp
   go_wp2_with fail
   go_roundw
   case rel=>exact⟨k+1,HLT.out,by go_num,HB1.out,NX.out⟩
   case measure=>have:=HLT.out;simp [intOf];omega
 have hlz:(n:Int)≤k:=by omega
 have E:Hid (¬ l.findIdx p<l.length):=idx_none fun i m hm=>HNO.out i m (by have:=(zq8.1 hm).1;have:=HN.out;omega) hm
 clear hlt
 go_wp2_with fail
 go_ret
 exact⟨HB.out,by rw [if_neg E.out];rfl⟩
end
section
open Go.RowKit RG Go.Maps
theorem same_fun:MFun 71 #[] (fun m=>decide (m.1=m.2)) (fun _=>True) where
 enter:=enters_of Tryz.func71 (by kernel_rfl) rfl
 keep:=fun _ _ _ _=>trivial
 call:=fun W a b _=>by
  simp only [Array.append_empty]
  go_enter Tryz.func71,Tryz.ntmps71
  go_wp2_with fail
  go_ret
  exact⟨by congr 2,(zs9 _ _).alloc (zr4 _) _⟩
theorem from_fun (mb:Nat) (t:Int):MFun 75 #[.pointer (some ⟨mb,0,none⟩)] (fun o=>decide (o.2=t)) (fun W=>W.cell? ⟨mb,0,none⟩=some (.int .i64 t)) where
 enter:=enters_of Tryz.func75 (by kernel_rfl) rfl
 keep:=fun W W' h hb=>zd hb _ _ h
 call:=fun W a b h=>by
  have hlt:mb<W.heap.size:=zs3 W _ h
  simp only [List.append_toArray,List.cons_append,List.nil_append]
  go_enter Tryz.func75,Tryz.ntmps75
  go_wp2_with fail
  go_ret
  exact⟨by congr 2,(zs9 _ _).alloc (zr4 _) _⟩
def CxP (w:World) (b:Bool) (e:Ending) (w':World):Prop:=Below w.heap.size w w'∧e = .returned (.bool b)
theorem containsFunc_any {G:Nat}{cap:Array Value}{p:RM.Mv→Bool}{Ok:World→Prop}(M:MFun G cap p Ok) {w:World}{v:Value}{l:List RM.Mv}(h:MvsAt w v l) (hl:l.length≤1000000) (hok:Ok w):Calls Tryz.prog 74 #[v,.func (.func G) #[] cap] w (CxP w (l.any p)):=by
 have IX:=zh (indexFunc_any M h hl hok)
 have hv:∃ a n c,v = .slice a n c:=by obtain⟨a,c,e,_⟩:=h;exact⟨_,_,_,e⟩
 obtain⟨a,n,c,rfl⟩:=hv
 have HA:Hid (l.any p=decide (l.findIdx p<l.length)):=by
  show _=_
  rw [Bool.eq_iff_iff,decide_eq_true_eq,List.findIdx_lt_length,List.any_eq_true]
 clear M h hl hok
 by_cases hx:l.findIdx p<l.length
 ·have E:Hid (l.any p=true):=by show _=_;rw [HA.out];simpa using hx
  obtain⟨i,hi⟩:∃ i,i=l.findIdx p:=⟨_,rfl⟩
  have IX2:Hid (Calls Tryz.prog 72 #[.slice a n c,.func (.func G) #[] cap] w fun e w'=>Below w.heap.size w w'∧e = .returned (.int .i64 (i:Int))):=by
   refine IX.out.mono ?_
   rintro e w' ⟨hb,he⟩
   rw [if_pos hx,← hi] at he
   exact⟨hb,he⟩
  have hi0:(0:Int)≤i:=by omega
  clear hx hi
  go_enter Tryz.func74,Tryz.ntmps74
  go_wp2_with fail
  refine IX2.out.mono ?_
  rintro e w1 ⟨hb,rfl⟩
  have HB:=zh hb
  clear hb
  go_wp2_with fail
  go_ret
  exact⟨HB.out,by rw [E.out];rfl⟩
 have E:Hid (l.any p=false):=by show _=_;rw [HA.out];simpa using hx
 have IX2:Hid (Calls Tryz.prog 72 #[.slice a n c,.func (.func G) #[] cap] w fun e w'=>Below w.heap.size w w'∧e = .returned (.int .i64 (-1))):=by
  refine IX.out.mono ?_
  rintro e w' ⟨hb,he⟩
  rw [if_neg hx] at he
  exact⟨hb,he⟩
 clear hx
 go_enter Tryz.func74,Tryz.ntmps74
 go_wp2_with fail
 refine IX2.out.mono ?_
 rintro e w1 ⟨hb,rfl⟩
 have HB:=zh hb
 clear hb
 go_wp2_with fail
 go_ret
 exact⟨HB.out,by rw [E.out];rfl⟩
theorem free_fun (rc:Nat) (rest:List RM.Mv) (hl:rest.length≤1000000):MFun 73 #[.pointer (some ⟨rc,0,none⟩)] (RM.free rest) (fun W=>∃ v,W.cell? ⟨rc,0,none⟩=some v∧MvsAt W v rest) where
 enter:=enters_of Tryz.func73 (by kernel_rfl) rfl
 keep:=fun W W' h hb=>by obtain⟨v,h1,h2⟩:=h;exact⟨v,zd hb _ _ h1,h2.kept (zd hb)⟩
 call:=fun W a b h=>by
  obtain⟨v,h1,h2⟩:=h
  have hlt:rc<W.heap.size:=zs3 W _ h1
  have hb:Below W.heap.size W (W.alloc (.cells #[.int .i64 a,.int .i64 b] 81)):=(zs9 _ _).alloc (zr4 _) _
  have hm:(W.alloc (.cells #[.int .i64 a,.int .i64 b] 81)).cell? ⟨W.heap.size,0,none⟩=some (.int .i64 a):=by rw [zb _ _ 0 _ _ _ (zs2 W _)];rfl
  have CX:=zh (containsFunc_any (from_fun W.heap.size a) (h2.kept (zd hb)) hl hm)
  have HB:=zh hb
  have hv:∃ a n c,v = .slice a n c:=by obtain⟨a,c,e,_⟩:=h2;exact⟨_,_,_,e⟩
  obtain⟨va,vn,vc,rfl⟩:=hv
  have HF:Hid (RM.free rest (a,b) = !(rest.any fun o=>decide (o.2=a))):=zh rfl
  obtain⟨q,hq⟩:∃ q,q=rest.any fun o=>decide (o.2=a):=⟨_,rfl⟩
  rw [← hq] at CX HF
  clear h2 hb hm hq
  simp only [List.append_toArray,List.cons_append,List.nil_append]
  cases q with
  | true =>
   go_enter Tryz.func73,Tryz.ntmps73
   go_wp2_with fail
   refine CX.out.mono ?_
   rintro e w1 ⟨hb,rfl⟩
   have HB1:Hid (Below W.heap.size W w1):=HB.out.trans (hb.mono HB.out.size)
   clear hb
   go_wp2_with fail
   go_ret
   exact⟨by rw [HF.out];rfl,HB1.out⟩
  | false =>
   go_enter Tryz.func73,Tryz.ntmps73
   go_wp2_with fail
   refine CX.out.mono ?_
   rintro e w1 ⟨hb,rfl⟩
   have HB1:Hid (Below W.heap.size W w1):=HB.out.trans (hb.mono HB.out.size)
   clear hb
   go_wp2_with fail
   go_ret
   exact⟨by rw [HF.out];rfl,HB1.out⟩
end
section
open Go.RowKit RG Go.Maps
def zy (l:List RM.Mv):List Value:=l.flatMap fun m=>[.int .i64 m.1,.int .i64 m.2]
theorem mvCells_length:∀ l:List RM.Mv,(zy l).length=l.length*2
 | []=>rfl
 | m :: l=>by
  have:=mvCells_length l
  unfold zy at *
  rw [List.flatMap_cons,zr2,this,zv2]
  simp;omega
theorem mvCells_append (a b:List RM.Mv):zy (a++b)=zy a++zy b:=by unfold zy;rw [List.flatMap_append]
theorem mvCells_at:∀ (l:List RM.Mv) (i:Nat) (m:RM.Mv),l[i]?=some m→(zy l)[i*2]?=some (.int .i64 m.1)∧(zy l)[i*2+1]?=some (.int .i64 m.2)
 | [],i,m,h=>by simp at h
 | a :: l,0,m,h=>by
  simp at h
  subst h
  exact⟨rfl,rfl⟩
 | a :: l,i+1,m,h=>by
  rw [List.getElem?_cons_succ] at h
  have:=mvCells_at l i m h
  rw [show (i+1)*2=i*2+1+1 from by omega]
  exact this
theorem mvCells_one {l:List RM.Mv}{u:Value}(h:u∈zy l):u.oneCell'=true:=by
 unfold zy at h
 obtain⟨m,_,hm⟩:=List.mem_flatMap.1 h
 simp at hm
 rcases hm with rfl | rfl<;>rfl
def MvOwn (w:World) (base:Nat) (v:Value) (l:List RM.Mv):Prop:=w.ownsRow base 81 2 v l.length (zy l)
theorem MvOwn.at' {w:World}{base:Nat}{v:Value}{l:List RM.Mv}(h:MvOwn w base v l):MvsAt w v l:=by
 obtain⟨h1,h2⟩:=h
 rcases h2 with ⟨rfl,h0⟩|⟨g,cap,cur,rfl,hb,hg,k1,k2,k3,k4⟩
 ·exact⟨none,0,by rw [h0],fun h=>by omega⟩
 refine⟨some ⟨g,0,none⟩,cap,rfl,fun h0=>⟨g,0,rfl,fun i m hi=>?_⟩⟩
 have hl:=(zq8.1 hi).1
 obtain⟨a,b⟩:=mvCells_at l i m hi
 refine⟨?_,?_⟩
 ·rw [Nat.zero_add,zb _ _ _ _ _ _ hg,← Array.getElem?_toList,← List.getElem?_take_of_lt (show i*2<l.length*2 by omega),k4];exact a
 rw [Nat.zero_add,zb _ _ _ _ _ _ hg,← Array.getElem?_toList,← List.getElem?_take_of_lt (show i*2+1<l.length*2 by omega),k4];exact b
theorem MvsAt.cells {w:World}{ad:Option Addr}{c:Nat}{l:List RM.Mv}(h:MvsAt w (.slice ad l.length c) l) {g o:Nat}(e:ad=some ⟨g,o,none⟩):∀ j u,(zy l)[j]?=some u→w.cell? ((⟨g,o,none⟩:Addr).add j)=some u:=by
 obtain⟨ad',c',e',hat⟩:=h
 intro j u hu
 have hj:=(zq8.1 hu).1
 rw [mvCells_length] at hj
 obtain⟨g',o',e2,hat⟩:=hat (by omega)
 simp only [Value.slice.injEq,true_and] at e'
 rw [← e'.1,e] at e2
 simp only [zt3,Addr.mk.injEq,and_true] at e2
 obtain⟨rfl,rfl⟩:=e2
 obtain⟨m,hm⟩:∃ m,l[j / 2]?=some m:=⟨_,zq9 (by omega)⟩
 obtain⟨y0,y1⟩:=hat _ _ hm
 obtain⟨x0,x1⟩:=mvCells_at l _ m hm
 rw [Addr.add_lit]
 rcases Nat.mod_two_eq_zero_or_one j with h2 | h2
 ·have e3:j / 2*2=j:=by omega
  rw [e3] at x0 y0
  rw [x0,zt3] at hu
  rw [← hu];exact y0
 have e3:j / 2*2+1=j:=by omega
 rw [show o+j / 2*2+1=o+j from by omega] at y1
 rw [e3] at x1
 rw [x1,zt3] at hu
 rw [← hu];exact y1
theorem Tryz.info81:(Tryz.prog.info? 81).map (fun i=>(i.zero,i.size,i.bytes))=some (some (.agg #[.int .i64 0,.int .i64 0]),2,16):=by kernel_rfl
def ClP (w:World) (l:List RM.Mv) (e:Ending) (w':World):Prop:=∃ v,e = .returned v∧MvOwn w' w.heap.size v l∧Below w.heap.size w w'
theorem clone_any {w:World}{v:Value}{l:List RM.Mv}(h:MvsAt w v l) (hl:l.length≤1000000):Calls Tryz.prog 70 #[v] w (ClP w l):=by
 obtain⟨ad,c,rfl,-⟩:=id h
 have H:=zh h
 obtain⟨n,hn⟩:∃ n,n=l.length:=⟨_,rfl⟩
 rw [← hn]
 have HN:=zh hn
 have HL:=zh hl
 clear h hn hl
 cases ad with
 | none =>
  have qn:=fun (w:World)=>run_eql_slice_nil (P:=Tryz.prog) w 74 81 none n c Tryz.underlying74
  have hn0:Hid (n=0):=by
   obtain⟨ad',c',e,hat⟩:=H.out
   refine Nat.eq_zero_of_not_pos fun h0=>?_
   obtain⟨g,o,e2,_⟩:=hat (by rw [← HN.out];exact h0)
   simp only [Value.slice.injEq] at e
   rw [← e.1] at e2
   cases e2
  go_enter Tryz.func70,Tryz.ntmps70
  go_wp2_with fail
  go_ret
  have e0:l=[]:=List.eq_nil_of_length_eq_zero (by rw [← HN.out];exact hn0.out)
  exact⟨_,rfl,by unfold MvOwn;rw [e0];exact World.ownsRow_nil _ _ _ _,zs9 _ _⟩
 | some ad =>
  have qn:=fun (w:World)=>run_eql_slice_nil (P:=Tryz.prog) w 74 81 (some ad) n c Tryz.underlying74
  obtain⟨i0,hi0,hz0,hz1,hz2⟩:=info_parts Tryz.info81
  have HI:=zh (And.intro hi0 (And.intro hz0 (And.intro hz1 hz2)))
  have BW:Hid (Below w.heap.size w (w.alloc (.cells #[] 81))):=(zs9 _ _).alloc (zr4 _) _
  have OW:Hid ((w.alloc (.cells #[] 81)).ownsRow w.heap.size 81 2 (.slice (some ⟨w.heap.size,0,none⟩) 0 0) 0 []):=⟨rfl,.inr ⟨w.heap.size,0,#[],rfl,zr4 _,zs2 w _,zr4 _,zv3 _,rfl,rfl⟩⟩
  have NW:Hid (∀ (j:Nat) (u:Value),(zy l)[j]?=some u→(w.alloc (.cells #[] 81)).cell? (ad.add j)=some u):=fun j u hu=>by
   have hj:=(zq8.1 hu).1
   rw [mvCells_length] at hj
   obtain⟨ad',c',e,hat⟩:=H.out
   obtain⟨g,o,e2,_⟩:=hat (by omega)
   simp only [Value.slice.injEq] at e
   rw [← e.1,zt3] at e2
   subst e2
   exact zd BW.out _ _ (H.out.cells rfl j u hu)
  have LW:Hid (0+n≤maxLen∧(0+n)*16≤140737488355328):=by have h1:=HL.out;have h2:=HN.out;show _∧_;simp only [maxLen];omega
  clear hi0 hz0 hz1 hz2
  go_enter Tryz.func70,Tryz.ntmps70
  go_wp2_with (at_builtin;refine wpList_append_own _ rfl _ _ 74 rfl w.heap.size 81 i0 (.agg #[.int .i64 0,.int .i64 0]) 2 16 Tryz.underlying74 HI.out.1 HI.out.2.1 HI.out.2.2.1 HI.out.2.2.2 rfl (by decide) (.slice (some ⟨w.heap.size,0,none⟩) 0 0) 0 [] rfl OW.out ad n c (zy l) rfl (by rw [mvCells_length,HN.out]) NW.out (fun u hu=>mvCells_one hu) LW.out.1 LW.out.2 BW.out.size ?_)
  intro v' w1 hown hg _
  have O1:Hid (MvOwn w1 w.heap.size v' l):=by
   show MvOwn _ _ _ _
   rw [HN.out] at hown
   exact hown
  have B1:Hid (Below w.heap.size w w1):=BW.out.grown hg BW.out.size (fun r e=>by simp [Value.ownBlock] at e;omega)
  clear hown hg
  go_wp2_with fail
  go_ret
  exact⟨_,rfl,O1.out,B1.out⟩
end
section
open Go.RowKit RG Go.Maps
def RestAt (w:World) (g:Nat) (v:Value) (l:List RM.Mv):Prop :=
 (l=[]∧v = .slice none 0 0)∨∃ cap f,v = .slice (some ⟨g,0,none⟩) l.length cap∧l.length≤cap∧cap≤maxLen∧w.rowIs g 81 (cap*2) f∧∀ j u,(zy l)[j]?=some u→f j=u
theorem RestAt.mvs {w:World}{g:Nat}{v:Value}{l:List RM.Mv}(h:RestAt w g v l):MvsAt w v l:=by
 rcases h with ⟨rfl,rfl⟩|⟨cap,f,rfl,h1,h2,h3,h4⟩
 ·exact⟨none,0,rfl,fun h=>absurd h (by simp)⟩
 refine⟨some ⟨g,0,none⟩,cap,rfl,fun h0=>⟨g,0,rfl,fun i m hi=>?_⟩⟩
 have hl:=(zq8.1 hi).1
 obtain⟨a,b⟩:=mvCells_at l i m hi
 exact⟨by rw [Nat.zero_add,h3.cell (by omega),h4 _ _ a],by rw [Nat.zero_add,h3.cell (by omega),h4 _ _ b]⟩
theorem RestAt.keep {w w':World}{g:Nat}{v:Value}{l:List RM.Mv}(h:RestAt w g v l) (hb:w'.heap[g]?=w.heap[g]?):RestAt w' g v l:=by
 rcases h with h | ⟨cap,f,h0,h1,h2,h3,h4⟩
 ·exact .inl h
 exact .inr ⟨cap,f,h0,h1,h2,h3.of_block hb,h4⟩
theorem RestAt.lt {w:World}{g:Nat}{v:Value}{l:List RM.Mv}(h:RestAt w g v l) (h0:0<l.length):g<w.heap.size:=by
 rcases h with ⟨rfl,_⟩|⟨cap,f,_,h1,h2,h3,h4⟩
 ·simp at h0
 exact h3.lt
theorem MvOwn.rest {w:World}{base:Nat}{v:Value}{l:List RM.Mv}(h:MvOwn w base v l) (hb:base<w.heap.size):∃ g,base≤g∧g<w.heap.size∧RestAt w g v l:=by
 obtain⟨h1,h2⟩:=h
 rcases h2 with ⟨rfl,h0⟩|⟨g,cap,cur,rfl,hb,hg,k1,k2,k3,k4⟩
 ·exact⟨base,zr4 _,hb,.inl ⟨List.eq_nil_of_length_eq_zero h0,rfl⟩⟩
 refine⟨g,hb,(zq7.1 hg).1,.inr ⟨cap,fun i=>cur[i]?.getD default,rfl,k1,k2,⟨cur,hg,k3,fun i hi=>?_⟩,fun j u hu=>?_⟩⟩
 ·show cur[i]?=some (cur[i]?.getD default);rw [Array.getElem?_eq_getElem (by omega)];rfl
 have hj:=(zq8.1 hu).1
 rw [mvCells_length] at hj
 rw [← k4,List.getElem?_take_of_lt hj,Array.getElem?_toList] at hu
 show cur[j]?.getD default=u
 rw [hu];rfl
theorem zeroCells2 (n:Nat):(Builtin.zeroCells #[.int .i64 0,.int .i64 0] n).toList=List.replicate (n*2) (.int .i64 0):=by
 unfold Builtin.zeroCells
 apply List.ext_getElem
 ·simp
 intro i h1 h2
 simp only [Array.toList_map,List.getElem_map,Array.getElem_toList,Array.getElem_range,List.getElem_replicate]
 have:i % #[Value.int .i64 0,Value.int .i64 0].size=0∨i % #[Value.int .i64 0,Value.int .i64 0].size=1:=by simp;omega
 rcases this with e | e<;>rw [e]<;>rfl
theorem zero81 (w:World):(zeroValue 81).run Tryz.prog w = .ok (.agg #[.int .i64 0,.int .i64 0]) w:=by kernel_rfl
theorem run_clear2 (w:World) (t ty:TypeId) (ht:Tryz.prog.underlying t=some (.slice 81)) (b o n c:Nat) (hn:0<n)
  (hc:∀ j,j<n*2→(w.cell? ⟨b,o+j,none⟩).isSome=true) (hf:∀ j,j<n*2→w.frozen? ⟨b,o+j,none⟩=false) :
  (Builtin.clear_ #[t] ty #[.slice (some ⟨b,o,none⟩) n c]).run Tryz.prog w = .ok (.tuple #[]) (w.setCells b o (List.replicate (n*2) (.int .i64 0))):=by
 have hst:=run_storeCells_cells (P:=Tryz.prog) b o (List.replicate (n*2) (.int .i64 0)) 0 w (by simpa using hc) (by simpa using hf) (by intro v hv';rw [List.eq_of_mem_replicate hv'];rfl)
 simp only [Nat.add_zero] at hst
 have hz:=zeroCells2 n
 obtain⟨m,rfl⟩:∃ m,n=m+1:=⟨n - 1,by omega⟩
 simp [Builtin.clear_,run_underlying ht,zero81,Value.cells,hz,hst]
end
section
open Go.RowKit RG Go.Maps
def DfP (w:World) (g:Nat) (l:List RM.Mv) (e:Ending) (w':World):Prop:=∃ v,e = .returned v∧RestAt w' g v l∧w.grownBy w' (some g)
theorem grown_below {w w':World}(h:Below w.heap.size w w') (g:Nat):w.grownBy w' (some g):=⟨h.os,h.tape,h.output,h.size,fun k hk _=>h.block k hk⟩
theorem grown_alloc (w:World) (o:Obj) (g:Nat):w.grownBy (w.alloc o) (some g):=grown_below ((zs9 _ _).alloc (zr4 _) _) g
theorem grown_refl (w:World) (g:Nat):w.grownBy w (some g):=grown_below (zs9 _ _) g
theorem grown_setCell (w:World) (a:Addr) (v:Value):w.grownBy (w.setCell a v) (some a.block) :=
 ⟨rfl,rfl,rfl,by simp,fun k hk hne=>zt1 w a v k (fun e=>hne (by rw [e]))⟩
theorem grown_setCells (b:Nat):∀ (vs:List Value) (o:Nat) (w:World),w.grownBy (w.setCells b o vs) (some b)
 | [],_,w=>grown_refl w b
 | v :: r,o,w=>grown_trans (grown_setCell w ⟨b,o,none⟩ v) (grown_setCells b r (o+1) _) (fun r e=>by simp at e;exact .inl e.symm)
theorem idx_filter {l:List RM.Mv}{p:RM.Mv→Bool}(h:¬ l.findIdx p<l.length):l.filter (fun m => !p m)=l:=by
 rw [List.filter_eq_self]
 intro m hm
 cases hp:p m with
 | false=>rfl
 | true=>exact absurd (List.findIdx_lt_length.2 ⟨m,hm,hp⟩) h
structure DelI (l:List RM.Mv) (p:RM.Mv→Bool) (j i:Nat) (f:Nat→Value):Prop where
 len:((l.take j).filter fun m => !p m).length=i
 lt:i<j
 low:∀ c u,(zy ((l.take j).filter fun m => !p m))[c]?=some u→f c=u
 high:∀ c u,j*2≤c→(zy l)[c]?=some u→f c=u
theorem DelI.start {l:List RM.Mv}{p:RM.Mv→Bool}{f:Nat→Value}(hf:∀ c u,(zy l)[c]?=some u→f c=u) (h:l.findIdx p<l.length):DelI l p (l.findIdx p+1) (l.findIdx p) f:=by
 have e1:(l.take (l.findIdx p)).filter (fun m => !p m)=l.take (l.findIdx p):=by
  rw [List.filter_eq_self]
  intro m hm
  obtain⟨i,hi⟩:=List.getElem?_of_mem hm
  have hil:=(zq8.1 hi).1
  rw [List.length_take] at hil
  rw [List.getElem?_take_of_lt (by omega)] at hi
  have hi2:=(zq8.1 hi)
  have:=List.not_of_lt_findIdx (p:=p) (xs:=l) (i:=i) (by omega)
  rw [hi2.2] at this
  simpa using this
 have e2:(l.take (l.findIdx p+1)).filter (fun m => !p m)=l.take (l.findIdx p):=by
  rw [List.take_add_one,List.filter_append,e1,zq9 h]
  simp [List.findIdx_getElem (w:=h)]
 refine⟨?_,Nat.lt_succ_self _,fun c u hu=>?_,fun c u _ hu=>hf c u hu⟩
 ·rw [e2,List.length_take];omega
 rw [e2] at hu
 refine hf c u ?_
 have:zy l=zy (l.take (l.findIdx p))++zy (l.drop (l.findIdx p)):=by rw [← mvCells_append,List.take_append_drop]
 rw [this,List.getElem?_append_left (zq8.1 hu).1]
 exact hu
theorem DelI.skip {l:List RM.Mv}{p:RM.Mv→Bool}{j i:Nat}{f:Nat→Value}{m:RM.Mv}(h:DelI l p j i f) (hm:l[j]?=some m) (hp:p m=true):DelI l p (j+1) i f:=by
 have e:(l.take (j+1)).filter (fun m => !p m)=(l.take j).filter (fun m => !p m):=by rw [List.take_add_one,List.filter_append,hm];simp [hp]
 exact⟨by rw [e];exact h.len,by have:=h.lt;omega,fun c u hu=>h.low c u (by rw [← e];exact hu),fun c u hc hu=>h.high c u (by omega) hu⟩
theorem DelI.take {l:List RM.Mv}{p:RM.Mv→Bool}{j i:Nat}{f g:Nat→Value}{m:RM.Mv}(h:DelI l p j i f) (hm:l[j]?=some m) (hp:p m=false)
  (hg:∀ c,g c=if c=i*2 then .int .i64 m.1 else if c=i*2+1 then .int .i64 m.2 else f c):DelI l p (j+1) (i+1) g:=by
 have e:(l.take (j+1)).filter (fun m => !p m)=(l.take j).filter (fun m => !p m)++[m]:=by rw [List.take_add_one,List.filter_append,hm];simp [hp]
 have hl:=h.len
 have hlt:=h.lt
 refine⟨by rw [e,zr2,hl];rfl,by omega,fun c u hu=>?_,fun c u hc hu=>?_⟩
 ·rw [e,mvCells_append] at hu
  have hlen:=mvCells_length ((l.take j).filter fun m => !p m)
  rw [hl] at hlen
  rw [hg]
  by_cases h1:c<i*2
  ·rw [List.getElem?_append_left (by omega)] at hu
   rw [if_neg (by omega),if_neg (by omega)]
   exact h.low c u hu
  rw [List.getElem?_append_right (by omega),hlen] at hu
  have h2:=(zq8.1 hu).1
  have h3:(zy [m]).length=2:=rfl
  rw [h3] at h2
  have:c=i*2∨c=i*2+1:=by omega
  rcases this with rfl | rfl
  ·rw [if_pos rfl]
   rw [Nat.sub_self] at hu
   simpa [zy] using hu
  rw [if_neg (by omega),if_pos rfl]
  rw [show i*2+1 - i*2=1 by omega] at hu
  simpa [zy] using hu
 rw [hg,if_neg (by omega),if_neg (by omega)]
 exact h.high c u (by omega) hu
theorem deleteFunc_any {G:Nat}{cap:Array Value}{p:RM.Mv→Bool}(M:MFun G cap p (fun _=>True)) {w:World}{g:Nat}{v:Value}{l:List RM.Mv}(h:RestAt w g v l) (hl:l.length≤1000000) :
  Calls Tryz.prog 69 #[v,.func (.func G) #[] cap] w (DfP w g (l.filter fun m => !p m)):=by
 have IX:=zh (indexFunc_any M h.mvs hl trivial)
 have HM:=zh M
 have eg:=M.enter
 by_cases hx:l.findIdx p<l.length
 ·rcases h with ⟨rfl,_⟩|⟨cp,f,rfl,h1,h2,h3,h4⟩
  ·simp at hx
  obtain⟨n,hn⟩:∃ n,n=l.length:=⟨_,rfl⟩
  rw [← hn] at hl h1 ⊢
  rw [← hn] at IX
  have HN:=zh hn
  obtain⟨i0,hi0⟩:∃ i,i=l.findIdx p:=⟨_,rfl⟩
  have IX2:Hid (Calls Tryz.prog 72 #[.slice (some ⟨g,0,none⟩) n cp,.func (.func G) #[] cap] w fun e w'=>Below w.heap.size w w'∧e = .returned (.int .i64 (i0:Int))):=by
   refine IX.out.mono ?_
   rintro e w' ⟨hb,he⟩
   rw [if_pos hx,← hi0] at he
   exact⟨hb,he⟩
  have ST:Hid (DelI l p (i0+1) i0 f):=by rw [hi0];exact DelI.start h4 hx
  have hi00:((i0:Int) == -1)=false:=beq_eq_false_iff_ne.2 (by omega)
  have hi1:(i0:Int)≤1000000:=by omega
  have hnz:(n:Int)≤1000000:=by omega
  have HI0:Hid (i0<n):=by show _<_;omega
  have H1:=zh h1
  have H2:=zh h2
  have H3:=zh h3
  clear hx hi0 IX h1 h2 h3 h4 hn hl M
  go_enter Tryz.func69,Tryz.ntmps69
  go_wp2_with fail
  refine IX2.out.mono ?_
  rintro e w1 ⟨hb,rfl⟩
  have R1:=zh (H3.out.of_block (hb.block _ H3.out.lt))
  have G1:=zh (grown_below hb g)
  clear hb
  go_wp2_with fail
  go_loopw [5,6] (fun iv jv wr=>∃ (i j:Nat) (f:Nat→Value),iv = .int .i64 i∧jv = .int .i64 j∧j≤n∧DelI l p j i f∧wr.rowIs g 81 (cp*2) f∧w.grownBy wr (some g)) (fun _ jv _=>n - (intOf jv).toNat)
  case atStart=>exact⟨i0,i0+1,f,rfl,by go_num,HI0.out,ST.out,R1.out,G1.out⟩
  obtain⟨i,j,f',rfl,rfl,hj,hI,hr,hg⟩:=hrel
  have KJ:=zh hj
  have KI:=zh hI
  have KR:=zh hr
  have KG:=zh hg
  have hiz:(i:Int)≤1000000:=by have:=hI.lt;omega
  have hjz:(j:Int)≤1000000:=by omega
  have hilt:(i:Int)<n:=by have:=hI.lt;omega
  have hi0:(0:Int)≤i:=by omega
  clear hj hI hr hg
  by_cases hlt:j<n
  ·have hltz:(j:Int)<n:=by omega
   obtain⟨⟨a,b⟩,hx⟩:∃ m,l[j]?=some m:=⟨_,zq9 (by have:=HN.out;omega)⟩
   have HX:=zh hx
   have HLT:=zh hlt
   have hcp:j*2+1<cp*2:=by have:=H1.out;omega
   obtain⟨m0,m1⟩:=mvCells_at l j _ hx
   have y0:=KR.out.cell (i:=j*2) (by omega)
   have y1:=KR.out.cell (i:=j*2+1) hcp
   rw [KI.out.high _ _ (zr4 _) m0] at y0
   rw [KI.out.high _ _ (by omega) m1] at y1
   have hicp:i*2+1<cp*2:=by have:=KI.out.lt;have:=H1.out;omega
   have HIC:=zh hicp
   clear m0 m1 hx hlt hcp hicp
   go_wp2_with fail
   refine(HM.out.call _ a b trivial).mono ?_
   rintro e w2 ⟨rfl,hb2⟩
   have c0:(wr.alloc (.cells #[.int .i64 a,.int .i64 b] 81)).cell? ⟨wr.heap.size,0,none⟩=some (.int .i64 a):=by rw [zb _ _ 0 _ _ _ (zs2 wr _)];rfl
   have c1:(wr.alloc (.cells #[.int .i64 a,.int .i64 b] 81)).cell? ⟨wr.heap.size,1,none⟩=some (.int .i64 b):=by rw [zb _ _ 1 _ _ _ (zs2 wr _)];rfl
   have c0:=zd hb2 _ _ c0
   have c1:=zd hb2 _ _ c1
   have R2:=zh ((KR.out.alloc (.cells #[.int .i64 a,.int .i64 b] 81)).of_block (hb2.block _ (KR.out.alloc _).lt))
   have G2:=zh (grown_trans (grown_trans KG.out (grown_alloc wr (.cells #[.int .i64 a,.int .i64 b] 81) g) (fun r e=>by simp at e;exact .inl e.symm)) (grown_below hb2 g) (fun r e=>by simp at e;exact .inl e.symm))
   clear hb2 y0 y1
   cases hp:p (a,b) with
   | true =>
    have DN:=zh (KI.out.skip HX.out hp)
    clear hp
    go_wp2_with fail
    go_roundw
    case rel=>exact⟨i,j+1,f',rfl,by go_num,HLT.out,DN.out,R2.out,G2.out⟩
    case measure=>have:=HLT.out;simp [intOf];omega
   | false =>
    have DN:=zh (fun g hg=>KI.out.take (g:=g) HX.out hp hg)
    have f0:=R2.out.frozen (i*2)
    have f1:=R2.out.frozen (i*2+1)
    have s0:=R2.out.cell (i:=i*2) (by have:=HIC.out;omega)
    have s1:=R2.out.cell (i:=i*2+1) HIC.out
    clear hp
    go_wp2_with fail
    refine⟨⟨i+1,j+1,_,by go_num,by go_num,HLT.out,DN.out _ (fun c=>?_),(R2.out.set (i*2) _).set (i*2+1) _,?_⟩,?_⟩
    ·show (if c=i*2+1 then _ else if c=i*2 then _ else f' c)=_
     by_cases e1:c=i*2
     ·rw [if_neg (by omega),if_pos e1,if_pos e1]
     rw [if_neg e1,if_neg e1]
    ·exact grown_trans (grown_trans G2.out (grown_setCell _ _ _) (fun r e=>by simp at e;exact .inl e.symm)) (grown_setCell _ _ _) (fun r e=>by simp at e;exact .inl e.symm)
    have:=HLT.out;simp [intOf];omega
  have hjn:j=n:=by have:=KJ.out;omega
  subst hjn
  have hci:i<cp:=by have:=KI.out.lt;have:=H1.out;omega
  have hcl:∀ ty,(Builtin.clear_ #[74] ty #[.slice (some ⟨g,i*2,none⟩) (j - i) (cp - i)]).run Tryz.prog wr = .ok (.tuple #[]) (wr.setCells g (i*2) (List.replicate ((j - i)*2) (.int .i64 0))):=fun ty =>
   run_clear2 wr 74 ty Tryz.underlying74 g (i*2) (j - i) (cp - i) (by have:=KI.out.lt;omega) (fun q hq=>by rw [KR.out.cell (by have:=H1.out;omega)];rfl) (fun q hq=>KR.out.frozen _)
  have hcz:((cp:Int)==i)=false:=by rw [beq_eq_false_iff_ne];omega
  have hcp0:(i:Int)≤cp:=by omega
  go_wp2_with fail
  go_ret
  have etk:l.take j=l:=zr3 (by have:=HN.out;omega)
  have hlen:=KI.out.len
  have hlow:=KI.out.low
  rw [etk] at hlen hlow
  refine⟨_,rfl,.inr ⟨cp,_,by rw [hlen];rfl,by rw [hlen];omega,H2.out,rowIs_setCells _ (i*2) wr f' KR.out,fun c u hu=>?_⟩,grown_trans KG.out (grown_setCells g _ (i*2) wr) (fun r e=>by simp at e;exact .inl e.symm)⟩
  have hc:=(zq8.1 hu).1
  rw [mvCells_length,hlen] at hc
  show (if i*2≤c∧_ then _ else f' c)=u
  rw [if_neg (by omega)]
  exact hlow c u hu
 have e0:=idx_filter hx
 have IX2:Hid (Calls Tryz.prog 72 #[v,.func (.func G) #[] cap] w fun e w'=>Below w.heap.size w w'∧e = .returned (.int .i64 (-1))):=by
  refine IX.out.mono ?_
  rintro e w' ⟨hb,he⟩
  rw [if_neg hx] at he
  exact⟨hb,he⟩
 have R:=zh h
 have hv:∃ a n c,v = .slice a n c:=by rcases h with ⟨_,e⟩|⟨cp,f,e,_⟩<;>exact⟨_,_,_,e⟩
 obtain⟨a,n,c,rfl⟩:=hv
 rw [e0]
 have HG:Hid (l=[]∨g<w.heap.size):=by
  show _∨_
  rcases Nat.eq_zero_or_pos l.length with h0 | h0
  ·exact .inl (List.eq_nil_of_length_eq_zero h0)
  exact .inr (h.lt h0)
 clear h IX hx
 go_enter Tryz.func69,Tryz.ntmps69
 go_wp2_with fail
 refine IX2.out.mono ?_
 rintro e w1 ⟨hb,rfl⟩
 have B1:=zh hb
 clear hb
 go_wp2_with fail
 go_ret
 refine⟨_,rfl,?_,grown_below B1.out g⟩
 rcases R.out with h | ⟨cp,f,h0,h1,h2,h3,h4⟩
 ·exact .inl h
 exact .inr ⟨cp,f,h0,h1,h2,h3.of_block (B1.out.block _ h3.lt),h4⟩
end
section
open Go.RowKit RG Go.Maps
def FMap (w:World) (b:Nat) (K:Int→Bool) (σ:Int→Int) (n:Nat):Prop :=
 ∃ L,IMap Tryz.prog w b L∧L.length≤n∧(∀ k,ikey L k=K k)∧∀ k v,(k,v)∈L→v=σ k
theorem FMap.keep {w w':World}{b n:Nat}{K:Int→Bool} {σ:Int→Int}(h:FMap w b K σ n) (hb:w'.heap[b]?=w.heap[b]?):FMap w' b K σ n:=by
 obtain⟨L,h1,h2⟩:=h;exact⟨L,h1.keep hb,h2⟩
theorem FMap.lt {w:World}{b n:Nat}{K:Int→Bool} {σ:Int→Int}(h:FMap w b K σ n):b<w.heap.size:=by obtain⟨L,h1,h2⟩:=h;exact h1.lt
theorem FMap.wf {w:World}{b n:Nat}{K:Int→Bool} {σ:Int→Int}(h:FMap w b K σ n) {k:Int}(hk:K k=true):(Lit.int .i64 k).wf=true:=by
 obtain⟨L,⟨D,h1,h2,h3,h4,h5⟩,g2,g3,g4⟩:=h
 rw [← g3] at hk
 obtain⟨v,hv⟩:=ikey_iff.1 hk
 exact(h4 k v hv).1
theorem FMap.put {w':World}{b n:Nat}{K:Int→Bool} {σ:Int→Int}{L:List (Int×Int)}{k c:Int}(g2:L.length≤n) (g3:∀ k,ikey L k=K k) (g4:∀ k v,(k,v)∈L→v=σ k) (h:IMap Tryz.prog w' b (iput L k c)) :
  FMap w' b (fun r=>K r||decide (r=k)) (fun r=>if r=k then c else σ r) (n+1):=by
 refine⟨_,h,?_,fun r=>?_,fun r v hm=>?_⟩
 ·have:=iput_length L k c;omega
 ·rw [Bool.eq_iff_iff,ikey_iff,Bool.or_eq_true,decide_eq_true_eq,← g3,ikey_iff]
  constructor
  ·rintro ⟨v,hv⟩
   rcases mem_iput.1 hv with ⟨_,h⟩|⟨h,_⟩
   ·exact .inl ⟨v,h⟩
   exact .inr h
  intro h
  by_cases e:r=k
  ·exact⟨c,mem_iput.2 (.inr ⟨e,rfl⟩)⟩
  rcases h with ⟨v,hv⟩ | h
  ·exact⟨v,mem_iput.2 (.inl ⟨e,hv⟩)⟩
  exact absurd h e
 rcases mem_iput.1 hm with ⟨e,h⟩|⟨e,h⟩
 ·show v=if r=k then c else σ r;rw [if_neg e];exact g4 r v h
 show v=if r=k then c else σ r;rw [if_pos e];exact h
end
section
open Go.RowKit RG Go.Maps
theorem MvsAt.read {w:World}{ad:Option Addr}{n c:Nat}{l:List RM.Mv}(h:MvsAt w (.slice ad n c) l) (hn:n=l.length) {k:Nat}(hk:k<n):∃ g o a b,ad=some ⟨g,o,none⟩∧l[k]?=some (a,b)∧w.cell? ⟨g,o+k*2,none⟩=some (.int .i64 a)∧w.cell? ⟨g,o+k*2+1,none⟩=some (.int .i64 b):=by
 obtain⟨ad',c',e,hat⟩:=h
 simp only [Value.slice.injEq] at e
 obtain⟨g,o,e2,hat⟩:=hat (by omega)
 obtain⟨⟨a,b⟩,hx⟩:∃ m,l[k]?=some m:=⟨_,zq9 (by omega)⟩
 exact⟨g,o,a,b,by rw [e.1,e2],hx,(hat k _ hx).1,(hat k _ hx).2⟩
end
section
open Go.RowKit RG Go.Maps
theorem ints_at {l:List Int}{i:Nat}{x:Int}(h:l[i]?=some x):(ints l)[i]?=some (.int .i64 x):=by unfold ints;rw [List.getElem?_map,h];rfl
theorem ints_set (l:List Int) (i:Nat) (x:Int):(ints l).set i (.int .i64 x)=ints (l.set i x):=by unfold ints;rw [List.map_set]
def IsAt (w:World) (v:Value) (l:List Int):Prop:=SlAt w v l.length (ints l)
theorem IsAt.kept {w w':World}{v:Value}{l:List Int}(h:IsAt w v l) (hb:Kept w w'):IsAt w' v l:=SlAt.kept h hb
theorem IsAt.shape {w:World}{v:Value}{l:List Int}(h:IsAt w v l):∃ a c,v = .slice a l.length c:=by
 obtain⟨_,ad,c,e,_⟩:=h
 exact⟨_,_,e⟩
theorem IsAt.nil (w:World):IsAt w (.slice none 0 0) []:=⟨rfl,none,0,rfl,fun h=>absurd h (Nat.lt_irrefl _)⟩
theorem IsAt.read {w:World}{ad:Option Addr}{n c:Nat}{l:List Int}(h:IsAt w (.slice ad n c) l) (hn:n=l.length) {k:Nat}(hk:k<n) :
  ∃ g o x,ad=some ⟨g,o,none⟩∧l[k]?=some x∧w.cell? ⟨g,o+k,none⟩=some (.int .i64 x):=by
 obtain⟨_,ad',c',e,hat⟩:=h
 simp only [Value.slice.injEq] at e
 obtain⟨g,o,e2,hat⟩:=hat (by omega)
 obtain⟨x,hx⟩:∃ x,l[k]?=some x:=⟨_,zq9 (by omega)⟩
 exact⟨g,o,x,by rw [e.1,e2],hx,hat k _ (ints_at hx)⟩
def IOwn (w:World) (base:Nat) (v:Value) (l:List Int):Prop:=w.ownsRow base 3 1 v l.length (ints l)
theorem IOwn.nil (w:World) (base:Nat):IOwn w base (.slice none 0 0) []:=World.ownsRow_nil _ _ _ _
theorem IOwn.shape {w:World}{base:Nat}{v:Value}{l:List Int}(h:IOwn w base v l):∃ a c,v = .slice a l.length c:=own_sliceI h
theorem IOwn.at' {w:World}{base:Nat}{v:Value}{l:List Int}(h:IOwn w base v l):IsAt w v l:=by
 obtain⟨h1,h2⟩:=h
 rcases h2 with ⟨rfl,h0⟩|⟨g,cap,cur,rfl,hb,hg,k1,k2,k3,k4⟩
 ·exact⟨ints_length l,none,0,by rw [h0],fun h=>by omega⟩
 refine⟨ints_length l,some ⟨g,0,none⟩,cap,rfl,fun h0=>⟨g,0,rfl,fun i x hi=>?_⟩⟩
 have hl:=(zq8.1 hi).1
 rw [ints_length] at hl
 rw [Nat.zero_add,zb _ _ _ _ _ _ hg,← Array.getElem?_toList,← List.getElem?_take_of_lt (show i<l.length*1 by omega),k4];exact hi
theorem IOwn.lt {w:World}{base:Nat}{v:Value}{l:List Int}(h:IOwn w base v l) {k:Nat}(hk:v.ownBlock=some k):base≤k∧k<w.heap.size:=World.ownsRow.lt h k hk
theorem IOwn.keep {w w':World}{base:Nat}{v:Value}{l:List Int}(h:IOwn w base v l) (hk:∀ k,base≤k→k<w.heap.size→w'.heap[k]?=w.heap[k]?):IOwn w' base v l:=by
 obtain⟨h1,h2⟩:=h
 refine⟨h1,?_⟩
 rcases h2 with h2 | ⟨g,cap,cur,rfl,hb,hg,rest⟩
 ·exact .inl h2
 exact .inr ⟨g,cap,cur,rfl,hb,(hk g hb (zq7.1 hg).1).trans hg,rest⟩
theorem IOwn.full {w:World}{base:Nat}{v:Value}{l:List Int}(h:IOwn w base v l) (h0:0<l.length) :
  ∃ g c,v = .slice (some ⟨g,0,none⟩) l.length c∧base≤g∧g<w.heap.size∧(∀ i x,l[i]?=some x→w.cell? ⟨g,i,none⟩=some (.int .i64 x))∧∀ i,w.frozen? ⟨g,i,none⟩=false:=by
 obtain⟨h1,h2⟩:=id h
 rcases h2 with ⟨rfl,h0'⟩|⟨g,cap,cur,rfl,hb,hg,k1,k2,k3,k4⟩
 ·omega
 refine⟨g,cap,rfl,hb,(zq7.1 hg).1,fun i x hi=>?_,fun i=>zs1 _ _ _ _ _ hg⟩
 have hl:=(zq8.1 hi).1
 rw [World.ownsRow.cellAt h i (by omega)];exact ints_at hi
theorem IOwn.stored {w:World}{base g n c:Nat}{l:List Int}(h:IOwn w base (.slice (some ⟨g,0,none⟩) n c) l) (i:Nat) (x:Int):IOwn (w.setCell ⟨g,i,none⟩ (.int .i64 x)) base (.slice (some ⟨g,0,none⟩) n c) (l.set i x):=by
 have hn:n=l.length:=by
  obtain⟨a,c',e⟩:=h.shape
  simp only [Value.slice.injEq] at e
  exact e.2.1
 subst hn
 have:=(World.ownsRow.stored h i (.int .i64 x)).1
 unfold IOwn
 rw [List.length_set,← ints_set];exact this
theorem IOwn.lit {w:World}{base:Nat}(hb:base≤w.heap.size) (x:Int):IOwn (w.alloc (.cells #[.int .i64 x] 3)) base (.slice (some ⟨w.heap.size,0,none⟩) 1 1) [x] :=
 World.ownsRow_lit w #[.int .i64 x] 1 hb (by decide) rfl
theorem news1 (w:World) (x:Value) (T:TypeId):∀ (j:Nat) (u:Value),[x][j]?=some u→(w.alloc (.cells #[x] T)).cell? ((⟨w.heap.size,0,none⟩:Addr).add j)=some u:=fun j u hu=>by
 rw [Addr.add_lit,zb _ _ _ _ _ _ (zs2 w _),Nat.zero_add]
 match j,hu with
 | 0,hu=>exact hu
 | j+1,hu=>simp at hu
theorem IOwn.size {w:World}{base:Nat}{v:Value}{l:List Int}(h:IOwn w base v l):l.length≤maxLen:=by
 rcases h.2 with ⟨rfl,h0⟩|⟨g,cap,cur,rfl,hb,hg,k1,k2,k3,k4⟩
 ·rw [h0];exact zv3 _
 omega
end
section
open Go.RowKit RG Go.Maps RF
theorem Ch.cell {M:Nat→Prop} {ρ ρ':Nat→Nat}{w w':World}(c:Ch M ρ ρ' w w') {a:Addr}{x:Value}(h:w.cell? a=some x) (hn:¬ M (ρ a.block)):w'.cell? a=some x :=
 (World.cell?_of_block (c.block _ (zs3 w _ h) hn)).trans h
structure ZA (w:World) (ρ:Nat→Nat) (v:Value) (n:Nat) (xs:List Value):Prop where
 len:xs.length=n
 at':∃ (ad:Option Addr) (c:Nat),v = .slice ad n c∧(0<n→∃ g o,ad=some ⟨g,o,none⟩∧ρ g=0∧∀ (i:Nat) x,xs[i]?=some x→w.cell? ⟨g,o+i,none⟩=some x)
theorem ZA.keep {M:Nat→Prop} {ρ ρ':Nat→Nat}{w w':World}{v:Value}{n:Nat}{xs:List Value}(h:ZA w ρ v n xs) (c:Ch M ρ ρ' w w') (hn:¬ M 0):ZA w' ρ' v n xs:=by
 obtain⟨hl,ad,cc,e,hat⟩:=h
 refine⟨hl,ad,cc,e,fun h0=>?_⟩
 obtain⟨g,o,e2,hr,hc⟩:=hat h0
 obtain⟨x,hx⟩:∃ x,xs[0]?=some x:=⟨_,zq9 (by omega)⟩
 have hlt:=zs3 w _ (hc 0 x hx)
 exact⟨g,o,e2,(c.role g hlt).trans hr,fun i x hi=>c.cell (hc i x hi) (by show ¬ M (ρ g);rw [hr];exact hn)⟩
theorem ZA.sl {ρ:Nat→Nat}{w:World}{v:Value}{n:Nat}{xs:List Value}(h:ZA w ρ v n xs):SlAt w v n xs:=by
 obtain⟨hl,ad,c,e,hat⟩:=h
 exact⟨hl,ad,c,e,fun h0=>by obtain⟨g,o,e2,_,hc⟩:=hat h0;exact⟨g,o,e2,hc⟩⟩
theorem ZA.of_sl {ρ:Nat→Nat}{W w:World}{v:Value}{n:Nat}{xs:List Value}(h:SlAt W v n xs) (hb:Below W.heap.size W w) (hρ:∀ k,k<W.heap.size→ρ k=0):ZA w ρ v n xs:=by
 obtain⟨hl,ad,c,e,hat⟩:=h
 refine⟨hl,ad,c,e,fun h0=>?_⟩
 obtain⟨g,o,e2,hc⟩:=hat h0
 obtain⟨x,hx⟩:∃ x,xs[0]?=some x:=⟨_,zq9 (by omega)⟩
 exact⟨g,o,e2,hρ g (zs3 W _ (hc 0 x hx)),fun i x hi=>zd hb _ _ (hc i x hi)⟩
theorem ZA.nil (w:World) (ρ:Nat→Nat):ZA w ρ (.slice none 0 0) 0 []:=⟨rfl,none,0,rfl,fun h=>absurd h (Nat.lt_irrefl _)⟩
theorem ZA.of_own {ρ:Nat→Nat}{w:World}{base:Nat}{v:Value}{l:List Int}(h:IOwn w base v l) (hρ:∀ k,base≤k→ρ k=0):ZA w ρ v l.length (ints l):=by
 rcases Nat.eq_zero_or_pos l.length with h0 | h0
 ·obtain⟨a,c,rfl⟩:=h.shape
  exact⟨ints_length l,a,c,rfl,fun h1=>by omega⟩
 obtain⟨g,c,rfl,hb,_,hc,_⟩:=h.full h0
 refine⟨ints_length l,some ⟨g,0,none⟩,c,rfl,fun _=>⟨g,0,rfl,hρ g hb,fun i x hi=>?_⟩⟩
 unfold ints at hi
 rw [List.getElem?_map] at hi
 obtain⟨y,hy,rfl⟩:=Option.map_eq_some_iff.1 hi
 rw [Nat.zero_add];exact hc i y hy
theorem ZA.lit {ρ:Nat→Nat}(w:World) (x:Value) (T:TypeId) (hρ:ρ w.heap.size=0):ZA (w.alloc (.cells #[x] T)) ρ (.slice (some ⟨w.heap.size,0,none⟩) 1 1) 1 [x] :=
 ⟨rfl,_,1,rfl,fun _=>⟨_,0,rfl,hρ,fun i y hi=>by
  rw [zb _ _ _ _ _ _ (zs2 w _),Nat.zero_add]
  match i,hi with
  | 0,hi=>exact hi
  | i+1,hi=>simp at hi⟩⟩
def nats (l:List Nat):List Value:=ints (l.map fun (n:Nat)=>(n:Int))
theorem nats_at {l:List Nat}{i n:Nat}(h:l[i]?=some n):(nats l)[i]?=some (.int .i64 (n:Int)):=by unfold nats;exact ints_at (by rw [List.getElem?_map,h];rfl)
theorem nats_append (a b:List Nat):nats (a++b)=nats a++nats b:=by unfold nats;rw [List.map_append,ints_append]
def ScR (w:World) (ρ:Nat→Nat):List (Nm×Nat)→Value→Prop
 | [],v=>v = .pointer none
 | p :: r,v=>∃ b vp,v = .pointer (some ⟨b,0,none⟩)∧w.heap[b]?=some (.cells #[.string p.1,.int .i64 (p.2:Int),vp] 150 (0,0))∧ρ b=0∧ScR w ρ r vp
theorem ScR.keep {M:Nat→Prop} {ρ ρ':Nat→Nat}{w w':World}(c:Ch M ρ ρ' w w') (hn:¬ M 0):∀ {sc:List (Nm×Nat)}{v:Value},ScR w ρ sc v→ScR w' ρ' sc v
 | [],_,h=>h
 | p :: r,v,h=>by
  obtain⟨b,vp,e,h1,h2,h3⟩:=h
  exact⟨b,vp,e,c.keep h1 (by rw [h2];exact hn),(c.keepRole h1).trans h2,ScR.keep c hn h3⟩
theorem ScR.ptr {w:World} {ρ:Nat→Nat}{sc:List (Nm×Nat)}{v:Value}(h:ScR w ρ sc v):∃ a,v = .pointer a:=by
 cases sc with
 | nil=>exact⟨none,h⟩
 | cons p r=>obtain⟨b,vp,e,_⟩:=h;exact⟨_,e⟩
theorem RR.stored {w:World} {ρ:Nat→Nat}{r e g n c:Nat}{xs:List Value}(h:RR w ρ r e 1 (.slice (some ⟨g,0,none⟩) n c) n xs) (i:Nat) (u:Value):RR (w.setCell ⟨g,i,none⟩ u) ρ r e 1 (.slice (some ⟨g,0,none⟩) n c) n (xs.set i u) :=
 ⟨(World.ownsRow.stored h.row i u).1,h.role⟩
theorem RR.full {w:World} {ρ:Nat→Nat}{r e n:Nat}{v:Value}{xs:List Value}(h:RR w ρ r e 1 v n xs) (h0:0<n) :
  ∃ g c,v = .slice (some ⟨g,0,none⟩) n c∧ρ g=r∧g<w.heap.size∧(∀ i x,xs[i]?=some x→w.cell? ⟨g,i,none⟩=some x)∧∀ i,w.frozen? ⟨g,i,none⟩=false:=by
 obtain⟨h1,h2⟩:=h.row
 rcases h2 with ⟨rfl,h0'⟩|⟨g,cap,cur,rfl,hb,hg,k1,k2,k3,k4⟩
 ·omega
 refine⟨g,cap,rfl,h.role g rfl,(zq7.1 hg).1,fun i x hi=>?_,fun i=>zs1 _ _ _ _ _ hg⟩
 have hl:=(zq8.1 hi).1
 rw [World.ownsRow.cellAt h.row i (by omega)];exact hi
theorem RR.sl {w:World} {ρ:Nat→Nat}{r e n:Nat}{v:Value}{xs:List Value}(h:RR w ρ r e 1 v n xs):SlAt w v n xs:=by
 have hl:xs.length=n:=by have:=h.row.1;omega
 obtain⟨a,c,hv⟩:=h.shape
 refine⟨hl,a,c,hv,fun h0=>?_⟩
 obtain⟨g,c',e,_,_,hc,_⟩:=h.full h0
 rw [hv] at e
 simp only [Value.slice.injEq] at e
 exact⟨g,0,e.1,fun i x hi=>by rw [Nat.zero_add];exact hc i x hi⟩
structure FlV (w:World) (ρ:Nat→Nat) (fb:Nat) (st:St) (sv su sn sb sa so:Value) (us ns bs os:List Value) (na no:Nat):Prop where
 obj:w.heap[fb]?=some (.cells #[sv,su,sn,sb,sa,so,.bool false] 42 (0,0))
 role:ρ fb=2
 vars:RR w ρ 3 9 1 sv st.vars.length (strs st.vars)
 uses:RR w ρ 4 40 1 su st.uses.length us
 next:RR w ρ 5 40 1 sn st.next.length ns
 binds:RR w ρ 6 40 1 sb st.binds.length bs
 after:RR w ρ 7 3 1 sa na (nats (List.range na))
 of:RR w ρ 8 3 1 so no os
 usesAt:∀ (i:Nat) (l:List Nat),st.uses[i]?=some l→∃ v,us[i]?=some v∧ZA w ρ v l.length (nats l)
 nextAt:∀ (i:Nat) (l:List Nat),st.next[i]?=some l→∃ v,ns[i]?=some v∧RR w ρ (10+i) 3 1 v l.length (nats l)
 bindsAt:∀ (i:Nat) (l:List Nat),st.binds[i]?=some l→∃ v,bs[i]?=some v∧ZA w ρ v l.length (nats l)
def FlR (w:World) (ρ:Nat→Nat) (fb:Nat) (st:St):Prop:=∃ sv su sn sb sa so us ns bs os,FlV w ρ fb st sv su sn sb sa so us ns bs os st.binds.length st.binds.length
section
variable {w w':World} {ρ ρ':Nat→Nat} {fb:Nat} {st:St} {sv su sn sb sa so:Value} {us ns bs os:List Value} {na no:Nat}
theorem FlV.keep (h:FlV w ρ fb st sv su sn sb sa so us ns bs os na no) {M:Nat→Prop}(c:Ch M ρ ρ' w w') (hM:∀ r,M r→r=1):FlV w' ρ' fb st sv su sn sb sa so us ns bs os na no:=by
 have n0:∀ r,r≠1→¬ M r:=fun r hr hm=>hr (hM r hm)
 exact⟨c.keep h.obj (by rw [h.role];exact n0 _ (by decide)),(c.keepRole h.obj).trans h.role,h.vars.keep c (n0 _ (by decide)),h.uses.keep c (n0 _ (by decide)),h.next.keep c (n0 _ (by decide)),h.binds.keep c (n0 _ (by decide)),h.after.keep c (n0 _ (by decide)),h.of.keep c (n0 _ (by decide)),
  fun i l hi=>by obtain⟨v,a,b⟩:=h.usesAt i l hi;exact⟨v,a,b.keep c (n0 _ (by decide))⟩,
  fun i l hi=>by obtain⟨v,a,b⟩:=h.nextAt i l hi;exact⟨v,a,b.keep c (n0 _ (by omega))⟩,
  fun i l hi=>by obtain⟨v,a,b⟩:=h.bindsAt i l hi;exact⟨v,a,b.keep c (n0 _ (by decide))⟩⟩
theorem FlV.below (h:FlV w ρ fb st sv su sn sb sa so us ns bs os na no) (hb:Below w.heap.size w w') (hρ:∀ k,w.heap.size≤k→ρ k=0):FlV w' ρ fb st sv su sn sb sa so us ns bs os na no :=
 h.keep (Ch.of_below (M:=fun _=>False) hb hρ) fun _ h=>h.elim
theorem FlV.lt (h:FlV w ρ fb st sv su sn sb sa so us ns bs os na no):fb<w.heap.size:=(zq7.1 h.obj).1
theorem FlV.cell (h:FlV w ρ fb st sv su sn sb sa so us ns bs os na no):∀ i x,#[sv,su,sn,sb,sa,so,Value.bool false][i]?=some x→w.cell? ⟨fb,i,none⟩=some x:=fun i x hx=>by rw [zb _ _ _ _ _ _ h.obj];exact hx
theorem FlV.froz (h:FlV w ρ fb st sv su sn sb sa so us ns bs os na no) (i:Nat):w.frozen? ⟨fb,i,none⟩=false:=zs1 _ _ _ _ _ h.obj
theorem ch_put {r:Nat}{a:Addr}{v:Value}(c:Ch (· = r) ρ ρ' w w') (ha:a.block<w.heap.size) (hr:ρ a.block=2):Ch (fun q=>q=r∨q=2) ρ ρ' w (w'.setCell a v) :=
 (c.mono fun _ h => .inl h).setCell a v fun _ => .inr hr
theorem FlV.putVars (h:FlV w ρ fb st sv su sn sb sa so us ns bs os na no) {v':Value}{x:Nm}(c:Ch (· = 3) ρ ρ' w w') (hr:RR w' ρ' 3 9 1 v' (st.vars.length+1) (strs st.vars++[.string x])) :
  FlV (w'.setCell ⟨fb,0,none⟩ v') ρ' fb { st with vars:=st.vars++[x] } v' su sn sb sa so us ns bs os na no:=by
 have c2:Ch (fun q=>q=3∨q=2) ρ ρ' w (w'.setCell ⟨fb,0,none⟩ v'):=ch_put c h.lt h.role
 have o1:=c.keep h.obj (by rw [h.role];decide)
 have r1:ρ' fb=2:=(c.keepRole h.obj).trans h.role
 have c3:Ch (· = 2) ρ' ρ' w' (w'.setCell ⟨fb,0,none⟩ v'):=(Ch.refl c.fresh).setCell _ _ fun _=>r1
 refine⟨heap_setCell_same _ _ _ _ _ _ o1,r1,?_,h.uses.keep c2 (by decide),h.next.keep c2 (by decide),h.binds.keep c2 (by decide),h.after.keep c2 (by decide),h.of.keep c2 (by decide),
  fun i l hi=>by obtain⟨v,a,b⟩:=h.usesAt i l hi;exact⟨v,a,b.keep c2 (by decide)⟩,
  fun i l hi=>by obtain⟨v,a,b⟩:=h.nextAt i l hi;exact⟨v,a,b.keep c2 (by omega)⟩,
  fun i l hi=>by obtain⟨v,a,b⟩:=h.bindsAt i l hi;exact⟨v,a,b.keep c2 (by decide)⟩⟩
 show RR _ _ 3 9 1 v' (st.vars++[x]).length (strs (st.vars++[x]))
 rw [zr2,List.length_singleton]
 have:=hr.keep c3 (by decide)
 unfold strs at this ⊢
 rw [List.map_append];exact this
theorem FlV.putUses (h:FlV w ρ fb st sv su sn sb sa so us ns bs os na no) {v' x:Value}{l:List Nat}(c:Ch (· = 4) ρ ρ' w w') (hr:RR w' ρ' 4 40 1 v' (st.uses.length+1) (us++[x])) (hx:ZA w ρ x l.length (nats l)) :
  FlV (w'.setCell ⟨fb,1,none⟩ v') ρ' fb { st with uses:=st.uses++[l] } sv v' sn sb sa so (us++[x]) ns bs os na no:=by
 have c2:Ch (fun q=>q=4∨q=2) ρ ρ' w (w'.setCell ⟨fb,1,none⟩ v'):=ch_put c h.lt h.role
 have o1:=c.keep h.obj (by rw [h.role];decide)
 have r1:ρ' fb=2:=(c.keepRole h.obj).trans h.role
 have c3:Ch (· = 2) ρ' ρ' w' (w'.setCell ⟨fb,1,none⟩ v'):=(Ch.refl c.fresh).setCell _ _ fun _=>r1
 have hul:us.length=st.uses.length:=by have:=h.uses.row.1;omega
 refine⟨heap_setCell_same _ _ _ _ _ _ o1,r1,h.vars.keep c2 (by decide),?_,h.next.keep c2 (by decide),h.binds.keep c2 (by decide),h.after.keep c2 (by decide),h.of.keep c2 (by decide),
  fun i k hi=>?_,
  fun i l hi=>by obtain⟨v,a,b⟩:=h.nextAt i l hi;exact⟨v,a,b.keep c2 (by omega)⟩,
  fun i l hi=>by obtain⟨v,a,b⟩:=h.bindsAt i l hi;exact⟨v,a,b.keep c2 (by decide)⟩⟩
 ·show RR _ _ 4 40 1 v' (st.uses++[l]).length _
  rw [zr2,List.length_singleton]
  exact hr.keep c3 (by decide)
 replace hi:(st.uses++[l])[i]?=some k:=hi
 rcases Nat.lt_trichotomy i st.uses.length with hlt | rfl | hgt
 ·rw [List.getElem?_append_left hlt] at hi
  obtain⟨v,a,b⟩:=h.usesAt i k hi
  exact⟨v,by rw [List.getElem?_append_left (by omega)];exact a,b.keep c2 (by decide)⟩
 ·rw [List.getElem?_append_right (zr4 _),Nat.sub_self] at hi
  simp at hi
  subst hi
  exact⟨x,by rw [← hul,List.getElem?_append_right (zr4 _),Nat.sub_self];rfl,hx.keep c2 (by decide)⟩
 rw [List.getElem?_eq_none (by simp;omega)] at hi;cases hi
theorem FlV.putNext (h:FlV w ρ fb st sv su sn sb sa so us ns bs os na no) {v':Value}(c:Ch (· = 5) ρ ρ' w w') (hr:RR w' ρ' 5 40 1 v' (st.next.length+1) (ns++[.slice none 0 0])) :
  FlV (w'.setCell ⟨fb,2,none⟩ v') ρ' fb { st with next:=st.next++[[]] } sv su v' sb sa so us (ns++[.slice none 0 0]) bs os na no:=by
 have c2:Ch (fun q=>q=5∨q=2) ρ ρ' w (w'.setCell ⟨fb,2,none⟩ v'):=ch_put c h.lt h.role
 have o1:=c.keep h.obj (by rw [h.role];decide)
 have r1:ρ' fb=2:=(c.keepRole h.obj).trans h.role
 have c3:Ch (· = 2) ρ' ρ' w' (w'.setCell ⟨fb,2,none⟩ v'):=(Ch.refl c.fresh).setCell _ _ fun _=>r1
 have hul:ns.length=st.next.length:=by have:=h.next.row.1;omega
 refine⟨heap_setCell_same _ _ _ _ _ _ o1,r1,h.vars.keep c2 (by decide),h.uses.keep c2 (by decide),?_,h.binds.keep c2 (by decide),h.after.keep c2 (by decide),h.of.keep c2 (by decide),
  fun i l hi=>by obtain⟨v,a,b⟩:=h.usesAt i l hi;exact⟨v,a,b.keep c2 (by decide)⟩,
  fun i k hi=>?_,
  fun i l hi=>by obtain⟨v,a,b⟩:=h.bindsAt i l hi;exact⟨v,a,b.keep c2 (by decide)⟩⟩
 ·show RR _ _ 5 40 1 v' (st.next++[[]]).length _
  rw [zr2,List.length_singleton]
  exact hr.keep c3 (by decide)
 replace hi:(st.next++[[]])[i]?=some k:=hi
 rcases Nat.lt_trichotomy i st.next.length with hlt | rfl | hgt
 ·rw [List.getElem?_append_left hlt] at hi
  obtain⟨v,a,b⟩:=h.nextAt i k hi
  exact⟨v,by rw [List.getElem?_append_left (by omega)];exact a,b.keep c2 (by omega)⟩
 ·rw [List.getElem?_append_right (zr4 _),Nat.sub_self] at hi
  simp at hi
  subst hi
  exact⟨.slice none 0 0,by rw [← hul,List.getElem?_append_right (zr4 _),Nat.sub_self];rfl,RR.nil _ _ _ _ _⟩
 rw [List.getElem?_eq_none (by simp;omega)] at hi;cases hi
theorem FlV.putLink (h:FlV w ρ fb st sv su sn sb sa so us ns bs os na no) {i g n c0:Nat}{v v':Value}{l:List Nat}{x:Nat}(hi:st.next[i]?=some l) (hsn:sn = .slice (some ⟨g,0,none⟩) n c0) (c:Ch (· = 10+i) ρ ρ' w w') (hr:RR w' ρ' (10+i) 3 1 v' (l.length+1) (nats l++[.int .i64 (x:Int)])) :
  FlV (w'.setCell ⟨g,i,none⟩ v') ρ' fb { st with next:=st.next.modify i (· ++ [x]) } sv su sn sb sa so us (ns.set i v') bs os na no∧Ch (fun q=>q=10+i∨q=5) ρ ρ' w (w'.setCell ⟨g,i,none⟩ v'):=by
 subst hsn
 have hn0:0<st.next.length:=by have:=(zq8.1 hi).1;omega
 obtain⟨g',c',e,hg5,hglt,_,_⟩:=h.next.full hn0
 simp only [Value.slice.injEq,zt3,Addr.mk.injEq,and_true] at e
 obtain⟨rfl,rfl,rfl⟩:=e
 have c2:Ch (fun q=>q=10+i∨q=5) ρ ρ' w (w'.setCell ⟨g,i,none⟩ v'):=(c.mono fun _ h => .inl h).setCell _ _ fun _ => .inr hg5
 have r1:ρ' fb=2:=(c.keepRole h.obj).trans h.role
 have r5:ρ' g=5:=(c.role g hglt).trans hg5
 have c3:Ch (· = 5) ρ' ρ' w' (w'.setCell ⟨g,i,none⟩ v'):=(Ch.refl c.fresh).setCell _ _ fun _=>r5
 have hml:(st.next.modify i (· ++ [x])).length=st.next.length:=List.length_modify ..
 refine⟨⟨c2.keep h.obj (by rw [h.role];omega),r1,h.vars.keep c2 (by omega),h.uses.keep c2 (by omega),?_,h.binds.keep c2 (by omega),h.after.keep c2 (by omega),h.of.keep c2 (by omega),
  fun i l hi=>by obtain⟨v,a,b⟩:=h.usesAt i l hi;exact⟨v,a,b.keep c2 (by omega)⟩,
  fun j k hj=>?_,
  fun i l hi=>by obtain⟨v,a,b⟩:=h.bindsAt i l hi;exact⟨v,a,b.keep c2 (by omega)⟩⟩,c2⟩
 ·show RR _ _ 5 40 1 _ (st.next.modify i (· ++ [x])).length _
  rw [hml]
  exact(h.next.keep c (by omega)).stored i v'
 replace hj:(st.next.modify i (· ++ [x]))[j]?=some k:=hj
 have hul:ns.length=st.next.length:=by have:=h.next.row.1;omega
 rw [List.getElem?_modify] at hj
 by_cases e:i=j
 ·subst e
  rw [hi] at hj
  simp at hj
  subst hj
  refine⟨v',by rw [List.getElem?_set_self (by have:=(zq8.1 hi).1;omega)],?_⟩
  rw [zr2,List.length_singleton,nats_append]
  exact hr.keep c3 (by omega)
 have:st.next[j]?=some k:=by
  cases hq:st.next[j]? with
  | none=>rw [hq] at hj;cases hj
  | some q=>rw [hq] at hj;simpa [e] using hj
 obtain⟨v,a,b⟩:=h.nextAt j k this
 exact⟨v,by rw [List.getElem?_set_ne e];exact a,b.keep c2 (by omega)⟩
theorem FlV.putBinds (h:FlV w ρ fb st sv su sn sb sa so us ns bs os na no) {v' x:Value}{l:List Nat}(c:Ch (· = 6) ρ ρ' w w') (hr:RR w' ρ' 6 40 1 v' (st.binds.length+1) (bs++[x])) (hx:ZA w ρ x l.length (nats l)) :
  FlV (w'.setCell ⟨fb,3,none⟩ v') ρ' fb { st with binds:=st.binds++[l] } sv su sn v' sa so us ns (bs++[x]) os na no:=by
 have c2:Ch (fun q=>q=6∨q=2) ρ ρ' w (w'.setCell ⟨fb,3,none⟩ v'):=ch_put c h.lt h.role
 have o1:=c.keep h.obj (by rw [h.role];decide)
 have r1:ρ' fb=2:=(c.keepRole h.obj).trans h.role
 have c3:Ch (· = 2) ρ' ρ' w' (w'.setCell ⟨fb,3,none⟩ v'):=(Ch.refl c.fresh).setCell _ _ fun _=>r1
 have hul:bs.length=st.binds.length:=by have:=h.binds.row.1;omega
 refine⟨heap_setCell_same _ _ _ _ _ _ o1,r1,h.vars.keep c2 (by decide),h.uses.keep c2 (by decide),h.next.keep c2 (by decide),?_,h.after.keep c2 (by decide),h.of.keep c2 (by decide),
  fun i l hi=>by obtain⟨v,a,b⟩:=h.usesAt i l hi;exact⟨v,a,b.keep c2 (by decide)⟩,
  fun i l hi=>by obtain⟨v,a,b⟩:=h.nextAt i l hi;exact⟨v,a,b.keep c2 (by omega)⟩,
  fun i k hi=>?_⟩
 ·show RR _ _ 6 40 1 v' (st.binds++[l]).length _
  rw [zr2,List.length_singleton]
  exact hr.keep c3 (by decide)
 replace hi:(st.binds++[l])[i]?=some k:=hi
 rcases Nat.lt_trichotomy i st.binds.length with hlt | rfl | hgt
 ·rw [List.getElem?_append_left hlt] at hi
  obtain⟨v,a,b⟩:=h.bindsAt i k hi
  exact⟨v,by rw [List.getElem?_append_left (by omega)];exact a,b.keep c2 (by decide)⟩
 ·rw [List.getElem?_append_right (zr4 _),Nat.sub_self] at hi
  simp at hi
  subst hi
  exact⟨x,by rw [← hul,List.getElem?_append_right (zr4 _),Nat.sub_self];rfl,hx.keep c2 (by decide)⟩
 rw [List.getElem?_eq_none (by simp;omega)] at hi;cases hi
theorem FlV.putAfter (h:FlV w ρ fb st sv su sn sb sa so us ns bs os na no) {v':Value}(c:Ch (· = 7) ρ ρ' w w') (hr:RR w' ρ' 7 3 1 v' (na+1) (nats (List.range na)++[.int .i64 (na:Int)])) :
  FlV (w'.setCell ⟨fb,4,none⟩ v') ρ' fb st sv su sn sb v' so us ns bs os (na+1) no:=by
 have c2:Ch (fun q=>q=7∨q=2) ρ ρ' w (w'.setCell ⟨fb,4,none⟩ v'):=ch_put c h.lt h.role
 have o1:=c.keep h.obj (by rw [h.role];decide)
 have r1:ρ' fb=2:=(c.keepRole h.obj).trans h.role
 have c3:Ch (· = 2) ρ' ρ' w' (w'.setCell ⟨fb,4,none⟩ v'):=(Ch.refl c.fresh).setCell _ _ fun _=>r1
 refine⟨heap_setCell_same _ _ _ _ _ _ o1,r1,h.vars.keep c2 (by decide),h.uses.keep c2 (by decide),h.next.keep c2 (by decide),h.binds.keep c2 (by decide),?_,h.of.keep c2 (by decide),
  fun i l hi=>by obtain⟨v,a,b⟩:=h.usesAt i l hi;exact⟨v,a,b.keep c2 (by decide)⟩,
  fun i l hi=>by obtain⟨v,a,b⟩:=h.nextAt i l hi;exact⟨v,a,b.keep c2 (by omega)⟩,
  fun i l hi=>by obtain⟨v,a,b⟩:=h.bindsAt i l hi;exact⟨v,a,b.keep c2 (by decide)⟩⟩
 rw [List.range_succ,nats_append]
 exact hr.keep c3 (by decide)
theorem FlV.putOf (h:FlV w ρ fb st sv su sn sb sa so us ns bs os na no) {v' x:Value}(c:Ch (· = 8) ρ ρ' w w') (hr:RR w' ρ' 8 3 1 v' (no+1) (os++[x])) :
  FlV (w'.setCell ⟨fb,5,none⟩ v') ρ' fb st sv su sn sb sa v' us ns bs (os++[x]) na (no+1):=by
 have c2:Ch (fun q=>q=8∨q=2) ρ ρ' w (w'.setCell ⟨fb,5,none⟩ v'):=ch_put c h.lt h.role
 have o1:=c.keep h.obj (by rw [h.role];decide)
 have r1:ρ' fb=2:=(c.keepRole h.obj).trans h.role
 have c3:Ch (· = 2) ρ' ρ' w' (w'.setCell ⟨fb,5,none⟩ v'):=(Ch.refl c.fresh).setCell _ _ fun _=>r1
 refine⟨heap_setCell_same _ _ _ _ _ _ o1,r1,h.vars.keep c2 (by decide),h.uses.keep c2 (by decide),h.next.keep c2 (by decide),h.binds.keep c2 (by decide),h.after.keep c2 (by decide),hr.keep c3 (by decide),
  fun i l hi=>by obtain⟨v,a,b⟩:=h.usesAt i l hi;exact⟨v,a,b.keep c2 (by decide)⟩,
  fun i l hi=>by obtain⟨v,a,b⟩:=h.nextAt i l hi;exact⟨v,a,b.keep c2 (by omega)⟩,
  fun i l hi=>by obtain⟨v,a,b⟩:=h.bindsAt i l hi;exact⟨v,a,b.keep c2 (by decide)⟩⟩
end
end
end Go.Proofs.YtnkahlloahgifaaGreatDoor
namespace RF
section
open RG
theorem scope_snoc (x:Nm):∀ (bs:List Nm) (k:Nat) (sc:List (Nm×Nat)),scope k (bs++[x]) sc=(x,k+bs.length) :: scope k bs sc
 | [],k,sc=>rfl
 | b :: bs,k,sc=>by
  rw [List.cons_append,scope,scope_snoc x bs (k+1),scope,List.length_cons]
  rw [show k+1+bs.length=k+(bs.length+1) from by omega]
theorem scope_take (k:Nat) (sc:List (Nm×Nat)) {l:List Nm}{i:Nat}{x:Nm}(h:l[i]?=some x):scope k (l.take (i+1)) sc=(x,k+i) :: scope k (l.take i) sc:=by
 rw [List.take_add_one,h]
 show scope k (l.take i++[x]) sc=_
 rw [scope_snoc,List.length_take,Nat.min_eq_left (Nat.le_of_lt (List.getElem?_eq_some_iff.1 h).1)]
end
end RF
namespace Go.Proofs.YtnkahlloahgifaaGreatDoor
section
open Go.RowKit RG Go.Maps RF
def BM (r:Nat):Prop:=r=2∨r=3∨r=6∨r=7∨r=8
def BM9 (r:Nat):Prop:=BM r∨r=9
theorem BM.no0:¬ BM 0:=by unfold BM;omega
theorem BM9.no0:¬ BM9 0:=by unfold BM9 BM;omega
def rero (ρ:Nat→Nat):Nat→Nat:=fun k=>if ρ k=9 then 0 else ρ k
theorem re_ne (ρ:Nat→Nat) (k:Nat):rero ρ k≠9:=by unfold rero;split<;>omega
theorem re_of {ρ:Nat→Nat}{k r:Nat}(h:ρ k=r) (hr:r≠9):rero ρ k=r:=by unfold rero;rw [h,if_neg hr]
theorem re_zero {ρ:Nat→Nat}{k:Nat}(h:ρ k=9):rero ρ k=0:=by unfold rero;rw [if_pos h]
theorem Ch.re {ρ ρ':Nat→Nat}{w w':World}{M:Nat→Prop}(c:Ch (fun r=>M r∨r=9) ρ ρ' w w') (h9:∀ k,ρ k≠9):Ch M ρ (rero ρ') w w' :=
 ⟨c.os,c.tape,c.output,c.size,fun k hk hn=>c.block k hk (fun h=>h.elim hn (h9 k)),fun k hk=>by rw [re_of (c.role k hk) (h9 k)],fun k hk=>re_of (c.fresh k hk) (by decide)⟩
theorem RR.re {w:World} {ρ:Nat→Nat}{r e size n:Nat}{v:Value}{xs:List Value}(h:RR w ρ r e size v n xs) (hr:r≠9):RR w (rero ρ) r e size v n xs:=⟨h.row,fun q hq=>re_of (h.role q hq) hr⟩
theorem ZA.re {w:World} {ρ:Nat→Nat}{v:Value}{n:Nat}{xs:List Value}(h:ZA w ρ v n xs):ZA w (rero ρ) v n xs:=by
 obtain⟨hl,ad,c,e,hat⟩:=h
 exact⟨hl,ad,c,e,fun h0=>by obtain⟨g,o,a,b,d⟩:=hat h0;exact⟨g,o,a,re_of b (by decide),d⟩⟩
theorem ZA.of_rr {w:World} {ρ:Nat→Nat}{e n:Nat}{v:Value}{xs:List Value}(h:RR w ρ 9 e 1 v n xs):ZA w (rero ρ) v n xs:=by
 have hl:xs.length=n:=by have:=h.row.1;omega
 obtain⟨a,c,rfl⟩:=h.shape
 refine⟨hl,a,c,rfl,fun h0=>?_⟩
 obtain⟨g,c',e',hr,_,hc,_⟩:=h.full h0
 simp only [Value.slice.injEq] at e'
 exact⟨g,0,e'.1,re_zero hr,fun i x hi=>by rw [Nat.zero_add];exact hc i x hi⟩
theorem ScR.re {w:World} {ρ:Nat→Nat}:∀ {sc:List (Nm×Nat)}{v:Value},ScR w ρ sc v→ScR w (rero ρ) sc v
 | [],_,h=>h
 | p :: r,v,h=>by
  obtain⟨b,vp,e,h1,h2,h3⟩:=h
  exact⟨b,vp,e,h1,re_of h2 (by decide),ScR.re h3⟩
theorem FlV.re {w:World} {ρ:Nat→Nat}{fb:Nat}{st:St}{sv su sn sb sa so:Value}{us ns bs os:List Value}{na no:Nat}(h:FlV w ρ fb st sv su sn sb sa so us ns bs os na no):FlV w (rero ρ) fb st sv su sn sb sa so us ns bs os na no :=
 ⟨h.obj,re_of h.role (by decide),h.vars.re (by decide),h.uses.re (by decide),h.next.re (by decide),h.binds.re (by decide),h.after.re (by decide),h.of.re (by decide),
  fun i l hi=>by obtain⟨v,a,b⟩:=h.usesAt i l hi;exact⟨v,a,b.re⟩,
  fun i l hi=>by obtain⟨v,a,b⟩:=h.nextAt i l hi;exact⟨v,a,b.re (by omega)⟩,
  fun i l hi=>by obtain⟨v,a,b⟩:=h.bindsAt i l hi;exact⟨v,a,b.re⟩⟩
theorem FlV.keep9 {w w':World} {ρ ρ':Nat→Nat}{fb:Nat}{st:St}{sv su sn sb sa so:Value}{us ns bs os:List Value}{na no:Nat}(h:FlV w ρ fb st sv su sn sb sa so us ns bs os na no) (c:Ch (· = 9) ρ ρ' w w'):FlV w' ρ' fb st sv su sn sb sa so us ns bs os na no :=
 ⟨c.keep h.obj (by rw [h.role];decide),(c.keepRole h.obj).trans h.role,h.vars.keep c (by decide),h.uses.keep c (by decide),h.next.keep c (by decide),h.binds.keep c (by decide),h.after.keep c (by decide),h.of.keep c (by decide),
  fun i l hi=>by obtain⟨v,a,b⟩:=h.usesAt i l hi;exact⟨v,a,b.keep c (by decide)⟩,
  fun i l hi=>by obtain⟨v,a,b⟩:=h.nextAt i l hi;exact⟨v,a,b.keep c (by omega)⟩,
  fun i l hi=>by obtain⟨v,a,b⟩:=h.bindsAt i l hi;exact⟨v,a,b.keep c (by decide)⟩⟩
theorem n9_step {M:Nat→Prop} {ρ ρ':Nat→Nat}{w w':World}{r:Nat}(c:Ch M ρ ρ' w w') (h9:∀ k,ρ k≠9) (hf:∀ q,w.heap.size≤q→ρ' q=0∨ρ' q=r) (hr:r≠9):∀ k,ρ' k≠9:=fun k=>by
 by_cases hk:k<w.heap.size
 ·rw [c.role k hk];exact h9 k
 rcases hf k (by omega) with e | e<;>omega
structure BdV (w:World) (ρ0:Nat→Nat) (fb:Nat) (st:St) (names:List Nm) (sc:List (Nm×Nat)) (v su sn sb sa so:Value) (us ns bs os:List Value) (na no i j k:Nat) (ρ:Nat→Nat) (sv lv vo:Value) (W:World):Prop where
 fl:FlV W ρ fb { st with vars:=st.vars++names.take i } sv su sn sb sa so us ns bs os na no
 ch:Ch BM9 ρ0 ρ w W
 row:RR W ρ 9 3 1 lv j (nats (List.range' st.vars.length j))
 scp:ScR W ρ (scope st.vars.length (names.take k) sc) vo
 nms:ZA W ρ v names.length (strs names)
 nine:∀ k,ρ k=9→w.heap.size≤k
section
variable {w:World} {ρ0:Nat→Nat} {fb:Nat} {st:St} {names:List Nm} {sc:List (Nm×Nat)} {v su sn sb sa so:Value} {us ns bs os:List Value} {na no i j k:Nat} {ρ:Nat→Nat} {sv lv vo:Value} {W:World}
theorem BdV.rho (h:BdV w ρ0 fb st names sc v su sn sb sa so us ns bs os na no i j k ρ sv lv vo W):∀ q,W.heap.size≤q→ρ q=0:=h.ch.fresh
theorem BdV.below (h:BdV w ρ0 fb st names sc v su sn sb sa so us ns bs os na no i j k ρ sv lv vo W) {V:World}(hb:Below W.heap.size W V):BdV w ρ0 fb st names sc v su sn sb sa so us ns bs os na no i j k ρ sv lv vo V :=
 have c:Ch (fun _=>False) ρ ρ W V:=Ch.of_below hb h.rho
 ⟨h.fl.below hb h.rho,h.ch.trans (c.mono fun _ h=>h.elim),h.row.keep c id,ScR.keep c id h.scp,h.nms.keep c id,h.nine⟩
theorem BdV.growA (h:BdV w ρ0 fb st names sc v su sn sb sa so us ns bs os na no i j k ρ sv lv vo W) {x:Nm}(hx:names[i]?=some x) {V:World} {ρ':Nat→Nat}{v':Value}(c:Ch (· = 3) ρ ρ' W V)
  (hr:RR V ρ' 3 9 1 v' (st.vars.length+i+1) (strs (st.vars++names.take i)++[.string x])) (hf:∀ q,W.heap.size≤q→ρ' q=0∨ρ' q=3) :
  BdV w ρ0 fb st names sc v su sn sb sa so us ns bs os na no (i+1) j k ρ' v' lv vo (V.setCell ⟨fb,0,none⟩ v'):=by
 have hil:=(zq8.1 hx).1
 have hl:(st.vars++names.take i).length=st.vars.length+i:=by rw [zr2,List.length_take];omega
 have f2:=h.fl.putVars (v':=v') (x:=x) c (by show RR V ρ' 3 9 1 v' ((st.vars++names.take i).length+1) _;rw [hl];exact hr)
 have c2:Ch (fun q=>q=3∨q=2) ρ ρ' W (V.setCell ⟨fb,0,none⟩ v'):=ch_put c h.fl.lt h.fl.role
 refine⟨?_,h.ch.trans (c2.mono fun r hr=>by unfold BM9 BM;omega),h.row.keep c2 (by decide),ScR.keep c2 (by decide) h.scp,h.nms.keep c2 (by decide),fun q hq=>?_⟩
 ·have e:(st.vars++names.take i)++[x]=st.vars++names.take (i+1):=by rw [List.take_add_one,hx,List.append_assoc];rfl
  rw [← e];exact f2
 by_cases hlt:q<W.heap.size
 ·exact h.nine q ((c.role q hlt).symm.trans hq)
 exact zr5 h.ch.size (by omega)
theorem BdV.growB (h:BdV w ρ0 fb st names sc v su sn sb sa so us ns bs os na no i j k ρ sv lv vo W) {V:World} {ρ':Nat→Nat}{v':Value}(c:Ch (· = 9) ρ ρ' W V)
  (hr:RR V ρ' 9 3 1 v' (j+1) (nats (List.range' st.vars.length j)++[.int .i64 ((st.vars.length+j:Nat):Int)])) :
  BdV w ρ0 fb st names sc v su sn sb sa so us ns bs os na no i (j+1) k ρ' sv v' vo V:=by
 refine⟨h.fl.keep9 c,h.ch.trans (c.mono fun r hr => .inr hr),?_,ScR.keep c (by decide) h.scp,h.nms.keep c (by decide),fun q hq=>?_⟩
 ·have e:List.range' st.vars.length (j+1)=List.range' st.vars.length j++[st.vars.length+j]:=by rw [List.range'_concat];simp
  rw [e,nats_append];exact hr
 by_cases hlt:q<W.heap.size
 ·exact h.nine q ((c.role q hlt).symm.trans hq)
 exact zr5 h.ch.size (by omega)
theorem BdV.growC (h:BdV w ρ0 fb st names sc v su sn sb sa so us ns bs os na no i j k ρ sv lv vo W) {x:Nm}(hx:names[k]?=some x) {V:World}{b:Nat}(hb:Below W.heap.size W V) (ho:V.heap[b]?=some (.cells #[.string x,.int .i64 ((st.vars.length+k:Nat):Int),vo] 150 (0,0))) (hbl:W.heap.size≤b) :
  BdV w ρ0 fb st names sc v su sn sb sa so us ns bs os na no i j (k+1) ρ sv lv (.pointer (some ⟨b,0,none⟩)) V:=by
 obtain⟨h1,h2,h3,h4,h5,h6⟩:=h.below hb
 refine⟨h1,h2,h3,?_,h5,h6⟩
 rw [scope_take _ _ hx]
 exact⟨b,vo,rfl,ho,h.rho b hbl,h4⟩
end
end
section
open Go.RowKit RG Go.Maps RF
theorem bLess_eq:∀ (x y:List UInt8),Op.bytesLess x y=decide (x<y)
 | [],[]=>by simp [Op.bytesLess]
 | _ :: _,[]=>by simp [Op.bytesLess]
 | [],_ :: _=>by simp [Op.bytesLess]
 | a :: x,b :: y=>by
  rw [Op.bytesLess,bLess_eq x y]
  simp only [List.cons_lt_cons_iff]
  by_cases h1:a<b<;>by_cases h2:a=b<;>by_cases h3:x<y<;>simp [h1,h2,h3]
def leN (a b:Nm):Bool:=Op.bytesLess a.toList b.toList||a.toList==b.toList
theorem leN_iff {a b:Nm}:leN a b=true↔a.toList≤b.toList:=by
 unfold leN
 rw [bLess_eq,Bool.or_eq_true,decide_eq_true_eq,beq_iff_eq,List.le_iff_lt_or_eq]
theorem leN_trans (a b c:Nm) (h1:leN a b=true) (h2:leN b c=true):leN a c=true:=leN_iff.2 (List.le_trans (leN_iff.1 h1) (leN_iff.1 h2))
theorem leN_total (a b:Nm):(leN a b||leN b a)=true:=by
 rw [Bool.or_eq_true,leN_iff,leN_iff];exact List.le_total _ _
theorem toList_inj {a b:Nm}(h:a.toList=b.toList):a=b:=by
 rw [Lib.toList_data,Lib.toList_data] at h
 have:a.data=b.data:=Array.toList_inj.1 h
 cases a;cases b;simp at this;rw [this]
theorem leN_anti {a b:Nm}(h1:leN a b=true) (h2:leN b a=true):a=b:=toList_inj (List.le_antisymm (leN_iff.1 h1) (leN_iff.1 h2))
theorem sorted_nodup:∀ {l:List Nm},l.Pairwise (fun a b=>leN a b=true)→(∀ (i:Nat) (a b:Nm),l[i]?=some a→l[i+1]?=some b→b≠a)→l.Nodup
 | [],_,_=>List.nodup_nil
 | x :: l,hp,hn=>by
  rw [List.pairwise_cons] at hp
  rw [List.nodup_cons]
  refine⟨fun hm=>?_,sorted_nodup hp.2 fun i a b h1 h2=>hn (i+1) a b (by rw [List.getElem?_cons_succ];exact h1) (by rw [List.getElem?_cons_succ];exact h2)⟩
  cases l with
  | nil=>cases hm
  | cons y l =>
   have hxy:y≠x:=hn 0 x y rfl rfl
   have h1:=hp.1 y zr7
   rcases List.mem_cons.1 hm with e | hm
   ·exact hxy e.symm
   have h2:=(List.pairwise_cons.1 hp.2).1 x hm
   exact hxy (leN_anti h2 h1)
def StC (w:World) (v:Value) (l:List Nm):Prop :=
 ∃ (ad:Option Addr) (c:Nat),v = .slice ad l.length c∧l.length≤c∧c≤maxLen∧(0<l.length→∃ g o,ad=some ⟨g,o,none⟩∧∀ (i:Nat) x,l[i]?=some x→w.cell? ⟨g,o+i,none⟩=some (.string x))
theorem StC.kept {w w':World}{v:Value}{l:List Nm}(h:StC w v l) (hb:Kept w w'):StC w' v l:=by
 obtain⟨ad,c,h1,h2,h3,h4⟩:=h
 exact⟨ad,c,h1,h2,h3,fun h0=>by obtain⟨g,o,e,hat⟩:=h4 h0;exact⟨g,o,e,fun i x hi=>hb _ _ (hat i x hi)⟩⟩
theorem StC.read {w:World}{ad:Option Addr}{n c:Nat}{l:List Nm}(h:StC w (.slice ad n c) l) (hn:n=l.length) {k:Nat}(hk:k<n) :
  ∃ g o x,ad=some ⟨g,o,none⟩∧l[k]?=some x∧w.cell? ⟨g,o+k,none⟩=some (.string x):=by
 obtain⟨ad',c',e,_,_,hat⟩:=h
 simp only [Value.slice.injEq] at e
 obtain⟨g,o,e2,hat⟩:=hat (by omega)
 obtain⟨x,hx⟩:∃ x,l[k]?=some x:=⟨_,zq9 (by omega)⟩
 exact⟨g,o,x,by rw [e.1,e2],hx,hat k _ hx⟩
theorem StC.of_own {w:World}{base:Nat}{v:Value}{l:List Nm}(h:w.ownsRow base 9 1 v l.length (strs l)):StC w v l:=by
 obtain⟨h1,h2⟩:=id h
 rcases h2 with ⟨rfl,h0⟩|⟨g,cap,cur,rfl,hb,hg,k1,k2,k3,k4⟩
 ·exact⟨none,0,by rw [h0],by omega,zv3 _,fun h=>by omega⟩
 refine⟨some ⟨g,0,none⟩,cap,rfl,k1,k2,fun h0=>⟨g,0,rfl,fun i x hi=>?_⟩⟩
 have hl:=(zq8.1 hi).1
 rw [Nat.zero_add,World.ownsRow.cellAt h i (by omega)];exact strs_at hi
theorem Tryz.info9v:(Tryz.prog.info? 9).map (fun i=>(i.zero,i.size,i.bytes))=some (some (.string ⟨#[]⟩),1,16):=by kernel_rfl
theorem owns_keep2 {w w':World}{base e size n:Nat}{v:Value}{xs:List Value}(h:w.ownsRow base e size v n xs) (hk:∀ k,v.ownBlock=some k→w'.heap[k]?=w.heap[k]?):w'.ownsRow base e size v n xs:=by
 obtain⟨h1,h2⟩:=h
 rcases h2 with h2 | ⟨g,cap,cur,rfl,hb,hg,rest⟩
 ·exact⟨h1,.inl h2⟩
 exact⟨h1,.inr ⟨g,cap,cur,rfl,hb,(hk g rfl).trans hg,rest⟩⟩
def SoP (w:World) (l:List Nm) (e:Ending) (w':World):Prop:=∃ v l',e = .returned v∧StC w' v l'∧l'.Perm l∧l'.Pairwise (fun a b=>leN a b=true)∧Below w.heap.size w w'
theorem merge_nil (a:List Nm):a.merge [] leN=a:=by cases a<;>simp [List.merge]
theorem nil_merge (b:List Nm):([]:List Nm).merge b leN=b:=by cases b<;>simp [List.merge]
theorem mg_left {a b:List Nm}{i k:Nat}{x:Nm}(hx:a[i]?=some x) (h:b.length≤k∨∃ y,b[k]?=some y∧leN x y=true):(a.drop i).merge (b.drop k) leN=x :: (a.drop (i+1)).merge (b.drop k) leN:=by
 have hil:=(zq8.1 hx).1
 have e:a.drop i=x :: a.drop (i+1):=by
  rw [List.drop_eq_getElem_cons hil];congr 1;rw [zq9 hil,zt3] at hx;exact hx
 rcases h with h | ⟨y,hy,hle⟩
 ·rw [List.drop_of_length_le h,merge_nil,merge_nil,e]
 have hkl:=(zq8.1 hy).1
 have e2:b.drop k=y :: b.drop (k+1):=by
  rw [List.drop_eq_getElem_cons hkl];congr 1;rw [zq9 hkl,zt3] at hy;exact hy
 rw [e,e2,List.cons_merge_cons,if_pos hle]
theorem mg_right {a b:List Nm}{i k:Nat}{y:Nm}(hy:b[k]?=some y) (h:a.length≤i∨∃ x,a[i]?=some x∧leN x y=false):(a.drop i).merge (b.drop k) leN=y :: (a.drop i).merge (b.drop (k+1)) leN:=by
 have hkl:=(zq8.1 hy).1
 have e2:b.drop k=y :: b.drop (k+1):=by
  rw [List.drop_eq_getElem_cons hkl];congr 1;rw [zq9 hkl,zt3] at hy;exact hy
 rcases h with h | ⟨x,hx,hle⟩
 ·rw [List.drop_of_length_le h,nil_merge,nil_merge,e2]
 have hil:=(zq8.1 hx).1
 have e:a.drop i=x :: a.drop (i+1):=by
  rw [List.drop_eq_getElem_cons hil];congr 1;rw [zq9 hil,zt3] at hx;exact hx
 rw [e,e2,List.cons_merge_cons,if_neg (by rw [hle];simp)]
theorem sort_any:∀ (N:Nat) (l:List Nm),l.length≤N→l.length≤400000→∀ {w:World}{v:Value},StC w v l→Calls Tryz.prog 53 #[v] w (SoP w l):=by
 intro N
 induction N with
 | zero =>
  intro l hN _ w v h
  have HV:=zh h
  obtain⟨ad,c,rfl,-⟩:=h
  have h0:l.length=0:=by omega
  have HV2:Hid (StC w (.slice ad 0 c) l):=by have:=HV.out;rw [h0] at this;exact this
  have PW:Hid (l.Pairwise (fun a b=>leN a b=true)):=by rw [List.eq_nil_of_length_eq_zero h0];exact List.Pairwise.nil
  rw [h0]
  clear HV hN h0
  go_enter Tryz.func53,Tryz.ntmps53
  go_wp2_with fail
  go_ret
  exact⟨_,l,rfl,HV2.out,List.Perm.refl _,PW.out,zs9 _ _⟩
 | succ N ih =>
  intro l hN hL w v h
  have IH:=zh ih
  have HV:=zh h
  obtain⟨ad,c,rfl,hc1,hc2,hat⟩:=h
  obtain⟨n,hn⟩:∃ n,n=l.length:=⟨_,rfl⟩
  rw [← hn] at HV hc1 ⊢
  have HN:=zh hn
  have hnz:(n:Int)≤400000:=by omega
  by_cases h2:n<2
  ·have d1:decide ((n:Int)<2)=true:=by simp;omega
   have PW:Hid (l.Pairwise (fun a b=>leN a b=true)):=by
    match l,hn with
    | [],_=>exact List.Pairwise.nil
    | [x],_=>exact List.pairwise_singleton _ _
    | x :: y :: r,hn=>simp at hn;omega
   clear ih hn hN hL hc1 hc2 hat h2
   go_enter Tryz.func53,Tryz.ntmps53
   go_wp2_with fail
   go_ret
   exact⟨_,l,rfl,HV.out,List.Perm.refl _,PW.out,zs9 _ _⟩
  have d1:decide ((n:Int)<2)=false:=by simp;omega
  obtain⟨g,o,rfl,hat2⟩:=hat (by omega)
  have hn0:(0:Int)≤n:=by omega
  have hq:(n:Int).tdiv 2=((n / 2:Nat):Int):=by rw [Int.tdiv_eq_ediv_of_nonneg hn0];omega
  have hm0:(0:Int)≤(n / 2):=by omega
  have hmn:((n / 2:Nat):Int)≤n:=by omega
  have hmc:((n / 2:Nat):Int)≤c:=by omega
  have hnc:(n:Int)≤c:=by omega
  have hcz:(c:Int)≤9223372036854775807:=by simp only [maxLen] at hc2;omega
  have hm1:(n / 2)<n:=by omega
  have hm2:0<(n / 2):=by omega
  have hmn':(n / 2)≤n:=by omega
  have hmc':(n / 2)≤c:=by omega
  have S1:Hid (StC w (.slice (some ⟨g,o,none⟩) (n / 2) c) (l.take (n / 2))):=by
   have e:(l.take (n / 2)).length=(n / 2):=by rw [List.length_take];omega
   exact⟨_,c,by rw [e],by omega,hc2,fun _=>⟨g,o,rfl,fun i x hi=>by
    have hil:=(zq8.1 hi).1
    rw [e] at hil
    rw [List.getElem?_take_of_lt hil] at hi
    exact hat2 i x hi⟩⟩
  have S2:Hid (StC w (.slice (some ⟨g,o+(n / 2),none⟩) (n - (n / 2)) (c - (n / 2))) (l.drop (n / 2))):=by
   have e:(l.drop (n / 2)).length=n - (n / 2):=by rw [List.length_drop];omega
   exact⟨_,c - (n / 2),by rw [e],by omega,by omega,fun _=>⟨g,o+(n / 2),rfl,fun i x hi=>by
    rw [List.getElem?_drop] at hi
    rw [Nat.add_assoc]
    exact hat2 ((n / 2)+i) x hi⟩⟩
  have C1:=zh (IH.out (l.take (n / 2)) (by rw [List.length_take];omega) (by rw [List.length_take];omega) S1.out)
  have L2:Hid ((l.drop (n / 2)).length≤N∧(l.drop (n / 2)).length≤400000):=by show _∧_;rw [List.length_drop];omega
  clear ih hn hN hL hc1 hc2 hat hat2 h2
  go_enter Tryz.func53,Tryz.ntmps53
  go_wp2_with fail
  refine C1.out.mono ?_
  rintro en w1 ⟨v1,a,rfl,ha1,ha2,ha3,hb1⟩
  have A1:=zh ha1
  have A2:=zh ha2
  have A3:=zh ha3
  have B1:=zh hb1
  have C2:=zh (IH.out (l.drop (n / 2)) L2.out.1 L2.out.2 (S2.out.kept (zd hb1)))
  obtain⟨ada,ca,rfl,-⟩:=ha1
  clear ha2 ha3 hb1 S1 S2 C1
  go_wp2_with fail
  refine C2.out.mono ?_
  rintro en w2 ⟨v2,b,rfl,hb1,hb2,hb3,hbw⟩
  have AA:Hid (StC w2 (.slice ada a.length ca) a):=A1.out.kept (zd hbw)
  have BB:=zh hb1
  have PM:Hid ((a.merge b leN).Perm l):=by
   refine(List.merge_perm_append leN).trans ((A2.out.append hb2).trans ?_)
   rw [List.take_append_drop]
  have PW:Hid ((a.merge b leN).Pairwise (fun a b=>leN a b=true)):=List.pairwise_merge leN_trans leN_total _ _ A3.out hb3
  have B2:Hid (Below w.heap.size w w2):=B1.out.trans (hbw.mono B1.out.size)
  have LA:Hid (a.length+b.length=n):=by
   have h1:=A2.out.length_eq
   have h2:=hb2.length_eq
   rw [List.length_take] at h1
   rw [List.length_drop] at h2
   have:=HN.out
   show _=_;omega
  obtain⟨adb,cb,rfl,-⟩:=hb1
  obtain⟨na,hna⟩:∃ n,n=a.length:=⟨_,rfl⟩
  obtain⟨nb,hnb⟩:∃ n,n=b.length:=⟨_,rfl⟩
  rw [← hna] at AA LA ⊢
  rw [← hnb] at BB LA ⊢
  have HNA:=zh hna
  have HNB:=zh hnb
  have hnaz:(na:Int)≤400000:=by have:=LA.out;omega
  have hnbz:(nb:Int)≤400000:=by have:=LA.out;omega
  obtain⟨R,hR⟩:∃ R,R=a.merge b leN:=⟨_,rfl⟩
  rw [← hR] at PM PW
  have HR:=zh hR
  obtain⟨i9,p1,p2,p3,p4⟩:=info_parts Tryz.info9v
  have HI:=zh (And.intro p1 (And.intro p2 (And.intro p3 p4)))
  clear hb2 hb3 hbw A1 A2 A3 B1 C2 hna hnb hR p1 p2 p3 p4 L2 IH
  go_wp2_with fail
  go_loopw [5,6,7] (fun vo iv kv wr=>∃ (i k:Nat) (out:List Nm),i≤na∧k≤nb∧iv = .int .i64 i∧kv = .int .i64 k∧out.length=i+k∧wr.ownsRow w2.heap.size 9 1 vo out.length (strs out)∧out++(a.drop i).merge (b.drop k) leN=R∧Below w2.heap.size w2 wr) (fun _ iv kv _=>na+nb - ((intOf iv).toNat+(intOf kv).toNat))
  case atStart=>exact⟨0,0,[],zv3 _,zv3 _,rfl,rfl,rfl,World.ownsRow_nil _ _ _ _,by rw [HR.out];rfl,zs9 _ _⟩
  rename World=>W
  obtain⟨i,k,out,hi,hk,rfl,rfl,hol,hown,hmg,hbw⟩:=hrel
  have KI:=zh hi
  have KK:=zh hk
  have OL:=zh hol
  have OW:=zh hown
  have MG:=zh hmg
  have BW:=zh hbw
  have hi0:(0:Int)≤i:=by omega
  have hk0:(0:Int)≤k:=by omega
  have hiz:(i:Int)≤400000:=by omega
  have hkz:(k:Int)≤400000:=by omega
  obtain⟨ra,rc,hvo⟩:=own_sliceI hown
  obtain⟨nr,hnr⟩:∃ q,q=out.length:=⟨_,rfl⟩
  rw [← hnr] at hvo
  have HNR:=zh hnr
  subst hvo
  have NB:Hid (nr+1≤maxLen∧(nr+1)*16≤140737488355328):=by show _∧_;simp only [maxLen];omega
  clear hi hk hol hown hmg hbw hnr
  have left:Hid (∀ x,a[i]?=some x→(b.length≤k∨∃ y,b[k]?=some y∧leN x y=true)→(out++[x])++(a.drop (i+1)).merge (b.drop k) leN=R):=fun x hx h=>by
   rw [← MG.out,mg_left hx h];simp
  have right:Hid (∀ y,b[k]?=some y→(a.length≤i∨∃ x,a[i]?=some x∧leN x y=false)→(out++[y])++(a.drop i).merge (b.drop (k+1)) leN=R):=fun y hy h=>by
   rw [← MG.out,mg_right hy h];simp
  have grow:Hid (∀ (T:World) (x:Nm),Below W.heap.size W T→World.ownsRow (T.alloc (.cells #[.string x] 9)) w2.heap.size 9 1 (.slice ra nr rc) nr (strs out)):=fun T x hT=>by
   have h1:=OW.out
   rw [← HNR.out] at h1
   exact owns_keep2 h1 fun q hq=>(zt2 _ _ _ (zt5 (World.ownsRow.lt h1 q hq).2 hT.size)).trans (hT.block q (World.ownsRow.lt h1 q hq).2)
  by_cases hkn:k<nb
  ·have dk:((k:Int)==nb)=false:=by simp;omega
   have dk2:decide ((k:Int)<nb)=true:=by simp;omega
   have HKN:=zh hkn
   obtain⟨gb,ob,y,hadb,hy,yb⟩:=(BB.out.kept (zd BW.out)).read HNB.out hkn
   subst hadb
   have HY:=zh hy
   have hkzn:(k:Int)<nb:=by omega
   by_cases hin:i<na
   ·have di:decide ((i:Int)<na)=true:=by simp;omega
    have hizn:(i:Int)<na:=by omega
    have HIN:=zh hin
    obtain⟨ga,oa,x,hada,hx,xa⟩:=(AA.out.kept (zd BW.out)).read HNA.out hin
    subst hada
    have HX:=zh hx
    clear hkn hin hx hy
    cases hle:leN x y with
    | true =>
     have NXT:=zh (left.out x HX.out (.inr ⟨y,HY.out,hle⟩))
     have dl:(Op.bytesLess x.toList y.toList||x.toList==y.toList)=true:=hle
     clear hle
     go_wp2_with fail
     go_quiet (fail)
     obtain⟨WQ,hWQ⟩:∃ X,X=W.drewN nq:=⟨_,rfl⟩
     have BQ:Hid (Below W.heap.size W WQ):=by rw [hWQ];exact zj _ _ _
     have xc:WQ.cell? ⟨ga,oa+i,none⟩=some (.string x):=by rw [hWQ];exact xa
     try rw [← hWQ]
     have O5:=zh (grow.out WQ x BQ.out)
     have BA:Hid (Below w2.heap.size w2 (WQ.alloc (.cells #[.string x] 9))):=(BW.out.trans (BQ.out.mono BW.out.size)).alloc (BW.out.trans (BQ.out.mono BW.out.size)).size _
     clear hWQ xa
     go_wp2_with (at_builtin;refine wpList_append_own _ rfl _ _ 35 rfl w2.heap.size 9 i9 (.string ⟨#[]⟩) 1 16 Tryz.underlying35 HI.out.1 HI.out.2.1 HI.out.2.2.1 HI.out.2.2.2 rfl (by decide) (.slice ra nr rc) nr (strs out) rfl O5.out ⟨WQ.heap.size,0,none⟩ 1 1 [.string x] rfl rfl (news1 _ _ _) (fun u hu=>by simp at hu;rw [hu];rfl) NB.out.1 NB.out.2 BA.out.size ?_)
     intro vo' w6 hown hg6 _
     have B6:Hid (Below w2.heap.size w2 w6):=BA.out.grown hg6 BA.out.size (fun q e=>(O5.out.lt q e).1)
     have O6:Hid (w6.ownsRow w2.heap.size 9 1 vo' (out++[x]).length (strs (out++[x]))):=by
      show World.ownsRow _ _ _ _ _ _ _
      rw [zr2,List.length_singleton,← HNR.out]
      unfold strs at hown ⊢
      rw [List.map_append];exact hown
     clear hown hg6 O5 xc
     go_wp2_with fail
     go_roundw
     case rel=>exact⟨i+1,k,out++[x],HIN.out,KK.out,by go_num,by go_num,by rw [zr2,OL.out];simp;omega,O6.out,NXT.out,B6.out⟩
     case measure=>have h1:=KI.out;have h2:=KK.out;have h3:=HIN.out;simp [intOf];omega
    | false =>
     have NXT:=zh (right.out y HY.out (.inr ⟨x,HX.out,hle⟩))
     have dl:(Op.bytesLess x.toList y.toList||x.toList==y.toList)=false:=hle
     clear hle
     go_wp2_with fail
     go_quiet (fail)
     obtain⟨WQ,hWQ⟩:∃ X,X=W.drewN nq:=⟨_,rfl⟩
     have BQ:Hid (Below W.heap.size W WQ):=by rw [hWQ];exact zj _ _ _
     have xc:WQ.cell? ⟨gb,ob+k,none⟩=some (.string y):=by rw [hWQ];exact yb
     try rw [← hWQ]
     have O5:=zh (grow.out WQ y BQ.out)
     have BA:Hid (Below w2.heap.size w2 (WQ.alloc (.cells #[.string y] 9))):=(BW.out.trans (BQ.out.mono BW.out.size)).alloc (BW.out.trans (BQ.out.mono BW.out.size)).size _
     clear hWQ yb
     go_wp2_with (at_builtin;refine wpList_append_own _ rfl _ _ 35 rfl w2.heap.size 9 i9 (.string ⟨#[]⟩) 1 16 Tryz.underlying35 HI.out.1 HI.out.2.1 HI.out.2.2.1 HI.out.2.2.2 rfl (by decide) (.slice ra nr rc) nr (strs out) rfl O5.out ⟨WQ.heap.size,0,none⟩ 1 1 [.string y] rfl rfl (news1 _ _ _) (fun u hu=>by simp at hu;rw [hu];rfl) NB.out.1 NB.out.2 BA.out.size ?_)
     intro vo' w6 hown hg6 _
     have B6:Hid (Below w2.heap.size w2 w6):=BA.out.grown hg6 BA.out.size (fun q e=>(O5.out.lt q e).1)
     have O6:Hid (w6.ownsRow w2.heap.size 9 1 vo' (out++[y]).length (strs (out++[y]))):=by
      show World.ownsRow _ _ _ _ _ _ _
      rw [zr2,List.length_singleton,← HNR.out]
      unfold strs at hown ⊢
      rw [List.map_append];exact hown
     clear hown hg6 O5 xc
     go_wp2_with fail
     go_roundw
     case rel=>exact⟨i,k+1,out++[y],KI.out,HKN.out,by go_num,by go_num,by rw [zr2,OL.out];simp;omega,O6.out,NXT.out,B6.out⟩
     case measure=>have h1:=KI.out;have h2:=KK.out;have h3:=HKN.out;simp [intOf];omega
   have di:decide ((i:Int)<na)=false:=by simp;omega
   have di3:(na:Int)≤i:=by omega
   have di4:decide (i<na)=false:=by simp;omega
   have NXT:=zh (right.out y HY.out (.inl (by have:=HNA.out;omega)))
   clear hkn hin hy
   go_wp2_with fail
   go_quiet (fail)
   obtain⟨WQ,hWQ⟩:∃ X,X=W.drewN nq:=⟨_,rfl⟩
   have BQ:Hid (Below W.heap.size W WQ):=by rw [hWQ];exact zj _ _ _
   have xc:WQ.cell? ⟨gb,ob+k,none⟩=some (.string y):=by rw [hWQ];exact yb
   try rw [← hWQ]
   have O5:=zh (grow.out WQ y BQ.out)
   have BA:Hid (Below w2.heap.size w2 (WQ.alloc (.cells #[.string y] 9))):=(BW.out.trans (BQ.out.mono BW.out.size)).alloc (BW.out.trans (BQ.out.mono BW.out.size)).size _
   clear hWQ yb
   go_wp2_with (at_builtin;refine wpList_append_own _ rfl _ _ 35 rfl w2.heap.size 9 i9 (.string ⟨#[]⟩) 1 16 Tryz.underlying35 HI.out.1 HI.out.2.1 HI.out.2.2.1 HI.out.2.2.2 rfl (by decide) (.slice ra nr rc) nr (strs out) rfl O5.out ⟨WQ.heap.size,0,none⟩ 1 1 [.string y] rfl rfl (news1 _ _ _) (fun u hu=>by simp at hu;rw [hu];rfl) NB.out.1 NB.out.2 BA.out.size ?_)
   intro vo' w6 hown hg6 _
   have B6:Hid (Below w2.heap.size w2 w6):=BA.out.grown hg6 BA.out.size (fun q e=>(O5.out.lt q e).1)
   have O6:Hid (w6.ownsRow w2.heap.size 9 1 vo' (out++[y]).length (strs (out++[y]))):=by
    show World.ownsRow _ _ _ _ _ _ _
    rw [zr2,List.length_singleton,← HNR.out]
    unfold strs at hown ⊢
    rw [List.map_append];exact hown
   clear hown hg6 O5 xc
   go_wp2_with fail
   go_roundw
   case rel=>exact⟨i,k+1,out++[y],KI.out,HKN.out,by go_num,by go_num,by rw [zr2,OL.out];simp;omega,O6.out,NXT.out,B6.out⟩
   case measure=>have h1:=KI.out;have h2:=KK.out;have h3:=HKN.out;simp [intOf];omega
  have dk:((k:Int)==nb)=true:=by have:=KK.out;simp;omega
  have dk2:decide ((k:Int)<nb)=false:=by simp;omega
  have dk3:(nb:Int)≤k:=by omega
  have dk4:decide (k<nb)=false:=by simp;omega
  by_cases hin:i<na
  ·have di:decide ((i:Int)<na)=true:=by simp;omega
   have hizn:(i:Int)<na:=by omega
   have HIN:=zh hin
   obtain⟨ga,oa,x,hada,hx,xa⟩:=(AA.out.kept (zd BW.out)).read HNA.out hin
   subst hada
   have HX:=zh hx
   have NXT:=zh (left.out x hx (.inl (by have:=HNB.out;omega)))
   clear hkn hin hx
   go_wp2_with fail
   go_quiet (fail)
   obtain⟨WQ,hWQ⟩:∃ X,X=W.drewN nq:=⟨_,rfl⟩
   have BQ:Hid (Below W.heap.size W WQ):=by rw [hWQ];exact zj _ _ _
   have xc:WQ.cell? ⟨ga,oa+i,none⟩=some (.string x):=by rw [hWQ];exact xa
   try rw [← hWQ]
   have O5:=zh (grow.out WQ x BQ.out)
   have BA:Hid (Below w2.heap.size w2 (WQ.alloc (.cells #[.string x] 9))):=(BW.out.trans (BQ.out.mono BW.out.size)).alloc (BW.out.trans (BQ.out.mono BW.out.size)).size _
   clear hWQ xa
   go_wp2_with (at_builtin;refine wpList_append_own _ rfl _ _ 35 rfl w2.heap.size 9 i9 (.string ⟨#[]⟩) 1 16 Tryz.underlying35 HI.out.1 HI.out.2.1 HI.out.2.2.1 HI.out.2.2.2 rfl (by decide) (.slice ra nr rc) nr (strs out) rfl O5.out ⟨WQ.heap.size,0,none⟩ 1 1 [.string x] rfl rfl (news1 _ _ _) (fun u hu=>by simp at hu;rw [hu];rfl) NB.out.1 NB.out.2 BA.out.size ?_)
   intro vo' w6 hown hg6 _
   have B6:Hid (Below w2.heap.size w2 w6):=BA.out.grown hg6 BA.out.size (fun q e=>(O5.out.lt q e).1)
   have O6:Hid (w6.ownsRow w2.heap.size 9 1 vo' (out++[x]).length (strs (out++[x]))):=by
    show World.ownsRow _ _ _ _ _ _ _
    rw [zr2,List.length_singleton,← HNR.out]
    unfold strs at hown ⊢
    rw [List.map_append];exact hown
   clear hown hg6 O5 xc
   go_wp2_with fail
   go_roundw
   case rel=>exact⟨i+1,k,out++[x],HIN.out,KK.out,by go_num,by go_num,by rw [zr2,OL.out];simp;omega,O6.out,NXT.out,B6.out⟩
   case measure=>have h1:=KI.out;have h2:=KK.out;have h3:=HIN.out;simp [intOf];omega
  have di:decide ((i:Int)<na)=false:=by simp;omega
  have di3:(na:Int)≤i:=by omega
  have di4:decide (i<na)=false:=by simp;omega
  have E:Hid (out=R):=by
   show _=_
   rw [← MG.out,List.drop_of_length_le (by have:=HNA.out;omega),List.drop_of_length_le (by have:=HNB.out;omega),merge_nil,List.append_nil]
  clear hkn hin
  go_wp2_with fail
  go_ret
  have h1:=OW.out
  exact⟨_,R,rfl,by rw [← E.out];exact StC.of_own (by rw [← HNR.out];rw [← HNR.out] at h1;exact h1),PM.out,PW.out,B2.out.trans (BW.out.mono B2.out.size)⟩
end
section
open Go.RowKit RG Go.Maps
def VarsAt (w:World) (v:Value) (l:List (Nm×Int)):Prop :=
 ∃ (ad:Option Addr) (c:Nat),v = .slice ad l.length c∧(0<l.length→∃ g o,ad=some ⟨g,o,none⟩∧∀ (i:Nat) m,l[i]?=some m→w.cell? ⟨g,o+i*2,none⟩=some (.string m.1)∧w.cell? ⟨g,o+i*2+1,none⟩=some (.int .i64 m.2))
theorem VarsAt.kept {w w':World}{v:Value}{l:List (Nm×Int)}(h:VarsAt w v l) (hk:Kept w w'):VarsAt w' v l:=by
 obtain⟨ad,c,e,h1⟩:=h
 exact⟨ad,c,e,fun h0=>by obtain⟨g,o,e2,hat⟩:=h1 h0;exact⟨g,o,e2,fun i m hi=>⟨hk _ _ (hat i m hi).1,hk _ _ (hat i m hi).2⟩⟩⟩
def regFind (l:List (Nm×Int)) (x:Nm):Option Int:=(l.find? fun p=>decide (p.1=x)).map (·.2)
def RgP (w:World) (r:Option Int) (e:Ending) (w':World):Prop:=Below w.heap.size w w'∧e = .returned (.tuple #[.int .i64 (r.getD 0),.bool r.isSome])
theorem bytes_beq (a b:Nm):(a.toList==b.toList)=decide (a=b):=by
 rw [Bool.eq_iff_iff,beq_iff_eq,decide_eq_true_eq]
 exact⟨fun h=>WideShapes.bytes_inj (by rw [Lib.toList_data,Lib.toList_data] at h;exact h),fun h=>by rw [h]⟩
theorem reg_any {w:World}{n0:Int}{v:Value}{l:List (Nm×Int)}(x:Nm) (h:VarsAt w v l) (hl:l.length≤9223372036854775807):Calls Tryz.prog 44 #[.agg #[.int .i64 n0,v],.string x] w (RgP w (regFind l x)):=by
 obtain⟨ad,c,rfl,hat⟩:=h
 have HAT:=zh hat
 obtain⟨n,hn⟩:∃ n,n=l.length:=⟨_,rfl⟩
 rw [← hn] at hl ⊢
 have HN:=zh hn
 have hnz:(n:Int)≤9223372036854775807:=by omega
 obtain⟨r,hr⟩:∃ r,r=regFind l x:=⟨_,rfl⟩
 rw [← hr]
 have HR:=zh hr
 clear hat hn hl hr
 go_enter Tryz.func44,Tryz.ntmps44
 go_wp2_with fail
 go_loopw [11] (fun iv wr=>∃ k:Nat,k≤n∧iv = .int .i64 k∧Below w.heap.size w wr∧w.heap.size<wr.heap.size∧r=regFind (l.drop k) x) (fun iv _=>n - (intOf iv).toNat)
 case atStart=>exact⟨0,zv3 _,rfl,(zs9 _ _).alloc (zr4 _) _,by simp,HR.out⟩
 obtain⟨k,hk,rfl,hb,hs,hq⟩:=hrel
 have HK:=zh hk
 have HB:=zh hb
 have HQ:=zh hq
 have HS:=zh hs
 clear hk hb hq hs
 by_cases hlt:k<n
 ·obtain⟨g,o,rfl,hat⟩:=HAT.out (by have:=HN.out;omega)
  obtain⟨⟨y,rg⟩,hx⟩:∃ m,l[k]?=some m:=⟨_,zq9 (by have:=HN.out;omega)⟩
  obtain⟨y0,y1⟩:=hat k _ hx
  have y0:=zd HB.out _ _ y0
  have y1:=zd HB.out _ _ y1
  simp only [] at y0 y1
  have HX:=zh hx
  have HLT:=zh hlt
  have hlz:(k:Int)<n:=by omega
  have VB:Hid (∀ o,Below w.heap.size w (wr.alloc o)∧w.heap.size<(wr.alloc o).heap.size):=fun o=>⟨HB.out.alloc HB.out.size _,by have:=HS.out;rw [World.size_alloc];omega⟩
  have DR:Hid (l.drop k=(y,rg) :: l.drop (k+1)):=by
   show _=_
   have hk:=(zq8.1 hx).1
   rw [zq9 hk,zt3] at hx
   rw [List.drop_eq_getElem_cons hk,hx]
  clear hat hx hlt
  by_cases hy:y=x
  ·have E2:Hid (r=some rg):=by show _=_;rw [HQ.out,DR.out];unfold regFind;rw [List.find?_cons_of_pos (by simp [hy])];rfl
   have d1:(y.toList==x.toList)=true:=by rw [bytes_beq];simp [hy]
   clear hy
   go_wp2_with fail
   go_ret2
   exact⟨(VB.out _).1,by rw [E2.out];rfl⟩
  have E2:Hid (r=regFind (l.drop (k+1)) x):=by show _=_;rw [HQ.out,DR.out];unfold regFind;rw [List.find?_cons_of_neg (by simp [hy])]
  have d1:(y.toList==x.toList)=false:=by rw [bytes_beq];simp [hy]
  clear hy
  go_wp2_with fail
  go_roundw
  case rel=>exact⟨k+1,HLT.out,by go_num,(VB.out _).1,(VB.out _).2,E2.out⟩
  case measure=>have:=HLT.out;simp [intOf];omega
 have hlz:(n:Int)≤k:=by omega
 have E2:Hid (r=none):=by
  show _=_
  have hkl:l.length≤k:=by have:=HN.out;omega
  rw [HQ.out,List.drop_of_length_le hkl]
  rfl
 clear hlt
 go_wp2_with fail
 go_ret2
 exact⟨HB.out,by rw [E2.out];rfl⟩
def StP (w:World) (b:Bool) (e:Ending) (w':World):Prop:=Below w.heap.size w w'∧e = .returned (.bool b)
theorem StrsAt.cells {w:World}{v:Value}{ns:List Nm}(h:StrsAt w v ns):∃ ad c,v = .slice ad ns.length c∧(0<ns.length→∃ g o,ad=some ⟨g,o,none⟩∧∀ (i:Nat) x,ns[i]?=some x→w.cell? ⟨g,o+i,none⟩=some (.string x)):=by
 obtain⟨-,ad,c,rfl,hat⟩:=h
 exact⟨ad,c,rfl,fun h0=>by obtain⟨g,o,e,h1⟩:=hat h0;exact⟨g,o,e,fun i x hi=>h1 i _ (strs_at hi)⟩⟩
theorem sameTexts_any {w:World}{v u:Value}{a b:List Nm}(ha:StrsAt w v a) (hb:StrsAt w u b) (hl:a.length≤1000000000000):Calls Tryz.prog 18 #[v,u] w (StP w (decide (a=b))):=by
 obtain⟨aa,ac,rfl,hat⟩:=ha.cells
 obtain⟨ba,bc,rfl,hbt⟩:=hb.cells
 have HAT:=zh hat
 have HBT:=zh hbt
 obtain⟨n,hn⟩:∃ n,n=a.length:=⟨_,rfl⟩
 obtain⟨m,hm⟩:∃ m,m=b.length:=⟨_,rfl⟩
 obtain⟨ans,hans⟩:∃ r,r=decide (a=b):=⟨_,rfl⟩
 rw [← hn] at hl ⊢
 rw [← hm,← hans]
 have HN:=zh hn
 have HM:=zh hm
 have HA:=zh hans
 have hnz:(n:Int)≤1000000000000:=by omega
 clear ha hb hat hbt hn hl hans hm
 by_cases hnm:n=m
 ·subst hnm
  have dn:((n:Int) != n)=false:=by simp
  go_enter Tryz.func18,Tryz.ntmps18
  go_wp2_with fail
  go_loopw [5] (fun iv wr=>∃ k:Nat,k≤n∧iv = .int .i64 k∧Below w.heap.size w wr∧a.take k=b.take k) (fun iv _=>n - (intOf iv).toNat)
  case atStart=>exact⟨0,zv3 _,rfl,zs9 _ _,rfl⟩
  obtain⟨k,hk,rfl,hb,hq⟩:=hrel
  have HK:=zh hk
  have HB:=zh hb
  have HQ:=zh hq
  clear hk hb hq
  by_cases hlt:k<n
  ·obtain⟨g,o,rfl,hat⟩:=HAT.out (by have:=HN.out;omega)
   obtain⟨g2,o2,rfl,hbt⟩:=HBT.out (by have:=HM.out;omega)
   obtain⟨x,hx⟩:∃ x,a[k]?=some x:=⟨_,zq9 (by have:=HN.out;omega)⟩
   obtain⟨y,hy⟩:∃ y,b[k]?=some y:=⟨_,zq9 (by have:=HM.out;omega)⟩
   have y0:=zd HB.out _ _ (hat k x hx)
   have y1:=zd HB.out _ _ (hbt k y hy)
   have HX:=zh hx
   have HY:=zh hy
   have HLT:=zh hlt
   have hlz:(k:Int)<n:=by omega
   have hk0:(0:Int)≤k:=by omega
   clear hat hbt hx hy hlt
   by_cases hxy:x=y
   ·have d1:(!x.toList==y.toList)=false:=by rw [bytes_beq];simp [hxy]
    have E2:Hid (a.take (k+1)=b.take (k+1)):=by show _=_;rw [List.take_add_one,List.take_add_one,HX.out,HY.out,HQ.out,hxy]
    clear hxy
    go_wp2_with fail
    go_quiet (fail)
    go_wp2_with fail
    go_roundw
    case rel=>exact⟨k+1,HLT.out,by go_num,HB.out.trans (zj _ _ _),E2.out⟩
    case measure=>have:=HLT.out;simp [intOf];omega
   have d1:(!x.toList==y.toList)=true:=by rw [bytes_beq];simp [hxy]
   have E2:Hid (ans=false):=by
    show _=_
    rw [HA.out,decide_eq_false_iff_not]
    intro e
    have h1:=HX.out
    rw [e,HY.out,zt3] at h1
    exact hxy h1.symm
   clear hxy
   go_wp2_with fail
   go_quiet (fail)
   go_wp2_with fail
   go_ret
   exact⟨HB.out.trans (zj _ _ _),by rw [E2.out];rfl⟩
  have hlz:(n:Int)≤k:=by omega
  have E2:Hid (ans=true):=by
   show _=_
   rw [HA.out,decide_eq_true_eq]
   have h1:=HQ.out
   rwa [zr3 (by have:=HN.out;omega),zr3 (by have:=HM.out;omega)] at h1
  clear hlt
  go_wp2_with fail
  go_ret
  exact⟨HB.out,by rw [E2.out];rfl⟩
 have dn:((n:Int) != m)=true:=by simp;omega
 have E2:Hid (ans=false):=by
  show _=_
  rw [HA.out,decide_eq_false_iff_not]
  intro e
  exact hnm (by rw [HN.out,HM.out,e])
 clear hnm
 go_enter Tryz.func18,Tryz.ntmps18
 go_wp2_with fail
 go_ret
 exact⟨zs9 _ _,by rw [E2.out];rfl⟩
end
end Go.Proofs.YtnkahlloahgifaaGreatDoor
