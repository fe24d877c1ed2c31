/- Part. -/
import Derived.Test.YtnkahlloahgifaaGreatDoorVLxG
import Derived.Test.YtnkahlloahgifaaGreatDoorVShelf
import Derived.Lib.ItoaLen
import Derived.Lib.SplitLaws
import Derived.Lib.AtoiErrMem
import Derived.Test.YtnkahlloahgifaaGreatDoorVLxL0
import Derived.RangeFuncSeq
import Derived.OwnWalkIn
import Derived.TacticsInMore
import Derived.LoopNIn
import Derived.LoopIn
import Derived.BigFrameIn
import Derived.Outline
import Derived.RangeFuncLeaves
import Derived.RangeFuncRecord
import Derived.RecoverIn
import Derived.RegionTactic
import Derived.RangeFuncBox
import Derived.RangeFuncIn
import Derived.Shelf.Abstract
import Derived.Maps.AppendAt
set_option linter.unusedSimpArgs false
set_option linter.unusedVariables false
namespace Go.Proofs.YtnkahlloahgifaaGreatDoor.Lx
open Go.RowKit
theorem below_more (w:World) (os:Array Obj) (B:Nat) (hB:B≤w.heap.size):Below B w (Go.Sort.grow w os) :=
 ⟨rfl,rfl,rfl,by show w.heap.size≤(w.heap++os).size;rw [Array.size_append];omega,fun k hk=>by
  show (w.heap++os)[k]?=w.heap[k]?
  rw [Array.getElem?_append_left (Nat.lt_of_lt_of_le hk hB)]⟩
set_option maxRecDepth 20000 in
theorem digits_any {w:World}(henv:Env w) (n:Int) (h0 : -9223372036854775808≤n) (h1:n≤9223372036854775807) :
  Calls Tryz.prog 163 #[.int .i64 n] w fun e w'=>e = .returned (.string (digS n))∧Below w.heap.size w w':=by
 obtain⟨m,hm⟩:=henv.max
 have IT:=Tryz.strconv_Itoa n h0 h1 w henv.tab
 have HM:=zh hm
 have HE:=zh henv
 have hl:=Lib.itoa_length_le n h0 h1
 have HL:Hid ((⟨(Lib.itoa n).toArray⟩:ByteArray).size≤21):=hl
 have HR:Hid ((⟨(Lib.replace (⟨(Lib.itoa n).toArray⟩:ByteArray).data.toList [45] [126] 1).toArray⟩:ByteArray)=digS n):=by
  show ByteArray.mk _=ByteArray.mk _
  rw [show (⟨(Lib.itoa n).toArray⟩:ByteArray).data.toList=Lib.itoa n from rfl,replace_itoa]
 clear hm henv h0 h1 hl
 obtain⟨tx,htx⟩:∃ t:ByteArray,t=⟨(Lib.itoa n).toArray⟩:=⟨_,rfl⟩
 rw [← htx] at IT HL HR
 clear htx
 go_enter Tryz.func163,Tryz.ntmps163
 go_wp2_with fail
 refine IT.mono ?_
 clear IT
 rintro e w1 ⟨rfl,k,os,rfl⟩
 have HB:Hid (Below w.heap.size w (Go.Sort.grow (w.drewN k) os)):=(below_drawn (Below.refl w.heap.size w) k).trans (below_more (w.drewN k) os _ (Nat.le_refl _))
 go_wp2_with fail
 obtain⟨W,hW⟩:∃ W,W=Go.Sort.grow (w.drewN k) os:=⟨_,rfl⟩
 rw [← hW] at HB ⊢
 clear hW
 have RP:=Tryz.strings_Replace tx ⟨#[45]⟩ ⟨#[126]⟩ 1 m W (by have:=HL.out;omega) (by rw [HB.out.cell (by show 0<_;have:=HE.out.size;omega)];exact HM.out) (by decide) (by
  have hc:=Lib.countB_le (⟨#[45]⟩:ByteArray) (by decide) tx.size tx (Nat.le_refl _)
  have:=HL.out
  have e1:(⟨#[126]⟩:ByteArray).size=1:=rfl
  rw [e1]
  omega)
 rw [show (⟨#[45]⟩:ByteArray).data.toList=[45] from rfl,show (⟨#[126]⟩:ByteArray).data.toList=[126] from rfl,HR.out] at RP
 refine RP.mono ?_
 clear RP
 rintro e w2 ⟨rfl,hb⟩
 go_wp2_with fail
 go_ret
 exact⟨rfl,HB.out.trans (hb.mono HB.out.size)⟩
theorem index_in (a:UInt8):∀ l:List UInt8,Lib.index l [a] = -1∨(0≤Lib.index l [a]∧Lib.index l [a]<l.length)
 | [] => .inl rfl
 | b :: l=>by
  have ih:=index_in a l
  unfold Lib.index
  split
  ·exact .inr ⟨by decide,by simp only [List.length_cons];omega⟩
  ·split
   ·exact .inl rfl
   ·rename_i h
    rcases ih with ih | ih
    ·rw [ih] at h;exact absurd rfl h
    ·exact .inr ⟨by omega,by simp;omega⟩
theorem replaceK_length (a b:UInt8):∀ (k:Nat) (s:List UInt8),(Lib.replaceK [a] [b] k s).length=s.length
 | 0,_=>rfl
 | k+1,s=>by
  unfold Lib.replaceK
  split
  ·rfl
  ·rename_i h
   rcases index_in a s with ih | ih
   ·rw [ih] at h;exact absurd rfl h
   ·simp only [List.length_append,replaceK_length a b k,List.length_take,List.length_drop,List.length_singleton]
    omega
theorem replace_length (a b:UInt8) (s:List UInt8):(Lib.replace s [a] [b] 1).length=s.length:=by
 unfold Lib.replace
 split
 ·rfl
 ·exact replaceK_length a b _ s
set_option maxHeartbeats 1000000 in
set_option maxRecDepth 20000 in
theorem number_law:NumLaw:=by
 intro w t henv ht
 obtain⟨m,hm⟩:=henv.max
 have HM:=zh hm
 have HE:=zh henv
 have HT:=zh ht
 clear hm henv ht
 have RP:=Tryz.strings_Replace t ⟨#[126]⟩ ⟨#[45]⟩ 1 m w (by have:=HT.out;omega) HM.out (by decide) (by
  have hc:=Lib.countB_le (⟨#[126]⟩:ByteArray) (by decide) t.size t (Nat.le_refl _)
  have:=HT.out
  have e1:(⟨#[45]⟩:ByteArray).size=1:=rfl
  rw [e1]
  omega)
 rw [show (⟨#[45]⟩:ByteArray).data.toList=[45] from rfl,show (⟨#[126]⟩:ByteArray).data.toList=[126] from rfl] at RP
 obtain⟨x,hx⟩:∃ x,x=Lib.replace t.data.toList [126] [45] 1:=⟨_,rfl⟩
 have HX:=zh hx
 rw [← hx] at RP
 clear hx
 go_enter Tryz.func158,Tryz.ntmps158
 go_wp2_with fail
 refine RP.mono ?_
 clear RP
 rintro e w1 ⟨rfl,hb1⟩
 have HB1:=zh hb1
 have HE1:Hid (Env w1):=HE.out.keep hb1 HE.out.size
 have HXS:Hid ((⟨x.toArray⟩:ByteArray).size≤400000):=by
  show x.length≤_
  rw [HX.out,replace_length]
  exact HT.out
 clear hb1
 go_wp2_with fail
 have BAD:Hid (LX.num (bts t)=none→∀ w',Below w.heap.size w w'→NumPost w t (.returned (.tuple #[.int .i64 0,.int .i64 13])) w'):=fun h w' hb=>by
  unfold NumPost
  rw [h]
  exact⟨rfl,hb⟩
 cases hv:LX.num (bts t) with
 | some v =>
  obtain⟨e1,e2⟩:=atoi_of_num hv
  obtain⟨h0,h1,-⟩:=num_some hv
  have HV:=zh hv
  rw [← HX.out] at e2
  have AT:=Tryz.strconv_Atoi_ok ⟨x.toArray⟩ (by have:=HXS.out;omega) v e2 w1
  have D:=fun (W:World) (h:Env W)=>digits_any h v h0 h1
  have HD:=zh D
  have HT2:=zh e1
  clear hv e1 e2 D h0 h1
  refine AT.mono ?_
  clear AT
  rintro e w2 ⟨rfl,hw2⟩
  have HB2:Hid (Below w1.heap.size w1 w2):=by
   rcases hw2 with rfl | ⟨u,rfl⟩
   ·exact Below.refl _ _
   ·exact Lib.bytesWorld_below _ _ _
  clear hw2
  go_wp2_with fail
  refine(HD.out w2 (HE1.out.keep HB2.out HE1.out.size)).mono ?_
  rintro e w3 ⟨rfl,hb3⟩
  rw [← HT2.out]
  have HB3:=zh hb3
  clear hb3
  go_wp2_with fail
  go_returns
  unfold NumPost
  rw [HV.out]
  exact⟨rfl,HB1.out.trans ((HB2.out.trans (HB3.out.mono HB2.out.size)).mono HB1.out.size)⟩
 | none =>
  have HV:=zh hv
  have NE:Hid (∀ v,-9223372036854775808≤v→v≤9223372036854775807→digS v≠t):=ne_of_num hv
  clear hv
  cases ha:Lib.atoiAll x with
  | ok v =>
   obtain⟨h0,h1⟩:=atoi_range ha
   have AT:=Tryz.strconv_Atoi_ok ⟨x.toArray⟩ (by have:=HXS.out;omega) v ha w1
   have D:=fun (W:World) (h:Env W)=>digits_any h v h0 h1
   have HD:=zh D
   have hne:((digS v).toList==t.toList)=false:=beq_false_of_ne fun e=>NE.out v h0 h1 (by rw [ByteArray.toList_eq,ByteArray.toList_eq] at e;exact bts_inj (by unfold bts;rw [e]))
   clear ha D h0 h1
   refine AT.mono ?_
   clear AT
   rintro e w2 ⟨rfl,hw2⟩
   have HB2:Hid (Below w1.heap.size w1 w2):=by
    rcases hw2 with rfl | ⟨u,rfl⟩
    ·exact Below.refl _ _
    ·exact Lib.bytesWorld_below _ _ _
   clear hw2
   go_wp2_with fail
   refine(HD.out w2 (HE1.out.keep HB2.out HE1.out.size)).mono ?_
   rintro e w3 ⟨rfl,hb3⟩
   have HB3:=zh hb3
   clear hb3
   go_wp2_with fail
   go_returns
   exact BAD.out HV.out _ (HB1.out.trans ((HB2.out.trans (HB3.out.mono HB2.out.size)).mono HB1.out.size))
  | range =>
   obtain⟨tp,p,hvar⟩:=HE1.out.rng
   have AT:=Tryz.strconv_Atoi_range ⟨x.toArray⟩ (by have:=HXS.out;omega) ha _ w1 hvar (.inr ⟨tp,p,rfl⟩)
   clear ha hvar
   refine AT.mono ?_
   clear AT
   rintro e w2 ⟨N,rfl,-,-,hb2⟩
   have HB2:=zh hb2
   clear hb2
   go_wp2_with fail
   go_returns
   exact BAD.out HV.out _ (HB1.out.trans ((HB2.out).mono HB1.out.size))
  | _ =>
   obtain⟨tp,p,hvar⟩:=HE1.out.syn
   have AT:=Tryz.strconv_Atoi_syntax ⟨x.toArray⟩ (by have:=HXS.out;omega) (by rw [ha]<;>rfl) _ w1 hvar (.inr ⟨tp,p,rfl⟩)
   clear ha hvar
   refine AT.mono ?_
   clear AT
   rintro e w2 ⟨N,rfl,-,-,hb2⟩
   have HB2:=zh hb2
   clear hb2
   go_wp2_with fail
   go_returns
   exact BAD.out HV.out _ (HB1.out.trans ((HB2.out).mono HB1.out.size))
end Go.Proofs.YtnkahlloahgifaaGreatDoor.Lx

namespace Go.Proofs.YtnkahlloahgifaaGreatDoor.Lx
open Go.RowKit
def APost (n0:Nat) (w:World) (b mb ib:Nat) (s:ByteArray) (j:Nat) (cs:List (Nat×Nat)) (e:Ending) (w':World):Prop :=
 (∃ p er:Nat,e=thrown p er∧LX.sc (bts s) j = .bad p er∧Kt n0 w w') ∨
 (∃ n cv' cs',e = .returned (.tuple #[])∧It n0 w' b mb ib s n cv' (cs++cs')∧Kt n0 w w'∧LX.sc (bts s) j=(LX.sc (bts s) n).app [] cs'∧j≤n∧n≤s.size∧(cs++cs').length≤n ∧
  (n<s.size→LX.space ((bts s).getD n 0)=false∧LX.opens ((bts s).drop n)=false))
theorem pass_it {n0:Nat}{w:World}{b mb ib j:Nat}{s:ByteArray}{cv:Value}{cs:List (Nat×Nat)}(h:It n0 w b mb ib s j cv cs) (hl:cs.length≤j) :
  Calls Tryz.prog 142 #[.pointer (some ⟨b,0,none⟩)] w (APost n0 w b mb ib s j cs):=by
 refine(pass_any h.sc h.cm hl).mono ?_
 have hj:j≤(bts s).length:=by rw [bts_length];exact h.sc.2.1
 have hp:=LX.sc_pass (bts s) (s.size+1) j hj (by rw [bts_length];omega)
 intro e w' hq
 rcases hr:LX.passN (s.size+1) ((bts s).drop j) j with ⟨n,cs'⟩|⟨p,er⟩
 case bad =>
  rw [hr] at hp hq
  obtain⟨rfl,cv',hf⟩:=hq
  exact .inl ⟨p,er,rfl,hp,hf.kt h.sc h.cm h.hb h.hcv⟩
 case «to» =>
  rw [hr] at hp hq
  obtain⟨rfl,cv',hs,hc,hf⟩:=hq
  obtain⟨h1,h2,h3,h4,h5⟩:=hp
  rw [bts_length] at h3 h5
  exact .inr ⟨n,cv',cs',rfl,h.fr hf hs hc,hf.kt h.sc h.cm h.hb h.hcv,h1,h2,h3,by rw [List.length_append];omega,h5⟩
def IPost (n0:Nat) (J:List LX.Tok→World→Prop) (b mb ib:Nat) (s:ByteArray) (e:Ending) (w':World):Prop :=
 match LX.scan (bts s) with
 | .ok ts cs=>e = .returned (.tuple #[])∧J ts w'∧∃ i cv,It n0 w' b mb ib s i cv cs
 | .bad p er=>e=thrown p er∧∃ ts,J ts w'
set_option maxHeartbeats 1000000 in
set_option maxRecDepth 20000 in
theorem toks_in {n0:Nat}{w:World}{b mb ib:Nat}{s:ByteArray}{cv:Value}(n l:Nat) (J:List LX.Tok→World→Prop)
  (hJ:∀ ts W W',J ts W→Kt n0 W W'→J ts W')
  (hY:∀ (ts:List LX.Tok) (k:Nat) (v:Int) (p:Nat) (tx:ByteArray) (W:World),J ts W→ts.length<s.size→YieldAt Fence.wide n Tryz.prog l #[tokV k v tx p] W fun e W'=>e = .returned (.bool true)∧J (ts++[⟨k,v,bts tx,p⟩]) W'∧Kb n0 W W')
  (h:It n0 w b mb ib s 0 cv []) (h0:J [] w) :
  Calls Tryz.prog 141 #[.func (.yield l) #[] #[],.pointer (some ⟨ib,0,none⟩)] w (IPost n0 J b mb ib s):=by
 have c0:w.cell? ⟨ib,0,none⟩=some (.pointer (some ⟨b,0,none⟩)):=by rw [cell_of_row _ _ 0 _ _ _ h.box];rfl
 have PA:=zh (pass_it h (Nat.le_refl _))
 have HJ:=zh hJ
 have HY:=zh hY
 have H0:=zh h0
 have HI:=zh h
 have HZ:=zh h.sc.2.2
 clear hJ hY h0 h
 go_enter Tryz.func141,Tryz.ntmps141
 go_wp2_with fail
 refine PA.out.mono ?_
 clear PA c0
 rintro e w1 (⟨p,er,rfl,hb,hk⟩|⟨n1,cv1,cs1,rfl,hi1,hk1,hs1,hj1,hn1,hc1,hp1⟩)
 ·unfold thrown
  have HB:=zh hb
  have HK:=zh hk
  clear hb hk
  go_wp2_with fail
  refine⟨rfl,?_⟩
  unfold IPost
  rw [LX.scan_sc,HB.out]
  exact⟨rfl,[],HJ.out _ _ _ H0.out HK.out⟩
 ·have K1:=zh hi1
  have K2:=zh hk1
  have K3:=zh hs1
  have K4:=zh (And.intro hn1 hc1)
  have K5:=zh hp1
  clear hi1 hk1 hs1 hj1 hn1 hc1 hp1
  go_wp2_with fail
  go_loopg [3] (s.size - n1) (fun gk v wr=>∃ (j:Nat) (ts:List LX.Tok) (cs:List (Nat×Nat)) (cv':Value),j≤s.size∧gk=s.size - j∧It n0 wr b mb ib s j cv' cs∧J ts wr∧ts.length≤j∧cs.length≤j ∧
   (j<s.size→LX.space ((bts s).getD j 0)=false∧LX.opens ((bts s).drop j)=false)∧LX.sc (bts s) 0=(LX.sc (bts s) j).app ts cs)
  case atStart=>exact⟨n1,[],cs1,cv1,K4.out.1,rfl,K1.out,HJ.out _ _ _ H0.out K2.out,Nat.zero_le _,K4.out.2,K5.out,K3.out⟩
  case round =>
   obtain⟨j,ts,cs,cv',hjs,hgk,hit,hJt,htl,hcl,hsp,hsc⟩:=hrel
   obtain⟨e0,e1,elt,ele,esz⟩:=hit.sc.at'
   have ef:∀ q,wr.frozen? ⟨b,q,none⟩=false:=fun q=>frozen_of_row wr b q _ _ hit.sc.1
   have eb:wr.cell? ⟨ib,0,none⟩=some (.pointer (some ⟨b,0,none⟩)):=by rw [cell_of_row _ _ 0 _ _ _ hit.box];rfl
   have H1:=zh hit
   have H2:=zh hJt
   have H3:=zh (And.intro htl hcl)
   have H4:=zh hsp
   have H5:=zh hsc
   have H6:=zh hgk
   have hjz:(j:Int)≤400000:=by omega
   clear hit hJt htl hcl hsp hsc hgk ele esz
   by_cases hlt:j<s.size
   ·have hlz:(j:Int)<(s.size:Int):=by omega
    have HLT:=zh hlt
    clear hlt hjs
    go_wp2_with fail
    go_quiet (fail)
    go_wp2_with fail
    refine(token_any number_law (H1.out.drewN nq).sc (H1.out.drewN nq).env (H1.out.drewN nq).wd (H1.out.drewN nq).hmb HLT.out).mono ?_
    intro e w2 hq
    have hstep:=LX.sc_step (T:=bts s) (j:=j) (by rw [bts_length];exact HLT.out)
    rw [(H4.out HLT.out).1,if_neg (by decide),(H4.out HLT.out).2,if_neg (by decide)] at hstep
    rcases ht:LX.token ((bts s).drop j) with ⟨k,v,m⟩|⟨er⟩
    case bad =>
     rw [ht] at hq hstep
     obtain⟨rfl,hb⟩:=hq
     have G1:=zh hb
     have G2:=zh hstep
     clear hb hstep ht
     unfold thrown
     go_wp2_with fail
     refine⟨rfl,?_⟩
     unfold IPost
     rw [LX.scan_sc,H5.out,G2.out]
     exact⟨rfl,ts,HJ.out _ _ _ H2.out (Kt.of_below (below_of_drew G1.out))⟩
    case tok =>
     rw [ht] at hq hstep
     obtain⟨rfl,hb⟩:=hq
     have hm:=LX.token_len ht
     rw [List.length_drop,bts_length] at hm
     have G1:=zh hb
     have G2:=zh hstep
     have G3:=zh hm
     have hmz:(j:Int)+(m:Int)≤400000:=by have:=HZ.out;omega
     obtain⟨tx,htx⟩:∃ t,t=s.extract j (j+m):=⟨_,rfl⟩
     rw [← htx]
     have htl:tx.size=m:=by rw [htx,ByteArray.size_extract];omega
     have G4:=zh htx
     have G5:=zh htl
     clear hb hstep ht hm htx htl e0 e1 elt ef eb
     unfold tokV
     go_wp2_with fail
     obtain⟨z,hz⟩:∃ z,z=w2.heap.size:=⟨_,rfl⟩
     obtain⟨V,hV⟩:∃ V,V=w2.alloc (.cells #[.int .i64 k,.int .i64 v,.string tx,.int .i64 j] 154):=⟨_,rfl⟩
     rw [← hV,← hz]
     have I2:=(H1.out.drewN nq).below G1.out
     have BV:Below w2.heap.size w2 V:=by rw [hV];exact(Below.refl _ _).alloc (Nat.le_refl _) _
     have I3:=I2.below BV
     have KV:Hid (Kt n0 wr V):=(Kt.of_below (below_of_drew G1.out)).trans (Kt.of_below BV)
     have hVz:V.heap[z]?=some (.cells #[.int .i64 k,.int .i64 v,.string tx,.int .i64 j] 154 (0,0)):=by rw [hV,hz];exact heap_alloc_new w2 _
     have hne:z≠b:=by have:=(Array.getElem?_eq_some_iff.1 I2.sc.1).1;omega
     have v0:V.cell? ⟨b,0,none⟩=some (.string s):=I3.sc.at'.c0
     have v1:V.cell? ⟨b,1,none⟩=some (.int .i64 j):=I3.sc.at'.c1
     have vf:V.frozen? ⟨b,1,none⟩=false:=frozen_of_row V b 1 _ _ I3.sc.1
     have vb:V.cell? ⟨ib,0,none⟩=some (.pointer (some ⟨b,0,none⟩)):=by rw [cell_of_row _ _ 0 _ _ _ I3.box];rfl
     have z2:V.cell? ⟨z,2,none⟩=some (.string tx):=by rw [cell_of_row _ _ 2 _ _ _ hVz];rfl
     have hwr:IntKind.i64.wrap ((j:Int)+(tx.size:Int))=(j:Int)+(tx.size:Int):=wrap_in _ (by rw [G5.out];omega)
     have J1:=zh I3
     have J2:=zh hVz
     have J3:=zh hne
     clear hz hV I2 BV I3 hVz hne
     refine wp_region_still_tail 12 (by kernel_rfl) (by kernel_rfl) ?_
     simp only [List.take_succ_cons,List.take_zero,List.drop_succ_cons,List.drop_zero,World.drew_eq]
     iterate 12 still_step
     refine wpStill_nil ?_
     go_upto_region 5 with (fail)
     clear v0 v1 vf vb z2 hwr
     obtain⟨U,hU⟩:∃ U,U=(V.setCell ⟨b,1,none⟩ (.int .i64 ((j:Int)+(tx.size:Int)))).drew:=⟨_,rfl⟩
     rw [← hU]
     have MU:Mv V U b ((j+m:Nat):Int):=by
      have e:((j+m:Nat):Int)=(j:Int)+(tx.size:Int):=by rw [G5.out];push_cast;rfl
      rw [hU,e]
      have M0:=Mv.of_set V b ((j:Int)+(tx.size:Int))
      exact⟨M0.os,M0.tape,M0.output,M0.size,M0.block,M0.cell⟩
     have A1:=J1.out.adv MU (by have:=G3.out;have:=HLT.out;omega)
     have hJU:J ts U:=HJ.out _ _ _ H2.out (KV.out.trans A1.2)
     have z2:U.heap[z]?=some (.cells #[.int .i64 k,.int .i64 v,.string tx,.int .i64 j] 154 (0,0)):=(MU.block z J3.out).trans J2.out
     have z0:U.cell? ⟨z,0,none⟩=some (.int .i64 k):=by rw [cell_of_row _ _ 0 _ _ _ z2];rfl
     have z1:U.cell? ⟨z,1,none⟩=some (.int .i64 v):=by rw [cell_of_row _ _ 1 _ _ _ z2];rfl
     have z2':U.cell? ⟨z,2,none⟩=some (.string tx):=by rw [cell_of_row _ _ 2 _ _ _ z2];rfl
     have z3:U.cell? ⟨z,3,none⟩=some (.int .i64 j):=by rw [cell_of_row _ _ 3 _ _ _ z2];rfl
     obtain⟨fn,tmps,assign,body,hy,hR⟩:=HY.out ts k v j tx U hJU (by have:=H3.out.1;have:=HLT.out;omega)
     unfold tokV at hy
     have A2:=zh A1.1
     have A3:=zh hR
     clear A1 hJU z2 hU MU hR
     refine(wpIn_wide (n:=n+1)).1 ?_
     gi_wp2
     refine A3.out.mono ?_
     rintro e U' ⟨rfl,hJ',hk'⟩
     have B1:=A2.out.kb hk'
     have B2:=zh hJ'
     have B3:=pass_it B1 (Nat.le_trans H3.out.2 (Nat.le_add_right _ _))
     have vb:U'.cell? ⟨ib,0,none⟩=some (.pointer (some ⟨b,0,none⟩)):=by rw [cell_of_row _ _ 0 _ _ _ B1.box];rfl
     have B4:=zh B3
     clear B1 hJ' B3 hk' z0 z1 z2' z3 hy
     gi_wp2
     go_wp2_with fail
     have hjm:j+m≤s.size:=by have:=G3.out;have:=HLT.out;omega
     have hbt:bts tx=((bts s).drop j).take m:=by rw [G4.out,bts_extract,Nat.add_sub_cancel_left]
     have C1:Hid (LX.sc (bts s) 0=(LX.sc (bts s) (j+m)).app (ts++[⟨k,v,bts tx,j⟩]) cs):=by
      show _=_
      rw [H5.out,G2.out,LX.Res.app_app,hbt,List.append_nil]
     have C2:=zh hjm
     clear hjm hbt
     refine B4.out.mono ?_
     clear B4 vb
     rintro e w3 (⟨p,er,rfl,hb,hk⟩|⟨n2,cv2,cs2,rfl,hi2,hk2,hs2,hj2,hn2,hc2,hp2⟩)
     ·unfold thrown
      have HB:=zh hb
      have HK:=zh hk
      clear hb hk
      go_wp2_with fail
      refine⟨rfl,?_⟩
      unfold IPost
      rw [LX.scan_sc,C1.out,HB.out]
      exact⟨rfl,_,HJ.out _ _ _ B2.out HK.out⟩
     ·have K1':=zh hi2
      have K2':=zh hk2
      have K3':Hid (LX.sc (bts s) 0=(LX.sc (bts s) n2).app (ts++[⟨k,v,bts tx,j⟩]) (cs++cs2)):=by
       show _=_
       rw [C1.out,hs2,LX.Res.app_app,List.append_nil]
      have K4':=zh (And.intro hn2 hc2)
      have K5':=zh hp2
      have K6':=zh hj2
      clear hi2 hk2 hs2 hj2 hn2 hc2 hp2
      go_wp2_with fail
      go_roundg (s.size - n2)
      case measure=>have:=H6.out;have:=HLT.out;have:=G3.out;have:=K6'.out;have:=K4'.out;omega
      case rel =>
       exact⟨n2,_,_,cv2,K4'.out.1,rfl,K1'.out,HJ.out _ _ _ B2.out K2'.out,by have:=H3.out;have:=G3.out;have:=K6'.out;simp only [List.length_append,List.length_cons,List.length_nil];omega,K4'.out.2,K5'.out,K3'.out⟩
   ·have hlz:(s.size:Int)≤(j:Int):=by omega
    have HE:Hid (j=s.size):=by show _=_;omega
    clear hlt hjs
    go_wp2_with fail
    go_quiet (fail)
    go_wp2_with fail
    (try simp only [Exit.inBlock,Exit.then])
    refine bodyPost_end (results_none rfl _ _ _) rfl ?_
    unfold IPost
    rw [LX.scan_sc,H5.out,LX.sc_end (by rw [bts_length,HE.out];exact Nat.le_refl _)]
    simp only [LX.Res.app,List.append_nil]
    exact⟨trivial,HJ.out _ _ _ H2.out ((Kt.refl _ _).drewN _),j,cv',H1.out.drewN _⟩
end Go.Proofs.YtnkahlloahgifaaGreatDoor.Lx

namespace Go.Proofs.YtnkahlloahgifaaGreatDoor.Lx
open Go.RowKit
theorem tokens_any (w:World) (b:Nat):Calls Tryz.prog 139 #[.pointer (some ⟨b,0,none⟩)] w fun e w'=>e = .returned (.func (.func 141) #[] #[.pointer (some ⟨w.heap.size,0,none⟩)])∧w'=w.alloc (.cells #[.pointer (some ⟨b,0,none⟩)] 200):=by
 go_enter Tryz.func139,Tryz.ntmps139
 go_wp2
 go_ret
 exact⟨rfl,rfl⟩
theorem caught_idle (n lb wb:Nat) (w:World) :
  CallsDIn Fence.wide n Tryz.prog 138 #[.pointer (some ⟨lb,0,none⟩),.pointer (some ⟨wb,0,none⟩)] .returning w fun e u' w'=>e = .returned (.tuple #[])∧u' = .returning∧w'=w:=by
 refine callsDIn_of_wpSIn Tryz.func138 rfl (by trivial) fun c₀ cs hu=>?_
 apply wpSIn_seq
 apply wpSIn_region
 simp [wpOpsSIn,go_sem,recoverD,hu,Tryz.ntmps138,Exit.thenS]
 refine wpSIn_of_wpIn rfl (wpIn_wide.2 ?_)
 go_wp2
 cases c₀
 simp_all [bodyPostS,results,Tryz.results138]
structure Two (w w':World) (x y:Nat) (ox oy:Obj):Prop where
 os:w'.os=w.os
 tape:w'.tape=w.tape
 output:w'.output=w.output
 size:w.heap.size≤w'.heap.size
 hx:w'.heap[x]?=some ox
 hy:w'.heap[y]?=some oy
 block:∀ k,k<w.heap.size→k≠x→k≠y→w'.heap[k]?=w.heap[k]?
set_option maxHeartbeats 400000 in
set_option maxRecDepth 20000 in
theorem caught_thrown (n lb wb:Nat) (w:World) (i e:Int) (v x y:Value) (hl:w.heap[lb]?=some (.cells #[v] 201 (0,0))) (hw:w.heap[wb]?=some (.cells #[x,y] 203 (0,0))) (hne:lb≠wb) :
  CallsDIn Fence.wide n Tryz.prog 138 #[.pointer (some ⟨lb,0,none⟩),.pointer (some ⟨wb,0,none⟩)] (.panicking [{ v := .iface 203 (.agg #[.int .i64 i,.int .i64 e]),recovered:=false }]) w
   fun r u' w'=>r = .returned (.tuple #[])∧u' = .panicking [{ v := .iface 203 (.agg #[.int .i64 i,.int .i64 e]),recovered:=true }] ∧
    Two w w' lb wb (.cells #[.slice none 0 0] 201 (0,0)) (.cells #[.int .i64 i,.int .i64 e] 203 (0,0)):=by
 have h0:w.cell? ⟨lb,0,none⟩=some v:=by rw [cell_of_row _ _ 0 _ _ _ hl];rfl
 have h1:w.cell? ⟨wb,0,none⟩=some x:=by rw [cell_of_row _ _ 0 _ _ _ hw];rfl
 have h2:w.cell? ⟨wb,1,none⟩=some y:=by rw [cell_of_row _ _ 1 _ _ _ hw];rfl
 have f0:w.frozen? ⟨lb,0,none⟩=false:=frozen_of_row w lb 0 _ _ hl
 have f1:w.frozen? ⟨wb,0,none⟩=false:=frozen_of_row w wb 0 _ _ hw
 have f2:w.frozen? ⟨wb,1,none⟩=false:=frozen_of_row w wb 1 _ _ hw
 have HL:=zh hl
 have HW:=zh hw
 have HN:=zh hne
 have hta:∀ W:World,(Instr.typeAssert (.iface 203 (.agg #[.int .i64 i,.int .i64 e])) 20 203 true).run Tryz.prog W = .ok (.tuple #[.agg #[.int .i64 i,.int .i64 e],.bool true]) W:=fun W=>by kernel_rfl
 refine callsDIn_of_wpSIn Tryz.func138 rfl (by trivial) fun c₀ cs hu=>?_
 simp only [Tryz.ntmps138,List.size_toArray,List.length_cons,List.length_nil,Nat.reduceAdd,Nat.reduceSub,Array.replicate_succ,Array.replicate_zero,List.push_toArray,List.append_toArray,List.nil_append,List.cons_append]
 apply wpSIn_seq
 apply wpSIn_region
 simp [wpOpsSIn,go_sem,recoverD,hu,Exit.thenS]
 refine wpSIn_of_wpIn rfl (wpIn_wide.2 ?_)
 clear hl hw hne
 go_wp2
 obtain⟨z,hz⟩:∃ z,z=w.heap.size:=⟨_,rfl⟩
 obtain⟨V,hV⟩:∃ V,V=w.alloc (.cells #[.int .i64 i,.int .i64 e] 203):=⟨_,rfl⟩
 rw [← hV,← hz]
 have hlt:lb<w.heap.size∧wb<w.heap.size:=⟨(Array.getElem?_eq_some_iff.1 HL.out).1,(Array.getElem?_eq_some_iff.1 HW.out).1⟩
 have kb:∀ k,k<w.heap.size→V.heap[k]?=w.heap[k]?:=fun k hk=>by rw [hV];exact Below.heap_alloc _ _ _ hk
 have vl:=(kb lb hlt.1).trans HL.out
 have vw:=(kb wb hlt.2).trans HW.out
 have vz:V.heap[z]?=some (.cells #[.int .i64 i,.int .i64 e] 203 (0,0)):=by rw [hV,hz];exact heap_alloc_new w _
 have nlz:lb≠z:=by omega
 have nwz:wb≠z:=by omega
 have c0:V.cell? ⟨lb,0,none⟩=some v:=by rw [cell_of_row _ _ 0 _ _ _ vl];rfl
 have c1:V.cell? ⟨wb,0,none⟩=some x:=by rw [cell_of_row _ _ 0 _ _ _ vw];rfl
 have c2:V.cell? ⟨wb,1,none⟩=some y:=by rw [cell_of_row _ _ 1 _ _ _ vw];rfl
 have g0:V.frozen? ⟨lb,0,none⟩=false:=frozen_of_row V lb 0 _ _ vl
 have g1:V.frozen? ⟨wb,0,none⟩=false:=frozen_of_row V wb 0 _ _ vw
 have g2:V.frozen? ⟨wb,1,none⟩=false:=frozen_of_row V wb 1 _ _ vw
 have c3:V.cell? ⟨z,0,none⟩=some (.int .i64 i):=by rw [cell_of_row _ _ 0 _ _ _ vz];rfl
 have c4:V.cell? ⟨z,1,none⟩=some (.int .i64 e):=by rw [cell_of_row _ _ 1 _ _ _ vz];rfl
 have hne:=HN.out
 have END:Hid (Two w (((V.setCell ⟨lb,0,none⟩ (.slice none 0 0)).setCell ⟨wb,0,none⟩ (.int .i64 i)).setCell ⟨wb,1,none⟩ (.int .i64 e)) lb wb (.cells #[.slice none 0 0] 201 (0,0)) (.cells #[.int .i64 i,.int .i64 e] 203 (0,0))):=by
  have k1:∀ k,k≠lb→k≠wb→(((V.setCell ⟨lb,0,none⟩ (.slice none 0 0)).setCell ⟨wb,0,none⟩ (.int .i64 i)).setCell ⟨wb,1,none⟩ (.int .i64 e)).heap[k]?=V.heap[k]?:=fun k h1 h2=>by
   rw [Below.heap_setCell _ _ _ k h2,Below.heap_setCell _ _ _ k h2,Below.heap_setCell _ _ _ k h1]
  refine⟨by rw [hV];rfl,by rw [hV];rfl,by rw [hV];rfl,by rw [hV];simp,?_,?_,fun k hk h1 h2=>(k1 k h1 h2).trans (kb k hk)⟩
  ·rw [Below.heap_setCell _ _ _ lb HN.out,Below.heap_setCell _ _ _ lb HN.out]
   exact heap_setCell_same _ lb 0 _ _ _ vl
  ·have h1:(V.setCell ⟨lb,0,none⟩ (.slice none 0 0)).heap[wb]?=some (.cells #[x,y] 203 (0,0)):=(Below.heap_setCell _ _ _ wb (Ne.symm HN.out)).trans vw
   exact heap_setCell_same _ wb 1 _ _ _ (heap_setCell_same _ wb 0 _ _ (.int .i64 i) h1)
 clear hV hz hlt kb vl vw vz h0 h1 h2 f0 f1 f2
 go_region
 all_goals
  have E:=END.out
  exact⟨rfl,_,rfl,.tuple #[],results_none rfl _ _ _,rfl,rfl,⟨E.os,E.tape,E.output,E.size,E.hx,E.hy,E.block⟩⟩
end Go.Proofs.YtnkahlloahgifaaGreatDoor.Lx

namespace Go.Proofs.YtnkahlloahgifaaGreatDoor.Lx
open Go.RowKit
def ofB (l:List Nat):ByteArray:=⟨(l.map UInt8.ofNat).toArray⟩
theorem ofB_bts (t:ByteArray):ofB (bts t)=t:=by
 unfold ofB bts
 rw [List.map_map]
 have:(UInt8.ofNat ∘ UInt8.toNat)=id:=by funext x;simp
 rw [this,List.map_id]
def flatT:List LX.Tok→List Value
 | []=>[]
 | t :: r => .int .i64 t.kind :: .int .i64 t.num :: .string (ofB t.text) :: .int .i64 t.place :: flatT r
theorem flatT_append (a b:List LX.Tok):flatT (a++b)=flatT a++flatT b:=by
 induction a with
 | nil=>rfl
 | cons x r ih=>simp [flatT,ih]
theorem owns_keep {w w':World}{base e size n:Nat}{v:Value}{xs:List Value}(h:w.ownsRow base e size v n xs) (hk:∀ k,v.ownBlock=some k→w'.heap[k]?=w.heap[k]?):w'.ownsRow base e size v n xs:=by
 obtain⟨h1,h2⟩:=h
 rcases h2 with h2 | ⟨g,cap,cur,rfl,hb,hg,rest⟩
 ·exact⟨h1,.inl h2⟩
 ·exact⟨h1,.inr ⟨g,cap,cur,rfl,hb,(hk g rfl).trans hg,rest⟩⟩
theorem owns_blk {w:World}{base e size n:Nat}{v:Value}{xs:List Value}(h:w.ownsRow base e size v n xs) {k:Nat}(hk:v.ownBlock=some k):base≤k∧∃ c,w.heap[k]?=some (.cells c e (0,0)):=by
 rcases h.2 with ⟨rfl,_⟩|⟨g,cap,cur,rfl,hb,hg,_⟩
 ·simp [Value.ownBlock] at hk
 ·simp [Value.ownBlock] at hk;subst hk;exact⟨hb,_,hg⟩
structure Jt (w:World) (D l lb wb:Nat) (rcd:Loop) (ts:List LX.Tok) (W:World):Prop where
 blk:W.heap[D]?=some (.deferred (some []))
 loop:W.heap[l]?=some (.loop rcd)
 wrong:W.heap[wb]?=some (.cells #[.int .i64 0,.int .i64 0] 203 (0,0))
 row:∃ v,Boxed W lb 201 v∧W.ownsRow w.heap.size 154 4 v ts.length (flatT ts)
 below:Below w.heap.size w W
theorem Jt.kt {w W W':World}{D l lb wb:Nat}{rcd:Loop}{ts:List LX.Tok}(h:Jt w D l lb wb rcd ts W) (k:Kt w.heap.size W W'):Jt w D l lb wb rcd ts W':=by
 obtain⟨v,h1,h2⟩:=h.row
 refine⟨k.block _ _ h.blk (.inr ⟨nofun,nofun⟩),k.block _ _ h.loop (.inr ⟨nofun,nofun⟩),k.block _ _ h.wrong (.inr ⟨fun c r e=>?_,fun c r e=>?_⟩),⟨v,k.block _ _ h1 (.inr ⟨fun c r e=>?_,fun c r e=>?_⟩),owns_keep h2 fun q hq=>?_⟩,h.below.trans (k.below h.below.size)⟩
 ·simp at e
 ·simp at e
 ·simp at e
 ·simp at e
 ·obtain⟨_,c,hc⟩:=owns_blk h2 hq
  rw [hc]
  exact k.block _ _ hc (.inr ⟨fun c r e=>by simp at e,fun c r e=>by simp at e⟩)
theorem Jt.put {w W:World}{D l lb wb:Nat}{rcd:Loop}{ts:List LX.Tok}(h:Jt w D l lb wb rcd ts W) (r':Loop) (hl:w.heap.size≤l):Jt w D l lb wb r' ts (W.putObj l (.loop r'))∧Kb w.heap.size W (W.putObj l (.loop r')):=by
 have ho:∀ k o,W.heap[k]?=some o→(∀ r:Loop,o≠Obj.loop r)→(W.putObj l (.loop r')).heap[k]?=some o:=fun k o hk hr =>
  (World.putObj_heap_other fun e=>by subst e;rw [h.loop] at hk;simp only [Option.some.injEq] at hk;exact hr _ hk.symm).trans hk
 obtain⟨v,h1,h2⟩:=h.row
 refine⟨⟨ho _ _ h.blk nofun,World.putObj_heap_same (Array.getElem?_eq_some_iff.1 h.loop).1,ho _ _ h.wrong nofun,⟨v,ho _ _ h1 nofun,owns_keep h2 fun q hq=>?_⟩,?_⟩,?_⟩
 ·obtain⟨_,c,hc⟩:=owns_blk h2 hq
  rw [hc]
  exact ho _ _ hc nofun
 ·exact h.below.trans ⟨rfl,rfl,rfl,by simp,fun k hk=>World.putObj_heap_other (by omega)⟩
 ·refine⟨rfl,rfl,rfl,by simp,fun k o hk ht=>?_⟩
  rcases ht with ht | ⟨c,rfl⟩|⟨c,rfl⟩|⟨es,cl,rfl⟩|⟨c,rfl⟩
  ·exact(World.putObj_heap_other (by omega)).trans hk
  ·exact ho _ _ hk nofun
  ·exact ho _ _ hk nofun
  ·exact ho _ _ hk nofun
  ·exact ho _ _ hk nofun
theorem Kb.trans {n0:Nat}{w w1 w2:World}(h:Kb n0 w w1) (k:Kb n0 w1 w2):Kb n0 w w2 :=
 ⟨k.os.trans h.os,k.tape.trans h.tape,k.output.trans h.output,Nat.le_trans h.size k.size,fun q o ho hq=>k.block q o (h.block q o ho hq) hq⟩
theorem Kb.of_below {n0:Nat}{w w':World}(h:Below w.heap.size w w'):Kb n0 w w' :=
 ⟨h.os,h.tape,h.output,h.size,fun k o ho _=>(h.block k (Array.getElem?_eq_some_iff.1 ho).1).trans ho⟩
theorem Jt.alloc {w W:World}{D l lb wb:Nat}{rcd:Loop}{ts:List LX.Tok}(h:Jt w D l lb wb rcd ts W) (o:Obj):Jt w D l lb wb rcd ts (W.alloc o)∧Kb w.heap.size W (W.alloc o):=by
 have hb:Below W.heap.size W (W.alloc o):=(Below.refl _ _).alloc (Nat.le_refl _) _
 exact⟨h.kt (Kt.of_below hb),Kb.of_below hb⟩
theorem Jt.more {w W w1:World}{D l lb wb:Nat}{rcd:Loop}{ts:List LX.Tok}{v v':Value}{tmp:Obj}(h:Jt w D l lb wb rcd ts W) (t:LX.Tok) (hv:Boxed W lb 201 v) (hrow:W.ownsRow w.heap.size 154 4 v ts.length (flatT ts))
  (hlb:w.heap.size≤lb) (hown:w1.ownsRow w.heap.size 154 4 v' (ts.length+1) (flatT ts++[.int .i64 t.kind,.int .i64 t.num,.string (ofB t.text),.int .i64 t.place])) (hg:(W.alloc tmp).grownBy w1 v.ownBlock) :
  Boxed w1 lb 201 v∧Jt w D l lb wb rcd (ts++[t]) (w1.setCell ⟨lb,0,none⟩ v')∧Kb w.heap.size W (w1.setCell ⟨lb,0,none⟩ v'):=by
 obtain⟨b1,b2,b3,b4,b5⟩:=hv.appended (by decide) hrow h.below.size hlb hown hg
 have keep:∀ k o,W.heap[k]?=some o→(∀ c:Array Value,o≠Obj.cells c 154 (0,0))→(∀ c:Array Value,o≠Obj.cells c 201 (0,0))→(w1.setCell ⟨lb,0,none⟩ v').heap[k]?=some o:=fun k o hk h39 h35=>by
  have hlt:=(Array.getElem?_eq_some_iff.1 hk).1
  rw [Below.heap_setCell _ _ _ k (fun e=>by
   have e:k=lb:=e
   subst e
   rw [show W.heap[k]?=_ from hv] at hk
   simp only [Option.some.injEq] at hk
   exact h35 _ hk.symm)]
  refine(hg.block k (by simp;omega) fun e=>?_).trans ((Below.heap_alloc W tmp k hlt).trans hk)
  obtain⟨_,c,hc⟩:=owns_blk hrow e.symm
  rw [hc] at hk
  simp only [Option.some.injEq] at hk
  exact h39 _ hk.symm
 refine⟨b1,⟨keep _ _ h.blk nofun nofun,keep _ _ h.loop nofun nofun,keep _ _ h.wrong (fun c e=>by simp at e) (fun c e=>by simp at e),⟨v',b2,?_⟩,h.below.trans b5⟩,⟨b5.os,b5.tape,b5.output,b5.size,fun k o hk ht=>?_⟩⟩
 ·rw [List.length_append,flatT_append]
  exact b3
 ·rcases ht with ht | ⟨c,rfl⟩|⟨c,rfl⟩|⟨es,cl,rfl⟩|⟨c,rfl⟩
  ·exact(b5.block k ht).trans hk
  ·exact keep _ _ hk (fun c e=>by simp at e) (fun c e=>by simp at e)
  ·exact keep _ _ hk (fun c e=>by simp at e) (fun c e=>by simp at e)
  ·exact keep _ _ hk nofun nofun
  ·exact keep _ _ hk (fun c e=>by simp at e) (fun c e=>by simp at e)
end Go.Proofs.YtnkahlloahgifaaGreatDoor.Lx

namespace Go.Proofs.YtnkahlloahgifaaGreatDoor.Lx
open Go.RowKit
def recOf (fn:FuncId) (tmps:Array Value) (assign body:Code) (D:Nat) (st:LoopState):Loop:={ state:=st,pending:=none,fn,tmps,params := #[11],assign,body,defers:=D }
theorem loop_law {assign body:Code}{Q:Exit→Act→World→Prop}{a:Act}{w W2:World}{b mb ib lb:Nat}{s:ByteArray}
  (hg:a.eval (.tmp 10) = .func (.func 141) #[] #[.pointer (some ⟨ib,0,none⟩)])
  (hI:It w.heap.size W2 b mb ib s 0 (.slice none 0 0) [])
  (hw:W2.heap[lb+1]?=some (.cells #[.int .i64 0,.int .i64 0] 203 (0,0))) (hv:Boxed W2 lb 201 (.slice none 0 0)) (hB:Below w.heap.size w W2)
  (hround:∀ (rcd:Loop) (ts:List LX.Tok) (k:Nat) (v:Int) (p:Nat) (tx:ByteArray) (W:World),rcd.state = .ready→rcd.pending=none→Jt w W2.heap.size (W2.heap.size+1) lb (lb+1) rcd ts W→ts.length<s.size →
   assign.wpIn (Fence.wide.inRound (W2.heap.size+1)) 1 Tryz.prog (Exit.then (fun a₁ w₁=>∃ w₂,(Instr.beginRound (W2.heap.size+1)).run Tryz.prog w₁ = .ok () w₂ ∧
    body.wpIn (Fence.wide.inRound (W2.heap.size+1)) 1 Tryz.prog (roundPost Tryz.prog (W2.heap.size+1) fun e W'=>e = .returned (.bool true) ∧
     Jt w W2.heap.size (W2.heap.size+1) lb (lb+1) rcd (ts++[⟨k,v,bts tx,p⟩]) W'∧Kb w.heap.size W W') a₁ w₂) (fun _ _ _=>False))
    { tmps:=a.tmps.setIfInBounds 11 (tokV k v tx p),defers:=[] } W)
  (hdone:∀ (rcd:Loop) (W:World) (i:Nat) (cv:Value) (ts:List LX.Tok) (cs:List (Nat×Nat)),LX.scan (bts s) = .ok ts cs →
   Jt w W2.heap.size (W2.heap.size+1) lb (lb+1) rcd ts W→It w.heap.size W b mb ib s i cv cs →
   Q .normal { a with defers:={ target := .collected W2.heap.size,args := #[] } :: a.defers } W)
  (hthrown:∀ (rcd:Loop) (W:World) (p er:Nat) (ts:List LX.Tok),LX.scan (bts s) = .bad p er →
   Jt w W2.heap.size (W2.heap.size+1) lb (lb+1) rcd ts W →
   Q (.panic [{ v := .iface 203 (.agg #[.int .i64 p,.int .i64 er]),recovered:=false }]) { a with defers:={ target := .collected W2.heap.size,args := #[] } :: a.defers } W) :
  (Code.rangeFunc (.tmp 10) #[11] assign body).wp Tryz.prog Q a W2:=by
 refine(wpIn_wide (n:=2)).1 ?_
 refine wpIn_rangeFunc ?_
 intro fn hfn
 obtain⟨D,hD⟩:∃ D,D=W2.heap.size:=⟨_,rfl⟩
 obtain⟨l,hl⟩:∃ l,l=W2.heap.size+1:=⟨_,rfl⟩
 obtain⟨W3,hW3⟩:∃ W,W=(W2.alloc (.deferred (some []))).alloc (.loop (recOf fn a.tmps assign body W2.heap.size .ready)):=⟨_,rfl⟩
 have he:(Instr.enterLoop fn a.tmps #[11] assign body Fence.wide.round).run Tryz.prog W2 = .ok (l,[{ target := .collected D,args := #[] }]) W3:=by
  rw [hl,hD,hW3]
  exact run_enterLoop_outer fn a.tmps #[11] assign body
 have h3:Below W2.heap.size W2 W3:=by rw [hW3];exact((Below.refl _ _).alloc (Nat.le_refl _) _).alloc (by simp) _
 have hD3:W3.heap[D]?=some (.deferred (some [])):=by
  rw [hW3,hD,Below.heap_alloc _ _ _ (by simp)];exact World.alloc_heap_new W2 _
 have hl3:W3.heap[l]?=some (.loop (recOf fn a.tmps assign body W2.heap.size .ready)):=by
  rw [hW3,hl]
  have:=World.alloc_heap_new (W2.alloc (.deferred (some []))) (.loop (recOf fn a.tmps assign body W2.heap.size .ready))
  rw [World.size_alloc] at this
  exact this
 refine⟨l,[{ target := .collected D,args := #[] }],W3,{ target := .fn (.func 141) #[.pointer (some ⟨ib,0,none⟩)],args := #[.func (.yield l) #[] #[]] },W3,141,
  #[.func (.yield l) #[] #[]] ++ #[.pointer (some ⟨ib,0,none⟩)],W3,he,?_,?_,?_,(fun _=>by decide),?_⟩
 ·simp only [resolve,hg]
  simp [go_sem]
 ·intro f' _;exact trivial
 ·have eg:=enters_of Tryz.func141 (by kernel_rfl) rfl
  simp [invoke,go_sem,eg]
 ·subst hD
  subst hl
  have J0:Jt w W2.heap.size (W2.heap.size+1) lb (lb+1) (recOf fn a.tmps assign body W2.heap.size .ready) [] W3 :=
   ⟨hD3,hl3,(h3.block _ (Array.getElem?_eq_some_iff.1 hw).1).trans hw,⟨_,(h3.block _ (Array.getElem?_eq_some_iff.1 hv).1).trans hv,World.ownsRow_nil _ _ _ _⟩,hB.trans (h3.mono hB.size)⟩
  refine callsIn_wide.2 ((toks_in (n0:=w.heap.size) 1 (W2.heap.size+1) (Jt w W2.heap.size (W2.heap.size+1) lb (lb+1) (recOf fn a.tmps assign body W2.heap.size .ready)) (fun ts W W' h k=>h.kt k) ?_ (hI.below h3) J0).mono ?_)
  ·intro ts k v p tx W hJ hlen
   have hy:=run_yield (P:=Tryz.prog) (args := #[tokV k v tx p]) hJ.loop rfl
   have hf:((recOf fn a.tmps assign body W2.heap.size .ready).params.zip #[tokV k v tx p]).foldl (fun tmps (t,a)=>tmps.setIfInBounds t a) (recOf fn a.tmps assign body W2.heap.size .ready).tmps=a.tmps.setIfInBounds 11 (tokV k v tx p):=by
    simp [recOf]
   rw [hf] at hy
   exact⟨fn,_,assign,body,hy,roundIn_of_wpIn trivial (hround _ ts k v p tx W rfl rfl hJ hlen)⟩
  ·intro e W hp
   unfold IPost at hp
   cases hs:LX.scan (bts s) with
   | ok ts cs =>
    rw [hs] at hp
    obtain⟨rfl,hJ,i,cv,hit⟩:=hp
    have h2:=hJ.put (recOf fn a.tmps assign body W2.heap.size .exhausted) (by have:=hB.size;omega)
    refine⟨none,W.putObj (W2.heap.size+1) (.loop (recOf fn a.tmps assign body W2.heap.size .exhausted)),run_endLoop hJ.loop (by simp [recOf]),?_⟩
    exact hdone _ _ i cv ts cs hs h2.1 (hit.kb h2.2)
   | bad p er =>
    rw [hs] at hp
    obtain⟨rfl,ts,hJ⟩:=hp
    exact hthrown _ W p er ts hs hJ
end Go.Proofs.YtnkahlloahgifaaGreatDoor.Lx

namespace Go.Proofs.YtnkahlloahgifaaGreatDoor.Lx
open Go.RowKit
attribute [local go_sem] Oper.semAt_some
def SPost (w:World) (s:ByteArray) (e:Ending) (w':World):Prop :=
 match LX.scan (bts s) with
 | .ok ts cs=>∃ b mb i cv tv,e = .returned (.tuple #[.pointer (some ⟨b,0,none⟩),tv,.agg #[.int .i64 0,.int .i64 0]])∧Sc w' b s i mb cv∧Cm w' b cv cs∧w'.ownsRow w.heap.size 154 4 tv ts.length (flatT ts) ∧
   Below w.heap.size w w'∧w.heap.size≤b∧∀ k,cv.ownBlock=some k→w.heap.size≤k
 | .bad p er=>∃ b,e = .returned (.tuple #[.pointer (some ⟨b,0,none⟩),.slice none 0 0,.agg #[.int .i64 p,.int .i64 er]])∧Below w.heap.size w w'
theorem Tryz.info154:(Tryz.prog.info? 154).map (fun i=>(i.zero,i.size,i.bytes))=some (some (.agg #[.int .i64 0,.int .i64 0,.string ⟨#[]⟩,.int .i64 0]),4,40):=by kernel_rfl
set_option maxHeartbeats 1000000 in
set_option maxRecDepth 20000 in
theorem scanned_any {w:World}(henv:Env w) (s:ByteArray) (hs:s.size≤400000):Calls Tryz.prog 130 #[.string s] w (SPost w s):=by
 have HS:=zh hs
 have HE:=zh henv
 clear hs henv
 refine(callsIn_wide (n:=3)).1 (callsIn_of_wp_marks Tryz.func130 rfl trivial ?_ rfl)
 refine wpIn_wide.2 ?_
 simp only [Tryz.ntmps130,List.size_toArray,List.length_cons,List.length_nil,Nat.reduceAdd,Nat.reduceSub,Array.replicate_succ,Array.replicate_zero,List.push_toArray,List.append_toArray,List.nil_append,List.cons_append]
 go_wp2_with fail
 obtain⟨lb,hlb⟩:∃ z,z=w.heap.size:=⟨_,rfl⟩
 obtain⟨W0,hW0⟩:∃ W,W=(w.alloc (.cells #[.slice none 0 0] 201)).alloc (.cells #[.int .i64 0,.int .i64 0] 203):=⟨_,rfl⟩
 rw [← hW0,← hlb]
 have B0:Hid (Below w.heap.size w W0):=by rw [hW0];exact((Below.refl _ _).alloc (Nat.le_refl _) _).alloc (by simp) _
 have Z0:Hid (W0.heap.size=lb+2):=by rw [hW0,hlb];show _=_;simp
 have L0:Hid (W0.heap[lb]?=some (.cells #[.slice none 0 0] 201 (0,0))):=by
  rw [hW0,hlb]
  show _=_
  rw [Below.heap_alloc _ _ _ (by simp)];exact heap_alloc_new w _
 have R0:Hid (W0.heap[lb+1]?=some (.cells #[.int .i64 0,.int .i64 0] 203 (0,0))):=by
  rw [hW0,hlb]
  have:=heap_alloc_new (w.alloc (.cells #[.slice none 0 0] 201)) (.cells #[.int .i64 0,.int .i64 0] 203)
  rw [World.size_alloc] at this
  exact this
 have HL:=zh hlb
 clear hlb hW0
 refine(newScanner_any W0 s HS.out).mono ?_
 rintro e W1 ⟨rfl,hsc,hwd,hb1,hz1⟩
 obtain⟨b,hb⟩:∃ b,b=W0.heap.size+1:=⟨_,rfl⟩
 obtain⟨mb,hmb⟩:∃ m,m=W0.heap.size:=⟨_,rfl⟩
 rw [← hb]
 have hlb:w.heap.size=lb:=HL.out.symm
 have hz0:W0.heap.size=lb+2:=Z0.out
 obtain⟨ib,hib⟩:∃ i,i=W1.heap.size:=⟨_,rfl⟩
 obtain⟨W2,hW2⟩:∃ W,W=W1.alloc (.cells #[.pointer (some ⟨b,0,none⟩)] 200):=⟨_,rfl⟩
 have b12:Below W1.heap.size W1 W2:=by rw [hW2];exact(Below.refl _ _).alloc (Nat.le_refl _) _
 have bb:Below w.heap.size w W2:=B0.out.trans ((hb1.mono (by omega)).trans (b12.mono (by omega)))
 have I2:Hid (It w.heap.size W2 b mb ib s 0 (.slice none 0 0) []):=by
  refine⟨?_,⟨World.ownsRow_nil _ _ _ _,by simp [Value.ownBlock]⟩,by omega,by simp [Value.ownBlock],?_,HE.out.keep bb HE.out.size,by omega,?_,HE.out.size,bb.size⟩
  ·rw [hmb,hb]
   exact⟨(b12.block _ (by omega)).trans hsc.1,hsc.2⟩
  ·rw [hmb]
   exact hwd.keep fun o ho _=>(b12.block _ (by omega)).trans ho
  ·rw [hW2,hib];exact heap_alloc_new W1 _
 have V2:Hid (Boxed W2 lb 201 (.slice none 0 0)):=(b12.block _ (by omega)).trans ((hb1.block _ (by omega)).trans L0.out)
 have R2:Hid (W2.heap[lb+1]?=some (.cells #[.int .i64 0,.int .i64 0] 203 (0,0))):=(b12.block _ (by omega)).trans ((hb1.block _ (by omega)).trans R0.out)
 have BB:=zh bb
 have HW2:=zh hW2
 have HIB:=zh hib
 clear hsc hwd hb1 hz1 hb hmb hlb hz0 hW2 hib b12 bb
 go_wp2_with fail
 refine(tokens_any W1 b).mono ?_
 rintro e W2' ⟨rfl,rfl⟩
 rw [← HW2.out,← HIB.out]
 go_wp2_with fail
 refine loop_law (w:=w) (lb:=lb) (ib:=ib) (b:=b) (mb:=mb) (s:=s) rfl I2.out R2.out V2.out BB.out ?round ?done ?thrown
 case round =>
  intro rcd ts k v p tx W hr1 hr2 hJ hlen
  unfold tokV
  simp only [zq4,zq6,zq5]
  have J0:=zh hJ
  have HR:=zh (And.intro hr1 hr2)
  have HT:Hid (ts.length<400000):=Nat.lt_of_lt_of_le hlen HS.out
  have JA:=zh (J0.out.alloc (.cells #[.int .i64 k,.int .i64 v,.string tx,.int .i64 p] 154))
  have LN:Hid (w.heap.size≤W2.heap.size+1):=Nat.le_succ_of_le BB.out.size
  clear hJ hr1 hr2 hlen
  gi_wp2
  obtain⟨z,hz⟩:∃ z,z=W.heap.size:=⟨_,rfl⟩
  obtain⟨Wa,hWa⟩:∃ V,V=W.alloc (.cells #[.int .i64 k,.int .i64 v,.string tx,.int .i64 p] 154):=⟨_,rfl⟩
  have JA2:=JA.out
  have az:Wa.heap[z]?=some (.cells #[.int .i64 k,.int .i64 v,.string tx,.int .i64 p] 154 (0,0)):=by rw [hWa,hz];exact heap_alloc_new W _
  rw [← hWa] at JA2
  rw [← hWa,← hz]
  refine⟨_,run_beginRound JA2.1.loop HR.out.1,?_⟩
  obtain⟨JB1,JB2⟩:=JA2.1.put { rcd with state := .busy } LN.out
  obtain⟨Wb,hWb⟩:∃ V,V=Wa.putObj (W2.heap.size+1) (.loop { rcd with state := .busy }):=⟨_,rfl⟩
  rw [← hWb] at JB1 JB2
  rw [← hWb]
  have bz:Wb.heap[z]?=some (.cells #[.int .i64 k,.int .i64 v,.string tx,.int .i64 p] 154 (0,0)):=by
   rw [hWb,World.putObj_heap_other (fun e=>by rw [e,JA2.1.loop] at az;simp at az)];exact az
  have KB:Hid (Kb w.heap.size W Wb):=JA2.2.trans JB2
  have JB:=zh JB1
  obtain⟨sv,hsv,hrow⟩:=JB1.row
  have c0:=hsv.cell
  have cf:=hsv.frozen
  have z0:Wb.cell? ⟨z,0,none⟩=some (.int .i64 k):=by rw [cell_of_row _ _ 0 _ _ _ bz];rfl
  have z1:Wb.cell? ⟨z,1,none⟩=some (.int .i64 v):=by rw [cell_of_row _ _ 1 _ _ _ bz];rfl
  have z2:Wb.cell? ⟨z,2,none⟩=some (.string tx):=by rw [cell_of_row _ _ 2 _ _ _ bz];rfl
  have z3:Wb.cell? ⟨z,3,none⟩=some (.int .i64 p):=by rw [cell_of_row _ _ 3 _ _ _ bz];rfl
  have SV:=zh (And.intro hsv hrow)
  have HO:Hid ((Wb.alloc (.cells #[.int .i64 k,.int .i64 v,.string tx,.int .i64 p] 154)).ownsRow w.heap.size 154 4 sv ts.length (flatT ts)) :=
   owns_keep hrow fun q hq=>Below.heap_alloc _ _ _ (by obtain⟨_,c,hc⟩:=owns_blk hrow hq;exact(Array.getElem?_eq_some_iff.1 hc).1)
  have HN:Hid (∀ j u,[Value.int .i64 k,.int .i64 v,.string tx,.int .i64 p][j]?=some u→(Wb.alloc (.cells #[.int .i64 k,.int .i64 v,.string tx,.int .i64 p] 154)).cell? ((⟨Wb.heap.size,0,none⟩:Addr).add j)=some u):=fun j u hu=>by
   rw [Addr.add_lit,cell_of_row _ _ _ _ _ _ (heap_alloc_new Wb _)]
   match j,hu with
   | 0,hu=>simpa using hu
   | 1,hu=>simpa using hu
   | 2,hu=>simpa using hu
   | 3,hu=>simpa using hu
   | j+4,hu=>simp at hu
  have HBs:Hid (w.heap.size≤Wb.heap.size):=JB1.below.size
  obtain⟨i0,hi0,hz0,hz1,hz2⟩:=info_parts Tryz.info154
  have I0:=zh (And.intro hi0 (And.intro hz0 (And.intro hz1 hz2)))
  clear JA2 az hWa hWb hz JB1 JB2 bz hsv hrow hi0 hz0 hz1 hz2
  gi_wp2_with (gi_at_builtin;refine wpListIn_append_own _ rfl _ _ 201 rfl w.heap.size 154 i0 _ 4 40 Tryz.underlying201 I0.out.1 I0.out.2.1 I0.out.2.2.1 I0.out.2.2.2 rfl (by decide) sv ts.length (flatT ts) rfl HO.out ⟨Wb.heap.size,0,none⟩ 1 1 _ rfl rfl HN.out ?c1 ?c2 ?c3 ?c4 ?c5)
  case c1=>intro u hu;simp at hu;rcases hu with rfl | rfl | rfl | rfl<;>rfl
  case c2=>have:=HT.out;unfold maxLen;omega
  case c3=>have:=HT.out;omega
  case c4=>have:=HBs.out;simp;omega
  case c5 =>
   intro v' w1 hown hg hnil
   obtain⟨M1,M2,M3⟩:=JB.out.more (t:=⟨k,v,bts tx,p⟩) SV.out.1 SV.out.2 (by have:=HL.out;omega) (by rw [ofB_bts];exact hown) hg
   obtain⟨g,cap,rfl⟩:=ownsRow_succ hown
   have d0:=M1.cell
   have df:=M1.frozen
   have N2:=zh M2
   have N3:=zh M3
   clear hown hg hnil M1 M2 M3 c0 cf z0 z1 z2 z3
   gi_wp2
   have h:=N2.out.put rcd LN.out
   have hr:=run_endRound (P:=Tryz.prog) none N2.out.loop
   have hq:({ state := .ready,pending:=none,fn:=rcd.fn,tmps:=rcd.tmps,params:=rcd.params,assign:=rcd.assign,body:=rcd.body,defers:=rcd.defers }:Loop)=rcd:=by
    have h1:=HR.out.1
    have h2:=HR.out.2
    cases rcd
    simp only at h1 h2
    subst h1
    subst h2
    rfl
   simp only [Option.isNone_none,if_true,hq] at hr
   exact⟨_,_,hr,rfl,h.1,KB.out.trans (N3.out.trans h.2)⟩
 case done =>
  intro rcd W i cv ts cs hscan hJ hI
  have HSC:=zh hscan
  have HI:=zh hI
  have HJ:=zh hJ
  obtain⟨sv,hsv,hrow⟩:=hJ.row
  obtain⟨sa,sc,hslice⟩:∃ a c,sv = .slice a ts.length c:=by
   rcases hrow.2 with ⟨rfl,h0⟩|⟨g,cap,cur,rfl,_⟩
   ·rw [h0];exact⟨_,_,rfl⟩
   ·exact⟨_,_,rfl⟩
  obtain⟨tn,htn⟩:∃ n,n=ts.length:=⟨_,rfl⟩
  rw [← htn] at hslice
  subst hslice
  have c0:=hsv.cell
  have cf:=hsv.frozen
  have d0:W.cell? ⟨lb+1,0,none⟩=some (.int .i64 0):=by rw [cell_of_row _ _ 0 _ _ _ hJ.wrong];rfl
  have d1:W.cell? ⟨lb+1,1,none⟩=some (.int .i64 0):=by rw [cell_of_row _ _ 1 _ _ _ hJ.wrong];rfl
  have df:∀ q,W.frozen? ⟨lb+1,q,none⟩=false:=fun q=>frozen_of_row W (lb+1) q _ _ hJ.wrong
  have SV:=zh (And.intro hsv hrow)
  have TN:=zh htn
  clear hscan hI hJ hsv hrow htn
  go_wp2_with fail
  go_region
  go_wp2_with fail
  obtain⟨V,hV⟩:∃ V,V=(((W.setCell ⟨lb,0,none⟩ (.slice sa tn sc)).setCell ⟨lb+1,0,none⟩ (.int .i64 0)).setCell ⟨lb+1,1,none⟩ (.int .i64 0)).drew:=⟨_,rfl⟩
  rw [← hV]
  have same:∀ k:Nat,V.heap[k]?=W.heap[k]?:=fun k=>by
   rw [hV]
   show (((W.setCell ⟨lb,0,none⟩ (.slice sa tn sc)).setCell ⟨lb+1,0,none⟩ (.int .i64 0)).setCell ⟨lb+1,1,none⟩ (.int .i64 0)).heap[k]?=_
   by_cases h1:k=lb+1
   ·subst h1
    have e1:(W.setCell ⟨lb,0,none⟩ (.slice sa tn sc)).heap[lb+1]?=some (.cells #[.int .i64 0,.int .i64 0] 203 (0,0)):=(Below.heap_setCell _ _ _ (lb+1) (by show lb+1≠lb;omega)).trans HJ.out.wrong
    rw [HJ.out.wrong]
    exact heap_setCell_same _ (lb+1) 1 _ _ _ (heap_setCell_same _ (lb+1) 0 _ _ (.int .i64 0) e1)
   ·rw [Below.heap_setCell _ _ _ k h1,Below.heap_setCell _ _ _ k h1]
    by_cases h2:k=lb
    ·subst h2
     rw [show W.heap[k]?=_ from SV.out.1]
     exact heap_setCell_same _ k 0 _ _ _ SV.out.1
    ·exact Below.heap_setCell _ _ _ k h2
  have kv:Kb w.heap.size W V:=⟨by rw [hV];rfl,by rw [hV];rfl,by rw [hV];rfl,by rw [hV];simp,fun k o hk _=>(same k).trans hk⟩
  have hD:V.heap[W2.heap.size]?=some (.deferred (some [])):=(same _).trans HJ.out.blk
  obtain⟨U,hU⟩:∃ U,U=V.putObj W2.heap.size (.deferred none):=⟨_,rfl⟩
  have hother:∀ (k:Nat) (o:Obj),W.heap[k]?=some o→(∀ ds:Option (List Deferred),o≠Obj.deferred ds)→U.heap[k]?=some o:=fun k o hk hne=>by
   rw [hU]
   refine(World.putObj_heap_other fun e=>?_).trans ((same k).trans hk)
   subst e
   rw [HJ.out.blk] at hk
   simp only [Option.some.injEq] at hk
   exact hne _ hk.symm
  have ku:Kb w.heap.size W U:=by
   refine kv.trans ⟨by rw [hU];rfl,by rw [hU];rfl,by rw [hU];rfl,by rw [hU];simp,fun k o hk hk2=>?_⟩
   rw [hU]
   refine(World.putObj_heap_other fun e=>?_).trans hk
   subst e
   rcases hk2 with hk2 | hk2
   ·have:=BB.out.size;omega
   ·rw [hD] at hk
    simp only [Option.some.injEq] at hk
    subst hk
    rcases hk2 with ⟨c,e⟩|⟨c,e⟩|⟨es,cl,e⟩|⟨c,e⟩<;>cases e
  have u0:U.cell? ⟨lb,0,none⟩=some (.slice sa tn sc):=by rw [cell_of_row _ _ 0 _ _ _ (hother _ _ SV.out.1 nofun)];rfl
  have u1:U.cell? ⟨lb+1,0,none⟩=some (.int .i64 0):=by rw [cell_of_row _ _ 0 _ _ _ (hother _ _ HJ.out.wrong nofun)];rfl
  have u2:U.cell? ⟨lb+1,1,none⟩=some (.int .i64 0):=by rw [cell_of_row _ _ 1 _ _ _ (hother _ _ HJ.out.wrong nofun)];rfl
  have IU:=HI.out.kb ku
  refine⟨by simp,.inl ⟨_,_,rfl,run_takeDeferred hD,?_⟩⟩
  rw [← hU]
  refine⟨by simp,.inr ⟨fun _=>by decide,.func 138,#[.pointer (some ⟨lb,0,none⟩),.pointer (some ⟨lb+1,0,none⟩)],138,#[.pointer (some ⟨lb,0,none⟩),.pointer (some ⟨lb+1,0,none⟩)],rfl,?_,fun _ _=>trivial,?_⟩⟩
  ·have eg:=enters_of Tryz.func138 (by kernel_rfl) rfl
   simp [invoke,go_sem,eg]
  ·refine(caught_idle _ lb (lb+1) U).mono ?_
   rintro e u' w' ⟨rfl,rfl,rfl⟩
   refine⟨.tuple #[.pointer (some ⟨b,0,none⟩),.slice sa tn sc,.agg #[.int .i64 0,.int .i64 0]],?_,?_⟩
   ·simp [results,Tryz.results130,go_sem,u0,u1,u2]
   ·unfold SPost
    rw [HSC.out]
    refine⟨b,mb,i,cv,.slice sa tn sc,rfl,IU.sc,IU.cm,owns_keep SV.out.2 fun k hk=>?_,HJ.out.below.trans (ku.below HJ.out.below.size),IU.hb,IU.hcv⟩
    obtain⟨_,c,hc⟩:=owns_blk SV.out.2 hk
    rw [hc]
    exact hother _ _ hc nofun
 case thrown =>
  intro rcd W p er ts hscan hJ
  have HSC:=zh hscan
  have HJ:=zh hJ
  clear hscan hJ
  (try simp only [Exit.inBlock,Exit.then])
  obtain⟨U,hU⟩:∃ U,U=W.putObj W2.heap.size (.deferred none):=⟨_,rfl⟩
  have hother:∀ (k:Nat) (o:Obj),W.heap[k]?=some o→(∀ ds:Option (List Deferred),o≠Obj.deferred ds)→U.heap[k]?=some o:=fun k o hk hne=>by
   rw [hU]
   refine(World.putObj_heap_other fun e=>?_).trans hk
   subst e
   rw [HJ.out.blk] at hk
   simp only [Option.some.injEq] at hk
   exact hne _ hk.symm
  have bu:Below w.heap.size w U:=HJ.out.below.trans ⟨by rw [hU];rfl,by rw [hU];rfl,by rw [hU];rfl,by rw [hU];simp,fun k hk=>by rw [hU];exact World.putObj_heap_other (by have:=BB.out.size;omega)⟩
  obtain⟨sv,hsv,hrow⟩:=HJ.out.row
  refine⟨by simp,.inl ⟨_,_,rfl,run_takeDeferred HJ.out.blk,?_⟩⟩
  rw [← hU]
  refine⟨by simp,.inr ⟨fun _=>by decide,.func 138,#[.pointer (some ⟨lb,0,none⟩),.pointer (some ⟨lb+1,0,none⟩)],138,#[.pointer (some ⟨lb,0,none⟩),.pointer (some ⟨lb+1,0,none⟩)],rfl,?_,fun _ _=>trivial,?_⟩⟩
  ·have eg:=enters_of Tryz.func138 (by kernel_rfl) rfl
   simp [invoke,go_sem,eg]
  ·refine(caught_thrown _ lb (lb+1) U p er sv _ _ (hother _ _ hsv nofun) (hother _ _ HJ.out.wrong nofun) (by omega)).mono ?_
   rintro e u' X ⟨rfl,rfl,h2⟩
   have u0:X.cell? ⟨lb,0,none⟩=some (.slice none 0 0):=by rw [cell_of_row _ _ 0 _ _ _ h2.hx];rfl
   have u1:X.cell? ⟨lb+1,0,none⟩=some (.int .i64 p):=by rw [cell_of_row _ _ 0 _ _ _ h2.hy];rfl
   have u2:X.cell? ⟨lb+1,1,none⟩=some (.int .i64 er):=by rw [cell_of_row _ _ 1 _ _ _ h2.hy];rfl
   refine⟨.tuple #[.pointer (some ⟨b,0,none⟩),.slice none 0 0,.agg #[.int .i64 p,.int .i64 er]],?_,?_⟩
   ·simp [results,Tryz.results130,go_sem,u0,u1,u2]
   ·unfold SPost
    rw [HSC.out]
    refine⟨b,rfl,bu.trans ⟨h2.os,h2.tape,h2.output,h2.size,fun k hk=>h2.block k (Nat.lt_of_lt_of_le hk bu.size) ?_ ?_⟩⟩
    ·have:=HL.out;omega
    ·have:=HL.out;omega
end Go.Proofs.YtnkahlloahgifaaGreatDoor.Lx

namespace Go.Proofs.YtnkahlloahgifaaGreatDoor.Lx
namespace LX
def Res.toks:Res→List Tok
 | .ok l _=>l
 | .bad _ _=>[]
end LX
open Go.RowKit
theorem owns_slice {w:World}{base e size n:Nat}{v:Value}{xs:List Value}(h:w.ownsRow base e size v n xs):∃ a c,v = .slice a n c:=by
 rcases h.2 with ⟨rfl,h0⟩|⟨g,cap,cur,rfl,_⟩
 ·rw [h0];exact⟨_,_,rfl⟩
 ·exact⟨_,_,rfl⟩
end Go.Proofs.YtnkahlloahgifaaGreatDoor.Lx
