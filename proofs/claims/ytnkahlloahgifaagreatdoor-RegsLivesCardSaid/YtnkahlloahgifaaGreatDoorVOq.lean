/- Part. -/
import Derived.Test.YtnkahlloahgifaaGreatDoorVB
import Derived.Test.YtnkahlloahgifaaGreatDoorVGa
import Derived.Test.YtnkahlloahgifaaGreatDoorVPt
import Derived.Deep.OwnRows
import Derived.Deep.Cut
import Derived.StillTail
import Derived.StillTailTactics
import Derived.Test.YtnkahlloahgifaaGreatDoorVDg
import Derived.Test.YtnkahlloahgifaaGreatDoorVLxG
import Derived.Test.YtnkahlloahgifaaGreatDoorVEg
import Derived.Test.YtnkahlloahgifaaGreatDoorVPl
import Derived.Test.YtnkahlloahgifaaGreatDoorRows
import Derived.Test.YtnkahlloahgifaaGreatDoorTie
import Derived.Test.YtnkahlloahgifaaGreatDoorCards
import Derived.ProofKit
import Derived.OpenShut
import Derived.LaidMore
import Derived.LaidLaws
import Derived.MakeChecks
import Derived.Lay
import Derived.Shelf.Vars
import Derived.Stop.LaidErr
import Derived.Lib.LaidTab
import Derived.HandedShaped
import Derived.SevenTiedAt
import Derived.LaidByTextLater
import Derived.Test.YtnkahlloahgifaaGreatDoorVDa
import Derived.Deep.RegionHeld3
import Derived.Deep.Slices
import Derived.Deep.Fields
import Derived.ChangeSame
import Derived.Carry
import Derived.SizedLaws
import Derived.Test.YtnkahlloahgifaaGreatDoorVCb
set_option maxHeartbeats 16000000
set_option maxRecDepth 100000
set_option linter.unusedSimpArgs false
set_option linter.unusedVariables false
namespace Go.Proofs.YtnkahlloahgifaaGreatDoor
open Go.RowKit RG Go.Maps RF
structure LivesR (w:World) (v:Value) (F:List Nd):Prop where
 at':∃ (g c:Nat) (rs:Nat→Value),v = .slice (some ⟨g,0,none⟩) F.length c∧(∀ i,i<F.length→w.cell? ⟨g,i,none⟩=some (rs i))∧∀ i,i<F.length→SlAt w (rs i) (vars F).length (rowB F (lv F i))
def RowT (w:World) (b n:Nat) (A:Nat→Bool):Prop:=w.rowIs b 4 n fun p => .bool (A p)
theorem RowT.set {w:World}{b n:Nat}{A A':Nat→Bool}(h:RowT w b n A) (p:Nat) (v:Bool) (hA:∀ q,q<n→A' q=if q=p then v else A q):RowT (w.setCell ⟨b,p,none⟩ (.bool v)) b n A' :=
 (World.rowIs.set h p (.bool v)).congr fun i hi=>by
  rw [hA i hi]
  by_cases e:i=p
  ·rw [if_pos e,if_pos e]
  rw [if_neg e,if_neg e]
theorem RowT.keep {w w':World}{b n:Nat}{A:Nat→Bool}(h:RowT w b n A) (hb:w'.heap[b]?=w.heap[b]?):RowT w' b n A:=World.rowIs.of_block h hb
theorem RowT.congr {w:World}{b n:Nat}{A A':Nat→Bool}(h:RowT w b n A) (hA:∀ q,q<n→A q=A' q):RowT w b n A':=World.rowIs.congr h fun i hi=>by rw [hA i hi]
theorem RowT.slat {w:World}{b n:Nat}{F:List Nd}{q:Nm→Bool}(h:RowT w b n fun p=>q ((vars F).getD p ⟨#[]⟩)) (hn:n=(vars F).length):SlAt w (.slice (some ⟨b,0,none⟩) n n) (vars F).length (rowB F q):=by
 refine⟨by unfold rowB;rw [List.length_map],some ⟨b,0,none⟩,n,by rw [hn],fun _=>⟨b,0,rfl,fun i u hu=>?_⟩⟩
 have hi:i<(vars F).length:=by have:=(zq8.1 hu).1;unfold rowB at this;rw [List.length_map] at this;exact this
 rw [rowB_at hi,zt3] at hu
 rw [Nat.zero_add,← hu]
 exact World.rowIs.cell h (by omega)
theorem Tryz.info112u:(Tryz.prog.info? 112).map (fun i=>(i.zero,i.size,i.bytes))=some (some (.slice none 0 0),1,24):=by kernel_rfl
theorem Tryz.info4u:(Tryz.prog.info? 4).map (fun i=>(i.zero,i.size,i.bytes))=some (some (.bool false),1,1):=by kernel_rfl
theorem wpStill_val {P:Program}{ops:Array Oper}{w:World}{Q:Act→Prop}{a:Act}{o:Oper}{rest:List Oper}(v:Value) (hg:o.guard=none) (hrun:(execOp a.eval o).run P w = .ok (.value v) w) (h:wpStill P ops w Q rest (a.put o.dst v)):wpStill P ops w Q (o :: rest) a:=by
 refine wpStill_step (fun K hK=>?_)
 rw [if_pos (by simp [Region.wanted,hg])]
 unfold Oper.still
 rw [hrun,Oper.stillUpon_value]
 exact hK _ h
theorem wpStill_pass {P:Program}{ops:Array Oper}{w:World}{Q:Act→Prop}{a:Act}{o:Oper}{rest:List Oper}{j:Nat}{b b':Bool}(d:Nat) (hg:o.guard=some (j,b)) (hb:b'≠b) (hj:(ops[j]?).bind (·.dst)=some d) (ht:a.tmps[d]?=some (.bool b')) (h:wpStill P ops w Q rest (a.put o.dst undef)):wpStill P ops w Q (o :: rest) a:=by
 refine wpStill_step (fun K hK=>?_)
 rw [if_neg (by simp [Region.wanted,hg,yielded,hj,ht,hb])]
 exact hK _ h
theorem wpStill_pick {P:Program}{ops:Array Oper}{w:World}{Q:Act→Prop}{a:Act}{o:Oper}{rest:List Oper}{c x y:Operand}{b:Bool}(v:Value) (hg:o.guard=none) (hop:o.op = .pick c x y) (hb:b=true) (hc:a.eval c = .bool b) (hx:a.eval x=v) (h:wpStill P ops w Q rest (a.put o.dst v)):wpStill P ops w Q (o :: rest) a:=by
 subst hb
 refine wpStill_val v hg ?_ h
 unfold execOp
 simp only [hop,hc,hx,Sem.run_pure,Sem.run_bind]
 rfl
structure OnlyB (b:Nat) (W w:World):Prop where
 size:W.heap.size≤w.heap.size
 block:∀ k,k<W.heap.size→k≠b→w.heap[k]?=W.heap[k]?
theorem OnlyB.refl (b:Nat) (w:World):OnlyB b w w:=⟨zr4 _,fun _ _ _=>rfl⟩
theorem OnlyB.setCell {b i:Nat}{W w:World}(h:OnlyB b W w) (v:Value):OnlyB b W (w.setCell ⟨b,i,none⟩ v):=⟨by have:=h.size;simpa using this,fun k hk hn=>(zt1 _ _ _ _ hn).trans (h.block k hk hn)⟩
theorem OnlyB.drewN {b n:Nat}{W w:World}(h:OnlyB b W w):OnlyB b W (w.drewN n):=⟨h.size,h.block⟩
theorem OnlyB.cell {b g o:Nat}{W w:World}{v:Value}(h:OnlyB b W w) (hg:g≠b) (hc:W.cell? ⟨g,o,none⟩=some v):w.cell? ⟨g,o,none⟩=some v :=
 (World.cell?_of_block (w:=W) (h.block g (zs3 W _ hc) hg)).trans hc
theorem RowT.no_int {w:World}{b n o:Nat}{A:Nat→Bool}{k:IntKind}{z:Int}(h:RowT w b n A) (hc:w.cell? ⟨b,o,none⟩=some (.int k z)):False:=by
 by_cases ho:o<n
 ·have:=World.rowIs.cell h ho
  rw [hc] at this
  cases this
 obtain⟨c,hb,hn,-⟩:=h
 simp only [World.cell?,hb] at hc
 have:c[o]?=none:=Array.getElem?_eq_none (by omega)
 rw [this] at hc
 cases hc
theorem bindsR_map (F:List Nd) (i:Nat):bindsR F i=(bindsAt F i).map (place F):=by
 unfold bindsR bindsAt NR BR
 rw [List.map_flatMap]
structure LvI (w:World) (F:List Nd) (nv n:Nat) (j:Nat) (wr:World):Prop where
 below:Below w.heap.size w wr
 size:w.heap.size<wr.heap.size
 row:∃ f,wr.rowIs w.heap.size 112 n f∧∀ i,j≤i→i<n→∃ b,f i = .slice (some ⟨b,0,none⟩) nv nv∧w.heap.size<b∧RowT wr b nv fun p=>lv F i ((vars F).getD p ⟨#[]⟩)
theorem lives_any {w:World}{fb:Nat}{F:List Nd}(h:FlatR w fb F) (hFo:Fo F) (hF:F.length≤300) (hV:(vars F).length≤300) (hf:∀ k,k<F.length→(BR F k).length≤1000000) (hnx:∀ k,k<F.length→(NR F k).length≤20000) :
  Calls Tryz.prog 25 #[.pointer (some ⟨fb,0,none⟩)] w fun e w'=>Below w.heap.size w w'∧∃ v,e = .returned v∧LivesR w' v F:=by
 have FR:=zh h
 have FO:=zh hFo
 have HF:=zh hF
 have HV:=zh hV
 have HBF:=zh hf
 have HNL:=zh hnx
 obtain⟨sv,su,sn,sb,sa,so,us,ns,bs,k0,k1,k2,k3,-,k5,k6,k7,-⟩:=h.at'
 obtain⟨sva,svc,rfl,-⟩:=StrsAt.cells k1
 obtain⟨-,ug0,uc',rfl,uat0⟩:=k2
 obtain⟨ug,uo,rfl,uat⟩:=uat0 hFo.pos
 obtain⟨-,ng0,nc',rfl,nat0⟩:=k3
 obtain⟨ng,no,rfl,nat⟩:=nat0 hFo.pos
 obtain⟨-,ag0,ac',rfl,aat0⟩:=k5
 obtain⟨ag,ao,rfl,aat⟩:=aat0 hFo.pos
 have AAT:Hid (∀ m,m<F.length→w.cell? ⟨ag,ao+m,none⟩=some (.int .i64 (m:Nat))):=fun m hm=>aat m _ (nats_at (by rw [List.getElem?_range hm]))
 have UAT:=zh uat
 have NAT:=zh nat
 have K6:=zh k6
 have K7:=zh k7
 obtain⟨n,hn⟩:∃ n,n=F.length:=⟨_,rfl⟩
 obtain⟨nv,hnv⟩:∃ n,n=(vars F).length:=⟨_,rfl⟩
 rw [← hn,← hnv] at k0
 rw [← hn] at AAT K6 K7
 have HN:=zh hn
 have HNV:=zh hnv
 have K0:=zh k0
 have nz:(n:Int)≤300:=by omega
 have nvz:(nv:Int)≤300:=by omega
 have npos:0<n:=by have:=hFo.pos;omega
 have z0:∀ W,Below w.heap.size w W→W.heap[fb]?=some (.cells #[.slice sva nv svc,.slice (some ⟨ug,uo,none⟩) n uc',.slice (some ⟨ng,no,none⟩) n nc',sb,.slice (some ⟨ag,ao,none⟩) n ac',so,.bool true] 42 (0,0)):=fun W hW=>zm hW k0
 have Z0:=zh z0
 have q1:w.cell? ⟨fb,1,none⟩=some (.slice (some ⟨ug,uo,none⟩) n uc'):=by rw [zb _ _ 1 _ _ _ k0];rfl
 obtain⟨i0,hi0,hz0,hz1,hz2⟩:=info_parts Tryz.info112u
 have hms:=run_make (P:=Tryz.prog) w 51 112 i0 (.slice none 0 0) Tryz.underlying51 hi0 hz0 .i64 .i64 (n:Int) (n:Int) (by omega) (Int.le_refl _) (by rw [hz2];omega) (by omega)
 rw [hz1,Int.toNat_natCast,Nat.mul_one] at hms
 change _=Result.ok _ (w.alloc (.cells (madeCells #[.slice none 0 0] n) 112)) at hms
 obtain⟨i4,h40,h41,h42,h43⟩:=info_parts Tryz.info4u
 have hmt:∀ W:World,(Instr.makeSlice 112 (.int .i64 (nv:Int)) (.int .i64 (nv:Int))).run Tryz.prog W = .ok (.slice (some ⟨W.heap.size,0,none⟩) nv nv) (W.alloc (.cells (madeCells #[.bool false] nv) 4)):=fun W=>by
  have:=run_make (P:=Tryz.prog) W 112 4 i4 (.bool false) Tryz.underlying112 h40 h41 .i64 .i64 (nv:Int) (nv:Int) (by omega) (Int.le_refl _) (by rw [h43];omega) (by omega)
  rw [h42,Int.toNat_natCast,Nat.mul_one] at this
  exact this
 have HMT:=zh hmt
 have R0:=World.rowIs_made w (.slice none 0 0) n 112
 have B0:Below w.heap.size w (w.alloc (.cells (madeCells #[.slice none 0 0] n) 112)):=(zs9 _ _).alloc (zr4 _) _
 obtain⟨MC,hMC⟩:∃ m,m=madeCells #[Value.slice none 0 0] n:=⟨_,rfl⟩
 rw [← hMC] at hms R0 B0
 have I0:Hid (LvI w F nv n n (w.alloc (.cells MC 112))):=⟨B0,by simp,_,R0,fun i h1 h2=>absurd h1 (by omega)⟩
 have q1':=zd B0 _ _ q1
 clear h hFo hF hV hf hnx k0 k1 k6 k7 uat0 nat0 aat0 uat nat aat z0 hn hnv hi0 hz0 hz1 hz2 hMC hmt h40 h41 h42 h43 R0
 go_enter Tryz.func25,Tryz.ntmps25
 go_wp2_with fail
 clear q1 q1' hms B0
 go_loopw [4] (fun iv wr=>∃ (j:Nat) (z:Int),j≤n∧z=(j:Int) - 1∧iv = .int .i64 z∧LvI w F nv n j wr) (fun iv _=>(intOf iv+1).toNat)
 case atStart=>exact⟨n,_,zr4 _,rfl,rfl,I0.out⟩
 rename World=>wo
 obtain⟨j,z,hj,hz,rfl,hI⟩:=hrel
 have KJ:=zh hj
 have KI:=zh hI
 clear hj hI I0
 have BO:=zh KI.out.below
 cases j with
 | zero =>
  obtain rfl:z = -1:=by omega
  clear hz
  go_wp2_with fail
  go_ret
  obtain⟨f,hf,hrow⟩:=KI.out.row
  refine⟨KI.out.below,_,rfl,w.heap.size,n,f,by rw [HN.out];rfl,fun i hi=>hf.cell (by have:=HN.out;omega),fun i hi=>?_⟩
  obtain⟨b,hb,-,hr⟩:=hrow i (Nat.zero_le _) (by have:=HN.out;omega)
  rw [hb]
  have h1:=hr.slat HNV.out
  exact h1
 | succ i =>
  obtain rfl:z=(i:Int):=by omega
  clear hz
  have hin:i<n:=by have:=KJ.out;omega
  have HIN:=zh hin
  have IF:Hid (i<F.length):=by have:=HN.out;show _<_;omega
  have hiz:(i:Int)<n:=by omega
  have hi0:(0:Int)≤i:=by omega
  obtain⟨f,hf,hrow⟩:=KI.out.row
  have hmt:=HMT.out wo
  have zo:=Z0.out wo BO.out
  have c0:wo.cell? ⟨fb,0,none⟩=some (.slice sva nv svc):=by rw [zb _ _ 0 _ _ _ zo];rfl
  have hfa:=hf.alloc (.cells (madeCells #[.bool false] nv) 4)
  have s0:=hfa.cell hin
  have s1:=hfa.frozen i
  obtain⟨fi,hfi⟩:∃ v,v=f i:=⟨_,rfl⟩
  rw [← hfi] at s0
  have T4:RowT (wo.alloc (.cells (madeCells #[.bool false] nv) 4)) wo.heap.size nv fun _=>false:=World.rowIs_made wo (.bool false) nv 4
  have T4':=zh T4
  have HFA:=zh hfa
  have HR:=zh hrow
  have SZO:=zh KI.out.size
  obtain⟨MB,hMB⟩:∃ m,m=madeCells #[Value.bool false] nv:=⟨_,rfl⟩
  rw [← hMB] at hmt s0 s1 T4' HFA
  clear hf hrow hfa zo hfi T4 hMB hin
  go_upto_region 6 with fail
  obtain⟨w5,hw5⟩:∃ W,W=(wo.alloc (.cells MB 4)).setCell ⟨w.heap.size,i,none⟩ (.slice (some ⟨wo.heap.size,0,none⟩) nv nv):=⟨_,rfl⟩
  rw [← hw5]
  have R5:Hid (w5.rowIs w.heap.size 112 n fun q=>if q=i then .slice (some ⟨wo.heap.size,0,none⟩) nv nv else f q):=by show World.rowIs _ _ _ _ _;rw [hw5];exact HFA.out.set i _
  have T5:Hid (RowT w5 wo.heap.size nv fun _=>false):=by show RowT _ _ _ _;rw [hw5];exact World.rowIs.setOther T4'.out (by have:=SZO.out;show wo.heap.size≠w.heap.size;omega) _
  have B5:Hid (Below w.heap.size w w5):=by show Below _ _ _;rw [hw5];exact(BO.out.alloc BO.out.size _).setCell (zr4 _) _
  have S5:Hid (w5.heap.size=wo.heap.size+1):=by show _=_;rw [hw5];simp
  have D5:Hid (∀ q,i+1≤q→q<n→∃ b,f q = .slice (some ⟨b,0,none⟩) nv nv∧w.heap.size<b∧b<wo.heap.size∧RowT w5 b nv fun p=>lv F q ((vars F).getD p ⟨#[]⟩)):=fun q h1 h2=>by
   obtain⟨b,e1,e2,e3⟩:=HR.out q h1 h2
   have hlt:=World.rowIs.lt e3
   refine⟨b,e1,e2,hlt,?_⟩
   rw [hw5]
   exact World.rowIs.setOther (World.rowIs.alloc e3 _) (by show b≠w.heap.size;omega) _
  obtain⟨b,hbb⟩:∃ b,b=wo.heap.size:=⟨_,rfl⟩
  rw [← hbb] at R5 T5 S5 D5 SZO
  have GB:Hid (w.heap.size<b):=SZO.out
  obtain⟨vn,hvn,hvn2⟩:=K7.out i (by have:=HIN.out;exact this)
  have NN:=zh (NAT.out i vn hvn)
  obtain⟨-,va,vc,rfl,vat⟩:=hvn2
  have VAT:=zh vat
  obtain⟨nx,hnx⟩:∃ l,l=NR F i:=⟨_,rfl⟩
  rw [← hnx] at VAT NN
  obtain⟨nn,hnn⟩:∃ n,n=nx.length:=⟨_,rfl⟩
  rw [← hnn] at VAT NN
  have HNX:=zh hnx
  have HNN:=zh hnn
  have NXI:Hid (∀ m∈nx,i<m∧m<n):=fun m hm=>by
   rw [HNX.out] at hm
   have:=FO.out.nxt i IF.out m hm
   rw [HN.out];exact this
  have nnz:(nn:Int)≤20000:=by have h1:=HNL.out i IF.out;rw [← HNX.out,← HNN.out] at h1;omega
  clear hw5 hbb hvn vat hnx hnn s0 s1 hmt c0 KI HR HFA T4'
  go_wp2_with fail
  go_loopw [5] (fun iv wr=>∃ k:Nat,k≤nn∧iv = .int .i64 k∧Below b w5 wr∧b<wr.heap.size∧RowT wr b nv fun p=>(nx.take k).any fun m=>lv F m ((vars F).getD p ⟨#[]⟩)) (fun iv _=>nn - (intOf iv).toNat)
  case atStart=>exact⟨0,Nat.zero_le _,rfl,zs9 _ _,by rw [S5.out];exact Nat.lt_succ_self _,T5.out.congr fun q hq=>by simp⟩
  rename World=>wk
  obtain⟨k,hk,rfl,hb,hbs,hrt⟩:=hrel
  have KK:=zh hk
  have KB:=zh hb
  have KS:=zh hbs
  have KRT:=zh hrt
  have BK:Hid (Below w.heap.size w wk):=B5.out.trans (hb.mono (by have:=GB.out;omega))
  have zk:=Z0.out wk BK.out
  have c2:wk.cell? ⟨fb,2,none⟩=some (.slice (some ⟨ng,no,none⟩) n nc'):=by rw [zb _ _ 2 _ _ _ zk];rfl
  have c0:wk.cell? ⟨fb,0,none⟩=some (.slice sva nv svc):=by rw [zb _ _ 0 _ _ _ zk];rfl
  have n1:=zd BK.out _ _ NN.out
  clear hk hb hbs hrt zk
  by_cases hlt:k<nn
  ·have hkz:(k:Int)<nn:=by omega
   have hk0:(0:Int)≤k:=by omega
   have KLT:=zh hlt
   obtain⟨vg,vo,rfl,vat⟩:=VAT.out (by have:=HNN.out;omega)
   obtain⟨m,hm⟩:∃ m,nx[k]?=some m:=⟨_,zq9 (by have:=HNN.out;omega)⟩
   have HM:=zh hm
   have MI:=zh (NXI.out m (zr1 hm))
   have hmz:(m:Int)<n:=by have:=MI.out.2;omega
   have hm0:(0:Int)≤m:=by omega
   have a1:=zd BK.out _ _ (vat k _ (nats_at hm))
   obtain⟨bm,fm,gm,lm,TM⟩:=D5.out m MI.out.1 MI.out.2
   have FM:=zh fm
   have LM:=zh (And.intro gm lm)
   have HTM:=zh TM
   clear hlt hm vat fm gm lm TM
   go_wp2_with fail
   clear c2 n1 a1
   go_loopw [7] (fun iv wr=>∃ q:Nat,q≤nv∧iv = .int .i64 q∧Below b w5 wr∧b<wr.heap.size∧RowT wr b nv fun p=>if p<q then ((nx.take (k+1)).any fun m=>lv F m ((vars F).getD p ⟨#[]⟩)) else ((nx.take k).any fun m=>lv F m ((vars F).getD p ⟨#[]⟩))) (fun iv _=>nv - (intOf iv).toNat)
   case atStart=>exact⟨0,Nat.zero_le _,rfl,KB.out,KS.out,KRT.out.congr fun q hq=>by simp⟩
   rename World=>wq
   obtain⟨q,hq,rfl,hb,hbs,hrt⟩:=hrel
   have QK:=zh hq
   have QB:=zh hb
   have QS:=zh hbs
   have QRT:=zh hrt
   have BQ:Hid (Below w.heap.size w wq):=B5.out.trans (hb.mono (by have:=GB.out;omega))
   have zk:=Z0.out wq BQ.out
   have c0:wq.cell? ⟨fb,0,none⟩=some (.slice sva nv svc):=by rw [zb _ _ 0 _ _ _ zk];rfl
   have c4:wq.cell? ⟨fb,4,none⟩=some (.slice (some ⟨ag,ao,none⟩) n ac'):=by rw [zb _ _ 4 _ _ _ zk];rfl
   have a2:=zd BQ.out _ _ (AAT.out m (by have:=MI.out.2;omega))
   clear hq hb hbs hrt zk
   by_cases hlt:q<nv
   ·have hqz:(q:Int)<nv:=by omega
    have hq0:(0:Int)≤q:=by omega
    have QLT:=zh hlt
    have e0:wq.cell? ⟨w.heap.size,i,none⟩=some (.slice (some ⟨b,0,none⟩) nv nv):=by
     rw [QB.out.cell (p:=⟨w.heap.size,i,none⟩) GB.out,R5.out.cell HIN.out,if_pos rfl]
    have e2:wq.cell? ⟨w.heap.size,m,none⟩=some (.slice (some ⟨bm,0,none⟩) nv nv):=by
     rw [QB.out.cell (p:=⟨w.heap.size,m,none⟩) GB.out,R5.out.cell MI.out.2,if_neg (by have:=MI.out.1;omega),FM.out]
    have e1:=World.rowIs.cell QRT.out hlt
    simp only [Nat.lt_irrefl,if_false] at e1
    have ef:=World.rowIs.frozen QRT.out q
    have e3:wq.cell? ⟨bm,q,none⟩=some (.bool (lv F m ((vars F).getD q ⟨#[]⟩))):=by
     rw [QB.out.cell (p:=⟨bm,q,none⟩) LM.out.2,World.rowIs.cell HTM.out hlt]
    have TK:Hid (((nx.take (k+1)).any fun m=>lv F m ((vars F).getD q ⟨#[]⟩))=(((nx.take k).any fun m=>lv F m ((vars F).getD q ⟨#[]⟩))||lv F m ((vars F).getD q ⟨#[]⟩))):=by
     show _=_
     rw [List.take_add_one,HM.out,List.any_append]
     simp
    obtain⟨A1,hA1⟩:∃ x,x=(nx.take k).any fun m=>lv F m ((vars F).getD q ⟨#[]⟩):=⟨_,rfl⟩
    obtain⟨A2,hA2⟩:∃ x,x=lv F m ((vars F).getD q ⟨#[]⟩):=⟨_,rfl⟩
    rw [← hA1] at e1 TK
    rw [← hA2] at e3 TK
    clear hlt hA1 hA2
    have NEXT:Hid (∀ v:Bool,v=(A1||A2)→RowT (wq.setCell ⟨b,q,none⟩ (.bool v)) b nv fun p=>if p<q+1 then ((nx.take (k+1)).any fun m=>lv F m ((vars F).getD p ⟨#[]⟩)) else ((nx.take k).any fun m=>lv F m ((vars F).getD p ⟨#[]⟩))):=fun v hv=>by
     refine QRT.out.set q v fun p hp=>?_
     by_cases e:p=q
     ·subst e
      rw [if_pos rfl,if_pos (Nat.lt_succ_self _),TK.out,hv]
     rw [if_neg e]
     by_cases h1:p<q
     ·rw [if_pos h1,if_pos (by omega)]
     rw [if_neg h1,if_neg (by omega)]
    by_cases hA:A1=true
    ·have HA:=zh hA
     clear hA
     go_upto_region 13 with fail
     refine wp_region_still_tail 28 (by kernel_rfl) (by kernel_rfl) ?_
     simp only [List.take_succ_cons,List.take_zero,List.drop_succ_cons,List.drop_zero,World.drew_eq]
     iterate 12 still_step
     refine wpStill_val (.bool A1) (by with_reducible rfl) (by go_simp) ?_
     simp only [Act.put,zq4,zq5,zq6]
     iterate 13 (refine wpStill_pass 79 (b':=A1) (b:=false) (j:=12) (by with_reducible rfl) (by rw [HA.out];decide) (by simp only [List.getElem?_toArray,List.getElem?_cons_succ,List.getElem?_cons_zero,Option.bind_some]) (by simp only [List.getElem?_toArray,List.getElem?_cons_succ,List.getElem?_cons_zero]) ?_;simp only [Act.put,zq4,zq5,zq6])
     refine wpStill_pick (b:=A1) (.bool true) (by with_reducible rfl) (by with_reducible rfl) HA.out (by go_simp) (by go_simp) ?_
     simp only [Act.put,zq4,zq5,zq6]
     refine wpStill_val (.pointer (some ⟨b,q,none⟩)) (by with_reducible rfl) (by go_simp) ?_
     simp only [Act.put,zq4,zq5,zq6]
     refine wpStill_nil ?_
     go_wp2_with fail
     go_roundw
     case rel=>exact⟨q+1,QLT.out,by go_num,(QB.out.setCell (zr4 _) _).trans (zj _ _ 1),by have:=QS.out;simpa using this,(NEXT.out _ (by rw [HA.out];rfl)).keep rfl⟩
     case measure=>have:=QLT.out;simp [intOf];omega
    obtain rfl:A1=false:=by simpa using hA
    clear hA
    cases A2
    ·go_upto_region 13 with fail
     refine wp_region_still_tail 28 (by kernel_rfl) (by kernel_rfl) ?_
     simp only [List.take_succ_cons,List.take_zero,List.drop_succ_cons,List.drop_zero,World.drew_eq]
     iterate 28 still_step
     refine wpStill_nil ?_
     go_wp2_with fail
     go_roundw
     case rel=>exact⟨q+1,QLT.out,by go_num,(QB.out.setCell (zr4 _) _).trans (zj _ _ 1),by have:=QS.out;simpa using this,(NEXT.out _ (by rfl)).keep rfl⟩
     case measure=>have:=QLT.out;simp [intOf];omega
    go_upto_region 13 with fail
    refine wp_region_still_tail 28 (by kernel_rfl) (by kernel_rfl) ?_
    simp only [List.take_succ_cons,List.take_zero,List.drop_succ_cons,List.drop_zero,World.drew_eq]
    iterate 28 still_step
    refine wpStill_nil ?_
    go_wp2_with fail
    go_roundw
    case rel=>exact⟨q+1,QLT.out,by go_num,(QB.out.setCell (zr4 _) _).trans (zj _ _ 1),by have:=QS.out;simpa using this,(NEXT.out _ (by rfl)).keep rfl⟩
    case measure=>have:=QLT.out;simp [intOf];omega
   have hqz:(nv:Int)≤q:=by omega
   have hdq:decide (q<nv)=false:=by simp;omega
   have QD:Hid (RowT wq b nv fun p=>(nx.take (k+1)).any fun m=>lv F m ((vars F).getD p ⟨#[]⟩)):=QRT.out.congr fun p hp=>by rw [if_pos (by omega)]
   clear hlt
   go_wp2_with fail
   go_roundw
   case rel=>exact⟨k+1,KLT.out,by go_num,QB.out,QS.out,QD.out⟩
   case measure=>have:=KLT.out;simp [intOf];omega
  have hkz:(nn:Int)≤k:=by omega
  have hdk:decide (k<nn)=false:=by simp;omega
  have KD:Hid (RowT wk b nv fun p=>nx.any fun m=>lv F m ((vars F).getD p ⟨#[]⟩)):=KRT.out.congr fun p hp=>by rw [zr3 (by have:=HNN.out;omega)]
  have BN:=zh (bindingsR_any (FR.out.keep BK.out) IF.out (by have:=HF.out;omega) (fun k hk=>(FO.out.nxt i IF.out k hk).2) (HNL.out i IF.out) HBF.out)
  clear hlt
  go_wp2_with fail
  refine BN.out.mono ?_
  rintro en w9 ⟨hb9,u9,rfl,hu9⟩
  obtain⟨-,xa,xc,rfl,xat⟩:=hu9
  obtain⟨bs',hbs9⟩:∃ l,l=bindsR F i:=⟨_,rfl⟩
  rw [← hbs9] at xat ⊢
  obtain⟨nbs,hnbs⟩:∃ n,n=bs'.length:=⟨_,rfl⟩
  rw [← hnbs] at xat ⊢
  have XAT:=zh xat
  have HBS:=zh hbs9
  have HNBS:=zh hnbs
  have BSV:Hid (∀ q∈bs',q<nv):=fun q hq=>by
   rw [HBS.out,bindsR_map] at hq
   obtain⟨x,hx,rfl⟩:=List.mem_map.1 hq
   obtain⟨k,hk,hx⟩:=List.mem_flatMap.1 hx
   rw [HNV.out]
   exact place_lt (binds_vars (FO.out.nxt i IF.out k hk).2 hx)
  have nbz:(nbs:Int)≤20000000000:=by
   have h1:=bindsR_few HBF.out (NR F i) (fun k hk=>(FO.out.nxt i IF.out k hk).2)
   have h2:=HNL.out i IF.out
   have h3:bs'.length=((NR F i).flatMap (BR F)).length:=by rw [HBS.out];rfl
   have:=HNBS.out
   omega
  have B9:Hid (Below b w5 w9):=KB.out.trans (hb9.mono (Nat.le_of_lt KS.out))
  have S9:Hid (b<w9.heap.size):=zt5 KS.out hb9.size
  have R9:Hid (RowT w9 b nv fun p=>nx.any fun m=>lv F m ((vars F).getD p ⟨#[]⟩)):=KD.out.keep (hb9.block _ KS.out)
  obtain⟨NQ,hNQ⟩:∃ A:Nat→Bool,A=fun p=>nx.any fun m=>lv F m ((vars F).getD p ⟨#[]⟩):=⟨_,rfl⟩
  rw [← hNQ] at R9
  have HNQ:=zh hNQ
  clear hb9 xat hbs9 hnbs hNQ KD KB KS KRT KK BN BK c0 c2 n1
  go_wp2_with fail
  go_loopw [9] (fun iv wr=>∃ q:Nat,q≤nbs∧iv = .int .i64 q∧Below b w5 wr∧b<wr.heap.size∧OnlyB b w9 wr∧RowT wr b nv fun p=>NQ p && !decide (p∈bs'.take q)) (fun iv _=>nbs - (intOf iv).toNat)
  case atStart=>exact⟨0,Nat.zero_le _,rfl,B9.out,S9.out,OnlyB.refl _ _,R9.out.congr fun p hp=>by simp⟩
  rename World=>wq
  obtain⟨q,hq,rfl,hb,hbs,ho,hrt⟩:=hrel
  have QK:=zh hq
  have QB:=zh hb
  have QS:=zh hbs
  have QO:=zh ho
  have QRT:=zh hrt
  clear hq hb hbs ho hrt
  by_cases hlt:q<nbs
  ·have hqz:(q:Int)<nbs:=by omega
   have hq0:(0:Int)≤q:=by omega
   have QLT:=zh hlt
   obtain⟨g,o,rfl,xat⟩:=XAT.out (by omega)
   obtain⟨p,hp⟩:∃ p,bs'[q]?=some p:=⟨_,zq9 (by have:=HNBS.out;omega)⟩
   have x9:=xat q _ (nats_at hp)
   have hgb:g≠b:=fun e=>R9.out.no_int (e ▸ x9)
   have x1:=QO.out.cell hgb x9
   have hpv:p<nv:=BSV.out p (zr1 hp)
   have hpz:(p:Int)<nv:=by omega
   have hp0:(0:Int)≤p:=by omega
   have e0:wq.cell? ⟨w.heap.size,i,none⟩=some (.slice (some ⟨b,0,none⟩) nv nv):=by
    rw [QB.out.cell (p:=⟨w.heap.size,i,none⟩) GB.out,R5.out.cell HIN.out,if_pos rfl]
   have e1:=World.rowIs.cell QRT.out hpv
   have ef:=World.rowIs.frozen QRT.out p
   have NEXT:Hid (RowT (wq.setCell ⟨b,p,none⟩ (.bool false)) b nv fun r=>NQ r && !decide (r∈bs'.take (q+1))):=QRT.out.set p false fun r hr=>by
    rw [List.take_add_one,hp]
    by_cases e:r=p
    ·subst e;simp
    rw [if_neg e];simp [e]
   obtain⟨A1,hA1⟩:∃ x,x=(NQ p && !decide (p∈bs'.take q)):=⟨_,rfl⟩
   (try simp only [] at e1)
   rw [← hA1] at e1
   clear hlt xat hp x9 hpv hA1 hgb
   go_upto_region 18 with fail
   refine wp_region_still_tail 9 (by kernel_rfl) (by kernel_rfl) ?_
   simp only [List.take_succ_cons,List.take_zero,List.drop_succ_cons,List.drop_zero,World.drew_eq]
   iterate 9 still_step
   refine wpStill_nil ?_
   go_wp2_with fail
   go_roundw
   case rel=>exact⟨q+1,QLT.out,by go_num,(QB.out.setCell (zr4 _) _).trans (zj _ _ 1),by have:=QS.out;simpa using this,(QO.out.setCell _).drewN,NEXT.out.keep rfl⟩
   case measure=>have:=QLT.out;simp [intOf];omega
  have hqz:(nbs:Int)≤q:=by omega
  have hdq:decide (q<nbs)=false:=by simp;omega
  have Q2:Hid (RowT wq b nv fun p=>NQ p && !decide (p∈bs')):=QRT.out.congr fun p hp=>by rw [zr3 (by have:=HNBS.out;omega)]
  obtain⟨vu,hvu,hvu2⟩:=K6.out i HIN.out
  have UU:=zh (UAT.out i vu hvu)
  obtain⟨-,ua,uc,rfl,uvat⟩:=hvu2
  have UV:=zh uvat
  obtain⟨us',hus⟩:∃ l,l=UR F i:=⟨_,rfl⟩
  rw [← hus] at UU UV
  obtain⟨nus,hnus⟩:∃ n,n=us'.length:=⟨_,rfl⟩
  rw [← hnus] at UU UV
  have HUS:=zh hus
  have HNUS:=zh hnus
  have USV:Hid (∀ q∈us',q<nv):=fun q hq=>by
   rw [HUS.out] at hq
   obtain⟨x,hx,rfl⟩:=List.mem_map.1 hq
   rw [HNV.out]
   exact place_lt (FO.out.bound i IF.out x (mem_usesAt.1 hx))
  have nuz:(nus:Int)≤300:=by
   have h1:(usesAt F i).length≤(vars F).length:=nodup_len (once_nodup _ _ List.nodup_nil) fun x hx=>FO.out.bound i IF.out x (mem_usesAt.1 hx)
   have h2:us'.length=(usesAt F i).length:=by rw [HUS.out];exact List.length_map _
   have:=HNUS.out
   have:=HV.out
   omega
  have QB0:=QB
  have QS0:=QS
  clear hlt hvu uvat hus hnus QRT QO QK QB QS R9 S9 B9
  go_wp2_with fail
  go_loopw [10] (fun iv wr=>∃ q:Nat,q≤nus∧iv = .int .i64 q∧Below b w5 wr∧b<wr.heap.size∧RowT wr b nv fun p=>decide (p∈us'.take q)||(NQ p && !decide (p∈bs'))) (fun iv _=>nus - (intOf iv).toNat)
  case atStart=>exact⟨0,Nat.zero_le _,rfl,QB0.out,QS0.out,Q2.out.congr fun p hp=>by simp⟩
  rename World=>wu
  obtain⟨r,hr,rfl,hb,hbs,hrt⟩:=hrel
  have RK:=zh hr
  have RB:=zh hb
  have RS:=zh hbs
  have RRT:=zh hrt
  have BU:Hid (Below w.heap.size w wu):=B5.out.trans (hb.mono (Nat.le_of_lt GB.out))
  have zk:=Z0.out wu BU.out
  have c1:wu.cell? ⟨fb,1,none⟩=some (.slice (some ⟨ug,uo,none⟩) n uc'):=by rw [zb _ _ 1 _ _ _ zk];rfl
  have u1:=zd BU.out _ _ UU.out
  clear hr hb hbs hrt zk
  by_cases hlt:r<nus
  ·have hrz:(r:Int)<nus:=by omega
   have hr0:(0:Int)≤r:=by omega
   have RLT:=zh hlt
   obtain⟨g,o,rfl,uat⟩:=UV.out (by have:=HNUS.out;omega)
   obtain⟨p,hp⟩:∃ p,us'[r]?=some p:=⟨_,zq9 (by have:=HNUS.out;omega)⟩
   have x1:=zd BU.out _ _ (uat r _ (nats_at hp))
   have hpv:p<nv:=USV.out p (zr1 hp)
   have hpz:(p:Int)<nv:=by omega
   have hp0:(0:Int)≤p:=by omega
   have e0:wu.cell? ⟨w.heap.size,i,none⟩=some (.slice (some ⟨b,0,none⟩) nv nv):=by
    rw [RB.out.cell (p:=⟨w.heap.size,i,none⟩) GB.out,R5.out.cell HIN.out,if_pos rfl]
   have e1:=World.rowIs.cell RRT.out hpv
   have ef:=World.rowIs.frozen RRT.out p
   have NEXT:Hid (RowT (wu.setCell ⟨b,p,none⟩ (.bool true)) b nv fun q=>decide (q∈us'.take (r+1))||(NQ q && !decide (q∈bs'))):=RRT.out.set p true fun q hq=>by
    rw [List.take_add_one,hp]
    by_cases e:q=p
    ·subst e;simp
    rw [if_neg e];simp [e]
   obtain⟨A1,hA1⟩:∃ x,x=(decide (p∈us'.take r)||(NQ p && !decide (p∈bs'))):=⟨_,rfl⟩
   (try simp only [] at e1)
   rw [← hA1] at e1
   clear hlt uat hp hpv hA1
   go_upto_region 22 with fail
   refine wp_region_still_tail 15 (by kernel_rfl) (by kernel_rfl) ?_
   simp only [List.take_succ_cons,List.take_zero,List.drop_succ_cons,List.drop_zero,World.drew_eq]
   iterate 15 still_step
   refine wpStill_nil ?_
   go_wp2_with fail
   go_roundw
   case rel=>exact⟨r+1,RLT.out,by go_num,(RB.out.setCell (zr4 _) _).trans (zj _ _ 1),by have:=RS.out;simpa using this,NEXT.out.keep rfl⟩
   case measure=>have:=RLT.out;simp [intOf];omega
  have hrz:(nus:Int)≤r:=by omega
  have hdr:decide (r<nus)=false:=by simp;omega
  have FIN:Hid (RowT wu b nv fun p=>lv F i ((vars F).getD p ⟨#[]⟩)):=RRT.out.congr fun p hp=>by
   rw [zr3 (by have:=HNUS.out;omega),HUS.out,HBS.out,bindsR_map,HNQ.out,HNX.out]
   exact FO.out.lives_place IF.out (by rw [← HNV.out];exact hp)
  clear hlt
  go_wp2_with fail
  go_roundw
  case rel =>
   refine⟨i,(i:Int) - 1,Nat.le_of_lt HIN.out,rfl,rfl,BU.out,Nat.lt_trans GB.out RS.out,_,R5.out.of_block (RB.out.block _ GB.out),fun q h1 h2=>?_⟩
   by_cases e:q=i
   ·subst e
    exact⟨b,if_pos rfl,GB.out,FIN.out⟩
   obtain⟨b',e1,e2,e3,e4⟩:=D5.out q (by omega) h2
   exact⟨b',by rw [if_neg e];exact e1,e2,RowT.keep e4 (RB.out.block _ e3)⟩
  case measure=>have:=HIN.out;simp [intOf]<;>omega
end Go.Proofs.YtnkahlloahgifaaGreatDoor

namespace Go.Proofs.YtnkahlloahgifaaGreatDoor
open Go.RowKit RG Go.Maps RF
def RowsR (w:World) (g o n:Nat) (R:Nat→List Nat):Prop :=
 ∀ i,i<n→∃ (ad:Option Addr) (c:Nat),w.cell? ⟨g,o+i,none⟩=some (.slice ad (R i).length c)∧SlAt w (.slice ad (R i).length c) (R i).length (nats (R i))
theorem RowsR.kept {w w':World}{g o n:Nat}{R:Nat→List Nat}(h:RowsR w g o n R) (hk:Kept w w'):RowsR w' g o n R:=fun i hi=>by
 obtain⟨ad,c,h1,h2⟩:=h i hi
 exact⟨ad,c,hk _ _ h1,h2.kept hk⟩
structure FlF (w:World) (fb:Nat) (F:List Nd):Prop where
 flat:FlatR w fb F
 fo:Fo F
 len:F.length≤300
 few:(vars F).length≤300
 next:∀ k,k<F.length→(NR F k).length≤20000
structure FlC (w:World) (fb:Nat) (F:List Nd) (sva:Option Addr) (svc ug uo uc ng no nc bg bo bc ag ao ac:Nat) (so:Value):Prop where
 row:w.heap[fb]?=some (.cells #[.slice sva (vars F).length svc,.slice (some ⟨ug,uo,none⟩) F.length uc,.slice (some ⟨ng,no,none⟩) F.length nc,.slice (some ⟨bg,bo,none⟩) F.length bc,.slice (some ⟨ag,ao,none⟩) F.length ac,so,.bool true] 42 (0,0))
 names:∀ p,p<(vars F).length→∃ g o,sva=some ⟨g,o,none⟩∧w.cell? ⟨g,o+p,none⟩=some (.string ((vars F).getD p ⟨#[]⟩))
 uses:RowsR w ug uo F.length (UR F)
 next:RowsR w ng no F.length (NR F)
 binds:RowsR w bg bo F.length (BR F)
 after:∀ m,m<F.length→w.cell? ⟨ag,ao+m,none⟩=some (.int .i64 (m:Nat))
 fo:Fo F
 len:F.length≤300
 few:(vars F).length≤300
 nlen:∀ k,k<F.length→(NR F k).length≤20000
variable {w w':World} {fb:Nat} {F:List Nd} {sva:Option Addr} {svc ug uo uc ng no nc bg bo bc ag ao ac:Nat} {so:Value}
theorem FlF.keep (h:FlF w fb F) (hb:Below w.heap.size w w'):FlF w' fb F:=⟨h.flat.keep hb,h.fo,h.len,h.few,h.next⟩
theorem FlC.keep (h:FlC w fb F sva svc ug uo uc ng no nc bg bo bc ag ao ac so) (hb:Below w.heap.size w w'):FlC w' fb F sva svc ug uo uc ng no nc bg bo bc ag ao ac so :=
 ⟨zm hb h.row,fun p hp=>by obtain⟨g,o,h1,h2⟩:=h.names p hp;exact⟨g,o,h1,zd hb _ _ h2⟩,h.uses.kept (zd hb),h.next.kept (zd hb),h.binds.kept (zd hb),fun m hm=>zd hb _ _ (h.after m hm),h.fo,h.len,h.few,h.nlen⟩
theorem rows_of {us:List Value}{g o n:Nat}{R:Nat→List Nat}(hat:∀ (i:Nat) x,us[i]?=some x→w.cell? ⟨g,o+i,none⟩=some x) (h:∀ i,i<n→∃ v,us[i]?=some v∧SlAt w v (R i).length (nats (R i))):RowsR w g o n R:=fun i hi=>by
 obtain⟨v,h1,h2⟩:=h i hi
 obtain⟨-,ad,c,rfl,-⟩:=id h2
 exact⟨ad,c,hat i _ h1,h2⟩
theorem FlF.cells (h:FlF w fb F):∃ sva svc ug uo uc ng no nc bg bo bc ag ao ac so,FlC w fb F sva svc ug uo uc ng no nc bg bo bc ag ao ac so:=by
 obtain⟨sv,su,sn,sb,sa,so,us,ns,bs,k0,k1,k2,k3,k4,k5,k6,k7,k8⟩:=h.flat.at'
 obtain⟨sva,svc,rfl,sat⟩:=StrsAt.cells k1
 have hp:=h.fo.pos
 obtain⟨-,ug0,uc',rfl,uat0⟩:=k2
 obtain⟨ug,uo,rfl,uat⟩:=uat0 hp
 obtain⟨-,ng0,nc',rfl,nat0⟩:=k3
 obtain⟨ng,no,rfl,nat⟩:=nat0 hp
 obtain⟨-,bg0,bc',rfl,bat0⟩:=k4
 obtain⟨bg,bo,rfl,bat⟩:=bat0 hp
 obtain⟨-,ag0,ac',rfl,aat0⟩:=k5
 obtain⟨ag,ao,rfl,aat⟩:=aat0 hp
 refine⟨_,_,_,_,_,_,_,_,_,_,_,_,_,_,_,k0,fun p hp=>?_,rows_of uat k6,rows_of nat k7,rows_of bat k8,fun m hm=>aat m _ (nats_at (by rw [List.getElem?_range hm])),h.fo,h.len,h.few,h.next⟩
 obtain⟨g,o,e,hat⟩:=sat (by omega)
 exact⟨g,o,e,hat p _ (by rw [zt4,zq9 hp];rfl)⟩
theorem FlF.blen (h:FlF w fb F) {k:Nat}(hk:k<F.length):(BR F k).length≤300:=by
 unfold BR
 rw [List.length_map]
 exact zr5 (nodup_len (h.fo.binds_nodup hk) fun x hx=>binds_vars hk hx) h.few
theorem FlC.blen (h:FlC w fb F sva svc ug uo uc ng no nc bg bo bc ag ao ac so) {k:Nat}(hk:k<F.length):(BR F k).length≤300:=by
 unfold BR
 rw [List.length_map]
 exact zr5 (nodup_len (h.fo.binds_nodup hk) fun x hx=>binds_vars hk hx) h.few
theorem FlF.lives (h:FlF w fb F):Calls Tryz.prog 25 #[.pointer (some ⟨fb,0,none⟩)] w fun e w'=>Below w.heap.size w w'∧∃ v,e = .returned v∧LivesR w' v F :=
 lives_any h.flat h.fo h.len h.few (fun k hk=>zr5 (h.blen hk) (by omega)) h.next
theorem crosses_any {lt:Value}{b:Nat}(h:FlF w fb F) (hl:LivesR w lt F) (hb:b<F.length) :
  Calls Tryz.prog 66 #[.pointer (some ⟨fb,0,none⟩),lt,.int .i64 (b:Nat)] w fun e w'=>Below w.heap.size w w'∧∃ u,e = .returned u∧SlAt w' u (posn F (cross F b) (vars F).length).length (nats (posn F (cross F b) (vars F).length)):=by
 obtain⟨sva,svc,ug,uo,uc,ng,no,nc,bg,bo,bc,ag,ao,ac,so,hC⟩:=h.cells
 have HC:=zh hC
 obtain⟨lg,lc,rs,rfl,l1,l2⟩:=hl
 have CP:=zh (hC.fo.cross_posn hb)
 have RS:=zh (risingR_any (q:=lv F b) (l2 b hb) (zr5 h.few (by omega)))
 have r1:=l1 b hb
 have a1:=hC.after b hb
 obtain⟨n,hn⟩:∃ n,n=F.length:=⟨_,rfl⟩
 have hbz:(b:Int)<n:=by omega
 have hb0:(0:Int)≤b:=by omega
 have nz:(n:Int)≤300:=by have:=h.len;omega
 have c4:w.cell? ⟨fb,4,none⟩=some (.slice (some ⟨ag,ao,none⟩) n ac):=by rw [zb _ _ 4 _ _ _ hC.row,hn];rfl
 rw [← hn]
 obtain⟨br,hbr⟩:∃ l,l=BR F b:=⟨_,rfl⟩
 rw [← hbr] at CP
 obtain⟨bad,bcc,b1,b2⟩:=hC.binds b hb
 rw [← hbr] at b1 b2
 have B1:=zh b1
 have B2:=zh b2
 have BL:Hid (br.length≤300):=by show _≤_;rw [hbr];exact hC.blen hb
 have ROW:=zh hC.row
 obtain⟨l0,hl0⟩:∃ l,l=posn F (lv F b) (vars F).length:=⟨_,rfl⟩
 have L0Z:Hid (l0.length≤300):=by show _≤_;rw [hl0];exact zr5 (posn_len _ _ _) h.few
 rw [← hl0] at CP RS
 have HN:=zh hn
 obtain⟨i3,p1,p2,p3,p4⟩:=info_parts Tryz.info3u
 have HI3:=zh (And.intro p1 (And.intro p2 (And.intro p3 p4)))
 obtain⟨rb,hrb⟩:∃ v,v=rs b:=⟨_,rfl⟩
 rw [← hrb] at r1 RS
 clear h hC l1 l2 hb hbr b1 b2 hl0 hn p1 p2 p3 p4 hrb
 go_enter Tryz.func66,Tryz.ntmps66
 go_wp2_with fail
 refine RS.out.mono ?_
 rintro en w1 ⟨hb1,u1,rfl,hu1⟩
 have BB1:=zh hb1
 obtain⟨-,xa,xc,rfl,xat⟩:=id hu1
 have XAT:=zh xat
 have HU1:=zh hu1
 obtain⟨nl,hnl⟩:∃ n,n=l0.length:=⟨_,rfl⟩
 rw [← hnl] at XAT L0Z ⊢
 have HNL:=zh hnl
 have nlz:(nl:Int)≤300:=by have:=L0Z.out;omega
 clear hb1 xat hu1 hnl r1 a1 c4 RS
 go_wp2_with fail
 go_loopw [7,9] (fun ov iv wr=>∃ k:Nat,k≤nl∧iv = .int .i64 k∧World.ownsRow wr w1.heap.size 3 1 ov ((l0.take k).filter fun p => !decide (p∈br)).length (nats ((l0.take k).filter fun p => !decide (p∈br)))∧Below w1.heap.size w1 wr) (fun _ iv _=>nl - (intOf iv).toNat)
 case atStart=>exact⟨0,Nat.zero_le _,rfl,World.ownsRow_nil _ _ _ _,zs9 _ _⟩
 rename World=>V
 obtain⟨k,hk,rfl,hown,hbv⟩:=hrel
 have KI:=zh hk
 have KO:=zh hown
 have BV:=zh hbv
 have BW:Hid (Below w.heap.size w V):=BB1.out.trans (hbv.mono BB1.out.size)
 obtain⟨oa,oc,hov⟩:=own_sliceI hown
 subst hov
 obtain⟨out,hout⟩:∃ out,out=(l0.take k).filter fun p => !decide (p∈br):=⟨_,rfl⟩
 have HO:=zh hout
 rw [← hout] at KO ⊢
 obtain⟨no',hno⟩:∃ no',no'=out.length:=⟨_,rfl⟩
 have HNO:=zh hno
 rw [← hno] at KO ⊢
 clear hk hown hbv hno hout
 by_cases hlt:k<nl
 ·have hlz:(k:Int)<nl:=by omega
  have hk0:(0:Int)≤k:=by omega
  have HLT:=zh hlt
  obtain⟨p,hp⟩:∃ p,l0[k]?=some p:=⟨_,zq9 (by have:=HNL.out;omega)⟩
  obtain⟨g,o,rfl,xat⟩:=XAT.out (by omega)
  have x1:=zd BV.out _ _ (xat k _ (nats_at hp))
  have FS:=zh (filter_take_succ (fun p => !decide (p∈br)) l0 hp)
  have hm:Hid (∀ W,Below V.heap.size V W→Calls Tryz.prog 62 #[.slice bad br.length bcc,.int .i64 (p:Nat)] W fun en w'=>Below W.heap.size W w'∧en = .returned (.bool (decide (p∈br)))):=fun W hW =>
   hasN_any p (B2.out.kept ((zd BW.out).trans (zd hW))) (by have:=BL.out;omega)
  have c3:V.cell? ⟨fb,3,none⟩=some (.slice (some ⟨bg,bo,none⟩) n bc):=by rw [zb _ _ 3 _ _ _ (zm BW.out ROW.out),HN.out];rfl
  have b1:=zd BW.out _ _ B1.out
  obtain⟨nb,hnb⟩:∃ n,n=br.length:=⟨_,rfl⟩
  rw [← hnb] at b1 hm
  clear hlt xat hp hnb
  go_upto_region 6 with fail
  refine wp_region_still_tail 11 (by kernel_rfl) (by kernel_rfl) ?_
  simp only [List.take_succ_cons,List.take_zero,List.drop_succ_cons,List.drop_zero,World.drew_eq]
  iterate 11 still_step
  refine wpStill_nil ?_
  go_wp2_with fail
  refine(hm.out _ (zj _ _ 1)).mono ?_
  rintro en w2 ⟨hb2,rfl⟩
  have B2':Hid (Below w1.heap.size w1 w2):=BV.out.trans (((zj _ _ 1).trans (hb2.mono (zr4 _))).mono BV.out.size)
  have O2:Hid (World.ownsRow w2 w1.heap.size 3 1 (.slice oa no' oc) no' (nats out)):=owns_keep2 KO.out fun q hq=>hb2.block _ (World.ownsRow.lt KO.out q hq).2
  have x2:=zd hb2 _ _ (show (V.drewN 1).cell? _=_ from x1)
  cases hd:decide (p∈br) with
  | true =>
   rw [hd] at FS
   have P2:Hid ((l0.take (k+1)).filter (fun p => !decide (p∈br))=out):=by rw [HO.out];exact FS.out
   clear FS hd hb2 x1 c3 b1 hm
   go_wp2_with fail
   go_roundw
   case rel=>exact⟨k+1,HLT.out,by go_num,by rw [P2.out,← HNO.out];exact O2.out,B2'.out⟩
   case measure=>have:=HLT.out;simp [intOf];omega
  | false =>
   rw [hd] at FS
   have P2:Hid ((l0.take (k+1)).filter (fun p => !decide (p∈br))=out++[p]):=by rw [HO.out];exact FS.out
   have NB:Hid (no'+1≤maxLen∧(no'+1)*8≤140737488355328):=by
    have h1:out.length≤(l0.take k).length:=by rw [HO.out];exact List.length_filter_le _ _
    rw [List.length_take] at h1
    have:=HNO.out;have:=HLT.out;have:=L0Z.out;show _∧_;simp only [maxLen];omega
   have OX:Hid (World.ownsRow (w2.alloc (.cells #[.int .i64 (p:Nat)] 3)) w1.heap.size 3 1 (.slice oa no' oc) no' (nats out)):=owns_keep2 O2.out fun q hq=>zt2 _ _ _ (World.ownsRow.lt O2.out q hq).2
   have BA:Hid (Below w1.heap.size w1 (w2.alloc (.cells #[.int .i64 (p:Nat)] 3))):=B2'.out.alloc B2'.out.size _
   clear FS hd hb2 x1 c3 b1 hm
   go_wp2_with (at_builtin;refine wpList_append_own _ rfl _ _ 40 rfl w1.heap.size 3 i3 (.int .i64 0) 1 8 Tryz.underlying40 HI3.out.1 HI3.out.2.1 HI3.out.2.2.1 HI3.out.2.2.2 rfl (by decide) (.slice oa no' oc) no' (nats out) rfl OX.out ⟨w2.heap.size,0,none⟩ 1 1 [.int .i64 (p:Nat)] rfl rfl (news1 _ _ _) (fun u hu=>by simp at hu;rw [hu];rfl) NB.out.1 NB.out.2 BA.out.size ?_)
   intro vo w6 hown hg _
   have B6:Hid (Below w1.heap.size w1 w6):=BA.out.grown hg BA.out.size (fun q e=>(OX.out.lt q e).1)
   have M6:Hid (World.ownsRow w6 w1.heap.size 3 1 vo ((l0.take (k+1)).filter fun p => !decide (p∈br)).length (nats ((l0.take (k+1)).filter fun p => !decide (p∈br)))):=by
    show World.ownsRow _ _ _ _ _ _ _
    rw [P2.out,zr2,← HNO.out,nats_append]
    exact hown
   clear hown hg
   go_wp2_with fail
   go_roundw
   case rel=>exact⟨k+1,HLT.out,by go_num,M6.out,B6.out⟩
   case measure=>have:=HLT.out;simp [intOf];omega
 obtain rfl:k=nl:=by have:=KI.out;omega
 have hdi:decide (k<k)=false:=by simp
 have FE:Hid (out=posn F (cross F b) (vars F).length):=by
  rw [HO.out,zr3 (by have:=HNL.out;omega)];exact CP.out
 clear hlt
 go_wp2_with fail
 go_ret
 exact⟨BW.out,_,rfl,by rw [← FE.out];exact owns_nats KO.out HNO.out⟩
theorem liveR_any {i:Nat}(h:FlF w fb F) (hi:i<F.length) :
  Calls Tryz.prog 20 #[.pointer (some ⟨fb,0,none⟩),.int .i64 (i:Nat)] w fun e w'=>Below w.heap.size w w'∧∃ u,e = .returned u∧SlAt w' u (posn F (lv F i) (vars F).length).length (nats (posn F (lv F i) (vars F).length)):=by
 have LV:=zh h.lives
 have HI:=zh hi
 have HF:=zh h
 obtain⟨n,hn⟩:∃ n,n=F.length:=⟨_,rfl⟩
 have hiz:(i:Int)<n:=by omega
 have hi0:(0:Int)≤i:=by omega
 have nz:(n:Int)≤300:=by have:=h.len;omega
 have HN:=zh hn
 clear h hi hn
 go_enter Tryz.func20,Tryz.ntmps20
 go_wp2_with fail
 refine LV.out.mono ?_
 rintro en w1 ⟨hb1,v,rfl,hv⟩
 have B1:=zh hb1
 obtain⟨lg,lc,rs,rfl,l1,l2⟩:=hv
 have r1:=l1 i HI.out
 have RS:=zh (risingR_any (q:=lv F i) (l2 i HI.out) (zr5 HF.out.few (by omega)))
 obtain⟨rb,hrb⟩:∃ v,v=rs i:=⟨_,rfl⟩
 rw [← hrb] at r1 RS
 rw [← HN.out]
 clear hb1 l1 l2 hrb LV
 go_wp2_with fail
 refine RS.out.mono ?_
 rintro en w2 ⟨hb2,u,rfl,hu⟩
 have B2:Hid (Below w.heap.size w w2):=B1.out.trans (hb2.mono B1.out.size)
 have HU:=zh hu
 clear hb2 hu r1 RS
 go_wp2_with fail
 go_ret
 exact⟨B2.out,_,rfl,HU.out⟩
end Go.Proofs.YtnkahlloahgifaaGreatDoor

namespace Go.Proofs.YtnkahlloahgifaaGreatDoor
open Go.RowKit RG Go.Maps RF
variable {w w':World} {fb:Nat} {F:List Nd} {sva:Option Addr} {svc ug uo uc ng no nc bg bo bc ag ao ac:Nat} {so:Value}
structure LvC (w:World) (F:List Nd) (lg:Nat):Prop where
 row:∀ i,i<F.length→0<(vars F).length→∃ g o c,w.cell? ⟨lg,i,none⟩=some (.slice (some ⟨g,o,none⟩) (vars F).length c)∧∀ p,p<(vars F).length→w.cell? ⟨g,o+p,none⟩=some (.bool (lv F i ((vars F).getD p ⟨#[]⟩)))
theorem LvC.keep {lg:Nat}(h:LvC w F lg) (hb:Below w.heap.size w w'):LvC w' F lg:=⟨fun i hi h0=>by
 obtain⟨g,o,c,h1,h2⟩:=h.row i hi h0
 exact⟨g,o,c,zd hb _ _ h1,fun p hp=>zd hb _ _ (h2 p hp)⟩⟩
theorem LivesR.cells {v:Value}(h:LivesR w v F):∃ lg lc,v = .slice (some ⟨lg,0,none⟩) F.length lc∧LvC w F lg:=by
 obtain⟨lg,lc,rs,rfl,l1,l2⟩:=h
 refine⟨lg,lc,rfl,⟨fun i hi h0=>?_⟩⟩
 obtain⟨-,ad,c,e,hat⟩:=l2 i hi
 obtain⟨g,o,rfl,h2⟩:=hat h0
 exact⟨g,o,c,by rw [l1 i hi,e],fun p hp=>h2 p _ (rowB_at hp)⟩
theorem conflictR_any {lt:Value}{p q:Nat}(h:FlF w fb F) (hl:LivesR w lt F) (hp:p<(vars F).length) (hq:q<(vars F).length) :
  Calls Tryz.prog 24 #[.pointer (some ⟨fb,0,none⟩),lt,.int .i64 (p:Nat),.int .i64 (q:Nat)] w fun e w'=>Below w.heap.size w w'∧e = .returned (.bool (conflict F ((vars F).getD p ⟨#[]⟩) ((vars F).getD q ⟨#[]⟩))):=by
 obtain⟨sva,svc,ug,uo,uc,ng,no,nc,bg,bo,bc,ag,ao,ac,so,hC⟩:=h.cells
 obtain⟨lg,lc,rfl,hL⟩:=hl.cells
 have HC:=zh hC
 have HL:=zh hL
 obtain⟨x,hx⟩:∃ x,x=(vars F).getD p ⟨#[]⟩:=⟨_,rfl⟩
 obtain⟨y,hy⟩:∃ y,y=(vars F).getD q ⟨#[]⟩:=⟨_,rfl⟩
 rw [← hx,← hy]
 have HX:=zh hx
 have HY:=zh hy
 have HP:=zh hp
 have HQ:=zh hq
 obtain⟨n,hn⟩:∃ n,n=F.length:=⟨_,rfl⟩
 obtain⟨nv,hnv⟩:∃ n,n=(vars F).length:=⟨_,rfl⟩
 have HN:=zh hn
 have HNV:=zh hnv
 have nz:(n:Int)≤300:=by have:=h.len;omega
 have pz:(p:Int)<nv:=by omega
 have qz:(q:Int)<nv:=by omega
 have p0:(0:Int)≤p:=by omega
 have q0:(0:Int)≤q:=by omega
 have nvz:(nv:Int)≤300:=by have:=h.few;omega
 rw [← hn]
 by_cases hpq:p=q
 ·have e1:((p:Int)==(q:Int))=true:=by simp [hpq]
  have R:Hid (conflict F x y=false):=by
   show _=_
   unfold conflict
   rw [if_pos (by rw [hx,hy,hpq])]
  clear h hC hL hp hq hx hy hn hnv hpq
  go_enter Tryz.func24,Tryz.ntmps24
  go_wp2_with fail
  go_ret
  exact⟨zs9 _ _,by rw [R.out];rfl⟩
 have e1:((p:Int)==(q:Int))=false:=by simp;omega
 have HXY:Hid (x≠y):=fun e=>hpq (by
  have h1:=place_getD h.fo.once hp
  have h2:=place_getD h.fo.once hq
  rw [← hx] at h1
  rw [← hy] at h2
  rw [← h1,← h2,e])
 clear h hC hL hp hq hx hy hn hnv hpq
 go_enter Tryz.func24,Tryz.ntmps24
 go_wp2_with fail
 go_loopw [9] (fun iv wr=>∃ i:Nat,i≤n∧iv = .int .i64 i∧Below w.heap.size w wr∧cfl F x y i=false) (fun iv _=>n - (intOf iv).toNat)
 case atStart=>exact⟨0,Nat.zero_le _,rfl,zs9 _ _,rfl⟩
 obtain⟨i,hi,rfl,hb,hcf⟩:=hrel
 have KI:=zh hi
 have KB:=zh hb
 have KC:=zh hcf
 have c3:wr.cell? ⟨fb,3,none⟩=some (.slice (some ⟨bg,bo,none⟩) n bc):=by rw [zb _ _ 3 _ _ _ (zm hb HC.out.row),HN.out];rfl
 clear hi hb hcf
 by_cases hlt:i<n
 ·have hiz:(i:Int)<n:=by omega
  have hi0:(0:Int)≤i:=by omega
  have HLT:=zh hlt
  have IF:Hid (i<F.length):=by rw [← HN.out];exact hlt
  obtain⟨bad,bcc,b1,b2⟩:=HC.out.binds i IF.out
  have y1:=zd KB.out _ _ b1
  have BL:=zh (HC.out.blen IF.out)
  have hm:Hid (∀ r:Nat,∀ W,Below wr.heap.size wr W→Calls Tryz.prog 62 #[.slice bad (BR F i).length bcc,.int .i64 (r:Nat)] W fun en w'=>Below W.heap.size W w'∧en = .returned (.bool (decide (r∈BR F i)))):=fun r W hW =>
   hasN_any r (b2.kept ((zd KB.out).trans (zd hW))) (by have:=BL.out;omega)
  have DX:Hid (decide (p∈BR F i)=has (nd F i).binds x):=by rw [HX.out];exact HC.out.fo.dec_binds IF.out HP.out
  have DY:Hid (decide (q∈BR F i)=has (nd F i).binds y):=by rw [HY.out];exact HC.out.fo.dec_binds IF.out HQ.out
  have CS:Hid (cfl F x y (i+1)=((has (nd F i).binds x&&has (nd F i).binds y)||((has (nd F i).binds x&&lv F i y)||(has (nd F i).binds y&&lv F i x)))):=by
   show _=_
   rw [cfl_succ,KC.out,Bool.false_or,clash_lives]
  have END:Hid (cfl F x y (i+1)=true→conflict F x y=true):=fun h1=>by
   unfold conflict
   rw [if_neg HXY.out]
   rw [cfl_succ,KC.out,Bool.false_or] at h1
   exact cfl_true IF.out h1
  obtain⟨nb,hnb⟩:∃ n,n=(BR F i).length:=⟨_,rfl⟩
  rw [← hnb] at y1 hm
  clear hlt b1 b2 hnb BL
  go_wp2_with fail
  refine(hm.out p _ (zs9 _ _)).mono ?_
  rintro en w1 ⟨hb1,rfl⟩
  rw [DX.out]
  have B1:=zh hb1
  have d3:=zd hb1 _ _ c3
  have d1:=zd hb1 _ _ y1
  clear hb1 c3 y1
  go_wp2_with fail
  refine(hm.out q _ B1.out).mono ?_
  rintro en w2 ⟨hb2,rfl⟩
  rw [DY.out]
  have B2:Hid (Below wr.heap.size wr w2):=B1.out.trans (hb2.mono B1.out.size)
  have BW:Hid (Below w.heap.size w w2):=KB.out.trans (B2.out.mono KB.out.size)
  have f4:w2.cell? ⟨fb,4,none⟩=some (.slice (some ⟨ag,ao,none⟩) n ac):=by rw [zb _ _ 4 _ _ _ (zm BW.out HC.out.row),HN.out];rfl
  have a4:=zd BW.out _ _ (HC.out.after i IF.out)
  obtain⟨g,o,c,l1,l2⟩:=(HL.out.keep BW.out).row i IF.out (by have:=HP.out;omega)
  have lp:=l2 p HP.out
  have lq:=l2 q HQ.out
  rw [← HX.out] at lp
  rw [← HY.out] at lq
  rw [← HNV.out] at l1
  obtain⟨X,hX⟩:∃ b,b=has (nd F i).binds x:=⟨_,rfl⟩
  obtain⟨Y,hY⟩:∃ b,b=has (nd F i).binds y:=⟨_,rfl⟩
  obtain⟨LX,hLX⟩:∃ b,b=lv F i x:=⟨_,rfl⟩
  obtain⟨LY,hLY⟩:∃ b,b=lv F i y:=⟨_,rfl⟩
  rw [← hX,← hY,← hLX,← hLY] at CS
  rw [← hLX] at lp
  rw [← hLY] at lq
  rw [← hX,← hY]
  clear hb2 d3 d1 l2 DX DY hm hX hY hLX hLY B1 B2
  cases X<;>cases Y<;>cases LX<;>cases LY
  all_goals
   go_wp2_with fail
   first
    | (go_roundw
       case rel=>exact⟨i+1,HLT.out,by go_num,BW.out,CS.out⟩
       case measure=>have:=HLT.out;simp [intOf];omega)
    | (go_ret
       exact⟨BW.out,by rw [END.out CS.out];rfl⟩)
 obtain rfl:i=n:=by have:=KI.out;omega
 have hdi:decide (i<i)=false:=by simp
 have R:Hid (conflict F x y=false):=by
  show _=_
  unfold conflict
  rw [if_neg HXY.out]
  have:=KC.out
  rw [HN.out] at this
  exact this
 clear hlt
 go_wp2_with fail
 go_ret
 exact⟨KB.out,by rw [R.out];rfl⟩
theorem findV_any (x:Nm) (h:FlF w fb F):Calls Tryz.prog 23 #[.pointer (some ⟨fb,0,none⟩),.string x] w (FindP w (vars F) x):=by
 obtain⟨sv,su,sn,sb,sa,so,us,ns,bs,k0,k1,-⟩:=h.flat.at'
 have FD:=zh (find_any x k1 (zr5 h.few (by omega)))
 have c0:w.cell? ⟨fb,0,none⟩=some sv:=by rw [zb _ _ 0 _ _ _ k0];rfl
 obtain⟨sva,svc,rfl,-⟩:=StrsAt.cells k1
 clear h k0 k1
 go_enter Tryz.func23,Tryz.ntmps23
 go_wp2_with fail
 refine FD.out.mono ?_
 intro en w1 hF
 unfold FindP at hF ⊢
 obtain⟨hb,⟨k,rfl,hk⟩|⟨rfl,hk⟩⟩:=hF
 ·have HB:=zh hb
  have HK:=zh hk
  clear hb hk
  go_wp2_with fail
  go_ret
  exact⟨HB.out,.inl ⟨k,rfl,HK.out⟩⟩
 have HB:=zh hb
 have HK:=zh hk
 clear hb hk
 go_wp2_with fail
 go_ret
 exact⟨HB.out,.inr ⟨rfl,HK.out⟩⟩
end Go.Proofs.YtnkahlloahgifaaGreatDoor

namespace Go.Proofs.YtnkahlloahgifaaGreatDoor
open Go.RowKit RG Go.Maps RF
theorem modR_any (w:World) (n m:Int) (hn : -9223372036854775808≤n∧n≤9223372036854775807) (h0:0<m) (hm:m<4000000000000000000) :
  Calls Tryz.prog 22 #[.int .i64 n,.int .i64 m] w fun e w'=>e = .returned (.int .i64 (n % m))∧w'=w:=by
 have hb : -m<n.tmod m∧n.tmod m<m:=by
  have h1:=Int.tmod_lt_of_pos n h0
  have h2:=Int.lt_tmod_of_pos n h0
  omega
 have e1:n % m=if n.tmod m<0 then n.tmod m+m else n.tmod m:=by
  have h1:=Int.emod_eq_tmod (a:=n) (b:=m)
  have h2:=Int.emod_nonneg n (show m≠0 by omega)
  have h3:=Int.emod_lt_of_pos n h0
  have h4:(m.natAbs:Int)=m:=by omega
  by_cases hneg:n.tmod m<0
  ·rw [if_pos hneg]
   split at h1<;>omega
  rw [if_neg hneg]
  split at h1<;>omega
 by_cases hneg:n.tmod m<0
 ·rw [e1,if_pos hneg]
  go_enter Tryz.func22,Tryz.ntmps22
  go_wp2
  go_ret
  exact⟨rfl,rfl⟩
 rw [e1,if_neg hneg]
 go_enter Tryz.func22,Tryz.ntmps22
 go_wp2
 go_ret
 exact⟨rfl,rfl⟩
end Go.Proofs.YtnkahlloahgifaaGreatDoor

namespace Go.Proofs.YtnkahlloahgifaaGreatDoor
open Go.RowKit RG Go.Maps RF
theorem lives_walk {w:World}(hE:Lx.Env w) {v:Value}{ps:List Nm}{e:TE}(h:FnOk Lx.Env isNm w v ps e) {n0 n1 n2:Int}(hn0 : -9223372036854775808≤n0∧n0≤9223372036854775807) (hn1 : -9223372036854775808≤n1∧n1≤9223372036854775807) (hn2 : -9223372036854775808≤n2∧n2≤9223372036854775807):Calls Tryz.prog 3 #[v,.agg #[.int .i64 n0,.int .i64 n1,.int .i64 n2]] w (SnP w):=by
 have HK:=zh h
 have HN1:=zh hn1
 have HN2:=zh hn2
 clear hn0 hn1 hn2
 obtain⟨nm,op,ch,pv,va,num,site,aa,ab,ca,cb,ga,oa,gb,ob,rfl,hp,hat,-⟩:=h.val
 obtain⟨xa,xc,rfl,-⟩:=id hat.at'
 obtain⟨pa,pc,rfl,-⟩:=id hp.at'
 clear h hp hat
 obtain⟨np,hnp⟩:∃ n,n=ps.length:=⟨_,rfl⟩
 obtain⟨na,hna⟩:∃ n,n=e.args.length:=⟨_,rfl⟩
 obtain⟨nc,hnc⟩:∃ n,n=e.arms.length:=⟨_,rfl⟩
 obtain⟨nb,hnb⟩:∃ n,n=e.body.length:=⟨_,rfl⟩
 obtain⟨ek,hek⟩:∃ n,n=e.kind:=⟨_,rfl⟩
 obtain⟨en0,hen⟩:∃ n,n=e.name:=⟨_,rfl⟩
 rw [← hnp,← hna,← hnc,← hnb,← hek,← hen] at HK ⊢
 have HNP:=zh hnp
 clear hnp hna hnc hnb hek hen
 have B0:Hid (Below w.heap.size w ((w.alloc (.cells #[.string nm,.bool ch,.slice pa np pc,.int .i64 ek,.string en0,.string op,.int .i64 num,.int .i64 site,.slice xa na xc,.slice aa nc ca,.slice ab nb cb] 29)).alloc (.cells #[.int .i64 n0,.int .i64 n1,.int .i64 n2] 30))):=((zs9 _ _).alloc (zr4 _) _).alloc (by simp) _
 have SN:Hid (Calls Tryz.prog 14 #[] ((w.alloc (.cells #[.string nm,.bool ch,.slice pa np pc,.int .i64 ek,.string en0,.string op,.int .i64 num,.int .i64 site,.slice xa na xc,.slice aa nc ca,.slice ab nb cb] 29)).alloc (.cells #[.int .i64 n0,.int .i64 n1,.int .i64 n2] 30)) (SnP ((w.alloc (.cells #[.string nm,.bool ch,.slice pa np pc,.int .i64 ek,.string en0,.string op,.int .i64 num,.int .i64 site,.slice xa na xc,.slice aa nc ca,.slice ab nb cb] 29)).alloc (.cells #[.int .i64 n0,.int .i64 n1,.int .i64 n2] 30)))):=sane_any (HK.out.law.keep _ _ _ (HK.out.law.size _ HK.out.env) HK.out.env B0.out)
 have O0:Hid (((w.alloc (.cells #[.string nm,.bool ch,.slice pa np pc,.int .i64 ek,.string en0,.string op,.int .i64 num,.int .i64 site,.slice xa na xc,.slice aa nc ca,.slice ab nb cb] 29)).alloc (.cells #[.int .i64 n0,.int .i64 n1,.int .i64 n2] 30)).heap[w.heap.size]?=some (.cells #[.string nm,.bool ch,.slice pa np pc,.int .i64 ek,.string en0,.string op,.int .i64 num,.int .i64 site,.slice xa na xc,.slice aa nc ca,.slice ab nb cb] 29 (0,0))):=(zt2 _ _ _ (by simp)).trans (zs2 w _)
 have P0:Hid (((w.alloc (.cells #[.string nm,.bool ch,.slice pa np pc,.int .i64 ek,.string en0,.string op,.int .i64 num,.int .i64 site,.slice xa na xc,.slice aa nc ca,.slice ab nb cb] 29)).alloc (.cells #[.int .i64 n0,.int .i64 n1,.int .i64 n2] 30)).heap[w.heap.size+1]?=some (.cells #[.int .i64 n0,.int .i64 n1,.int .i64 n2] 30 (0,0))):=by
  have:=zs2 (w.alloc (.cells #[.string nm,.bool ch,.slice pa np pc,.int .i64 ek,.string en0,.string op,.int .i64 num,.int .i64 site,.slice xa na xc,.slice aa nc ca,.slice ab nb cb] 29)) (.cells #[.int .i64 n0,.int .i64 n1,.int .i64 n2] 30)
  rw [World.size_alloc] at this
  exact this
 clear hE
 go_enter Tryz.func3,Tryz.ntmps3
 go_wp2_with fail
 refine SN.out.mono ?_
 rintro en w1 ⟨rfl,hb⟩
 have B1:Hid (Below w.heap.size w w1):=B0.out.trans (hb.mono B0.out.size)
 have O1:=zh ((hb.block w.heap.size (by simp;omega)).trans O0.out)
 have P1:=zh ((hb.block (w.heap.size+1) (by simp)).trans P0.out)
 have L1:Hid (w.heap.size+2≤w1.heap.size):=by have:=hb.size;simp at this;exact this
 have SM:=zh (small_any (HK.out.keep B1.out).val)
 obtain⟨q0,q1,q2,q3,q4,q5,q6,q7,q8,q9,q10⟩:=box11 O1.out
 clear hb SN O0 P0 B0
 go_wp2_with fail
 refine SM.out.mono ?_
 rintro en w2 ⟨hb,b,rfl,hs1,-⟩
 have B2:Hid (Below w.heap.size w w2):=B1.out.trans (hb.mono B1.out.size)
 have O2:=zh ((hb.block w.heap.size (by have:=L1.out;omega)).trans O1.out)
 have P2:=zh ((hb.block (w.heap.size+1) (by have:=L1.out;omega)).trans P1.out)
 have L2:Hid (w.heap.size+2≤w2.heap.size):=zr5 L1.out hb.size
 have S1:=zh hs1
 clear q0 q1 q2 q3 q4 q5 q6 q7 q8 q9 q10 hb hs1 SM
 cases b
 ·go_wp2_with fail
  go_ret
  exact⟨rfl,B2.out⟩
 have OF:=zh (ofR_any (HK.out.keep B2.out).val)
 obtain⟨q0,q1,q2,q3,q4,q5,q6,q7,q8,q9,q10⟩:=box11 O2.out
 go_wp2_with fail
 refine OF.out.mono ?_
 rintro en w3 ⟨fb,rfl,hb,⟨hg,hem⟩|⟨hng,hem⟩⟩
 rotate_left
 ·skip
  have B3:Hid (Below w.heap.size w w3):=B2.out.trans (hb.mono B2.out.size)
  have O3:=zh ((hb.block w.heap.size (by have:=L2.out;omega)).trans O2.out)
  have P3:=zh ((hb.block (w.heap.size+1) (by have:=L2.out;omega)).trans P2.out)
  have L3:Hid (w.heap.size+2≤w3.heap.size):=zr5 L2.out hb.size
  have NG:=zh hng
  have EM3:=zh hem
  clear q0 q1 q2 q3 q4 q5 q6 q7 q8 q9 q10 hb hng hem OF S1
  have LV:=zh (live_any sort_law (HK.out.keep B3.out) n0)
  obtain⟨q0,q1,q2,q3,q4,q5,q6,q7,q8,q9,q10⟩:=box11 O3.out
  have p0:w3.cell? ⟨w.heap.size+1,0,none⟩=some (.int .i64 n0):=by rw [zb _ _ 0 _ _ _ P3.out];rfl
  go_wp2_with fail
  refine LV.out.mono ?_
  rintro en w4 ⟨hb,⟨hg,-⟩|⟨hg,-⟩|⟨-,rfl⟩⟩
  ·exact absurd hg NG.out
  ·exact absurd hg NG.out
  have B4:Hid (Below w.heap.size w w4):=B3.out.trans (hb.mono B3.out.size)
  have x6:w4.cell? ⟨fb,6,none⟩=some (.bool false):=by rw [zb _ _ 6 _ _ _ (EM3.out.keep hb)];rfl
  clear q0 q1 q2 q3 q4 q5 q6 q7 q8 q9 q10 hb p0 LV
  go_wp2_with fail
  go_ret
  exact⟨rfl,B4.out⟩
 have B3:Hid (Below w.heap.size w w3):=B2.out.trans (hb.mono B2.out.size)
 have O3:=zh ((hb.block w.heap.size (by have:=L2.out;omega)).trans O2.out)
 have P3:=zh ((hb.block (w.heap.size+1) (by have:=L2.out;omega)).trans P2.out)
 have L3:Hid (w.heap.size+2≤w3.heap.size):=zr5 L2.out hb.size
 have HG:=zh hg
 have SZ:=zh (S1.out (by trivial) hg)
 have FO:=zh (good_fo hg)
 have VEN:Hid ((vars (F0 ps e)).length≤300):=SZ.out.2
 have LEN:Hid ((F0 ps e).length≤300):=by have:=SZ.out.1;rw [← F0_length ps e] at this;exact this
 have FL3:Hid (FlF w3 fb (F0 ps e)):=⟨hem,FO.out,LEN.out,VEN.out,fun k hk=>zr5 (next_few hk) (zr5 LEN.out (by omega))⟩
 obtain⟨sva,svc,ug,uo,uc,ng,no,ncc,bg,bo,bc,ag,ao,ac,so,hC⟩:=FL3.out.cells
 have FC3:=zh hC
 obtain⟨n,hn⟩:∃ n,n=(F0 ps e).length:=⟨_,rfl⟩
 obtain⟨nv,hnv⟩:∃ n,n=(vars (F0 ps e)).length:=⟨_,rfl⟩
 have HN:=zh hn
 have HNV:=zh hnv
 have nz:(n:Int)≤300:=by have:=LEN.out;omega
 have nvz:(nv:Int)≤300:=by have:=VEN.out;omega
 clear q0 q1 q2 q3 q4 q5 q6 q7 q8 q9 q10 hb hg hem hC hn hnv OF S1
 have LV:=zh (live_any sort_law (HK.out.keep B3.out) n0)
 obtain⟨q0,q1,q2,q3,q4,q5,q6,q7,q8,q9,q10⟩:=box11 O3.out
 have p0:w3.cell? ⟨w.heap.size+1,0,none⟩=some (.int .i64 n0):=by rw [zb _ _ 0 _ _ _ P3.out];rfl
 go_wp2_with fail
 refine LV.out.mono ?_
 rintro en w4 ⟨hb,hcase⟩
 have B4:Hid (Below w.heap.size w w4):=B3.out.trans (hb.mono B3.out.size)
 have O4:=zh ((hb.block w.heap.size (by have:=L3.out;omega)).trans O3.out)
 have P4:=zh ((hb.block (w.heap.size+1) (by have:=L3.out;omega)).trans P3.out)
 have L4:Hid (w.heap.size+2≤w4.heap.size):=zr5 L3.out hb.size
 have FL4:=zh (FL3.out.keep hb)
 have FC4:=zh (FC3.out.keep hb)
 have x6:w4.cell? ⟨fb,6,none⟩=some (.bool true):=by rw [zb _ _ 6 _ _ _ FC4.out.row];rfl
 have p0:w4.cell? ⟨w.heap.size+1,0,none⟩=some (.int .i64 n0):=by rw [zb _ _ 0 _ _ _ P4.out];rfl
 have c1:w4.cell? ⟨fb,1,none⟩=some (.slice (some ⟨ug,uo,none⟩) n uc):=by rw [zb _ _ 1 _ _ _ FC4.out.row,HN.out];rfl
 clear q0 q1 q2 q3 q4 q5 q6 q7 q8 q9 q10 hb LV
 rcases hcase with ⟨-,i0,v0,hi0,hil0,rfl,hv0⟩|⟨-,ho,rfl⟩|⟨hg,-⟩
 rotate_left
 rotate_left
 ·exact absurd HG.out hg
 ·have I0:=zh hil0
  have hn0a:¬ n0<0:=by omega
  have dn0:decide (n0<0)=false:=by simp;omega
  have dn1:decide ((n:Int)≤n0)=false:=by have:=HN.out;simp;omega
  subst hi0
  have dn2:decide (n≤i0)=false:=by have:=HN.out;simp;omega
  have hii:(i0:Int)<n:=by have:=HN.out;omega
  have hii0:(0:Int)≤i0:=by omega
  obtain⟨va0,vc0,rfl,-⟩:=id hv0.cells
  have SV0:=zh hv0
  obtain⟨nl,hnl⟩:∃ n,n=(liveAt (F0 ps e) i0).length:=⟨_,rfl⟩
  rw [← hnl] at SV0 ⊢
  have HNL:=zh hnl
  clear hv0 hil0 hnl hn0a
  go_upto_region 10 with fail
  go_quiet (fail)
  obtain⟨w5,hw5⟩:∃ W,W=w4.drewN nq:=⟨_,rfl⟩
  have hb:Below w4.heap.size w4 w5:=by rw [hw5];exact zj _ _ _
  have B5:Hid (Below w.heap.size w w5):=B4.out.trans (hb.mono B4.out.size)
  have O5:=zh ((hb.block w.heap.size (by have:=L4.out;omega)).trans O4.out)
  have P5:=zh ((hb.block (w.heap.size+1) (by have:=L4.out;omega)).trans P4.out)
  have L5:Hid (w.heap.size+2≤w5.heap.size):=zr5 L4.out hb.size
  have FL5:=zh (FL4.out.keep hb)
  have FC5:=zh (FC4.out.keep hb)
  have SV5:=zh (SV0.out.kept (zd hb))
  have p0':w5.cell? ⟨w.heap.size+1,0,none⟩=some (.int .i64 (i0:Int)):=by rw [zb _ _ 0 _ _ _ P5.out];rfl
  rw [← hw5]
  clear hb hw5 p0 c1 x6 dn0 dn1
  have LR:=zh (liveR_any FL5.out I0.out)
  go_wp2_with fail
  refine LR.out.mono ?_
  rintro en w6 ⟨hb,u6,rfl,hu6⟩
  have B6:Hid (Below w.heap.size w w6):=B5.out.trans (hb.mono B5.out.size)
  have O6:=zh ((hb.block w.heap.size (by have:=L5.out;omega)).trans O5.out)
  have P6:=zh ((hb.block (w.heap.size+1) (by have:=L5.out;omega)).trans P5.out)
  have L6:Hid (w.heap.size+2≤w6.heap.size):=zr5 L5.out hb.size
  have FL6:=zh (FL5.out.keep hb)
  have FC6:=zh (FC5.out.keep hb)
  have NMD:=zh (namedR_any FL6.out.flat hu6 (fun k hk=>(mem_posn.1 hk).1) (zr5 (posn_len _ _ _) (by have:=VEN.out;omega)) (by have:=VEN.out;omega))
  have NEQ:Hid (namesR (F0 ps e) (posn (F0 ps e) (lv (F0 ps e) i0) (vars (F0 ps e)).length)=liveAt (F0 ps e) i0):=posn_names _ _
  obtain⟨-,ua6,uc6,rfl,-⟩:=id hu6
  obtain⟨n6,hn6⟩:∃ n,n=(posn (F0 ps e) (lv (F0 ps e) i0) (vars (F0 ps e)).length).length:=⟨_,rfl⟩
  rw [← hn6] at NMD ⊢
  have SV6:=zh (SV5.out.kept (zd hb))
  clear hb hu6 hn6 p0' LR
  go_wp2_with fail
  refine NMD.out.mono ?_
  rintro en w7 ⟨hb,u7,rfl,hu7⟩
  have B7:Hid (Below w.heap.size w w7):=B6.out.trans (hb.mono B6.out.size)
  have O7:=zh ((hb.block w.heap.size (by have:=L6.out;omega)).trans O6.out)
  have P7:=zh ((hb.block (w.heap.size+1) (by have:=L6.out;omega)).trans P6.out)
  have L7:Hid (w.heap.size+2≤w7.heap.size):=zr5 L6.out hb.size
  have FL7:=zh (FL6.out.keep hb)
  have FC7:=zh (FC6.out.keep hb)
  rw [NEQ.out] at hu7
  have SV7:=zh (SV6.out.kept (zd hb))
  have ST:Hid (Calls Tryz.prog 18 #[.slice va0 nl vc0,u7] w7 (StP w7 (decide (liveAt (F0 ps e) i0=liveAt (F0 ps e) i0)))):=by
   have h1:=sameTexts_any SV7.out hu7 (by have h1:(liveAt (F0 ps e) i0).length≤(vars (F0 ps e)).length:=List.length_filter_le _ _;have:=VEN.out;omega)
   exact h1
  obtain⟨ua7,uc7,rfl,-⟩:=hu7.cells
  rw [← HNL.out] at ST ⊢
  clear hb hu7 NMD
  go_wp2_with fail
  refine ST.out.mono ?_
  rintro en w8 ⟨hb,rfl⟩
  have B8:Hid (Below w.heap.size w w8):=B7.out.trans (hb.mono B7.out.size)
  have O8:=zh ((hb.block w.heap.size (by have:=L7.out;omega)).trans O7.out)
  have P8:=zh ((hb.block (w.heap.size+1) (by have:=L7.out;omega)).trans P7.out)
  have L8:Hid (w.heap.size+2≤w8.heap.size):=zr5 L7.out hb.size
  have FL8:=zh (FL7.out.keep hb)
  have FC8:=zh (FC7.out.keep hb)
  rw [show decide True=true from by simp]
  clear hb ST
  have c0:w8.cell? ⟨fb,0,none⟩=some (.slice sva nv svc):=by rw [zb _ _ 0 _ _ _ FC8.out.row,HNV.out];rfl
  by_cases hv0:nv=0
  ·have d0:((nv:Int)==0)=true:=by simp [hv0]
   have d0':(nv==0)=true:=by simp [hv0]
   have VN:Hid (vars (F0 ps e)=[]):=List.length_eq_zero_iff.1 (by rw [← HNV.out];exact hv0)
   have CF:=zh (conflict_any (HK.out.keep B8.out) ⟨#[97]⟩ ⟨#[98]⟩ (by decide) (by decide))
   obtain⟨q0,q1,q2,q3,q4,q5,q6,q7,q8,q9,q10⟩:=box11 O8.out
   go_wp2_with fail
   refine CF.out.mono ?_
   rintro en w9 ⟨hb,⟨-,ha,-⟩|⟨-,-,rfl⟩|⟨hg,-⟩⟩
   ·rw [VN.out] at ha;exact absurd ha (by simp)
   rotate_left
   ·exact absurd HG.out hg
   have B9:Hid (Below w.heap.size w w9):=B8.out.trans (hb.mono B8.out.size)
   clear q0 q1 q2 q3 q4 q5 q6 q7 q8 q9 q10 hb CF
   go_wp2_with fail
   go_ret
   exact⟨rfl,B9.out⟩
  have d0:((nv:Int)==0)=false:=by simp;omega
  have d0':(nv==0)=false:=by simp;omega
  have nvp:(0:Int)<nv:=by omega
  obtain⟨i,hi⟩:∃ i:Nat,n1 % (nv:Int)=i:=⟨(n1 % (nv:Int)).toNat,by have:=Int.emod_nonneg n1 (show (nv:Int)≠0 by omega);omega⟩
  have hil:(i:Int)<nv:=by rw [← hi];exact Int.emod_lt_of_pos _ nvp
  obtain⟨j,hj⟩:∃ j:Nat,n2 % (nv:Int)=j:=⟨(n2 % (nv:Int)).toNat,by have:=Int.emod_nonneg n2 (show (nv:Int)≠0 by omega);omega⟩
  have hjl:(j:Int)<nv:=by rw [← hj];exact Int.emod_lt_of_pos _ nvp
  have hi0:(0:Int)≤i:=by omega
  have hj0:(0:Int)≤j:=by omega
  have M1:Hid (∀ W:World,Calls Tryz.prog 22 #[.int .i64 n1,.int .i64 (nv:Int)] W fun e w'=>e = .returned (.int .i64 (i:Int))∧w'=W):=fun W=>by
   have h1:=modR_any W n1 (nv:Int) HN1.out nvp (by omega)
   rw [hi] at h1
   exact h1
  have M2:Hid (∀ W:World,Calls Tryz.prog 22 #[.int .i64 n2,.int .i64 (nv:Int)] W fun e w'=>e = .returned (.int .i64 (j:Int))∧w'=W):=fun W=>by
   have h1:=modR_any W n2 (nv:Int) HN2.out nvp (by omega)
   rw [hj] at h1
   exact h1
  have IL:Hid (i<(vars (F0 ps e)).length∧j<(vars (F0 ps e)).length):=by have:=HNV.out;show _∧_;omega
  obtain⟨x,hx⟩:∃ x,x=(vars (F0 ps e)).getD i ⟨#[]⟩:=⟨_,rfl⟩
  obtain⟨y,hy⟩:∃ y,y=(vars (F0 ps e)).getD j ⟨#[]⟩:=⟨_,rfl⟩
  have HX:=zh hx
  have HY:=zh hy
  have XV:Hid (x∈vars (F0 ps e)):=by show _∈_;rw [hx];exact getD_mem IL.out.1
  have YV:Hid (y∈vars (F0 ps e)):=by show _∈_;rw [hy];exact getD_mem IL.out.2
  obtain⟨xg,xo,rfl,xcell⟩:=FC8.out.names i IL.out.1
  obtain⟨xg',xo',hxe,ycell⟩:=FC8.out.names j IL.out.2
  simp only [zt3,Addr.mk.injEq,and_true] at hxe
  obtain⟨rfl,rfl⟩:=hxe
  rw [← hx] at xcell
  rw [← hy] at ycell
  have XC:=zh xcell
  have YC:=zh ycell
  have NSZ:Hid (∀ z∈vars (F0 ps e),z.size≤maxLen):=fun z hz=>by
   obtain⟨d,hd,hz⟩:=List.mem_flatMap.1 hz
   exact(HK.out.sz d hd).1 z hz
  have p1:w8.cell? ⟨w.heap.size+1,1,none⟩=some (.int .i64 n1):=by rw [zb _ _ 1 _ _ _ P8.out];rfl
  clear hv0 hi hj hx hy xcell ycell
  go_upto_region 18 with fail
  refine wp_region_still_tail 7 (by kernel_rfl) (by kernel_rfl) ?_
  simp only [List.take_succ_cons,List.take_zero,List.drop_succ_cons,List.drop_zero,World.drew_eq]
  iterate 7 still_step
  refine wpStill_nil ?_
  go_wp2_with fail
  refine(M1.out _).mono ?_
  rintro en w' ⟨rfl,rfl⟩
  clear p1
  obtain⟨wa,hwa⟩:∃ W,W=w8.drew:=⟨_,rfl⟩
  rw [← hwa]
  have AB:Hid (Below w8.heap.size w8 wa):=by show Below _ _ _;rw [hwa];exact(zs9 _ _).drew
  have c0:=zd AB.out _ _ c0
  have p2:wa.cell? ⟨w.heap.size+1,2,none⟩=some (.int .i64 n2):=by rw [zb _ _ 2 _ _ _ ((AB.out.block (w.heap.size+1) (by have:=L8.out;omega)).trans P8.out)];rfl
  clear hwa M1
  go_upto_region 19 with fail
  refine wp_region_still_tail 7 (by kernel_rfl) (by kernel_rfl) ?_
  simp only [List.take_succ_cons,List.take_zero,List.drop_succ_cons,List.drop_zero,World.drew_eq]
  iterate 7 still_step
  refine wpStill_nil ?_
  go_wp2_with fail
  refine(M2.out _).mono ?_
  rintro en w' ⟨rfl,rfl⟩
  clear p2
  obtain⟨wb,hwb⟩:∃ W,W=wa.drew:=⟨_,rfl⟩
  rw [← hwb]
  have BBk:Hid (Below w8.heap.size w8 wb):=by show Below _ _ _;rw [hwb];exact AB.out.drew
  clear hwb M2
  have hb:=BBk.out
  have c0:wb.cell? ⟨fb,0,none⟩=some (.slice (some ⟨xg,xo,none⟩) nv svc):=by rw [zb _ _ 0 _ _ _ (FC8.out.keep hb).row,HNV.out];rfl
  have xcell:=zd hb _ _ XC.out
  have ycell:=zd hb _ _ YC.out
  have BWb:Hid (Below w.heap.size w wb):=B8.out.trans (hb.mono B8.out.size)
  have Ob:=zh ((hb.block w.heap.size (by have:=L8.out;omega)).trans O8.out)
  clear hb
  have CF:Hid (∀ W,Below wb.heap.size wb W→Calls Tryz.prog 21 #[.agg #[.string nm,.bool ch,.slice pa np pc,.int .i64 ek,.string en0,.string op,.int .i64 num,.int .i64 site,.slice xa na xc,.slice aa nc ca,.slice ab nb cb],.string x,.string y] W (fun en w'=>en = .returned (.tuple #[.bool (conflict (F0 ps e) x y),.int .i64 0])∧Below W.heap.size W w')):=fun W hW=>by
   refine(conflict_any (HK.out.keep (BWb.out.trans (hW.mono BWb.out.size))) x y (NSZ.out x XV.out) (NSZ.out y YV.out)).mono ?_
   rintro en w' ⟨hb',⟨-,-,-,rfl⟩|⟨-,ho,-⟩|⟨hg,-⟩⟩
   ·exact⟨rfl,hb'⟩
   ·exact absurd ho (by simp [XV.out,YV.out])
   exact absurd HG.out hg
  have CS:Hid (conflict (F0 ps e) x y=conflict (F0 ps e) ((vars (F0 ps e)).getD i ⟨#[]⟩) ((vars (F0 ps e)).getD j ⟨#[]⟩)):=by show _=_;rw [HX.out,HY.out]
  obtain⟨cf,hcf⟩:∃ b,b=conflict (F0 ps e) x y:=⟨_,rfl⟩
  rw [← hcf] at CF CS
  clear hcf
  obtain⟨q0,q1,q2,q3,q4,q5,q6,q7,q8,q9,q10⟩:=box11 Ob.out
  go_upto_region 20 with fail
  go_region_held3 (fun w'=>w'.cell? ⟨w.heap.size,0,none⟩=some (.string nm)∧w'.cell? ⟨w.heap.size,1,none⟩=some (.bool ch)∧w'.cell? ⟨w.heap.size,2,none⟩=some (.slice pa np pc)∧w'.cell? ⟨w.heap.size,3,none⟩=some (.int .i64 ek)∧w'.cell? ⟨w.heap.size,4,none⟩=some (.string en0)∧w'.cell? ⟨w.heap.size,5,none⟩=some (.string op)∧w'.cell? ⟨w.heap.size,6,none⟩=some (.int .i64 num)∧w'.cell? ⟨w.heap.size,7,none⟩=some (.int .i64 site)∧w'.cell? ⟨w.heap.size,8,none⟩=some (.slice xa na xc)∧w'.cell? ⟨w.heap.size,9,none⟩=some (.slice aa nc ca)∧w'.cell? ⟨w.heap.size,10,none⟩=some (.slice ab nb cb)∧w'.cell? ⟨fb,0,none⟩=some (.slice (some ⟨xg,xo,none⟩) nv svc)∧w'.cell? ⟨xg,xo+i,none⟩=some (.string x)∧w'.cell? ⟨xg,xo+j,none⟩=some (.string y)) ((go_split_ands;(refine⟨?_,?_,?_,?_,?_,?_,?_,?_,?_,?_,?_,?_,?_,?_⟩<;>(first | assumption | exact zd hb9 _ _ (by assumption))))) ((go_at_call 21;refine(CF.out _ ((zs9 _ _).drew)).mono ?_;rintro e9 w9 ⟨rfl,hb9⟩))
  rename World=>wc
  have hb:Below wb.heap.size wb wc:=(zs9 _ _).drew.trans hb9
  have BWc:Hid (Below w.heap.size w wc):=BWb.out.trans (hb.mono BWb.out.size)
  have KC:Hid (Below w8.heap.size w8 wc):=BBk.out.trans (hb.mono BBk.out.size)
  have Oc:=zh ((hb.block w.heap.size (by have:=L8.out;have:=BBk.out.size;omega)).trans Ob.out)
  clear q0 q1 q2 q3 q4 q5 q6 q7 q8 q9 q10 hb hb9 c0 xcell ycell CF Ob
  have c0:wc.cell? ⟨fb,0,none⟩=some (.slice (some ⟨xg,xo,none⟩) nv svc):=by rw [zb _ _ 0 _ _ _ (FC8.out.keep KC.out).row,HNV.out];rfl
  have xcell:=zd KC.out _ _ XC.out
  obtain⟨q0,q1,q2,q3,q4,q5,q6,q7,q8,q9,q10⟩:=box11 Oc.out
  by_cases h99:(⟨#[120,39,57,57]⟩:Nm)∈vars (F0 ps e)
  ·have H99:=zh h99
   have CF:Hid (∀ W,Below wc.heap.size wc W→Calls Tryz.prog 21 #[.agg #[.string nm,.bool ch,.slice pa np pc,.int .i64 ek,.string en0,.string op,.int .i64 num,.int .i64 site,.slice xa na xc,.slice aa nc ca,.slice ab nb cb],.string x,.string ⟨#[120,39,57,57]⟩] W (fun en w'=>en = .returned (.tuple #[.bool (conflict (F0 ps e) x ⟨#[120,39,57,57]⟩),.int .i64 0])∧Below W.heap.size W w')):=fun W hW=>by
    refine(conflict_any (HK.out.keep (BWc.out.trans (hW.mono BWc.out.size))) x ⟨#[120,39,57,57]⟩ (NSZ.out x XV.out) (by decide)).mono ?_
    rintro en w' ⟨hb',⟨-,-,-,rfl⟩|⟨-,ho,-⟩|⟨hg,-⟩⟩
    ·exact⟨rfl,hb'⟩
    ·exact absurd ho (by simp [XV.out,H99.out])
    exact absurd HG.out hg
   obtain⟨cq,hcq⟩:∃ b,b=conflict (F0 ps e) x ⟨#[120,39,57,57]⟩:=⟨_,rfl⟩
   rw [← hcq] at CF
   clear h99 hcq
   go_upto_region 21 with fail
   go_region_held3 (fun w'=>w'.cell? ⟨w.heap.size,0,none⟩=some (.string nm)∧w'.cell? ⟨w.heap.size,1,none⟩=some (.bool ch)∧w'.cell? ⟨w.heap.size,2,none⟩=some (.slice pa np pc)∧w'.cell? ⟨w.heap.size,3,none⟩=some (.int .i64 ek)∧w'.cell? ⟨w.heap.size,4,none⟩=some (.string en0)∧w'.cell? ⟨w.heap.size,5,none⟩=some (.string op)∧w'.cell? ⟨w.heap.size,6,none⟩=some (.int .i64 num)∧w'.cell? ⟨w.heap.size,7,none⟩=some (.int .i64 site)∧w'.cell? ⟨w.heap.size,8,none⟩=some (.slice xa na xc)∧w'.cell? ⟨w.heap.size,9,none⟩=some (.slice aa nc ca)∧w'.cell? ⟨w.heap.size,10,none⟩=some (.slice ab nb cb)∧w'.cell? ⟨fb,0,none⟩=some (.slice (some ⟨xg,xo,none⟩) nv svc)∧w'.cell? ⟨xg,xo+i,none⟩=some (.string x)) ((go_split_ands;(refine⟨?_,?_,?_,?_,?_,?_,?_,?_,?_,?_,?_,?_,?_⟩<;>(first | assumption | exact zd hb9 _ _ (by assumption))))) ((go_at_call 21;refine(CF.out _ ((zs9 _ _).drew)).mono ?_;rintro e9 w9 ⟨rfl,hb9⟩))
   rename World=>wd
   have hb:Below wc.heap.size wc wd:=(zs9 _ _).drew.trans hb9
   have KD:Hid (Below w8.heap.size w8 wd):=KC.out.trans (hb.mono KC.out.size)
   clear q0 q1 q2 q3 q4 q5 q6 q7 q8 q9 q10 hb hb9 c0 xcell CF
   have FD:=zh (findV_any ⟨#[120,39,57,57]⟩ (FL8.out.keep KD.out))
   go_wp2_with fail
   refine FD.out.mono ?_
   rintro en we ⟨hbe,⟨t,rfl,-⟩|⟨rfl,hno⟩⟩
   rotate_left
   ·exact absurd H99.out hno
   have t0:(0:Int)≤t:=by omega
   have KE:Hid (Below w8.heap.size w8 we):=KD.out.trans (hbe.mono KD.out.size)
   clear hbe FD
   have LVS:=zh (FL8.out.keep KE.out).lives
   go_wp2_with fail
   refine LVS.out.mono ?_
   rintro en wf ⟨hbf,lt,rfl,hlt⟩
   have KF:Hid (Below w8.heap.size w8 wf):=KE.out.trans (hbf.mono KE.out.size)
   have CN:=zh (conflictR_any (FL8.out.keep KF.out) hlt IL.out.1 IL.out.2)
   rw [← CS.out] at CN
   obtain⟨lg,lc,rfl,-⟩:=hlt.cells
   rw [← HN.out] at CN ⊢
   clear hbf hlt LVS
   go_wp2_with fail
   refine CN.out.mono ?_
   rintro en wg ⟨hbg,rfl⟩
   have KG:Hid (Below w8.heap.size w8 wg):=KF.out.trans (hbg.mono KF.out.size)
   clear hbg CN
   cases cf
   ·go_wp2_with fail
    go_ret
    exact⟨rfl,B8.out.trans (KG.out.mono B8.out.size)⟩
   go_wp2_with fail
   go_ret
   exact⟨rfl,B8.out.trans (KG.out.mono B8.out.size)⟩
  have CF:Hid (∀ W,Below wc.heap.size wc W→Calls Tryz.prog 21 #[.agg #[.string nm,.bool ch,.slice pa np pc,.int .i64 ek,.string en0,.string op,.int .i64 num,.int .i64 site,.slice xa na xc,.slice aa nc ca,.slice ab nb cb],.string x,.string ⟨#[120,39,57,57]⟩] W (fun en w'=>en = .returned (.tuple #[.bool false,.int .i64 3])∧Below W.heap.size W w')):=fun W hW=>by
   refine(conflict_any (HK.out.keep (BWc.out.trans (hW.mono BWc.out.size))) x ⟨#[120,39,57,57]⟩ (NSZ.out x XV.out) (by decide)).mono ?_
   rintro en w' ⟨hb',⟨-,-,h,-⟩|⟨-,ho,rfl⟩|⟨hg,-⟩⟩
   ·exact absurd h h99
   ·exact⟨rfl,hb'⟩
   exact absurd HG.out hg
  clear h99
  go_upto_region 21 with fail
  go_region_held3 (fun w'=>w'.cell? ⟨w.heap.size,0,none⟩=some (.string nm)∧w'.cell? ⟨w.heap.size,1,none⟩=some (.bool ch)∧w'.cell? ⟨w.heap.size,2,none⟩=some (.slice pa np pc)∧w'.cell? ⟨w.heap.size,3,none⟩=some (.int .i64 ek)∧w'.cell? ⟨w.heap.size,4,none⟩=some (.string en0)∧w'.cell? ⟨w.heap.size,5,none⟩=some (.string op)∧w'.cell? ⟨w.heap.size,6,none⟩=some (.int .i64 num)∧w'.cell? ⟨w.heap.size,7,none⟩=some (.int .i64 site)∧w'.cell? ⟨w.heap.size,8,none⟩=some (.slice xa na xc)∧w'.cell? ⟨w.heap.size,9,none⟩=some (.slice aa nc ca)∧w'.cell? ⟨w.heap.size,10,none⟩=some (.slice ab nb cb)∧w'.cell? ⟨fb,0,none⟩=some (.slice (some ⟨xg,xo,none⟩) nv svc)∧w'.cell? ⟨xg,xo+i,none⟩=some (.string x)) ((go_split_ands;(refine⟨?_,?_,?_,?_,?_,?_,?_,?_,?_,?_,?_,?_,?_⟩<;>(first | assumption | exact zd hb9 _ _ (by assumption))))) ((go_at_call 21;refine(CF.out _ ((zs9 _ _).drew)).mono ?_;rintro e9 w9 ⟨rfl,hb9⟩))
  rename World=>wd
  have hb:Below wc.heap.size wc wd:=(zs9 _ _).drew.trans hb9
  have KE:Hid (Below w8.heap.size w8 wd):=KC.out.trans (hb.mono KC.out.size)
  clear q0 q1 q2 q3 q4 q5 q6 q7 q8 q9 q10 hb hb9 c0 xcell CF
  have LVS:=zh (FL8.out.keep KE.out).lives
  go_wp2_with fail
  refine LVS.out.mono ?_
  rintro en wf ⟨hbf,lt,rfl,hlt⟩
  have KF:Hid (Below w8.heap.size w8 wf):=KE.out.trans (hbf.mono KE.out.size)
  have CN:=zh (conflictR_any (FL8.out.keep KF.out) hlt IL.out.1 IL.out.2)
  rw [← CS.out] at CN
  obtain⟨lg,lc,rfl,-⟩:=hlt.cells
  rw [← HN.out] at CN ⊢
  clear hbf hlt LVS
  go_wp2_with fail
  refine CN.out.mono ?_
  rintro en wg ⟨hbg,rfl⟩
  have KG:Hid (Below w8.heap.size w8 wg):=KF.out.trans (hbg.mono KF.out.size)
  clear hbg CN
  cases cf
  ·go_wp2_with fail
   go_ret
   exact⟨rfl,B8.out.trans (KG.out.mono B8.out.size)⟩
  go_wp2_with fail
  go_ret
  exact⟨rfl,B8.out.trans (KG.out.mono B8.out.size)⟩
 rcases ho with ho | ho
 ·have dn0:decide (n0<0)=true:=by simp [ho]
  clear ho
  go_upto_region 10 with fail
  go_quiet (fail)
  obtain⟨w5,hw5⟩:∃ W,W=w4.drewN nq:=⟨_,rfl⟩
  have hb:Below w4.heap.size w4 w5:=by rw [hw5];exact zj _ _ _
  have B5:Hid (Below w.heap.size w w5):=B4.out.trans (hb.mono B4.out.size)
  have O5:=zh ((hb.block w.heap.size (by have:=L4.out;omega)).trans O4.out)
  have P5:=zh ((hb.block (w.heap.size+1) (by have:=L4.out;omega)).trans P4.out)
  have L5:Hid (w.heap.size+2≤w5.heap.size):=zr5 L4.out hb.size
  have FL5:=zh (FL4.out.keep hb)
  have FC5:=zh (FC4.out.keep hb)
  rw [← hw5]
  clear hb hw5 p0 c1 x6 dn0
  have c0:w5.cell? ⟨fb,0,none⟩=some (.slice sva nv svc):=by rw [zb _ _ 0 _ _ _ FC5.out.row,HNV.out];rfl
  by_cases hv0:nv=0
  ·have d0:((nv:Int)==0)=true:=by simp [hv0]
   have d0':(nv==0)=true:=by simp [hv0]
   have VN:Hid (vars (F0 ps e)=[]):=List.length_eq_zero_iff.1 (by rw [← HNV.out];exact hv0)
   have CF:=zh (conflict_any (HK.out.keep B5.out) ⟨#[97]⟩ ⟨#[98]⟩ (by decide) (by decide))
   obtain⟨q0,q1,q2,q3,q4,q5,q6,q7,q8,q9,q10⟩:=box11 O5.out
   go_wp2_with fail
   refine CF.out.mono ?_
   rintro en w9 ⟨hb,⟨-,ha,-⟩|⟨-,-,rfl⟩|⟨hg,-⟩⟩
   ·rw [VN.out] at ha;exact absurd ha (by simp)
   rotate_left
   ·exact absurd HG.out hg
   have B9:Hid (Below w.heap.size w w9):=B5.out.trans (hb.mono B5.out.size)
   clear q0 q1 q2 q3 q4 q5 q6 q7 q8 q9 q10 hb CF
   go_wp2_with fail
   go_ret
   exact⟨rfl,B9.out⟩
  have d0:((nv:Int)==0)=false:=by simp;omega
  have d0':(nv==0)=false:=by simp;omega
  have nvp:(0:Int)<nv:=by omega
  obtain⟨i,hi⟩:∃ i:Nat,n1 % (nv:Int)=i:=⟨(n1 % (nv:Int)).toNat,by have:=Int.emod_nonneg n1 (show (nv:Int)≠0 by omega);omega⟩
  have hil:(i:Int)<nv:=by rw [← hi];exact Int.emod_lt_of_pos _ nvp
  obtain⟨j,hj⟩:∃ j:Nat,n2 % (nv:Int)=j:=⟨(n2 % (nv:Int)).toNat,by have:=Int.emod_nonneg n2 (show (nv:Int)≠0 by omega);omega⟩
  have hjl:(j:Int)<nv:=by rw [← hj];exact Int.emod_lt_of_pos _ nvp
  have hi0:(0:Int)≤i:=by omega
  have hj0:(0:Int)≤j:=by omega
  have M1:Hid (∀ W:World,Calls Tryz.prog 22 #[.int .i64 n1,.int .i64 (nv:Int)] W fun e w'=>e = .returned (.int .i64 (i:Int))∧w'=W):=fun W=>by
   have h1:=modR_any W n1 (nv:Int) HN1.out nvp (by omega)
   rw [hi] at h1
   exact h1
  have M2:Hid (∀ W:World,Calls Tryz.prog 22 #[.int .i64 n2,.int .i64 (nv:Int)] W fun e w'=>e = .returned (.int .i64 (j:Int))∧w'=W):=fun W=>by
   have h1:=modR_any W n2 (nv:Int) HN2.out nvp (by omega)
   rw [hj] at h1
   exact h1
  have IL:Hid (i<(vars (F0 ps e)).length∧j<(vars (F0 ps e)).length):=by have:=HNV.out;show _∧_;omega
  obtain⟨x,hx⟩:∃ x,x=(vars (F0 ps e)).getD i ⟨#[]⟩:=⟨_,rfl⟩
  obtain⟨y,hy⟩:∃ y,y=(vars (F0 ps e)).getD j ⟨#[]⟩:=⟨_,rfl⟩
  have HX:=zh hx
  have HY:=zh hy
  have XV:Hid (x∈vars (F0 ps e)):=by show _∈_;rw [hx];exact getD_mem IL.out.1
  have YV:Hid (y∈vars (F0 ps e)):=by show _∈_;rw [hy];exact getD_mem IL.out.2
  obtain⟨xg,xo,rfl,xcell⟩:=FC5.out.names i IL.out.1
  obtain⟨xg',xo',hxe,ycell⟩:=FC5.out.names j IL.out.2
  simp only [zt3,Addr.mk.injEq,and_true] at hxe
  obtain⟨rfl,rfl⟩:=hxe
  rw [← hx] at xcell
  rw [← hy] at ycell
  have XC:=zh xcell
  have YC:=zh ycell
  have NSZ:Hid (∀ z∈vars (F0 ps e),z.size≤maxLen):=fun z hz=>by
   obtain⟨d,hd,hz⟩:=List.mem_flatMap.1 hz
   exact(HK.out.sz d hd).1 z hz
  have p1:w5.cell? ⟨w.heap.size+1,1,none⟩=some (.int .i64 n1):=by rw [zb _ _ 1 _ _ _ P5.out];rfl
  clear hv0 hi hj hx hy xcell ycell
  go_upto_region 18 with fail
  refine wp_region_still_tail 7 (by kernel_rfl) (by kernel_rfl) ?_
  simp only [List.take_succ_cons,List.take_zero,List.drop_succ_cons,List.drop_zero,World.drew_eq]
  iterate 7 still_step
  refine wpStill_nil ?_
  go_wp2_with fail
  refine(M1.out _).mono ?_
  rintro en w' ⟨rfl,rfl⟩
  clear p1
  obtain⟨wa,hwa⟩:∃ W,W=w5.drew:=⟨_,rfl⟩
  rw [← hwa]
  have AB:Hid (Below w5.heap.size w5 wa):=by show Below _ _ _;rw [hwa];exact(zs9 _ _).drew
  have c0:=zd AB.out _ _ c0
  have p2:wa.cell? ⟨w.heap.size+1,2,none⟩=some (.int .i64 n2):=by rw [zb _ _ 2 _ _ _ ((AB.out.block (w.heap.size+1) (by have:=L5.out;omega)).trans P5.out)];rfl
  clear hwa M1
  go_upto_region 19 with fail
  refine wp_region_still_tail 7 (by kernel_rfl) (by kernel_rfl) ?_
  simp only [List.take_succ_cons,List.take_zero,List.drop_succ_cons,List.drop_zero,World.drew_eq]
  iterate 7 still_step
  refine wpStill_nil ?_
  go_wp2_with fail
  refine(M2.out _).mono ?_
  rintro en w' ⟨rfl,rfl⟩
  clear p2
  obtain⟨wb,hwb⟩:∃ W,W=wa.drew:=⟨_,rfl⟩
  rw [← hwb]
  have BBk:Hid (Below w5.heap.size w5 wb):=by show Below _ _ _;rw [hwb];exact AB.out.drew
  clear hwb M2
  have hb:=BBk.out
  have c0:wb.cell? ⟨fb,0,none⟩=some (.slice (some ⟨xg,xo,none⟩) nv svc):=by rw [zb _ _ 0 _ _ _ (FC5.out.keep hb).row,HNV.out];rfl
  have xcell:=zd hb _ _ XC.out
  have ycell:=zd hb _ _ YC.out
  have BWb:Hid (Below w.heap.size w wb):=B5.out.trans (hb.mono B5.out.size)
  have Ob:=zh ((hb.block w.heap.size (by have:=L5.out;omega)).trans O5.out)
  clear hb
  have CF:Hid (∀ W,Below wb.heap.size wb W→Calls Tryz.prog 21 #[.agg #[.string nm,.bool ch,.slice pa np pc,.int .i64 ek,.string en0,.string op,.int .i64 num,.int .i64 site,.slice xa na xc,.slice aa nc ca,.slice ab nb cb],.string x,.string y] W (fun en w'=>en = .returned (.tuple #[.bool (conflict (F0 ps e) x y),.int .i64 0])∧Below W.heap.size W w')):=fun W hW=>by
   refine(conflict_any (HK.out.keep (BWb.out.trans (hW.mono BWb.out.size))) x y (NSZ.out x XV.out) (NSZ.out y YV.out)).mono ?_
   rintro en w' ⟨hb',⟨-,-,-,rfl⟩|⟨-,ho,-⟩|⟨hg,-⟩⟩
   ·exact⟨rfl,hb'⟩
   ·exact absurd ho (by simp [XV.out,YV.out])
   exact absurd HG.out hg
  have CS:Hid (conflict (F0 ps e) x y=conflict (F0 ps e) ((vars (F0 ps e)).getD i ⟨#[]⟩) ((vars (F0 ps e)).getD j ⟨#[]⟩)):=by show _=_;rw [HX.out,HY.out]
  obtain⟨cf,hcf⟩:∃ b,b=conflict (F0 ps e) x y:=⟨_,rfl⟩
  rw [← hcf] at CF CS
  clear hcf
  obtain⟨q0,q1,q2,q3,q4,q5,q6,q7,q8,q9,q10⟩:=box11 Ob.out
  go_upto_region 20 with fail
  go_region_held3 (fun w'=>w'.cell? ⟨w.heap.size,0,none⟩=some (.string nm)∧w'.cell? ⟨w.heap.size,1,none⟩=some (.bool ch)∧w'.cell? ⟨w.heap.size,2,none⟩=some (.slice pa np pc)∧w'.cell? ⟨w.heap.size,3,none⟩=some (.int .i64 ek)∧w'.cell? ⟨w.heap.size,4,none⟩=some (.string en0)∧w'.cell? ⟨w.heap.size,5,none⟩=some (.string op)∧w'.cell? ⟨w.heap.size,6,none⟩=some (.int .i64 num)∧w'.cell? ⟨w.heap.size,7,none⟩=some (.int .i64 site)∧w'.cell? ⟨w.heap.size,8,none⟩=some (.slice xa na xc)∧w'.cell? ⟨w.heap.size,9,none⟩=some (.slice aa nc ca)∧w'.cell? ⟨w.heap.size,10,none⟩=some (.slice ab nb cb)∧w'.cell? ⟨fb,0,none⟩=some (.slice (some ⟨xg,xo,none⟩) nv svc)∧w'.cell? ⟨xg,xo+i,none⟩=some (.string x)∧w'.cell? ⟨xg,xo+j,none⟩=some (.string y)) ((go_split_ands;(refine⟨?_,?_,?_,?_,?_,?_,?_,?_,?_,?_,?_,?_,?_,?_⟩<;>(first | assumption | exact zd hb9 _ _ (by assumption))))) ((go_at_call 21;refine(CF.out _ ((zs9 _ _).drew)).mono ?_;rintro e9 w9 ⟨rfl,hb9⟩))
  rename World=>wc
  have hb:Below wb.heap.size wb wc:=(zs9 _ _).drew.trans hb9
  have BWc:Hid (Below w.heap.size w wc):=BWb.out.trans (hb.mono BWb.out.size)
  have KC:Hid (Below w5.heap.size w5 wc):=BBk.out.trans (hb.mono BBk.out.size)
  have Oc:=zh ((hb.block w.heap.size (by have:=L5.out;have:=BBk.out.size;omega)).trans Ob.out)
  clear q0 q1 q2 q3 q4 q5 q6 q7 q8 q9 q10 hb hb9 c0 xcell ycell CF Ob
  have c0:wc.cell? ⟨fb,0,none⟩=some (.slice (some ⟨xg,xo,none⟩) nv svc):=by rw [zb _ _ 0 _ _ _ (FC5.out.keep KC.out).row,HNV.out];rfl
  have xcell:=zd KC.out _ _ XC.out
  obtain⟨q0,q1,q2,q3,q4,q5,q6,q7,q8,q9,q10⟩:=box11 Oc.out
  by_cases h99:(⟨#[120,39,57,57]⟩:Nm)∈vars (F0 ps e)
  ·have H99:=zh h99
   have CF:Hid (∀ W,Below wc.heap.size wc W→Calls Tryz.prog 21 #[.agg #[.string nm,.bool ch,.slice pa np pc,.int .i64 ek,.string en0,.string op,.int .i64 num,.int .i64 site,.slice xa na xc,.slice aa nc ca,.slice ab nb cb],.string x,.string ⟨#[120,39,57,57]⟩] W (fun en w'=>en = .returned (.tuple #[.bool (conflict (F0 ps e) x ⟨#[120,39,57,57]⟩),.int .i64 0])∧Below W.heap.size W w')):=fun W hW=>by
    refine(conflict_any (HK.out.keep (BWc.out.trans (hW.mono BWc.out.size))) x ⟨#[120,39,57,57]⟩ (NSZ.out x XV.out) (by decide)).mono ?_
    rintro en w' ⟨hb',⟨-,-,-,rfl⟩|⟨-,ho,-⟩|⟨hg,-⟩⟩
    ·exact⟨rfl,hb'⟩
    ·exact absurd ho (by simp [XV.out,H99.out])
    exact absurd HG.out hg
   obtain⟨cq,hcq⟩:∃ b,b=conflict (F0 ps e) x ⟨#[120,39,57,57]⟩:=⟨_,rfl⟩
   rw [← hcq] at CF
   clear h99 hcq
   go_upto_region 21 with fail
   go_region_held3 (fun w'=>w'.cell? ⟨w.heap.size,0,none⟩=some (.string nm)∧w'.cell? ⟨w.heap.size,1,none⟩=some (.bool ch)∧w'.cell? ⟨w.heap.size,2,none⟩=some (.slice pa np pc)∧w'.cell? ⟨w.heap.size,3,none⟩=some (.int .i64 ek)∧w'.cell? ⟨w.heap.size,4,none⟩=some (.string en0)∧w'.cell? ⟨w.heap.size,5,none⟩=some (.string op)∧w'.cell? ⟨w.heap.size,6,none⟩=some (.int .i64 num)∧w'.cell? ⟨w.heap.size,7,none⟩=some (.int .i64 site)∧w'.cell? ⟨w.heap.size,8,none⟩=some (.slice xa na xc)∧w'.cell? ⟨w.heap.size,9,none⟩=some (.slice aa nc ca)∧w'.cell? ⟨w.heap.size,10,none⟩=some (.slice ab nb cb)∧w'.cell? ⟨fb,0,none⟩=some (.slice (some ⟨xg,xo,none⟩) nv svc)∧w'.cell? ⟨xg,xo+i,none⟩=some (.string x)) ((go_split_ands;(refine⟨?_,?_,?_,?_,?_,?_,?_,?_,?_,?_,?_,?_,?_⟩<;>(first | assumption | exact zd hb9 _ _ (by assumption))))) ((go_at_call 21;refine(CF.out _ ((zs9 _ _).drew)).mono ?_;rintro e9 w9 ⟨rfl,hb9⟩))
   rename World=>wd
   have hb:Below wc.heap.size wc wd:=(zs9 _ _).drew.trans hb9
   have KD:Hid (Below w5.heap.size w5 wd):=KC.out.trans (hb.mono KC.out.size)
   clear q0 q1 q2 q3 q4 q5 q6 q7 q8 q9 q10 hb hb9 c0 xcell CF
   have FD:=zh (findV_any ⟨#[120,39,57,57]⟩ (FL5.out.keep KD.out))
   go_wp2_with fail
   refine FD.out.mono ?_
   rintro en we ⟨hbe,⟨t,rfl,-⟩|⟨rfl,hno⟩⟩
   rotate_left
   ·exact absurd H99.out hno
   have t0:(0:Int)≤t:=by omega
   have KE:Hid (Below w5.heap.size w5 we):=KD.out.trans (hbe.mono KD.out.size)
   clear hbe FD
   have LVS:=zh (FL5.out.keep KE.out).lives
   go_wp2_with fail
   refine LVS.out.mono ?_
   rintro en wf ⟨hbf,lt,rfl,hlt⟩
   have KF:Hid (Below w5.heap.size w5 wf):=KE.out.trans (hbf.mono KE.out.size)
   have CN:=zh (conflictR_any (FL5.out.keep KF.out) hlt IL.out.1 IL.out.2)
   rw [← CS.out] at CN
   obtain⟨lg,lc,rfl,-⟩:=hlt.cells
   rw [← HN.out] at CN ⊢
   clear hbf hlt LVS
   go_wp2_with fail
   refine CN.out.mono ?_
   rintro en wg ⟨hbg,rfl⟩
   have KG:Hid (Below w5.heap.size w5 wg):=KF.out.trans (hbg.mono KF.out.size)
   clear hbg CN
   cases cf
   ·go_wp2_with fail
    go_ret
    exact⟨rfl,B5.out.trans (KG.out.mono B5.out.size)⟩
   go_wp2_with fail
   go_ret
   exact⟨rfl,B5.out.trans (KG.out.mono B5.out.size)⟩
  have CF:Hid (∀ W,Below wc.heap.size wc W→Calls Tryz.prog 21 #[.agg #[.string nm,.bool ch,.slice pa np pc,.int .i64 ek,.string en0,.string op,.int .i64 num,.int .i64 site,.slice xa na xc,.slice aa nc ca,.slice ab nb cb],.string x,.string ⟨#[120,39,57,57]⟩] W (fun en w'=>en = .returned (.tuple #[.bool false,.int .i64 3])∧Below W.heap.size W w')):=fun W hW=>by
   refine(conflict_any (HK.out.keep (BWc.out.trans (hW.mono BWc.out.size))) x ⟨#[120,39,57,57]⟩ (NSZ.out x XV.out) (by decide)).mono ?_
   rintro en w' ⟨hb',⟨-,-,h,-⟩|⟨-,ho,rfl⟩|⟨hg,-⟩⟩
   ·exact absurd h h99
   ·exact⟨rfl,hb'⟩
   exact absurd HG.out hg
  clear h99
  go_upto_region 21 with fail
  go_region_held3 (fun w'=>w'.cell? ⟨w.heap.size,0,none⟩=some (.string nm)∧w'.cell? ⟨w.heap.size,1,none⟩=some (.bool ch)∧w'.cell? ⟨w.heap.size,2,none⟩=some (.slice pa np pc)∧w'.cell? ⟨w.heap.size,3,none⟩=some (.int .i64 ek)∧w'.cell? ⟨w.heap.size,4,none⟩=some (.string en0)∧w'.cell? ⟨w.heap.size,5,none⟩=some (.string op)∧w'.cell? ⟨w.heap.size,6,none⟩=some (.int .i64 num)∧w'.cell? ⟨w.heap.size,7,none⟩=some (.int .i64 site)∧w'.cell? ⟨w.heap.size,8,none⟩=some (.slice xa na xc)∧w'.cell? ⟨w.heap.size,9,none⟩=some (.slice aa nc ca)∧w'.cell? ⟨w.heap.size,10,none⟩=some (.slice ab nb cb)∧w'.cell? ⟨fb,0,none⟩=some (.slice (some ⟨xg,xo,none⟩) nv svc)∧w'.cell? ⟨xg,xo+i,none⟩=some (.string x)) ((go_split_ands;(refine⟨?_,?_,?_,?_,?_,?_,?_,?_,?_,?_,?_,?_,?_⟩<;>(first | assumption | exact zd hb9 _ _ (by assumption))))) ((go_at_call 21;refine(CF.out _ ((zs9 _ _).drew)).mono ?_;rintro e9 w9 ⟨rfl,hb9⟩))
  rename World=>wd
  have hb:Below wc.heap.size wc wd:=(zs9 _ _).drew.trans hb9
  have KE:Hid (Below w5.heap.size w5 wd):=KC.out.trans (hb.mono KC.out.size)
  clear q0 q1 q2 q3 q4 q5 q6 q7 q8 q9 q10 hb hb9 c0 xcell CF
  have LVS:=zh (FL5.out.keep KE.out).lives
  go_wp2_with fail
  refine LVS.out.mono ?_
  rintro en wf ⟨hbf,lt,rfl,hlt⟩
  have KF:Hid (Below w5.heap.size w5 wf):=KE.out.trans (hbf.mono KE.out.size)
  have CN:=zh (conflictR_any (FL5.out.keep KF.out) hlt IL.out.1 IL.out.2)
  rw [← CS.out] at CN
  obtain⟨lg,lc,rfl,-⟩:=hlt.cells
  rw [← HN.out] at CN ⊢
  clear hbf hlt LVS
  go_wp2_with fail
  refine CN.out.mono ?_
  rintro en wg ⟨hbg,rfl⟩
  have KG:Hid (Below w5.heap.size w5 wg):=KF.out.trans (hbg.mono KF.out.size)
  clear hbg CN
  cases cf
  ·go_wp2_with fail
   go_ret
   exact⟨rfl,B5.out.trans (KG.out.mono B5.out.size)⟩
  go_wp2_with fail
  go_ret
  exact⟨rfl,B5.out.trans (KG.out.mono B5.out.size)⟩
 have dn0:decide (n0<0)=false:=by have:=HN.out;simp;omega
 have dn1:decide ((n:Int)≤n0)=true:=by have h1:=HN.out;rw [F0_length] at h1;simp;omega
 clear ho
 go_upto_region 10 with fail
 go_quiet (fail)
 obtain⟨w5,hw5⟩:∃ W,W=w4.drewN nq:=⟨_,rfl⟩
 have hb:Below w4.heap.size w4 w5:=by rw [hw5];exact zj _ _ _
 have B5:Hid (Below w.heap.size w w5):=B4.out.trans (hb.mono B4.out.size)
 have O5:=zh ((hb.block w.heap.size (by have:=L4.out;omega)).trans O4.out)
 have P5:=zh ((hb.block (w.heap.size+1) (by have:=L4.out;omega)).trans P4.out)
 have L5:Hid (w.heap.size+2≤w5.heap.size):=zr5 L4.out hb.size
 have FL5:=zh (FL4.out.keep hb)
 have FC5:=zh (FC4.out.keep hb)
 rw [← hw5]
 clear hb hw5 p0 c1 x6 dn0 dn1
 have c0:w5.cell? ⟨fb,0,none⟩=some (.slice sva nv svc):=by rw [zb _ _ 0 _ _ _ FC5.out.row,HNV.out];rfl
 by_cases hv0:nv=0
 ·have d0:((nv:Int)==0)=true:=by simp [hv0]
  have d0':(nv==0)=true:=by simp [hv0]
  have VN:Hid (vars (F0 ps e)=[]):=List.length_eq_zero_iff.1 (by rw [← HNV.out];exact hv0)
  have CF:=zh (conflict_any (HK.out.keep B5.out) ⟨#[97]⟩ ⟨#[98]⟩ (by decide) (by decide))
  obtain⟨q0,q1,q2,q3,q4,q5,q6,q7,q8,q9,q10⟩:=box11 O5.out
  go_wp2_with fail
  refine CF.out.mono ?_
  rintro en w9 ⟨hb,⟨-,ha,-⟩|⟨-,-,rfl⟩|⟨hg,-⟩⟩
  ·rw [VN.out] at ha;exact absurd ha (by simp)
  rotate_left
  ·exact absurd HG.out hg
  have B9:Hid (Below w.heap.size w w9):=B5.out.trans (hb.mono B5.out.size)
  clear q0 q1 q2 q3 q4 q5 q6 q7 q8 q9 q10 hb CF
  go_wp2_with fail
  go_ret
  exact⟨rfl,B9.out⟩
 have d0:((nv:Int)==0)=false:=by simp;omega
 have d0':(nv==0)=false:=by simp;omega
 have nvp:(0:Int)<nv:=by omega
 obtain⟨i,hi⟩:∃ i:Nat,n1 % (nv:Int)=i:=⟨(n1 % (nv:Int)).toNat,by have:=Int.emod_nonneg n1 (show (nv:Int)≠0 by omega);omega⟩
 have hil:(i:Int)<nv:=by rw [← hi];exact Int.emod_lt_of_pos _ nvp
 obtain⟨j,hj⟩:∃ j:Nat,n2 % (nv:Int)=j:=⟨(n2 % (nv:Int)).toNat,by have:=Int.emod_nonneg n2 (show (nv:Int)≠0 by omega);omega⟩
 have hjl:(j:Int)<nv:=by rw [← hj];exact Int.emod_lt_of_pos _ nvp
 have hi0:(0:Int)≤i:=by omega
 have hj0:(0:Int)≤j:=by omega
 have M1:Hid (∀ W:World,Calls Tryz.prog 22 #[.int .i64 n1,.int .i64 (nv:Int)] W fun e w'=>e = .returned (.int .i64 (i:Int))∧w'=W):=fun W=>by
  have h1:=modR_any W n1 (nv:Int) HN1.out nvp (by omega)
  rw [hi] at h1
  exact h1
 have M2:Hid (∀ W:World,Calls Tryz.prog 22 #[.int .i64 n2,.int .i64 (nv:Int)] W fun e w'=>e = .returned (.int .i64 (j:Int))∧w'=W):=fun W=>by
  have h1:=modR_any W n2 (nv:Int) HN2.out nvp (by omega)
  rw [hj] at h1
  exact h1
 have IL:Hid (i<(vars (F0 ps e)).length∧j<(vars (F0 ps e)).length):=by have:=HNV.out;show _∧_;omega
 obtain⟨x,hx⟩:∃ x,x=(vars (F0 ps e)).getD i ⟨#[]⟩:=⟨_,rfl⟩
 obtain⟨y,hy⟩:∃ y,y=(vars (F0 ps e)).getD j ⟨#[]⟩:=⟨_,rfl⟩
 have HX:=zh hx
 have HY:=zh hy
 have XV:Hid (x∈vars (F0 ps e)):=by show _∈_;rw [hx];exact getD_mem IL.out.1
 have YV:Hid (y∈vars (F0 ps e)):=by show _∈_;rw [hy];exact getD_mem IL.out.2
 obtain⟨xg,xo,rfl,xcell⟩:=FC5.out.names i IL.out.1
 obtain⟨xg',xo',hxe,ycell⟩:=FC5.out.names j IL.out.2
 simp only [zt3,Addr.mk.injEq,and_true] at hxe
 obtain⟨rfl,rfl⟩:=hxe
 rw [← hx] at xcell
 rw [← hy] at ycell
 have XC:=zh xcell
 have YC:=zh ycell
 have NSZ:Hid (∀ z∈vars (F0 ps e),z.size≤maxLen):=fun z hz=>by
  obtain⟨d,hd,hz⟩:=List.mem_flatMap.1 hz
  exact(HK.out.sz d hd).1 z hz
 have p1:w5.cell? ⟨w.heap.size+1,1,none⟩=some (.int .i64 n1):=by rw [zb _ _ 1 _ _ _ P5.out];rfl
 clear hv0 hi hj hx hy xcell ycell
 go_upto_region 18 with fail
 refine wp_region_still_tail 7 (by kernel_rfl) (by kernel_rfl) ?_
 simp only [List.take_succ_cons,List.take_zero,List.drop_succ_cons,List.drop_zero,World.drew_eq]
 iterate 7 still_step
 refine wpStill_nil ?_
 go_wp2_with fail
 refine(M1.out _).mono ?_
 rintro en w' ⟨rfl,rfl⟩
 clear p1
 obtain⟨wa,hwa⟩:∃ W,W=w5.drew:=⟨_,rfl⟩
 rw [← hwa]
 have AB:Hid (Below w5.heap.size w5 wa):=by show Below _ _ _;rw [hwa];exact(zs9 _ _).drew
 have c0:=zd AB.out _ _ c0
 have p2:wa.cell? ⟨w.heap.size+1,2,none⟩=some (.int .i64 n2):=by rw [zb _ _ 2 _ _ _ ((AB.out.block (w.heap.size+1) (by have:=L5.out;omega)).trans P5.out)];rfl
 clear hwa M1
 go_upto_region 19 with fail
 refine wp_region_still_tail 7 (by kernel_rfl) (by kernel_rfl) ?_
 simp only [List.take_succ_cons,List.take_zero,List.drop_succ_cons,List.drop_zero,World.drew_eq]
 iterate 7 still_step
 refine wpStill_nil ?_
 go_wp2_with fail
 refine(M2.out _).mono ?_
 rintro en w' ⟨rfl,rfl⟩
 clear p2
 obtain⟨wb,hwb⟩:∃ W,W=wa.drew:=⟨_,rfl⟩
 rw [← hwb]
 have BBk:Hid (Below w5.heap.size w5 wb):=by show Below _ _ _;rw [hwb];exact AB.out.drew
 clear hwb M2
 have hb:=BBk.out
 have c0:wb.cell? ⟨fb,0,none⟩=some (.slice (some ⟨xg,xo,none⟩) nv svc):=by rw [zb _ _ 0 _ _ _ (FC5.out.keep hb).row,HNV.out];rfl
 have xcell:=zd hb _ _ XC.out
 have ycell:=zd hb _ _ YC.out
 have BWb:Hid (Below w.heap.size w wb):=B5.out.trans (hb.mono B5.out.size)
 have Ob:=zh ((hb.block w.heap.size (by have:=L5.out;omega)).trans O5.out)
 clear hb
 have CF:Hid (∀ W,Below wb.heap.size wb W→Calls Tryz.prog 21 #[.agg #[.string nm,.bool ch,.slice pa np pc,.int .i64 ek,.string en0,.string op,.int .i64 num,.int .i64 site,.slice xa na xc,.slice aa nc ca,.slice ab nb cb],.string x,.string y] W (fun en w'=>en = .returned (.tuple #[.bool (conflict (F0 ps e) x y),.int .i64 0])∧Below W.heap.size W w')):=fun W hW=>by
  refine(conflict_any (HK.out.keep (BWb.out.trans (hW.mono BWb.out.size))) x y (NSZ.out x XV.out) (NSZ.out y YV.out)).mono ?_
  rintro en w' ⟨hb',⟨-,-,-,rfl⟩|⟨-,ho,-⟩|⟨hg,-⟩⟩
  ·exact⟨rfl,hb'⟩
  ·exact absurd ho (by simp [XV.out,YV.out])
  exact absurd HG.out hg
 have CS:Hid (conflict (F0 ps e) x y=conflict (F0 ps e) ((vars (F0 ps e)).getD i ⟨#[]⟩) ((vars (F0 ps e)).getD j ⟨#[]⟩)):=by show _=_;rw [HX.out,HY.out]
 obtain⟨cf,hcf⟩:∃ b,b=conflict (F0 ps e) x y:=⟨_,rfl⟩
 rw [← hcf] at CF CS
 clear hcf
 obtain⟨q0,q1,q2,q3,q4,q5,q6,q7,q8,q9,q10⟩:=box11 Ob.out
 go_upto_region 20 with fail
 go_region_held3 (fun w'=>w'.cell? ⟨w.heap.size,0,none⟩=some (.string nm)∧w'.cell? ⟨w.heap.size,1,none⟩=some (.bool ch)∧w'.cell? ⟨w.heap.size,2,none⟩=some (.slice pa np pc)∧w'.cell? ⟨w.heap.size,3,none⟩=some (.int .i64 ek)∧w'.cell? ⟨w.heap.size,4,none⟩=some (.string en0)∧w'.cell? ⟨w.heap.size,5,none⟩=some (.string op)∧w'.cell? ⟨w.heap.size,6,none⟩=some (.int .i64 num)∧w'.cell? ⟨w.heap.size,7,none⟩=some (.int .i64 site)∧w'.cell? ⟨w.heap.size,8,none⟩=some (.slice xa na xc)∧w'.cell? ⟨w.heap.size,9,none⟩=some (.slice aa nc ca)∧w'.cell? ⟨w.heap.size,10,none⟩=some (.slice ab nb cb)∧w'.cell? ⟨fb,0,none⟩=some (.slice (some ⟨xg,xo,none⟩) nv svc)∧w'.cell? ⟨xg,xo+i,none⟩=some (.string x)∧w'.cell? ⟨xg,xo+j,none⟩=some (.string y)) ((go_split_ands;(refine⟨?_,?_,?_,?_,?_,?_,?_,?_,?_,?_,?_,?_,?_,?_⟩<;>(first | assumption | exact zd hb9 _ _ (by assumption))))) ((go_at_call 21;refine(CF.out _ ((zs9 _ _).drew)).mono ?_;rintro e9 w9 ⟨rfl,hb9⟩))
 rename World=>wc
 have hb:Below wb.heap.size wb wc:=(zs9 _ _).drew.trans hb9
 have BWc:Hid (Below w.heap.size w wc):=BWb.out.trans (hb.mono BWb.out.size)
 have KC:Hid (Below w5.heap.size w5 wc):=BBk.out.trans (hb.mono BBk.out.size)
 have Oc:=zh ((hb.block w.heap.size (by have:=L5.out;have:=BBk.out.size;omega)).trans Ob.out)
 clear q0 q1 q2 q3 q4 q5 q6 q7 q8 q9 q10 hb hb9 c0 xcell ycell CF Ob
 have c0:wc.cell? ⟨fb,0,none⟩=some (.slice (some ⟨xg,xo,none⟩) nv svc):=by rw [zb _ _ 0 _ _ _ (FC5.out.keep KC.out).row,HNV.out];rfl
 have xcell:=zd KC.out _ _ XC.out
 obtain⟨q0,q1,q2,q3,q4,q5,q6,q7,q8,q9,q10⟩:=box11 Oc.out
 by_cases h99:(⟨#[120,39,57,57]⟩:Nm)∈vars (F0 ps e)
 ·have H99:=zh h99
  have CF:Hid (∀ W,Below wc.heap.size wc W→Calls Tryz.prog 21 #[.agg #[.string nm,.bool ch,.slice pa np pc,.int .i64 ek,.string en0,.string op,.int .i64 num,.int .i64 site,.slice xa na xc,.slice aa nc ca,.slice ab nb cb],.string x,.string ⟨#[120,39,57,57]⟩] W (fun en w'=>en = .returned (.tuple #[.bool (conflict (F0 ps e) x ⟨#[120,39,57,57]⟩),.int .i64 0])∧Below W.heap.size W w')):=fun W hW=>by
   refine(conflict_any (HK.out.keep (BWc.out.trans (hW.mono BWc.out.size))) x ⟨#[120,39,57,57]⟩ (NSZ.out x XV.out) (by decide)).mono ?_
   rintro en w' ⟨hb',⟨-,-,-,rfl⟩|⟨-,ho,-⟩|⟨hg,-⟩⟩
   ·exact⟨rfl,hb'⟩
   ·exact absurd ho (by simp [XV.out,H99.out])
   exact absurd HG.out hg
  obtain⟨cq,hcq⟩:∃ b,b=conflict (F0 ps e) x ⟨#[120,39,57,57]⟩:=⟨_,rfl⟩
  rw [← hcq] at CF
  clear h99 hcq
  go_upto_region 21 with fail
  go_region_held3 (fun w'=>w'.cell? ⟨w.heap.size,0,none⟩=some (.string nm)∧w'.cell? ⟨w.heap.size,1,none⟩=some (.bool ch)∧w'.cell? ⟨w.heap.size,2,none⟩=some (.slice pa np pc)∧w'.cell? ⟨w.heap.size,3,none⟩=some (.int .i64 ek)∧w'.cell? ⟨w.heap.size,4,none⟩=some (.string en0)∧w'.cell? ⟨w.heap.size,5,none⟩=some (.string op)∧w'.cell? ⟨w.heap.size,6,none⟩=some (.int .i64 num)∧w'.cell? ⟨w.heap.size,7,none⟩=some (.int .i64 site)∧w'.cell? ⟨w.heap.size,8,none⟩=some (.slice xa na xc)∧w'.cell? ⟨w.heap.size,9,none⟩=some (.slice aa nc ca)∧w'.cell? ⟨w.heap.size,10,none⟩=some (.slice ab nb cb)∧w'.cell? ⟨fb,0,none⟩=some (.slice (some ⟨xg,xo,none⟩) nv svc)∧w'.cell? ⟨xg,xo+i,none⟩=some (.string x)) ((go_split_ands;(refine⟨?_,?_,?_,?_,?_,?_,?_,?_,?_,?_,?_,?_,?_⟩<;>(first | assumption | exact zd hb9 _ _ (by assumption))))) ((go_at_call 21;refine(CF.out _ ((zs9 _ _).drew)).mono ?_;rintro e9 w9 ⟨rfl,hb9⟩))
  rename World=>wd
  have hb:Below wc.heap.size wc wd:=(zs9 _ _).drew.trans hb9
  have KD:Hid (Below w5.heap.size w5 wd):=KC.out.trans (hb.mono KC.out.size)
  clear q0 q1 q2 q3 q4 q5 q6 q7 q8 q9 q10 hb hb9 c0 xcell CF
  have FD:=zh (findV_any ⟨#[120,39,57,57]⟩ (FL5.out.keep KD.out))
  go_wp2_with fail
  refine FD.out.mono ?_
  rintro en we ⟨hbe,⟨t,rfl,-⟩|⟨rfl,hno⟩⟩
  rotate_left
  ·exact absurd H99.out hno
  have t0:(0:Int)≤t:=by omega
  have KE:Hid (Below w5.heap.size w5 we):=KD.out.trans (hbe.mono KD.out.size)
  clear hbe FD
  have LVS:=zh (FL5.out.keep KE.out).lives
  go_wp2_with fail
  refine LVS.out.mono ?_
  rintro en wf ⟨hbf,lt,rfl,hlt⟩
  have KF:Hid (Below w5.heap.size w5 wf):=KE.out.trans (hbf.mono KE.out.size)
  have CN:=zh (conflictR_any (FL5.out.keep KF.out) hlt IL.out.1 IL.out.2)
  rw [← CS.out] at CN
  obtain⟨lg,lc,rfl,-⟩:=hlt.cells
  rw [← HN.out] at CN ⊢
  clear hbf hlt LVS
  go_wp2_with fail
  refine CN.out.mono ?_
  rintro en wg ⟨hbg,rfl⟩
  have KG:Hid (Below w5.heap.size w5 wg):=KF.out.trans (hbg.mono KF.out.size)
  clear hbg CN
  cases cf
  ·go_wp2_with fail
   go_ret
   exact⟨rfl,B5.out.trans (KG.out.mono B5.out.size)⟩
  go_wp2_with fail
  go_ret
  exact⟨rfl,B5.out.trans (KG.out.mono B5.out.size)⟩
 have CF:Hid (∀ W,Below wc.heap.size wc W→Calls Tryz.prog 21 #[.agg #[.string nm,.bool ch,.slice pa np pc,.int .i64 ek,.string en0,.string op,.int .i64 num,.int .i64 site,.slice xa na xc,.slice aa nc ca,.slice ab nb cb],.string x,.string ⟨#[120,39,57,57]⟩] W (fun en w'=>en = .returned (.tuple #[.bool false,.int .i64 3])∧Below W.heap.size W w')):=fun W hW=>by
  refine(conflict_any (HK.out.keep (BWc.out.trans (hW.mono BWc.out.size))) x ⟨#[120,39,57,57]⟩ (NSZ.out x XV.out) (by decide)).mono ?_
  rintro en w' ⟨hb',⟨-,-,h,-⟩|⟨-,ho,rfl⟩|⟨hg,-⟩⟩
  ·exact absurd h h99
  ·exact⟨rfl,hb'⟩
  exact absurd HG.out hg
 clear h99
 go_upto_region 21 with fail
 go_region_held3 (fun w'=>w'.cell? ⟨w.heap.size,0,none⟩=some (.string nm)∧w'.cell? ⟨w.heap.size,1,none⟩=some (.bool ch)∧w'.cell? ⟨w.heap.size,2,none⟩=some (.slice pa np pc)∧w'.cell? ⟨w.heap.size,3,none⟩=some (.int .i64 ek)∧w'.cell? ⟨w.heap.size,4,none⟩=some (.string en0)∧w'.cell? ⟨w.heap.size,5,none⟩=some (.string op)∧w'.cell? ⟨w.heap.size,6,none⟩=some (.int .i64 num)∧w'.cell? ⟨w.heap.size,7,none⟩=some (.int .i64 site)∧w'.cell? ⟨w.heap.size,8,none⟩=some (.slice xa na xc)∧w'.cell? ⟨w.heap.size,9,none⟩=some (.slice aa nc ca)∧w'.cell? ⟨w.heap.size,10,none⟩=some (.slice ab nb cb)∧w'.cell? ⟨fb,0,none⟩=some (.slice (some ⟨xg,xo,none⟩) nv svc)∧w'.cell? ⟨xg,xo+i,none⟩=some (.string x)) ((go_split_ands;(refine⟨?_,?_,?_,?_,?_,?_,?_,?_,?_,?_,?_,?_,?_⟩<;>(first | assumption | exact zd hb9 _ _ (by assumption))))) ((go_at_call 21;refine(CF.out _ ((zs9 _ _).drew)).mono ?_;rintro e9 w9 ⟨rfl,hb9⟩))
 rename World=>wd
 have hb:Below wc.heap.size wc wd:=(zs9 _ _).drew.trans hb9
 have KE:Hid (Below w5.heap.size w5 wd):=KC.out.trans (hb.mono KC.out.size)
 clear q0 q1 q2 q3 q4 q5 q6 q7 q8 q9 q10 hb hb9 c0 xcell CF
 have LVS:=zh (FL5.out.keep KE.out).lives
 go_wp2_with fail
 refine LVS.out.mono ?_
 rintro en wf ⟨hbf,lt,rfl,hlt⟩
 have KF:Hid (Below w5.heap.size w5 wf):=KE.out.trans (hbf.mono KE.out.size)
 have CN:=zh (conflictR_any (FL5.out.keep KF.out) hlt IL.out.1 IL.out.2)
 rw [← CS.out] at CN
 obtain⟨lg,lc,rfl,-⟩:=hlt.cells
 rw [← HN.out] at CN ⊢
 clear hbf hlt LVS
 go_wp2_with fail
 refine CN.out.mono ?_
 rintro en wg ⟨hbg,rfl⟩
 have KG:Hid (Below w5.heap.size w5 wg):=KF.out.trans (hbg.mono KF.out.size)
 clear hbg CN
 cases cf
 ·go_wp2_with fail
  go_ret
  exact⟨rfl,B5.out.trans (KG.out.mono B5.out.size)⟩
 go_wp2_with fail
 go_ret
 exact⟨rfl,B5.out.trans (KG.out.mono B5.out.size)⟩
end Go.Proofs.YtnkahlloahgifaaGreatDoor

namespace Go.Proofs.YtnkahlloahgifaaGreatDoor.Lx
open Go.ChangeShapes Go.WideShapes Go.ChangeAt Go.RowKit
def laid7:List (String×DataW Unit):=[("math/bits.deBruijn32tab",Rows.laid_math_bits_deBruijn32tab),("math/bits.deBruijn64tab",Rows.laid_math_bits_deBruijn64tab),("internal/strconv.uint64pow10",Rows.laid_internal_strconv_uint64pow10),("unicode/utf8.acceptRanges",Rows.laid_unicode_utf8_acceptRanges),("strconv.ErrRange",Rows.laid_strconv_ErrRange),("strconv.ErrSyntax",Rows.laid_strconv_ErrSyntax),("unicode/utf8.first",Rows.laid_unicode_utf8_first)]
theorem own:ownKnob Tryz.prog.godebug=none:=by kernel_rfl
theorem gRange:Tryz.prog.globalNamed "strconv.ErrRange" = some 2:=by kernel_rfl
theorem gSyntax:Tryz.prog.globalNamed "strconv.ErrSyntax" = some 1:=by kernel_rfl
theorem gTen:Tryz.prog.globalNamed "internal/strconv.uint64pow10" = some 5:=by kernel_rfl
theorem tRange:(Tryz.prog.globals[2]?).map (·.type)=some 236:=by kernel_rfl
theorem tSyntax:(Tryz.prog.globals[1]?).map (·.type)=some 236:=by kernel_rfl
theorem tTen:(Tryz.prog.globals[5]?).map (·.type)=some 282:=by kernel_rfl
theorem cells126:Tryz.prog.cellsOf 274=1:=by kernel_rfl
theorem cells9:Tryz.prog.cellsOf 9=1:=by kernel_rfl
theorem cells100:Tryz.prog.cellsOf 199=1:=by kernel_rfl
theorem cells131:Tryz.prog.cellsOf 282=20:=by kernel_rfl
theorem star : "*" ++ "errors.errorString" = "*errors.errorString" := by decide
theorem row124 (u:TypeId) (h:Tryz.prog.typeName? 3 u=some "*errors.errorString"):u=272 :=
 typeName_ptr_named (nm := "errors.errorString") (by rw [star];kernel_rfl) (by kernel_rfl) (by decide) u (by rw [star];exact h)
theorem env_of {W:World}(h:laidMetH Tryz.prog laid7 W) (hsh:W.ShapedOpen Tryz.prog):Env W:=by
 rw [MakeChecks.laidMetH_plain _ _ _ (by kernel_rfl)] at h
 have h3:=h.tail.tail
 have h5:=h3.tail.tail
 have h6:=h5.tail
 obtain⟨a2,s2,hv2,_⟩:=laid_sentinel h5 gRange tRange Tryz.underlying236 row124 Tryz.underlying272 Tryz.underlying274 rfl rfl Tryz.underlying9 cells126 cells9
 obtain⟨a1,s1,hv1,_⟩:=laid_sentinel h6 gSyntax tSyntax Tryz.underlying236 row124 Tryz.underlying272 Tryz.underlying274 rfl rfl Tryz.underlying9 cells126 cells9
 refine⟨Lib.tabIs_of_head gTen tTen Tryz.underlying282 Tryz.underlying199 cells100 cells131 h3,?_,?_,?_,?_⟩
 ·exact cell_of_shapedOpen_int (t:=3) (zero := #[.int .i64 0]) hsh (of_decide_eq_true (by kernel_rfl)) (by kernel_rfl) rfl (by kernel_rfl) (by kernel_rfl) Tryz.underlying3
 ·have:=World.var?_cell gSyntax hv1 0
  exact⟨_,_,by simpa using this⟩
 ·have:=World.var?_cell gRange hv2 0
  exact⟨_,_,by simpa using this⟩
 obtain⟨_,hk⟩:=hsh
 obtain⟨o,o0,ho,_⟩:=hk 9 (of_decide_eq_true (by kernel_rfl)) (of_decide_eq_true (by kernel_rfl))
 exact(zq7.1 ho).1
section
variable {H:Type} {enc:TypeId×Value→H} {P:Program}
theorem post_of_below {f:Func}{s:ChangeSpec}{apart fresh handsOn again:Bool}{W W':World}{args:Array Value}{v:Value}{ds gs:List (DataW H)}{before pa pv:List MemPlace}
  (hW:DataW.Whole enc P f.params.toList s.vars apart W args.toList ds gs before)
  (hres:∀ (b:Nat) (sp:Nat→Bool) (hd:Bool),DataW.TrodAll enc P W' b sp hd f.resultTypes.toList (v.resultList f.resultTypes.size) (s.fn H (ds++gs)).results [])
  (hargs:∀ sp:Nat→Bool,(∀ p∈before,sp p.block=true)→DataW.TrodAll enc P W' 0 sp true f.params.toList args.toList (s.fn H (ds++gs)).args pa)
  (hvars:∀ sp:Nat→Bool,(∀ p∈before,sp p.block=true)→DataW.TrodVars enc P W' sp s.vars (s.fn H (ds++gs)).vars pv)
  (hps:before=pa++pv) (hb:Below W.heap.size W W')
  (hok:∀ (j:Nat) (t:TypeId) (r:Value),f.resultTypes[j]?=some t→(v.resultList f.resultTypes.size)[j]?=some r→Value.okWide P W' .any 0 t r) :
  s.post enc P f apart fresh handsOn again W args v W':=by
 have hlt:∀ p∈before,p.block<W.heap.size:=fun p hp=>hW.lt p hp
 have hold:∀ p∈before,(fun b=>decide (b<W.heap.size)) p.block=true:=fun p hp=>by simpa using hlt p hp
 refine⟨ds,gs,before,[],pa,pv,hW,hres _ _ _,hargs _ hold,hvars _ hold,World.keptBut_mono (fun p hp=>⟨hp,?_⟩) (hb.frame (· ∈ before)),fun _=>?_⟩
 ·rw [hps,List.mem_append] at hp
  exact Or.inr hp
 obtain⟨_,_,_,_,_,hz,hn⟩:=hW
 refine⟨hok,_,_,([]++pa)++pv,⟨[]++pa,pv,trodAll_append (hargs _ (fun _ _=>rfl)) (hres _ _ _),hvars _ (fun _ _=>rfl),rfl,?_,?_⟩,?_⟩
 ·intro b off hp
  have hin:MemPlace.cell b off∈before:=by rw [hps];simpa using hp
  rw [hb.frozen (hlt _ hin)]
  exact hz b off hin
 ·intro ha
  have:=hn ha
  rw [hps] at this
  simpa using this
 intro p hp _
 rw [hps]
 simpa using hp
theorem returns_laid {a:Assume}{C:Checked}{os:Os}{f:FuncId}{fn:Func}{s:ChangeSpec}{conds:List PathCond}{apart fresh handsOn again:Bool}{X:World→Array Value→Prop}
  (hX:∀ (w w':World) (args:Array Value),w.heap=w'.heap→X w args→X w' args)
  (own:ownKnob C.prog.godebug=none) (started:os.Started) (noInit:C.prog.inits.idxOf? f=none) (hfn:C.prog.funcs[f]?=some fn)
  (witness:∃ (w:World) (tape:Tape) (i:Input),w.os=os∧(w.forCall tape i).Shaped C.prog∧i.vars=[]∧Input.okWide C.prog (w.forCall tape i) .any w.heap.size f i ∧
   ((s.pre enc C.prog fn conds apart (w.forCall tape i).memory i.args∧X (w.forCall tape i).memory i.args)∧sizedMet enc C.prog fn (OpenSpec.ofChange s) apart (w.forCall tape i).memory i.args)∧a.holds C.prog (lone (Frame.enter C.prog f i.args .normal) [] (w.forCall tape i)))
  (contract:∀ (W:World) (base:Nat) (args:Array Value) (ds gs:List (DataW H)) (before:List MemPlace),
   (∀ (j:Nat) t v,fn.params[j]?=some t→args[j]?=some v→Value.okWide C.prog W .any base t v) →
   DataW.Whole enc C.prog fn.params.toList s.vars apart W args.toList ds gs before →
   (DataW.weightsEach C.prog (fn.params.toList++s.plain.varTypes C.prog) (ds++gs)).all (· ≤ reachBytes)=true→X W args→W.ShapedOpen C.prog →
   Calls C.prog f args W fun e W'=>∃ v,e = .returned v∧s.post enc C.prog fn apart fresh handsOn again W args v W') :
  ReturnsInHanded a C os f .any (fun w args=>(s.pre enc C.prog fn conds apart w args∧X w args)∧sizedMet enc C.prog fn (OpenSpec.ofChange s) apart w args) (s.post enc C.prog fn apart fresh handsOn again):=by
 refine returnsInHanded_of_calls own started noInit witness ?_
 intro w tape i _ hsh _ hok hpre _
 obtain⟨_,_,_,fn',hfn',_,_,_,_,hval⟩:=hok
 have e:fn'=fn:=Option.some.inj (hfn'.symm.trans hfn)
 subst e
 obtain⟨⟨⟨ds,gs,before,hw,hc⟩,hx⟩,hz⟩:=hpre
 have hw':=DataW.Whole.of_heap (w':=w.forCall tape i) (by rfl) hw
 refine(contract (w.forCall tape i) w.heap.size i.args ds gs before hval hw' (hz.weights hw) (hX _ _ _ (by rfl) hx) hsh).mono fun e W' ⟨v,he,hp⟩=>?_
 subst he
 exact ChangeSpec.post_blind hp
end
theorem fits7 (os:Os):(World.holding Tryz.prog os ⟨#[],#[],[]⟩).layFits Tryz.prog laid7 []=true:=by kernel_rfl
theorem ifaces7 (os:Os):(World.holding Tryz.prog os ⟨#[],#[],[]⟩).layIfaces Tryz.prog laid7 (World.laidAll Tryz.prog os laid7)=true:=by kernel_rfl
theorem start_met (os:Os) (args:Array Value):laidMetH Tryz.prog laid7 ((World.laidAll Tryz.prog os laid7).forCall (fun _ _=>0) ⟨#[],args,[]⟩).memory:=by
 rw [MakeChecks.laidMetH_plain _ _ _ (by kernel_rfl)]
 exact laidMet_laidAll _ (fits7 os) (ifaces7 os)
end Go.Proofs.YtnkahlloahgifaaGreatDoor.Lx

namespace Go.Proofs.YtnkahlloahgifaaGreatDoor
open Go.ChangeShapes Go.WideShapes Go.ChangeAt Go.RowKit Go.Deep
section
variable {H:Type} {enc:TypeId×Value→H} {P:Program} {w:World} {base:Nat} {spare:Nat→Bool} {held:Bool}
end
theorem laidOut:laidOutB Tryz.prog=true:=by kernel_rfl
theorem addr_plain {W:World}{a:Addr}{v:Value}(h:W.cell? a=some v):a=⟨a.block,a.off,none⟩∧a.block<W.heap.size:=by
 unfold World.cell? at h
 split at h
 ·rename_i c t f hb
  split at h
  ·cases h
  rename_i hs
  refine⟨?_,(zq7.1 hb).1⟩
  obtain⟨b,o,s⟩:=a
  cases s with
  | none=>rfl
  | some k=>exact absurd rfl hs
 cases h
end Go.Proofs.YtnkahlloahgifaaGreatDoor

namespace Go.Proofs.YtnkahlloahgifaaGreatDoor
open Go.ChangeShapes Go.WideShapes Go.ChangeAt Go.RowKit Go.Deep RG
mutual
def szE:TE→Prop
 | .mk _ n xs arms body=>n.size≤maxLen∧(∀ a∈xs,a.size≤maxLen)∧szA arms∧szB body
def szA:TA→Prop
 | .nil=>True
 | .cons vs e r=>(∀ v∈vs,v.size≤maxLen)∧szE e∧szA r
def szB:TB→Prop
 | .nil=>True
 | .cons e r=>szE e∧szB r
end
theorem szA_kids:∀ (a:TA),szA a→∀ p∈a.kids,(∀ x∈p.1,x.size≤maxLen)∧szE p.2
 | .nil,_,p,hp=>by simp [TA.kids] at hp
 | .cons vs e r,h,p,hp=>by
  rw [szA] at h
  rw [TA.kids] at hp
  rcases List.mem_cons.1 hp with rfl | hp
  ·exact⟨h.1,h.2.1⟩
  exact szA_kids r h.2.2 p hp
theorem szB_kids (n:Nm) (hn:n.size≤maxLen):∀ (b:TB),szB b→∀ p∈b.kids n,(∀ x∈p.1,x.size≤maxLen)∧szE p.2
 | .nil,_,p,hp=>by simp [TB.kids] at hp
 | .cons e r,h,p,hp=>by
  rw [szB] at h
  rw [TB.kids] at hp
  rcases List.mem_cons.1 hp with rfl | hp
  ·exact⟨fun x hx=>by simp at hx;rw [hx];exact hn,h.1⟩
  exact szB_kids n hn r h.2 p hp
theorem szE_kids {e:TE}(h:szE e):(∀ a∈e.args,a.size≤maxLen)∧∀ p∈e.kids,(∀ x∈p.1,x.size≤maxLen)∧szE p.2:=by
 obtain⟨k,n,xs,arms,body⟩:=e
 rw [szE] at h
 refine⟨h.2.1,fun p hp=>?_⟩
 unfold TE.kids at hp
 rcases List.mem_append.1 hp with hp | hp
 ·exact szB_kids n h.1 body h.2.2.2 p hp
 exact szA_kids arms h.2.2.1 p hp
theorem sz_lay:∀ (f n:Nat) (l:List (List Nm×TE)),sizes l≤f→(∀ p∈l,(∀ x∈p.1,x.size≤maxLen)∧szE p.2)→∀ d∈layS n l,(∀ x∈d.binds,x.size≤maxLen)∧∀ x∈d.e.args,x.size≤maxLen
 | _,n,[],_,_=>fun d hd=>by rw [layS_nil] at hd;cases hd
 | 0,n,(bs,e) :: r,h,_=>by rw [zg] at h;have:=e.size_pos;simp only [] at h;omega
 | f+1,n,(bs,e) :: r,h,hx=>by
  have hk:=e.size_kids
  rw [zg] at h
  simp only [] at h
  rw [layS_cons]
  have h0:=hx _ zr7
  intro d hd
  rcases List.mem_cons.1 hd with rfl | hd
  ·exact⟨h0.1,(szE_kids h0.2).1⟩
  refine sz_lay f (n+1) (e.kids++r) (by rw [zr];omega) (fun p hp=>?_) d hd
  rcases List.mem_append.1 hp with hp | hp
  ·exact(szE_kids h0.2).2 p hp
  exact hx p (zr8 _ hp)
section
variable {H:Type} {enc:TypeId×Value→H} {W:World}
theorem trod_field {P:Program}{fs:Array Field}{L:List (TypeId×Nat)}{t:TypeId}{n:Nat}{cs:List Value}{x:DataW H×List MemPlace}(hL:fs.toList.map (fun f=>(f.type,f.offset))=L) (ht:P.underlying t=some (.struct fs))
  (h:DataW.trod enc P W 0 (fun _=>true) true n t cs=some x) :
  ∃ m,n=m+1∧cs.length=P.cellsOf t∧∀ (i:Nat) (ty:TypeId) (off:Nat),L[i]?=some (ty,off)→∃ y,DataW.trod enc P W 0 (fun _=>true) true m ty ((cs.drop off).take (P.cellsOf ty))=some y:=by
 obtain⟨xs,m,hm,_,hcl,hxl,hf⟩:=DataW.trod_struct ht h
 refine⟨m,hm,hcl,fun i ty off hi=>?_⟩
 rw [← hL,List.getElem?_map] at hi
 obtain⟨f,hfi,he⟩:=Option.map_eq_some_iff.1 hi
 simp only [Prod.mk.injEq] at he
 obtain⟨rfl,rfl⟩:=he
 rw [Array.getElem?_toList] at hfi
 have h1:=hf i f hfi
 have hil:=(zq7.1 hfi).1
 exact⟨xs[i]'(by omega),by rw [h1,zq9 (by omega)]⟩
theorem plain_of {a:Addr}{v:Value}(h:W.cell? a=some v):∃ g o,a=⟨g,o,none⟩:=⟨_,_,(addr_plain h).1⟩
theorem add_plain (g o k:Nat):(⟨g,o,none⟩:Addr).add k=⟨g,o+k,none⟩:=by
 unfold Addr.add
 split
 ·rename_i h;rw [h];rfl
 rfl
theorem trod_els {P:Program}{t e:TypeId}{n:Nat}{v:Value}{x:DataW H×List MemPlace}(ht:P.underlying t=some (.slice e)) (h:DataW.trod enc P W 0 (fun _=>true) true n t [v]=some x) :
  ∃ (ad:Option Addr) (len cap:Nat),v = .slice ad len cap∧len≤cap∧cap≤maxLen∧(0<len→∃ a m,ad=some a∧m<n∧∀ i,i<len→∃ cs y,cs.length=P.cellsOf e∧(∀ j,j<P.cellsOf e→W.cell? ((a.add (i*P.cellsOf e)).add j)=cs[j]?)∧DataW.trod enc P W 0 (fun _=>true) true m e cs=some y):=by
 rcases DataW.trod_slice ht h with ⟨h0,_⟩|⟨a,len,cap,elems,rest,m,hm,hv,_,_,hl,hc,hel,hat,_,_⟩
 ·simp only [List.cons.injEq,and_true] at h0
  exact⟨none,0,0,h0,zr4 _,Nat.zero_le _,fun h=>absurd h (Nat.lt_irrefl _)⟩
 simp only [List.cons.injEq,and_true] at hv
 refine⟨some a,len,cap,hv,hl,hc,fun _=>⟨a,m,rfl,by omega,fun i hi=>?_⟩⟩
 have h1:=hat i hi
 rw [zq9 (by omega)] at h1
 obtain⟨cs,h2,h3⟩:=Option.bind_eq_some_iff.1 h1
 obtain⟨_,hcl,hcell⟩:=World.cells?_some h2
 exact⟨cs,_,hcl,fun j hj=>hcell j (by omega),h3⟩
theorem len2 {cs:List Value}(h:cs.length=2):∃ a b,cs=[a,b]:=by
 match cs,h with
 | [a,b],_=>exact⟨a,b,rfl⟩
theorem len8 {cs:List Value}(h:cs.length=8):∃ a0 a1 a2 a3 a4 a5 a6 a7,cs=[a0,a1,a2,a3,a4,a5,a6,a7]:=by
 match cs,h with
 | [a0,a1,a2,a3,a4,a5,a6,a7],_=>exact⟨_,_,_,_,_,_,_,_,rfl⟩
theorem len10 {cs:List Value}(h:cs.length=10):∃ a0 a1 a2 a3 a4 a5 a6 a7 a8 a9,cs=[a0,a1,a2,a3,a4,a5,a6,a7,a8,a9]:=by
 match cs,h with
 | [a0,a1,a2,a3,a4,a5,a6,a7,a8,a9],_=>exact⟨_,_,_,_,_,_,_,_,_,_,rfl⟩
theorem cells1:Tryz.prog.cellsOf 9=1∧Tryz.prog.cellsOf 3=1∧Tryz.prog.cellsOf 4=1∧Tryz.prog.cellsOf 22=1∧Tryz.prog.cellsOf 23=1∧Tryz.prog.cellsOf 24=1∧Tryz.prog.cellsOf 25=1∧Tryz.prog.cellsOf 35=1:=⟨by kernel_rfl,by kernel_rfl,by kernel_rfl,by kernel_rfl,by kernel_rfl,by kernel_rfl,by kernel_rfl,by kernel_rfl⟩
theorem cells27:Tryz.prog.cellsOf 27=8:=by kernel_rfl
theorem cells148:Tryz.prog.cellsOf 148=10:=by kernel_rfl
theorem cells146:Tryz.prog.cellsOf 146=2:=by kernel_rfl
theorem cells70:Tryz.prog.cellsOf 70=2:=by kernel_rfl
theorem cells29:Tryz.prog.cellsOf 29=11:=by kernel_rfl
theorem under27:∃ fs:Array Field,Tryz.prog.underlying 27=some (.struct fs)∧fs.toList.map (fun f=>(f.type,f.offset))=[(3,0),(9,1),(9,2),(3,3),(3,4),(23,5),(24,6),(25,7)]:=⟨_,Tryz.underlying27,by kernel_rfl⟩
theorem under148:∃ fs:Array Field,Tryz.prog.underlying 148=some (.struct fs)∧fs.toList.map (fun f=>(f.type,f.offset))=[(9,0),(35,1),(27,2)]:=⟨_,Tryz.underlying148,by kernel_rfl⟩
theorem under146:∃ fs:Array Field,Tryz.prog.underlying 146=some (.struct fs)∧fs.toList.map (fun f=>(f.type,f.offset))=[(9,0),(3,1)]:=⟨_,Tryz.underlying146,by kernel_rfl⟩
theorem under70:∃ fs:Array Field,Tryz.prog.underlying 70=some (.struct fs)∧fs.toList.map (fun f=>(f.type,f.offset))=[(9,0),(4,1)]:=⟨_,Tryz.underlying70,by kernel_rfl⟩
theorem under29:∃ fs:Array Field,Tryz.prog.underlying 29=some (.struct fs)∧fs.toList.map (fun f=>(f.type,f.offset))=[(9,0),(4,1),(22,2),(27,3)]:=⟨_,Tryz.underlying29,by kernel_rfl⟩
theorem pick_list {α:Type} [Inhabited α] {len:Nat}{Q:Nat→α→Prop}(h:∀ i,i<len→∃ x,Q i x):∃ l:List α,l.length=len∧∀ (i:Nat) (x:α),l[i]?=some x→Q i x:=by
 refine⟨(List.range len).map fun i=>if h0:i<len then Classical.choose (h i h0) else default,by simp,fun i x hx=>?_⟩
 have hil:i<len:=by have:=(zq8.1 hx).1;simpa using this
 rw [List.getElem?_map,List.getElem?_range hil] at hx
 simp only [Option.map_some,zt3,dif_pos hil] at hx
 rw [← hx]
 exact Classical.choose_spec (h i hil)
theorem open_strs {n:Nat}{v:Value}{x:DataW H×List MemPlace}(h:DataW.trod enc Tryz.prog W 0 (fun _=>true) true n 35 [v]=some x):∃ ns:List Nm,StrsAt W v ns∧(∀ x∈ns,x.size≤maxLen)∧ns.length≤maxLen:=by
 obtain⟨ad,len,cap,rfl,hl,hc,hat⟩:=trod_els Tryz.underlying35 h
 have key:∀ i,i<len→∃ s:Nm,s.size≤maxLen∧∃ a,ad=some a∧W.cell? (a.add i)=some (.string s):=fun i hi=>by
  obtain⟨a,m,ha,_,hel⟩:=hat (by omega)
  obtain⟨cs,y,hcl,hcell,ht⟩:=hel i hi
  rw [cells1.1] at hcl hcell
  obtain⟨s,rfl,_,hs⟩:=DataW.trod_string Tryz.underlying9 ht
  refine⟨s,hs,a,ha,?_⟩
  have:=hcell 0 Nat.one_pos
  rw [Nat.mul_one,Go.Deep.add_add] at this
  exact this
 obtain⟨ns,hns,hq⟩:=pick_list key
 refine⟨ns,⟨strs_length ns,ad,cap,by rw [hns],fun h0=>?_⟩,fun x hx=>?_,by omega⟩
 ·obtain⟨x0,hx0⟩:∃ x,ns[0]?=some x:=⟨_,zq9 h0⟩
  obtain⟨_,a,ha,hc0⟩:=hq 0 x0 hx0
  obtain⟨g,o,rfl⟩:∃ g o,a=⟨g,o,none⟩:=plain_of (show W.cell? a=some _ from hc0)
  refine⟨g,o,ha,fun i x hi=>?_⟩
  unfold strs at hi
  rw [List.getElem?_map] at hi
  obtain⟨s,hs,rfl⟩:=Option.map_eq_some_iff.1 hi
  obtain⟨_,a',ha',hca⟩:=hq i s hs
  rw [ha,zt3] at ha'
  subst ha'
  rw [add_plain] at hca
  exact hca
 obtain⟨i,hi⟩:=List.mem_iff_getElem?.1 hx
 exact(hq i x hi).1
theorem open_atoms {n:Nat}{v:Value}{x:DataW H×List MemPlace}(h:DataW.trod enc Tryz.prog W 0 (fun _=>true) true n 23 [v]=some x):∃ (ns:List Nm) (a:Option Addr) (c:Nat),v = .slice a ns.length c∧AtomsAt W v ns∧(∀ x∈ns,x.size≤maxLen):=by
 obtain⟨ad,len,cap,rfl,hl,hc,hat⟩:=trod_els Tryz.underlying23 h
 have key:∀ i,i<len→∃ s:Nm,s.size≤maxLen∧∃ a,ad=some a∧∃ m:Int,W.cell? (a.add (i*2))=some (.string s)∧W.cell? ((a.add (i*2)).add 1)=some (.int .i64 m):=fun i hi=>by
  obtain⟨a,m,ha,_,hel⟩:=hat (by omega)
  obtain⟨cs,y,hcl,hcell,ht⟩:=hel i hi
  rw [cells146] at hcl hcell
  obtain⟨fs,hu,hL⟩:=under146
  obtain⟨m',_,_,hf⟩:=trod_field hL hu ht
  obtain⟨c0,c1,rfl⟩:=len2 hcl
  obtain⟨y0,h0⟩:=hf 0 9 0 rfl
  obtain⟨y1,h1⟩:=hf 1 3 1 rfl
  rw [cells1.1] at h0
  rw [cells1.2.1] at h1
  obtain⟨s,hs,_,hz⟩:=DataW.trod_string Tryz.underlying9 h0
  obtain⟨m1,hm,_,_⟩:=DataW.trod_int Tryz.underlying3 h1
  simp at hs hm
  subst hs hm
  exact⟨s,hz,a,ha,m1,hcell 0 (by decide),hcell 1 (by decide)⟩
 obtain⟨ns,hns,hq⟩:=pick_list key
 refine⟨ns,ad,cap,by rw [hns],⟨ad,cap,by rw [hns],fun h0=>?_⟩,fun x hx=>?_⟩
 ·obtain⟨x0,hx0⟩:∃ x,ns[0]?=some x:=⟨_,zq9 h0⟩
  obtain⟨_,a,ha,_,hc0,_⟩:=hq 0 x0 hx0
  obtain⟨g,o,rfl⟩:∃ g o,a=⟨g,o,none⟩:=plain_of (show W.cell? a=some _ from hc0)
  refine⟨g,o,ha,fun i s hs=>?_⟩
  obtain⟨_,a',ha',m1,hca,hcb⟩:=hq i s hs
  rw [ha,zt3] at ha'
  subst ha'
  rw [add_plain] at hca hcb
  rw [add_plain] at hcb
  exact⟨m1,hca,hcb⟩
 obtain⟨i,hi⟩:=List.mem_iff_getElem?.1 hx
 exact(hq i x hi).1
theorem open_params {n:Nat}{v:Value}{x:DataW H×List MemPlace}(h:DataW.trod enc Tryz.prog W 0 (fun _=>true) true n 22 [v]=some x):∃ (ns:List Nm),ParamsAt W v ns∧(∀ x∈ns,x.size≤maxLen):=by
 obtain⟨ad,len,cap,rfl,hl,hc,hat⟩:=trod_els Tryz.underlying22 h
 have key:∀ i,i<len→∃ s:Nm,s.size≤maxLen∧∃ a,ad=some a∧∃ m:Bool,W.cell? (a.add (i*2))=some (.string s)∧W.cell? ((a.add (i*2)).add 1)=some (.bool m):=fun i hi=>by
  obtain⟨a,m,ha,_,hel⟩:=hat (by omega)
  obtain⟨cs,y,hcl,hcell,ht⟩:=hel i hi
  rw [cells70] at hcl hcell
  obtain⟨fs,hu,hL⟩:=under70
  obtain⟨m',_,_,hf⟩:=trod_field hL hu ht
  obtain⟨c0,c1,rfl⟩:=len2 hcl
  obtain⟨y0,h0⟩:=hf 0 9 0 rfl
  obtain⟨y1,h1⟩:=hf 1 4 1 rfl
  rw [cells1.1] at h0
  rw [cells1.2.2.1] at h1
  obtain⟨s,hs,_,hz⟩:=DataW.trod_string Tryz.underlying9 h0
  obtain⟨m1,hm,_⟩:=DataW.trod_bool Tryz.underlying4 h1
  simp at hs hm
  subst hs hm
  exact⟨s,hz,a,ha,m1,hcell 0 (by decide),hcell 1 (by decide)⟩
 obtain⟨ns,hns,hq⟩:=pick_list key
 refine⟨ns,⟨ad,cap,by rw [hns],fun h0=>?_⟩,fun x hx=>?_⟩
 ·obtain⟨x0,hx0⟩:∃ x,ns[0]?=some x:=⟨_,zq9 h0⟩
  obtain⟨_,a,ha,_,hc0,_⟩:=hq 0 x0 hx0
  obtain⟨g,o,rfl⟩:∃ g o,a=⟨g,o,none⟩:=plain_of (show W.cell? a=some _ from hc0)
  refine⟨g,o,ha,fun i s hs=>?_⟩
  obtain⟨_,a',ha',m1,hca,hcb⟩:=hq i s hs
  rw [ha,zt3] at ha'
  subst ha'
  rw [add_plain] at hca hcb
  rw [add_plain] at hcb
  exact⟨m1,hca,hcb⟩
 obtain⟨i,hi⟩:=List.mem_iff_getElem?.1 hx
 exact(hq i x hi).1
def mkA:List (List Nm×TE)→TA
 | [] => .nil
 | p :: r => .cons p.1 p.2 (mkA r)
def mkB:List TE→TB
 | [] => .nil
 | e :: r => .cons e (mkB r)
theorem mkA_length:∀ l,(mkA l).length=l.length
 | []=>rfl
 | p :: r=>by rw [mkA,TA.length,mkA_length r,List.length_cons]
theorem mkB_length:∀ l,(mkB l).length=l.length
 | []=>rfl
 | p :: r=>by rw [mkB,TB.length,mkB_length r,List.length_cons]
theorem mkA_at {g:Nat}:∀ (l:List (List Nm×TE)) (o:Nat),(∀ (i:Nat) p,l[i]?=some p→(∃ (con:ByteArray) (vv:Value),W.cell? ⟨g,o+i*10,none⟩=some (.string con)∧W.cell? ⟨g,o+i*10+1,none⟩=some vv∧StrsAt W vv p.1)∧TEAt W p.2 g (o+i*10+2))→TAAt W (mkA l) g o
 | [],_,_=>by rw [mkA,TAAt];trivial
 | p :: r,o,h=>by
  rw [mkA,TAAt]
  have h0:=h 0 p rfl
  rw [Nat.zero_mul,Nat.add_zero] at h0
  refine⟨h0.1,h0.2,mkA_at r (o+10) fun i q hq=>?_⟩
  have:=h (i+1) q (by rw [List.getElem?_cons_succ];exact hq)
  rw [show o+(i+1)*10=o+10+i*10 from by omega] at this
  exact this
theorem mkB_at {g:Nat}:∀ (l:List TE) (o:Nat),(∀ (i:Nat) e,l[i]?=some e→TEAt W e g (o+i*8))→TBAt W (mkB l) g o
 | [],_,_=>by rw [mkB,TBAt];trivial
 | e :: r,o,h=>by
  rw [mkB,TBAt]
  have h0:=h 0 e rfl
  rw [Nat.zero_mul,Nat.add_zero] at h0
  refine⟨h0,mkB_at r (o+8) fun i q hq=>?_⟩
  have:=h (i+1) q (by rw [List.getElem?_cons_succ];exact hq)
  rw [show o+(i+1)*8=o+8+i*8 from by omega] at this
  exact this
theorem mkA_sz:∀ (l:List (List Nm×TE)),(∀ p∈l,(∀ x∈p.1,x.size≤maxLen)∧szE p.2)→szA (mkA l)
 | [],_=>by rw [mkA,szA];trivial
 | p :: r,h=>by rw [mkA,szA];exact⟨(h p zr7).1,(h p zr7).2,mkA_sz r fun q hq=>h q (zr8 _ hq)⟩
theorem mkB_sz:∀ (l:List TE),(∀ e∈l,szE e)→szB (mkB l)
 | [],_=>by rw [mkB,szB];trivial
 | p :: r,h=>by rw [mkB,szB];exact⟨h p zr7,mkB_sz r fun q hq=>h q (zr8 _ hq)⟩
def TEL (W:World) (e:TE) (cs:List Value):Prop :=
 ∃ (op:ByteArray) (num site:Int) (xa aa ab:Option Addr) (xc ca cb:Nat),cs=[.int .i64 e.kind,.string e.name,.string op,.int .i64 num,.int .i64 site,.slice xa e.args.length xc,.slice aa e.arms.length ca,.slice ab e.body.length cb]∧TEX W e xa aa ab xc∧szE e
theorem TEL.at' {e:TE}{cs:List Value}(h:TEL W e cs) {g o:Nat}(hc:∀ j,j<8→W.cell? ⟨g,o+j,none⟩=cs[j]?):TEAt W e g o:=by
 obtain⟨op,num,site,xa,aa,ab,xc,ca,cb,rfl,hx,_⟩:=h
 have c0:=hc 0 (by decide)
 have c1:=hc 1 (by decide)
 have c2:=hc 2 (by decide)
 have c3:=hc 3 (by decide)
 have c4:=hc 4 (by decide)
 have c5:=hc 5 (by decide)
 have c6:=hc 6 (by decide)
 have c7:=hc 7 (by decide)
 have h1:∃ ga oa,(0<e.arms.length→aa=some ⟨ga,oa,none⟩)∧TAAt W e.arms ga oa:=by
  by_cases h0:0<e.arms.length
  ·obtain⟨ga,oa,a,b⟩:=hx.arms h0;exact⟨ga,oa,fun _=>a,b⟩
  refine⟨0,0,fun h=>absurd h h0,?_⟩
  cases hq:e.arms with
  | nil=>rw [TAAt];trivial
  | cons vs e2 r=>rw [hq] at h0;simp [TA.length] at h0
 have h2:∃ gb ob,(0<e.body.length→ab=some ⟨gb,ob,none⟩)∧TBAt W e.body gb ob:=by
  by_cases h0:0<e.body.length
  ·obtain⟨ga,oa,a,b⟩:=hx.body h0;exact⟨ga,oa,fun _=>a,b⟩
  refine⟨0,0,fun h=>absurd h h0,?_⟩
  cases hq:e.body with
  | nil=>rw [TBAt];trivial
  | cons e2 r=>rw [hq] at h0;simp [TB.length] at h0
 obtain⟨ga,oa,a1,a2⟩:=h1
 obtain⟨gb,ob,b1,b2⟩:=h2
 have hat:=hx.atoms
 obtain⟨k,n,xs,arms,body⟩:=e
 rw [TEAt]
 exact⟨op,num,site,_,aa,ab,ca,cb,ga,oa,gb,ob,⟨c0,c1,c2,c3⟩,⟨c4,c5,c6,c7⟩,hat,a1,a2,b1,b2⟩
theorem open_te:∀ (n:Nat) (cs:List Value) (x:DataW H×List MemPlace),DataW.trod enc Tryz.prog W 0 (fun _=>true) true n 27 cs=some x→∃ e,TEL W e cs:=by
 intro n
 induction n using Nat.strongRecOn with
 | ind n ih =>
  intro cs x h
  obtain⟨fs,hu,hL⟩:=under27
  obtain⟨m,rfl,hcl,hf⟩:=trod_field hL hu h
  rw [cells27] at hcl
  obtain⟨c0,c1,c2,c3,c4,c5,c6,c7,rfl⟩:=len8 hcl
  obtain⟨y0,h0⟩:=hf 0 3 0 rfl
  obtain⟨y1,h1⟩:=hf 1 9 1 rfl
  obtain⟨y2,h2⟩:=hf 2 9 2 rfl
  obtain⟨y3,h3⟩:=hf 3 3 3 rfl
  obtain⟨y4,h4⟩:=hf 4 3 4 rfl
  obtain⟨y5,h5⟩:=hf 5 23 5 rfl
  obtain⟨y6,h6⟩:=hf 6 24 6 rfl
  obtain⟨y7,h7⟩:=hf 7 25 7 rfl
  obtain⟨k9,k3,k4,k22,k23,k24,k25,k35⟩:=cells1
  rw [k3] at h0 h3 h4
  rw [k9] at h1 h2
  rw [k23] at h5
  rw [k24] at h6
  rw [k25] at h7
  obtain⟨k,e0,_,_⟩:=DataW.trod_int Tryz.underlying3 h0
  obtain⟨nm,e1,_,hnm⟩:=DataW.trod_string Tryz.underlying9 h1
  obtain⟨op,e2,_,_⟩:=DataW.trod_string Tryz.underlying9 h2
  obtain⟨num,e3,_,_⟩:=DataW.trod_int Tryz.underlying3 h3
  obtain⟨site,e4,_,_⟩:=DataW.trod_int Tryz.underlying3 h4
  simp at e0 e1 e2 e3 e4
  subst e0 e1 e2 e3 e4
  replace h5:DataW.trod enc Tryz.prog W 0 (fun _=>true) true m 23 [c5]=some y5:=h5
  replace h6:DataW.trod enc Tryz.prog W 0 (fun _=>true) true m 24 [c6]=some y6:=h6
  replace h7:DataW.trod enc Tryz.prog W 0 (fun _=>true) true m 25 [c7]=some y7:=h7
  obtain⟨xs,xa,xc,rfl,hatoms,hxs⟩:=open_atoms h5
  obtain⟨aa,na,ca,rfl,_,_,ha⟩:=trod_els Tryz.underlying24 h6
  obtain⟨ab,nb,cb,rfl,_,_,hb⟩:=trod_els Tryz.underlying25 h7
  have keyA:∀ i,i<na→∃ p:List Nm×TE,∃ a,aa=some a∧((∀ x∈p.1,x.size≤maxLen)∧szE p.2)∧(∃ (con:ByteArray) (vv:Value),W.cell? (a.add (i*10))=some (.string con)∧W.cell? ((a.add (i*10)).add 1)=some vv∧StrsAt W vv p.1)∧∃ cs,TEL W p.2 cs∧∀ j,j<8→W.cell? ((a.add (i*10)).add (2+j))=cs[j]?:=fun i hi=>by
   obtain⟨a,m2,haa,hm2,hel⟩:=ha (by omega)
   obtain⟨cs,y,hcl2,hcell,ht⟩:=hel i hi
   rw [cells148] at hcl2 hcell
   obtain⟨fs2,hu2,hL2⟩:=under148
   obtain⟨m3,hm3,_,hf2⟩:=trod_field hL2 hu2 ht
   obtain⟨a0,a1,a2,a3,a4,a5,a6,a7,a8,a9,rfl⟩:=len10 hcl2
   obtain⟨z0,g0⟩:=hf2 0 9 0 rfl
   obtain⟨z1,g1⟩:=hf2 1 35 1 rfl
   obtain⟨z2,g2⟩:=hf2 2 27 2 rfl
   rw [k9] at g0
   rw [k35] at g1
   rw [cells27] at g2
   obtain⟨con,hcon,_,_⟩:=DataW.trod_string Tryz.underlying9 g0
   simp at hcon
   subst hcon
   obtain⟨vs,hvs,hsz,_⟩:=open_strs (show DataW.trod enc Tryz.prog W 0 (fun _=>true) true m3 35 [a1]=some z1 from g1)
   obtain⟨e',he'⟩:=ih m3 (by omega) _ _ g2
   have hse:szE e':=by obtain⟨_,_,_,_,_,_,_,_,_,_,_,hs⟩:=he';exact hs
   refine⟨(vs,e'),a,haa,⟨hsz,hse⟩,⟨con,a1,hcell 0 (by decide),hcell 1 (by decide),hvs⟩,_,he',fun j hj=>?_⟩
   rw [hcell (2+j) (by omega)]
   match j,hj with
   | 0,_=>rfl
   | 1,_=>rfl
   | 2,_=>rfl
   | 3,_=>rfl
   | 4,_=>rfl
   | 5,_=>rfl
   | 6,_=>rfl
   | 7,_=>rfl
  have keyB:∀ i,i<nb→∃ e':TE,∃ a,ab=some a∧szE e'∧∃ cs,TEL W e' cs∧∀ j,j<8→W.cell? ((a.add (i*8)).add j)=cs[j]?:=fun i hi=>by
   obtain⟨a,m2,haa,hm2,hel⟩:=hb (by omega)
   obtain⟨cs,y,hcl2,hcell,ht⟩:=hel i hi
   rw [cells27] at hcl2 hcell
   obtain⟨e',he'⟩:=ih m2 (by omega) _ _ ht
   have hse:szE e':=by obtain⟨_,_,_,_,_,_,_,_,_,_,_,hs⟩:=he';exact hs
   exact⟨e',a,haa,hse,cs,he',hcell⟩
  haveI:Inhabited TE:=⟨.mk 0 ⟨#[]⟩ [] .nil .nil⟩
  obtain⟨la,hla,hqa⟩:=pick_list keyA
  obtain⟨lb,hlb,hqb⟩:=pick_list keyB
  refine⟨.mk k nm xs (mkA la) (mkB lb),op,num,site,xa,aa,ab,xc,ca,cb,?_,⟨hatoms,fun h0=>?_,fun h0=>?_⟩,?_⟩
  ·show _=[Value.int .i64 k,.string nm,.string op,.int .i64 num,.int .i64 site,.slice xa xs.length xc,.slice aa (mkA la).length ca,.slice ab (mkB lb).length cb]
   rw [mkA_length,mkB_length,hla,hlb]
  ·replace h0:0<(mkA la).length:=h0
   rw [mkA_length] at h0
   obtain⟨p0,hp0⟩:∃ p,la[0]?=some p:=⟨_,zq9 h0⟩
   obtain⟨a,haa,_,⟨con,vv,hc0,_⟩,_⟩:=hqa 0 p0 hp0
   obtain⟨g,o,rfl⟩:∃ g o,a=⟨g,o,none⟩:=plain_of (show W.cell? a=some _ from hc0)
   refine⟨g,o,haa,mkA_at la o fun i p hp=>?_⟩
   obtain⟨a',haa',_,⟨con',vv',h1',h2',h3'⟩,cs',hel,hcs⟩:=hqa i p hp
   rw [haa,zt3] at haa'
   subst haa'
   rw [add_plain] at h1' h2'
   rw [add_plain] at h2'
   refine⟨⟨con',vv',h1',h2',h3'⟩,hel.at' fun j hj=>?_⟩
   have:=hcs j hj
   rw [add_plain,add_plain] at this
   rw [show o+i*10+2+j=o+i*10+(2+j) from by omega];exact this
  ·replace h0:0<(mkB lb).length:=h0
   rw [mkB_length] at h0
   obtain⟨p0,hp0⟩:∃ p,lb[0]?=some p:=⟨_,zq9 h0⟩
   obtain⟨a,haa,_,cs0,hel0,hcs0⟩:=hqb 0 p0 hp0
   obtain⟨g,o,rfl⟩:∃ g o,a=⟨g,o,none⟩:=by
    have h00:=hcs0 0 (by decide)
    obtain⟨_,_,_,_,_,_,_,_,_,rfl,_⟩:=hel0
    exact plain_of (show W.cell? a=some _ from h00)
   refine⟨g,o,haa,mkB_at lb o fun i p hp=>?_⟩
   obtain⟨a',haa',_,cs',hel,hcs⟩:=hqb i p hp
   rw [haa,zt3] at haa'
   subst haa'
   refine hel.at' fun j hj=>?_
   have:=hcs j hj
   rw [add_plain,add_plain] at this
   exact this
  rw [szE]
  refine⟨hnm,hxs,mkA_sz la fun p hp=>?_,mkB_sz lb fun e' he'=>?_⟩
  ·obtain⟨i,hi⟩:=List.mem_iff_getElem?.1 hp
   obtain⟨_,_,hs,_⟩:=hqa i p hi
   exact hs
  obtain⟨i,hi⟩:=List.mem_iff_getElem?.1 he'
  obtain⟨_,_,hs,_⟩:=hqb i e' hi
  exact hs
theorem TEL.parts {e:TE}{xa aa ab:Option Addr}{xc:Nat}(hx:TEX W e xa aa ab xc):(∃ ga oa,(0<e.arms.length→aa=some ⟨ga,oa,none⟩)∧TAAt W e.arms ga oa)∧∃ gb ob,(0<e.body.length→ab=some ⟨gb,ob,none⟩)∧TBAt W e.body gb ob:=by
 constructor
 ·by_cases h0:0<e.arms.length
  ·obtain⟨ga,oa,a,b⟩:=hx.arms h0;exact⟨ga,oa,fun _=>a,b⟩
  refine⟨0,0,fun h=>absurd h h0,?_⟩
  cases hq:e.arms with
  | nil=>rw [TAAt];trivial
  | cons vs e2 r=>rw [hq] at h0;simp [TA.length] at h0
 by_cases h0:0<e.body.length
 ·obtain⟨ga,oa,a,b⟩:=hx.body h0;exact⟨ga,oa,fun _=>a,b⟩
 refine⟨0,0,fun h=>absurd h h0,?_⟩
 cases hq:e.body with
 | nil=>rw [TBAt];trivial
 | cons e2 r=>rw [hq] at h0;simp [TB.length] at h0
theorem len11 {cs:List Value}(h:cs.length=11):∃ a0 a1 a2 a3 a4 a5 a6 a7 a8 a9 a10,cs=[a0,a1,a2,a3,a4,a5,a6,a7,a8,a9,a10]:=by
 match cs,h with
 | [a0,a1,a2,a3,a4,a5,a6,a7,a8,a9,a10],_=>exact⟨_,_,_,_,_,_,_,_,_,_,_,rfl⟩
theorem open_fun {v:Value}{d:DataW H}{p:List MemPlace}{base:Nat}(hv:Value.okWide Tryz.prog W .any base 29 v) (h:DataW.Trod enc Tryz.prog W 0 (fun _=>true) true 29 v d p) :
  ∃ ps e,TFunV W v ps e∧(∀ d∈F0 ps e,(∀ x∈d.binds,x.size≤maxLen)∧∀ x∈d.e.args,x.size≤maxLen):=by
 obtain⟨cs,rfl,hsz⟩:=okWide_struct Tryz.underlying29 hv
 obtain⟨fuel,hf⟩:=h
 replace hf:DataW.trod enc Tryz.prog W 0 (fun _=>true) true fuel 29 cs.toList=some (d,p):=hf
 obtain⟨fs,hu,hL⟩:=under29
 obtain⟨m,rfl,hcl,hg⟩:=trod_field hL hu hf
 rw [cells29] at hcl
 obtain⟨a0,a1,a2,a3,a4,a5,a6,a7,a8,a9,a10,hcs⟩:=len11 hcl
 obtain⟨y0,h0⟩:=hg 0 9 0 rfl
 obtain⟨y1,h1⟩:=hg 1 4 1 rfl
 obtain⟨y2,h2⟩:=hg 2 22 2 rfl
 obtain⟨y3,h3⟩:=hg 3 27 3 rfl
 obtain⟨k9,k3,k4,k22,k23,k24,k25,k35⟩:=cells1
 rw [hcs] at h0 h1 h2 h3
 rw [k9] at h0
 rw [k4] at h1
 rw [k22] at h2
 rw [cells27] at h3
 obtain⟨nm,e0,_,_⟩:=DataW.trod_string Tryz.underlying9 h0
 obtain⟨ch,e1,_⟩:=DataW.trod_bool Tryz.underlying4 h1
 simp at e0 e1
 subst e0 e1
 obtain⟨ps,hps,hpz⟩:=open_params (show DataW.trod enc Tryz.prog W 0 (fun _=>true) true m 22 [a2]=some y2 from h2)
 obtain⟨e,op,num,site,xa,aa,ab,xc,ca,cb,he,hx,hse⟩:=open_te m _ _ (show DataW.trod enc Tryz.prog W 0 (fun _=>true) true m 27 [a3,a4,a5,a6,a7,a8,a9,a10]=some y3 from h3)
 simp only [List.cons.injEq,and_true] at he
 obtain⟨rfl,rfl,rfl,rfl,rfl,rfl,rfl,rfl⟩:=he
 obtain⟨⟨ga,oa,q1,q2⟩,gb,ob,q3,q4⟩:=TEL.parts hx
 refine⟨ps,e,⟨nm,op,ch,a2,_,num,site,aa,ab,ca,cb,ga,oa,gb,ob,?_,hps,hx.atoms,q1,q2,q3,q4⟩,?_⟩
 ·congr 1
  apply Array.toList_inj.1
  rw [hcs]
 refine sz_lay _ 0 [(ps,e)] (zr4 _) fun q hq=>?_
 rw [List.mem_singleton] at hq
 subst hq
 exact⟨hpz,hse⟩
end
end Go.Proofs.YtnkahlloahgifaaGreatDoor

namespace Go.Proofs.YtnkahlloahgifaaGreatDoor
open Go.ChangeShapes Go.WideShapes Go.ChangeAt Go.RowKit Go.Deep RG
theorem weights_each {H:Type}{P:Program}:∀ {ts:List TypeId}{ds:List (DataW H)}{j:Nat}{t:TypeId}{d:DataW H},ts[j]?=some t→ds[j]?=some d→∀ x∈d.weights P t,x∈DataW.weightsEach P ts ds
 | t :: ts,d :: ds,0,_,_,h1,h2,x,hx=>by
  simp only [List.getElem?_cons_zero,zt3] at h1 h2
  subst h1 h2
  rw [DataW.weightsEach];exact zr6 _ hx
 | t :: ts,d :: ds,j+1,_,_,h1,h2,x,hx=>by
  rw [List.getElem?_cons_succ] at h1 h2
  rw [DataW.weightsEach];exact List.mem_append_right _ (weights_each h1 h2 x hx)
 | [],_,_,_,_,h1,_,_,_=>by simp at h1
 | _ :: _,[],_,_,_,_,h2,_,_=>by simp at h2
theorem bytes70:Tryz.prog.bytesOf 70=24:=by kernel_rfl
theorem open_fun_pl {H:Type}{enc:TypeId×Value→H}{W:World}{v:Value}{d:DataW H}{p:List MemPlace}{base:Nat}(hv:Value.okWide Tryz.prog W .any base 29 v) (h:DataW.Trod enc Tryz.prog W 0 (fun _=>true) true 29 v d p)
  (hw:∀ x∈d.weights Tryz.prog 29,x≤reachBytes) {ps:List Nm} {e:TE} (hf:TFunV W v ps e):ps.length*24≤140737488355328:=by
 obtain⟨nm,op,ch,pv,va,num,site,aa,ab,ca,cb,ga,oa,gb,ob,rfl,hp,-⟩:=hf
 obtain⟨ad,c,rfl,-⟩:=hp.at'
 obtain⟨fuel,hf⟩:=h
 replace hf:DataW.trod enc Tryz.prog W 0 (fun _=>true) true fuel 29 [Value.string nm,.bool ch,.slice ad ps.length c,.int .i64 e.kind,.string e.name,.string op,.int .i64 num,.int .i64 site,va,.slice aa e.arms.length ca,.slice ab e.body.length cb]=some (d,p):=hf
 obtain⟨fs,hu,hL⟩:=under29
 obtain⟨xs,m,rfl,hx,hcl,hxl,hg⟩:=DataW.trod_struct hu hf
 have hfs:fs.toList.map (·.type)=[9,4,22,27]:=by
  have:=congrArg (List.map Prod.fst) hL
  rw [List.map_map] at this
  exact this
 have h2:fs.toList[2]?.map (fun f=>(f.type,f.offset))=some (22,2):=by rw [← List.getElem?_map,hL];rfl
 obtain⟨f2,hf2,he2⟩:=Option.map_eq_some_iff.1 h2
 simp only [Prod.mk.injEq] at he2
 rw [Array.getElem?_toList] at hf2
 have g2:=hg 2 f2 hf2
 rw [he2.1,he2.2,cells1.2.2.2.1] at g2
 replace g2:DataW.trod enc Tryz.prog W 0 (fun _=>true) true m 22 [Value.slice ad ps.length c]=xs[2]?:=g2
 have hl2:2<xs.length:=by
  have:=(zq7.1 hf2).1
  omega
 rw [zq9 hl2] at g2
 simp only [Prod.mk.injEq] at hx
 obtain⟨rfl,rfl⟩:=hx
 have hwt:∀ x∈(xs[2]'hl2).1.weights Tryz.prog 22,x≤reachBytes:=fun x hx0=>by
  refine hw x ?_
  rw [DataW.weights,hu]
  simp only []
  rw [hfs]
  refine weights_each (j:=2) (t:=22) rfl ?_ x hx0
  rw [List.getElem?_map,zq9 hl2];rfl
 rcases DataW.trod_slice Tryz.underlying22 g2 with ⟨h0,_⟩|⟨a,len,cap,elems,rest,n,_,hcs,hx2,_,_,_,hel,_⟩
 ·simp only [List.cons.injEq,Value.slice.injEq,and_true] at h0
  rw [h0.2.1];decide
 simp only [List.cons.injEq,Value.slice.injEq,and_true] at hcs
 obtain⟨rfl,h3,rfl⟩:=hcs
 rw [hx2] at hwt
 have h4:=hwt ((elems.length+rest.length)*24) (by
  rw [DataW.weights,Tryz.underlying22]
  simp only [List.length_map,bytes70]
  exact zr7)
 unfold reachBytes at h4
 rw [h3,← hel]
 have:elems.length*24≤(elems.length+rest.length)*24:=Nat.mul_le_mul_right _ (by omega)
 omega
theorem fn_ok {H:Type}{enc:TypeId×Value→H}{W:World}{v:Value}{d:DataW H}{p:List MemPlace}{base:Nat}(hE:Lx.Env W) (hv:Value.okWide Tryz.prog W .any base 29 v) (h:DataW.Trod enc Tryz.prog W 0 (fun _=>true) true 29 v d p)
  (hw:∀ x∈d.weights Tryz.prog 29,x≤reachBytes):∃ ps e,FnOk Lx.Env isNm W v ps e:=by
 obtain⟨ps,e,hf,hs⟩:=open_fun hv h
 exact⟨ps,e,nlaw,hE,hf,hs,open_fun_pl hv h hw hf⟩
end Go.Proofs.YtnkahlloahgifaaGreatDoor
