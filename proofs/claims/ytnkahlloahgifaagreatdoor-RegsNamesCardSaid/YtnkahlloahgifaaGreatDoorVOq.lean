/- Part. -/
import Derived.Test.YtnkahlloahgifaaGreatDoorVOm
set_option maxHeartbeats 16000000
set_option maxRecDepth 100000
set_option linter.unusedSimpArgs false
set_option linter.unusedVariables false
namespace Go.Proofs.YtnkahlloahgifaaGreatDoor
section
open Go.ChangeShapes Go.WideShapes Go.ChangeAt Go.RowKit Go.Deep RG
mutual
def szE:TE→Prop
 | .mk _ n xs arms body=>n.size≤maxLen∧(∀ a∈xs,a.size≤maxLen)∧szA arms∧szB body
def szA:TA→Prop
 | .nil=>True
 | .cons vs e r=>(∀ v∈vs,v.size≤maxLen)∧szE e∧szA r
def szB:TB→Prop
 | .nil=>True
 | .cons e r=>szE e∧szB r
end
theorem szA_kids:∀ (a:TA),szA a→∀ p∈a.kids,(∀ x∈p.1,x.size≤maxLen)∧szE p.2
 | .nil,_,p,hp=>by simp [TA.kids] at hp
 | .cons vs e r,h,p,hp=>by
  rw [szA] at h;rw [TA.kids] at hp;rcases List.mem_cons.1 hp with rfl | hp
  ·exact⟨h.1,h.2.1⟩
  exact szA_kids r h.2.2 p hp
theorem szB_kids (n:Nm) (hn:n.size≤maxLen):∀ (b:TB),szB b→∀ p∈b.kids n,(∀ x∈p.1,x.size≤maxLen)∧szE p.2
 | .nil,_,p,hp=>by simp [TB.kids] at hp
 | .cons e r,h,p,hp=>by
  rw [szB] at h;rw [TB.kids] at hp;rcases List.mem_cons.1 hp with rfl | hp
  ·exact⟨fun x hx=>by simp at hx;rw [hx];exact hn,h.1⟩
  exact szB_kids n hn r h.2 p hp
theorem szE_kids {e:TE}(h:szE e):(∀ a∈e.args,a.size≤maxLen)∧∀ p∈e.kids,(∀ x∈p.1,x.size≤maxLen)∧szE p.2:=by
 obtain⟨k,n,xs,arms,body⟩:=e;rw [szE] at h;refine⟨h.2.1,fun p hp=>?_⟩
 unfold TE.kids at hp;rcases List.mem_append.1 hp with hp | hp
 ·exact szB_kids n h.1 body h.2.2.2 p hp
 exact szA_kids arms h.2.2.1 p hp
theorem sz_lay:∀ (f n:Nat) (l:List (List Nm×TE)),sizes l≤f→(∀ p∈l,(∀ x∈p.1,x.size≤maxLen)∧szE p.2)→∀ d∈layS n l,(∀ x∈d.binds,x.size≤maxLen)∧∀ x∈d.e.args,x.size≤maxLen
 | _,n,[],_,_=>fun d hd=>by rw [layS_nil] at hd;cases hd
 | 0,n,(bs,e) :: r,h,_=>by rw [zg] at h;have:=e.size_pos;simp only [] at h;omega
 | f+1,n,(bs,e) :: r,h,hx=>by
  have hk:=e.size_kids;rw [zg] at h;simp only [] at h;rw [layS_cons];have h0:=hx _ zr7
  intro d hd;rcases List.mem_cons.1 hd with rfl | hd
  ·exact⟨h0.1,(szE_kids h0.2).1⟩
  refine sz_lay f (n+1) (e.kids++r) (by rw [zr];omega) (fun p hp=>?_) d hd
  rcases List.mem_append.1 hp with hp | hp
  ·exact(szE_kids h0.2).2 p hp
  exact hx p (zr8 _ hp)
section
variable {H:Type} {enc:TypeId×Value→H} {W:World}
theorem trod_field {P:Program}{fs:Array Field}{L:List (TypeId×Nat)}{t:TypeId}{n:Nat}{cs:List Value}{x:DataW H×List MemPlace}(hL:fs.toList.map (fun f=>(f.type,f.offset))=L) (ht:P.underlying t=some (.struct fs))
  (h:DataW.trod enc P W 0 (fun _=>true) true n t cs=some x) :
  ∃ m,n=m+1∧cs.length=P.cellsOf t∧∀ (i:Nat) (ty:TypeId) (off:Nat),L[i]?=some (ty,off)→∃ y,DataW.trod enc P W 0 (fun _=>true) true m ty ((cs.drop off).take (P.cellsOf ty))=some y:=by
 obtain⟨xs,m,hm,_,hcl,hxl,hf⟩:=DataW.trod_struct ht h;refine⟨m,hm,hcl,fun i ty off hi=>?_⟩
 rw [← hL,List.getElem?_map] at hi;obtain⟨f,hfi,he⟩:=Option.map_eq_some_iff.1 hi;simp only [Prod.mk.injEq] at he;obtain⟨rfl,rfl⟩:=he;rw [Array.getElem?_toList] at hfi;have h1:=hf i f hfi;have hil:=(zq7.1 hfi).1
 exact⟨xs[i]'(by omega),by rw [h1,zq9 (by omega)]⟩
theorem plain_of {a:Addr}{v:Value}(h:W.cell? a=some v):∃ g o,a=⟨g,o,none⟩:=⟨_,_,(addr_plain h).1⟩
theorem add_plain (g o k:Nat):(⟨g,o,none⟩:Addr).add k=⟨g,o+k,none⟩:=by
 unfold Addr.add
 split
 ·rename_i h;rw [h];rfl
 rfl
theorem trod_els {P:Program}{t e:TypeId}{n:Nat}{v:Value}{x:DataW H×List MemPlace}(ht:P.underlying t=some (.slice e)) (h:DataW.trod enc P W 0 (fun _=>true) true n t [v]=some x) :
  ∃ (ad:Option Addr) (len cap:Nat),v = .slice ad len cap∧len≤cap∧cap≤maxLen∧(0<len→∃ a m,ad=some a∧m<n∧∀ i,i<len→∃ cs y,cs.length=P.cellsOf e∧(∀ j,j<P.cellsOf e→W.cell? ((a.add (i*P.cellsOf e)).add j)=cs[j]?)∧DataW.trod enc P W 0 (fun _=>true) true m e cs=some y):=by
 rcases DataW.trod_slice ht h with ⟨h0,_⟩|⟨a,len,cap,elems,rest,m,hm,hv,_,_,hl,hc,hel,hat,_,_⟩
 ·simp only [List.cons.injEq,and_true] at h0
  exact⟨none,0,0,h0,zr4 _,zv3 _,fun h=>absurd h (Nat.lt_irrefl _)⟩
 simp only [List.cons.injEq,and_true] at hv;refine⟨some a,len,cap,hv,hl,hc,fun _=>⟨a,m,rfl,by omega,fun i hi=>?_⟩⟩
 have h1:=hat i hi;rw [zq9 (by omega)] at h1
 obtain⟨cs,h2,h3⟩:=Option.bind_eq_some_iff.1 h1;obtain⟨_,hcl,hcell⟩:=World.cells?_some h2;exact⟨cs,_,hcl,fun j hj=>hcell j (by omega),h3⟩
theorem len2 {cs:List Value}(h:cs.length=2):∃ a b,cs=[a,b]:=by
 match cs,h with
 | [a,b],_=>exact⟨a,b,rfl⟩
theorem len8 {cs:List Value}(h:cs.length=8):∃ a0 a1 a2 a3 a4 a5 a6 a7,cs=[a0,a1,a2,a3,a4,a5,a6,a7]:=by
 match cs,h with
 | [a0,a1,a2,a3,a4,a5,a6,a7],_=>exact⟨_,_,_,_,_,_,_,_,rfl⟩
theorem len10 {cs:List Value}(h:cs.length=10):∃ a0 a1 a2 a3 a4 a5 a6 a7 a8 a9,cs=[a0,a1,a2,a3,a4,a5,a6,a7,a8,a9]:=by
 match cs,h with
 | [a0,a1,a2,a3,a4,a5,a6,a7,a8,a9],_=>exact⟨_,_,_,_,_,_,_,_,_,_,rfl⟩
theorem cells1:Tryz.prog.cellsOf 9=1∧Tryz.prog.cellsOf 3=1∧Tryz.prog.cellsOf 4=1∧Tryz.prog.cellsOf 22=1∧Tryz.prog.cellsOf 23=1∧Tryz.prog.cellsOf 24=1∧Tryz.prog.cellsOf 25=1∧Tryz.prog.cellsOf 35=1:=⟨by kernel_rfl,by kernel_rfl,by kernel_rfl,by kernel_rfl,by kernel_rfl,by kernel_rfl,by kernel_rfl,by kernel_rfl⟩
theorem cells27:Tryz.prog.cellsOf 27=8:=by kernel_rfl
theorem cells148:Tryz.prog.cellsOf 148=10:=by kernel_rfl
theorem cells146:Tryz.prog.cellsOf 146=2:=by kernel_rfl
theorem cells70:Tryz.prog.cellsOf 70=2:=by kernel_rfl
theorem cells29:Tryz.prog.cellsOf 29=11:=by kernel_rfl
theorem under27:∃ fs:Array Field,Tryz.prog.underlying 27=some (.struct fs)∧fs.toList.map (fun f=>(f.type,f.offset))=[(3,0),(9,1),(9,2),(3,3),(3,4),(23,5),(24,6),(25,7)]:=⟨_,Tryz.underlying27,by kernel_rfl⟩
theorem under148:∃ fs:Array Field,Tryz.prog.underlying 148=some (.struct fs)∧fs.toList.map (fun f=>(f.type,f.offset))=[(9,0),(35,1),(27,2)]:=⟨_,Tryz.underlying148,by kernel_rfl⟩
theorem under146:∃ fs:Array Field,Tryz.prog.underlying 146=some (.struct fs)∧fs.toList.map (fun f=>(f.type,f.offset))=[(9,0),(3,1)]:=⟨_,Tryz.underlying146,by kernel_rfl⟩
theorem under70:∃ fs:Array Field,Tryz.prog.underlying 70=some (.struct fs)∧fs.toList.map (fun f=>(f.type,f.offset))=[(9,0),(4,1)]:=⟨_,Tryz.underlying70,by kernel_rfl⟩
theorem under29:∃ fs:Array Field,Tryz.prog.underlying 29=some (.struct fs)∧fs.toList.map (fun f=>(f.type,f.offset))=[(9,0),(4,1),(22,2),(27,3)]:=⟨_,Tryz.underlying29,by kernel_rfl⟩
theorem pick_list {α:Type} [Inhabited α] {len:Nat}{Q:Nat→α→Prop}(h:∀ i,i<len→∃ x,Q i x):∃ l:List α,l.length=len∧∀ (i:Nat) (x:α),l[i]?=some x→Q i x:=by
 refine⟨(List.range len).map fun i=>if h0:i<len then Classical.choose (h i h0) else default,by simp,fun i x hx=>?_⟩
 have hil:i<len:=by have:=(zq8.1 hx).1;simpa using this
 rw [List.getElem?_map,List.getElem?_range hil] at hx;simp only [Option.map_some,zt3,dif_pos hil] at hx;rw [← hx];exact Classical.choose_spec (h i hil)
theorem open_strs {n:Nat}{v:Value}{x:DataW H×List MemPlace}(h:DataW.trod enc Tryz.prog W 0 (fun _=>true) true n 35 [v]=some x):∃ ns:List Nm,StrsAt W v ns∧(∀ x∈ns,x.size≤maxLen)∧ns.length≤maxLen:=by
 obtain⟨ad,len,cap,rfl,hl,hc,hat⟩:=trod_els Tryz.underlying35 h;have key:∀ i,i<len→∃ s:Nm,s.size≤maxLen∧∃ a,ad=some a∧W.cell? (a.add i)=some (.string s):=fun i hi=>by
  obtain⟨a,m,ha,_,hel⟩:=hat (by omega)
  obtain⟨cs,y,hcl,hcell,ht⟩:=hel i hi;rw [cells1.1] at hcl hcell;obtain⟨s,rfl,_,hs⟩:=DataW.trod_string Tryz.underlying9 ht;refine⟨s,hs,a,ha,?_⟩;have:=hcell 0 Nat.one_pos;rw [Nat.mul_one,Go.Deep.add_add] at this;exact this
 obtain⟨ns,hns,hq⟩:=pick_list key;refine⟨ns,⟨strs_length ns,ad,cap,by rw [hns],fun h0=>?_⟩,fun x hx=>?_,by omega⟩
 ·obtain⟨x0,hx0⟩:∃ x,ns[0]?=some x:=⟨_,zq9 h0⟩
  obtain⟨_,a,ha,hc0⟩:=hq 0 x0 hx0;obtain⟨g,o,rfl⟩:∃ g o,a=⟨g,o,none⟩:=plain_of (show W.cell? a=some _ from hc0)
  refine⟨g,o,ha,fun i x hi=>?_⟩
  unfold strs at hi;rw [List.getElem?_map] at hi;obtain⟨s,hs,rfl⟩:=Option.map_eq_some_iff.1 hi;obtain⟨_,a',ha',hca⟩:=hq i s hs;rw [ha,zt3] at ha';subst ha';rw [add_plain] at hca;exact hca
 obtain⟨i,hi⟩:=List.mem_iff_getElem?.1 hx;exact(hq i x hi).1
theorem open_atoms {n:Nat}{v:Value}{x:DataW H×List MemPlace}(h:DataW.trod enc Tryz.prog W 0 (fun _=>true) true n 23 [v]=some x):∃ (ns:List Nm) (a:Option Addr) (c:Nat),v = .slice a ns.length c∧AtomsAt W v ns∧(∀ x∈ns,x.size≤maxLen):=by
 obtain⟨ad,len,cap,rfl,hl,hc,hat⟩:=trod_els Tryz.underlying23 h;have key:∀ i,i<len→∃ s:Nm,s.size≤maxLen∧∃ a,ad=some a∧∃ m:Int,W.cell? (a.add (i*2))=some (.string s)∧W.cell? ((a.add (i*2)).add 1)=some (.int .i64 m):=fun i hi=>by
  obtain⟨a,m,ha,_,hel⟩:=hat (by omega)
  obtain⟨cs,y,hcl,hcell,ht⟩:=hel i hi;rw [cells146] at hcl hcell;obtain⟨fs,hu,hL⟩:=under146;obtain⟨m',_,_,hf⟩:=trod_field hL hu ht;obtain⟨c0,c1,rfl⟩:=len2 hcl;obtain⟨y0,h0⟩:=hf 0 9 0 rfl;obtain⟨y1,h1⟩:=hf 1 3 1 rfl;rw [cells1.1] at h0;rw [cells1.2.1] at h1;obtain⟨s,hs,_,hz⟩:=DataW.trod_string Tryz.underlying9 h0;obtain⟨m1,hm,_,_⟩:=DataW.trod_int Tryz.underlying3 h1;simp at hs hm;subst hs hm;exact⟨s,hz,a,ha,m1,hcell 0 (by decide),hcell 1 (by decide)⟩
 obtain⟨ns,hns,hq⟩:=pick_list key;refine⟨ns,ad,cap,by rw [hns],⟨ad,cap,by rw [hns],fun h0=>?_⟩,fun x hx=>?_⟩
 ·obtain⟨x0,hx0⟩:∃ x,ns[0]?=some x:=⟨_,zq9 h0⟩
  obtain⟨_,a,ha,_,hc0,_⟩:=hq 0 x0 hx0;obtain⟨g,o,rfl⟩:∃ g o,a=⟨g,o,none⟩:=plain_of (show W.cell? a=some _ from hc0)
  refine⟨g,o,ha,fun i s hs=>?_⟩
  obtain⟨_,a',ha',m1,hca,hcb⟩:=hq i s hs;rw [ha,zt3] at ha';subst ha';rw [add_plain] at hca hcb;rw [add_plain] at hcb;exact⟨m1,hca,hcb⟩
 obtain⟨i,hi⟩:=List.mem_iff_getElem?.1 hx;exact(hq i x hi).1
theorem open_params {n:Nat}{v:Value}{x:DataW H×List MemPlace}(h:DataW.trod enc Tryz.prog W 0 (fun _=>true) true n 22 [v]=some x):∃ (ns:List Nm),ParamsAt W v ns∧(∀ x∈ns,x.size≤maxLen):=by
 obtain⟨ad,len,cap,rfl,hl,hc,hat⟩:=trod_els Tryz.underlying22 h;have key:∀ i,i<len→∃ s:Nm,s.size≤maxLen∧∃ a,ad=some a∧∃ m:Bool,W.cell? (a.add (i*2))=some (.string s)∧W.cell? ((a.add (i*2)).add 1)=some (.bool m):=fun i hi=>by
  obtain⟨a,m,ha,_,hel⟩:=hat (by omega)
  obtain⟨cs,y,hcl,hcell,ht⟩:=hel i hi;rw [cells70] at hcl hcell;obtain⟨fs,hu,hL⟩:=under70;obtain⟨m',_,_,hf⟩:=trod_field hL hu ht;obtain⟨c0,c1,rfl⟩:=len2 hcl;obtain⟨y0,h0⟩:=hf 0 9 0 rfl;obtain⟨y1,h1⟩:=hf 1 4 1 rfl;rw [cells1.1] at h0;rw [cells1.2.2.1] at h1;obtain⟨s,hs,_,hz⟩:=DataW.trod_string Tryz.underlying9 h0;obtain⟨m1,hm,_⟩:=DataW.trod_bool Tryz.underlying4 h1;simp at hs hm;subst hs hm;exact⟨s,hz,a,ha,m1,hcell 0 (by decide),hcell 1 (by decide)⟩
 obtain⟨ns,hns,hq⟩:=pick_list key;refine⟨ns,⟨ad,cap,by rw [hns],fun h0=>?_⟩,fun x hx=>?_⟩
 ·obtain⟨x0,hx0⟩:∃ x,ns[0]?=some x:=⟨_,zq9 h0⟩
  obtain⟨_,a,ha,_,hc0,_⟩:=hq 0 x0 hx0;obtain⟨g,o,rfl⟩:∃ g o,a=⟨g,o,none⟩:=plain_of (show W.cell? a=some _ from hc0)
  refine⟨g,o,ha,fun i s hs=>?_⟩
  obtain⟨_,a',ha',m1,hca,hcb⟩:=hq i s hs;rw [ha,zt3] at ha';subst ha';rw [add_plain] at hca hcb;rw [add_plain] at hcb;exact⟨m1,hca,hcb⟩
 obtain⟨i,hi⟩:=List.mem_iff_getElem?.1 hx;exact(hq i x hi).1
def mkA:List (List Nm×TE)→TA
 | [] => .nil
 | p :: r => .cons p.1 p.2 (mkA r)
def mkB:List TE→TB
 | [] => .nil
 | e :: r => .cons e (mkB r)
theorem mkA_length:∀ l,(mkA l).length=l.length
 | []=>rfl
 | p :: r=>by rw [mkA,TA.length,mkA_length r,zv2]
theorem mkB_length:∀ l,(mkB l).length=l.length
 | []=>rfl
 | p :: r=>by rw [mkB,TB.length,mkB_length r,zv2]
theorem mkA_at {g:Nat}:∀ (l:List (List Nm×TE)) (o:Nat),(∀ (i:Nat) p,l[i]?=some p→(∃ (con:ByteArray) (vv:Value),W.cell? ⟨g,o+i*10,none⟩=some (.string con)∧W.cell? ⟨g,o+i*10+1,none⟩=some vv∧StrsAt W vv p.1)∧TEAt W p.2 g (o+i*10+2))→TAAt W (mkA l) g o
 | [],_,_=>by rw [mkA,TAAt];trivial
 | p :: r,o,h=>by
  rw [mkA,TAAt];have h0:=h 0 p rfl;rw [Nat.zero_mul,Nat.add_zero] at h0;refine⟨h0.1,h0.2,mkA_at r (o+10) fun i q hq=>?_⟩
  have:=h (i+1) q (by rw [List.getElem?_cons_succ];exact hq)
  rw [show o+(i+1)*10=o+10+i*10 from by omega] at this
  exact this
theorem mkB_at {g:Nat}:∀ (l:List TE) (o:Nat),(∀ (i:Nat) e,l[i]?=some e→TEAt W e g (o+i*8))→TBAt W (mkB l) g o
 | [],_,_=>by rw [mkB,TBAt];trivial
 | e :: r,o,h=>by
  rw [mkB,TBAt];have h0:=h 0 e rfl;rw [Nat.zero_mul,Nat.add_zero] at h0;refine⟨h0,mkB_at r (o+8) fun i q hq=>?_⟩
  have:=h (i+1) q (by rw [List.getElem?_cons_succ];exact hq)
  rw [show o+(i+1)*8=o+8+i*8 from by omega] at this
  exact this
theorem mkA_sz:∀ (l:List (List Nm×TE)),(∀ p∈l,(∀ x∈p.1,x.size≤maxLen)∧szE p.2)→szA (mkA l)
 | [],_=>by rw [mkA,szA];trivial
 | p :: r,h=>by rw [mkA,szA];exact⟨(h p zr7).1,(h p zr7).2,mkA_sz r fun q hq=>h q (zr8 _ hq)⟩
theorem mkB_sz:∀ (l:List TE),(∀ e∈l,szE e)→szB (mkB l)
 | [],_=>by rw [mkB,szB];trivial
 | p :: r,h=>by rw [mkB,szB];exact⟨h p zr7,mkB_sz r fun q hq=>h q (zr8 _ hq)⟩
def TEL (W:World) (e:TE) (cs:List Value):Prop :=
 ∃ (op:ByteArray) (num site:Int) (xa aa ab:Option Addr) (xc ca cb:Nat),cs=[.int .i64 e.kind,.string e.name,.string op,.int .i64 num,.int .i64 site,.slice xa e.args.length xc,.slice aa e.arms.length ca,.slice ab e.body.length cb]∧TEX W e xa aa ab xc∧szE e
theorem TEL.at' {e:TE}{cs:List Value}(h:TEL W e cs) {g o:Nat}(hc:∀ j,j<8→W.cell? ⟨g,o+j,none⟩=cs[j]?):TEAt W e g o:=by
 obtain⟨op,num,site,xa,aa,ab,xc,ca,cb,rfl,hx,_⟩:=h;have c0:=hc 0 (by decide)
 have c1:=hc 1 (by decide)
 have c2:=hc 2 (by decide)
 have c3:=hc 3 (by decide)
 have c4:=hc 4 (by decide)
 have c5:=hc 5 (by decide)
 have c6:=hc 6 (by decide)
 have c7:=hc 7 (by decide)
 have h1:∃ ga oa,(0<e.arms.length→aa=some ⟨ga,oa,none⟩)∧TAAt W e.arms ga oa:=by
  by_cases h0:0<e.arms.length
  ·obtain⟨ga,oa,a,b⟩:=hx.arms h0;exact⟨ga,oa,fun _=>a,b⟩
  refine⟨0,0,fun h=>absurd h h0,?_⟩
  cases hq:e.arms with
  | nil=>rw [TAAt];trivial
  | cons vs e2 r=>rw [hq] at h0;simp [TA.length] at h0
 have h2:∃ gb ob,(0<e.body.length→ab=some ⟨gb,ob,none⟩)∧TBAt W e.body gb ob:=by
  by_cases h0:0<e.body.length
  ·obtain⟨ga,oa,a,b⟩:=hx.body h0;exact⟨ga,oa,fun _=>a,b⟩
  refine⟨0,0,fun h=>absurd h h0,?_⟩
  cases hq:e.body with
  | nil=>rw [TBAt];trivial
  | cons e2 r=>rw [hq] at h0;simp [TB.length] at h0
 obtain⟨ga,oa,a1,a2⟩:=h1;obtain⟨gb,ob,b1,b2⟩:=h2;have hat:=hx.atoms;obtain⟨k,n,xs,arms,body⟩:=e;rw [TEAt];exact⟨op,num,site,_,aa,ab,ca,cb,ga,oa,gb,ob,⟨c0,c1,c2,c3⟩,⟨c4,c5,c6,c7⟩,hat,a1,a2,b1,b2⟩
theorem open_te:∀ (n:Nat) (cs:List Value) (x:DataW H×List MemPlace),DataW.trod enc Tryz.prog W 0 (fun _=>true) true n 27 cs=some x→∃ e,TEL W e cs:=by
 intro n
 induction n using Nat.strongRecOn with
 | ind n ih =>
  intro cs x h;obtain⟨fs,hu,hL⟩:=under27;obtain⟨m,rfl,hcl,hf⟩:=trod_field hL hu h;rw [cells27] at hcl;obtain⟨c0,c1,c2,c3,c4,c5,c6,c7,rfl⟩:=len8 hcl;obtain⟨y0,h0⟩:=hf 0 3 0 rfl;obtain⟨y1,h1⟩:=hf 1 9 1 rfl;obtain⟨y2,h2⟩:=hf 2 9 2 rfl;obtain⟨y3,h3⟩:=hf 3 3 3 rfl;obtain⟨y4,h4⟩:=hf 4 3 4 rfl;obtain⟨y5,h5⟩:=hf 5 23 5 rfl;obtain⟨y6,h6⟩:=hf 6 24 6 rfl;obtain⟨y7,h7⟩:=hf 7 25 7 rfl;obtain⟨k9,k3,k4,k22,k23,k24,k25,k35⟩:=cells1;rw [k3] at h0 h3 h4;rw [k9] at h1 h2;rw [k23] at h5;rw [k24] at h6;rw [k25] at h7;obtain⟨k,e0,_,_⟩:=DataW.trod_int Tryz.underlying3 h0;obtain⟨nm,e1,_,hnm⟩:=DataW.trod_string Tryz.underlying9 h1;obtain⟨op,e2,_,_⟩:=DataW.trod_string Tryz.underlying9 h2;obtain⟨num,e3,_,_⟩:=DataW.trod_int Tryz.underlying3 h3;obtain⟨site,e4,_,_⟩:=DataW.trod_int Tryz.underlying3 h4;simp at e0 e1 e2 e3 e4;subst e0 e1 e2 e3 e4
  replace h5:DataW.trod enc Tryz.prog W 0 (fun _=>true) true m 23 [c5]=some y5:=h5
  replace h6:DataW.trod enc Tryz.prog W 0 (fun _=>true) true m 24 [c6]=some y6:=h6
  replace h7:DataW.trod enc Tryz.prog W 0 (fun _=>true) true m 25 [c7]=some y7:=h7
  obtain⟨xs,xa,xc,rfl,hatoms,hxs⟩:=open_atoms h5;obtain⟨aa,na,ca,rfl,_,_,ha⟩:=trod_els Tryz.underlying24 h6;obtain⟨ab,nb,cb,rfl,_,_,hb⟩:=trod_els Tryz.underlying25 h7;have keyA:∀ i,i<na→∃ p:List Nm×TE,∃ a,aa=some a∧((∀ x∈p.1,x.size≤maxLen)∧szE p.2)∧(∃ (con:ByteArray) (vv:Value),W.cell? (a.add (i*10))=some (.string con)∧W.cell? ((a.add (i*10)).add 1)=some vv∧StrsAt W vv p.1)∧∃ cs,TEL W p.2 cs∧∀ j,j<8→W.cell? ((a.add (i*10)).add (2+j))=cs[j]?:=fun i hi=>by
   obtain⟨a,m2,haa,hm2,hel⟩:=ha (by omega)
   obtain⟨cs,y,hcl2,hcell,ht⟩:=hel i hi;rw [cells148] at hcl2 hcell;obtain⟨fs2,hu2,hL2⟩:=under148;obtain⟨m3,hm3,_,hf2⟩:=trod_field hL2 hu2 ht;obtain⟨a0,a1,a2,a3,a4,a5,a6,a7,a8,a9,rfl⟩:=len10 hcl2;obtain⟨z0,g0⟩:=hf2 0 9 0 rfl;obtain⟨z1,g1⟩:=hf2 1 35 1 rfl;obtain⟨z2,g2⟩:=hf2 2 27 2 rfl;rw [k9] at g0;rw [k35] at g1;rw [cells27] at g2;obtain⟨con,hcon,_,_⟩:=DataW.trod_string Tryz.underlying9 g0;simp at hcon;subst hcon;obtain⟨vs,hvs,hsz,_⟩:=open_strs (show DataW.trod enc Tryz.prog W 0 (fun _=>true) true m3 35 [a1]=some z1 from g1)
   obtain⟨e',he'⟩:=ih m3 (by omega) _ _ g2
   have hse:szE e':=by obtain⟨_,_,_,_,_,_,_,_,_,_,_,hs⟩:=he';exact hs
   refine⟨(vs,e'),a,haa,⟨hsz,hse⟩,⟨con,a1,hcell 0 (by decide),hcell 1 (by decide),hvs⟩,_,he',fun j hj=>?_⟩
   rw [hcell (2+j) (by omega)]
   match j,hj with
   | 0,_=>rfl
   | 1,_=>rfl
   | 2,_=>rfl
   | 3,_=>rfl
   | 4,_=>rfl
   | 5,_=>rfl
   | 6,_=>rfl
   | 7,_=>rfl
  have keyB:∀ i,i<nb→∃ e':TE,∃ a,ab=some a∧szE e'∧∃ cs,TEL W e' cs∧∀ j,j<8→W.cell? ((a.add (i*8)).add j)=cs[j]?:=fun i hi=>by
   obtain⟨a,m2,haa,hm2,hel⟩:=hb (by omega)
   obtain⟨cs,y,hcl2,hcell,ht⟩:=hel i hi;rw [cells27] at hcl2 hcell;obtain⟨e',he'⟩:=ih m2 (by omega) _ _ ht
   have hse:szE e':=by obtain⟨_,_,_,_,_,_,_,_,_,_,_,hs⟩:=he';exact hs
   exact⟨e',a,haa,hse,cs,he',hcell⟩
  haveI:Inhabited TE:=⟨.mk 0 ⟨#[]⟩ [] .nil .nil⟩
  obtain⟨la,hla,hqa⟩:=pick_list keyA;obtain⟨lb,hlb,hqb⟩:=pick_list keyB;refine⟨.mk k nm xs (mkA la) (mkB lb),op,num,site,xa,aa,ab,xc,ca,cb,?_,⟨hatoms,fun h0=>?_,fun h0=>?_⟩,?_⟩
  ·show _=[Value.int .i64 k,.string nm,.string op,.int .i64 num,.int .i64 site,.slice xa xs.length xc,.slice aa (mkA la).length ca,.slice ab (mkB lb).length cb]
   rw [mkA_length,mkB_length,hla,hlb]
  ·replace h0:0<(mkA la).length:=h0
   rw [mkA_length] at h0;obtain⟨p0,hp0⟩:∃ p,la[0]?=some p:=⟨_,zq9 h0⟩;obtain⟨a,haa,_,⟨con,vv,hc0,_⟩,_⟩:=hqa 0 p0 hp0;obtain⟨g,o,rfl⟩:∃ g o,a=⟨g,o,none⟩:=plain_of (show W.cell? a=some _ from hc0)
   refine⟨g,o,haa,mkA_at la o fun i p hp=>?_⟩
   obtain⟨a',haa',_,⟨con',vv',h1',h2',h3'⟩,cs',hel,hcs⟩:=hqa i p hp;rw [haa,zt3] at haa';subst haa';rw [add_plain] at h1' h2';rw [add_plain] at h2';refine⟨⟨con',vv',h1',h2',h3'⟩,hel.at' fun j hj=>?_⟩
   have:=hcs j hj;rw [add_plain,add_plain] at this;rw [show o+i*10+2+j=o+i*10+(2+j) from by omega];exact this
  ·replace h0:0<(mkB lb).length:=h0
   rw [mkB_length] at h0;obtain⟨p0,hp0⟩:∃ p,lb[0]?=some p:=⟨_,zq9 h0⟩;obtain⟨a,haa,_,cs0,hel0,hcs0⟩:=hqb 0 p0 hp0;obtain⟨g,o,rfl⟩:∃ g o,a=⟨g,o,none⟩:=by
    have h00:=hcs0 0 (by decide)
    obtain⟨_,_,_,_,_,_,_,_,_,rfl,_⟩:=hel0;exact plain_of (show W.cell? a=some _ from h00)
   refine⟨g,o,haa,mkB_at lb o fun i p hp=>?_⟩
   obtain⟨a',haa',_,cs',hel,hcs⟩:=hqb i p hp;rw [haa,zt3] at haa';subst haa';refine hel.at' fun j hj=>?_
   have:=hcs j hj;rw [add_plain,add_plain] at this;exact this
  rw [szE];refine⟨hnm,hxs,mkA_sz la fun p hp=>?_,mkB_sz lb fun e' he'=>?_⟩
  ·obtain⟨i,hi⟩:=List.mem_iff_getElem?.1 hp
   obtain⟨_,_,hs,_⟩:=hqa i p hi;exact hs
  obtain⟨i,hi⟩:=List.mem_iff_getElem?.1 he';obtain⟨_,_,hs,_⟩:=hqb i e' hi;exact hs
theorem TEL.parts {e:TE}{xa aa ab:Option Addr}{xc:Nat}(hx:TEX W e xa aa ab xc):(∃ ga oa,(0<e.arms.length→aa=some ⟨ga,oa,none⟩)∧TAAt W e.arms ga oa)∧∃ gb ob,(0<e.body.length→ab=some ⟨gb,ob,none⟩)∧TBAt W e.body gb ob:=by
 constructor
 ·by_cases h0:0<e.arms.length
  ·obtain⟨ga,oa,a,b⟩:=hx.arms h0;exact⟨ga,oa,fun _=>a,b⟩
  refine⟨0,0,fun h=>absurd h h0,?_⟩
  cases hq:e.arms with
  | nil=>rw [TAAt];trivial
  | cons vs e2 r=>rw [hq] at h0;simp [TA.length] at h0
 by_cases h0:0<e.body.length
 ·obtain⟨ga,oa,a,b⟩:=hx.body h0;exact⟨ga,oa,fun _=>a,b⟩
 refine⟨0,0,fun h=>absurd h h0,?_⟩
 cases hq:e.body with
 | nil=>rw [TBAt];trivial
 | cons e2 r=>rw [hq] at h0;simp [TB.length] at h0
theorem len11 {cs:List Value}(h:cs.length=11):∃ a0 a1 a2 a3 a4 a5 a6 a7 a8 a9 a10,cs=[a0,a1,a2,a3,a4,a5,a6,a7,a8,a9,a10]:=by
 match cs,h with
 | [a0,a1,a2,a3,a4,a5,a6,a7,a8,a9,a10],_=>exact⟨_,_,_,_,_,_,_,_,_,_,_,rfl⟩
theorem open_fun {v:Value}{d:DataW H}{p:List MemPlace}{base:Nat}(hv:Value.okWide Tryz.prog W .any base 29 v) (h:DataW.Trod enc Tryz.prog W 0 (fun _=>true) true 29 v d p) :
  ∃ ps e,TFunV W v ps e∧(∀ d∈F0 ps e,(∀ x∈d.binds,x.size≤maxLen)∧∀ x∈d.e.args,x.size≤maxLen):=by
 obtain⟨cs,rfl,hsz⟩:=okWide_struct Tryz.underlying29 hv;obtain⟨fuel,hf⟩:=h
 replace hf:DataW.trod enc Tryz.prog W 0 (fun _=>true) true fuel 29 cs.toList=some (d,p):=hf
 obtain⟨fs,hu,hL⟩:=under29;obtain⟨m,rfl,hcl,hg⟩:=trod_field hL hu hf;rw [cells29] at hcl;obtain⟨a0,a1,a2,a3,a4,a5,a6,a7,a8,a9,a10,hcs⟩:=len11 hcl;obtain⟨y0,h0⟩:=hg 0 9 0 rfl;obtain⟨y1,h1⟩:=hg 1 4 1 rfl;obtain⟨y2,h2⟩:=hg 2 22 2 rfl;obtain⟨y3,h3⟩:=hg 3 27 3 rfl;obtain⟨k9,k3,k4,k22,k23,k24,k25,k35⟩:=cells1;rw [hcs] at h0 h1 h2 h3;rw [k9] at h0;rw [k4] at h1;rw [k22] at h2;rw [cells27] at h3;obtain⟨nm,e0,_,_⟩:=DataW.trod_string Tryz.underlying9 h0;obtain⟨ch,e1,_⟩:=DataW.trod_bool Tryz.underlying4 h1;simp at e0 e1;subst e0 e1;obtain⟨ps,hps,hpz⟩:=open_params (show DataW.trod enc Tryz.prog W 0 (fun _=>true) true m 22 [a2]=some y2 from h2)
 obtain⟨e,op,num,site,xa,aa,ab,xc,ca,cb,he,hx,hse⟩:=open_te m _ _ (show DataW.trod enc Tryz.prog W 0 (fun _=>true) true m 27 [a3,a4,a5,a6,a7,a8,a9,a10]=some y3 from h3)
 simp only [List.cons.injEq,and_true] at he;obtain⟨rfl,rfl,rfl,rfl,rfl,rfl,rfl,rfl⟩:=he;obtain⟨⟨ga,oa,q1,q2⟩,gb,ob,q3,q4⟩:=TEL.parts hx;refine⟨ps,e,⟨nm,op,ch,a2,_,num,site,aa,ab,ca,cb,ga,oa,gb,ob,?_,hps,hx.atoms,q1,q2,q3,q4⟩,?_⟩
 ·congr 1
  apply Array.toList_inj.1;rw [hcs]
 refine sz_lay _ 0 [(ps,e)] (zr4 _) fun q hq=>?_
 rw [List.mem_singleton] at hq;subst hq;exact⟨hpz,hse⟩
end
end
section
open Go.ChangeShapes Go.WideShapes Go.ChangeAt Go.RowKit Go.Deep RG
theorem weights_each {H:Type}{P:Program}:∀ {ts:List TypeId}{ds:List (DataW H)}{j:Nat}{t:TypeId}{d:DataW H},ts[j]?=some t→ds[j]?=some d→∀ x∈d.weights P t,x∈DataW.weightsEach P ts ds
 | t :: ts,d :: ds,0,_,_,h1,h2,x,hx=>by
  simp only [List.getElem?_cons_zero,zt3] at h1 h2;subst h1 h2;rw [DataW.weightsEach];exact zr6 _ hx
 | t :: ts,d :: ds,j+1,_,_,h1,h2,x,hx=>by
  rw [List.getElem?_cons_succ] at h1 h2;rw [DataW.weightsEach];exact List.mem_append_right _ (weights_each h1 h2 x hx)
 | [],_,_,_,_,h1,_,_,_=>by simp at h1
 | _ :: _,[],_,_,_,_,h2,_,_=>by simp at h2
theorem bytes70:Tryz.prog.bytesOf 70=24:=by kernel_rfl
theorem open_fun_pl {H:Type}{enc:TypeId×Value→H}{W:World}{v:Value}{d:DataW H}{p:List MemPlace}{base:Nat}(hv:Value.okWide Tryz.prog W .any base 29 v) (h:DataW.Trod enc Tryz.prog W 0 (fun _=>true) true 29 v d p)
  (hw:∀ x∈d.weights Tryz.prog 29,x≤reachBytes) {ps:List Nm} {e:TE} (hf:TFunV W v ps e):ps.length*24≤140737488355328:=by
 obtain⟨nm,op,ch,pv,va,num,site,aa,ab,ca,cb,ga,oa,gb,ob,rfl,hp,-⟩:=hf;obtain⟨ad,c,rfl,-⟩:=hp.at';obtain⟨fuel,hf⟩:=h
 replace hf:DataW.trod enc Tryz.prog W 0 (fun _=>true) true fuel 29 [Value.string nm,.bool ch,.slice ad ps.length c,.int .i64 e.kind,.string e.name,.string op,.int .i64 num,.int .i64 site,va,.slice aa e.arms.length ca,.slice ab e.body.length cb]=some (d,p):=hf
 obtain⟨fs,hu,hL⟩:=under29;obtain⟨xs,m,rfl,hx,hcl,hxl,hg⟩:=DataW.trod_struct hu hf;have hfs:fs.toList.map (·.type)=[9,4,22,27]:=by
  have:=congrArg (List.map Prod.fst) hL;rw [List.map_map] at this;exact this
 have h2:fs.toList[2]?.map (fun f=>(f.type,f.offset))=some (22,2):=by rw [← List.getElem?_map,hL];rfl
 obtain⟨f2,hf2,he2⟩:=Option.map_eq_some_iff.1 h2;simp only [Prod.mk.injEq] at he2;rw [Array.getElem?_toList] at hf2;have g2:=hg 2 f2 hf2;rw [he2.1,he2.2,cells1.2.2.2.1] at g2
 replace g2:DataW.trod enc Tryz.prog W 0 (fun _=>true) true m 22 [Value.slice ad ps.length c]=xs[2]?:=g2
 have hl2:2<xs.length:=by
  have:=(zq7.1 hf2).1;omega
 rw [zq9 hl2] at g2;simp only [Prod.mk.injEq] at hx;obtain⟨rfl,rfl⟩:=hx;have hwt:∀ x∈(xs[2]'hl2).1.weights Tryz.prog 22,x≤reachBytes:=fun x hx0=>by
  refine hw x ?_;rw [DataW.weights,hu];simp only [];rw [hfs];refine weights_each (j:=2) (t:=22) rfl ?_ x hx0;rw [List.getElem?_map,zq9 hl2];rfl
 rcases DataW.trod_slice Tryz.underlying22 g2 with ⟨h0,_⟩|⟨a,len,cap,elems,rest,n,_,hcs,hx2,_,_,_,hel,_⟩
 ·simp only [List.cons.injEq,Value.slice.injEq,and_true] at h0
  rw [h0.2.1];decide
 simp only [List.cons.injEq,Value.slice.injEq,and_true] at hcs;obtain⟨rfl,h3,rfl⟩:=hcs;rw [hx2] at hwt;have h4:=hwt ((elems.length+rest.length)*24) (by
  rw [DataW.weights,Tryz.underlying22];simp only [zv1,bytes70];exact zr7)
 unfold reachBytes at h4;rw [h3,← hel];have:elems.length*24≤(elems.length+rest.length)*24:=Nat.mul_le_mul_right _ (by omega)
 omega
theorem fn_ok {H:Type}{enc:TypeId×Value→H}{W:World}{v:Value}{d:DataW H}{p:List MemPlace}{base:Nat}(hE:Lx.Env W) (hv:Value.okWide Tryz.prog W .any base 29 v) (h:DataW.Trod enc Tryz.prog W 0 (fun _=>true) true 29 v d p)
  (hw:∀ x∈d.weights Tryz.prog 29,x≤reachBytes):∃ ps e,FnOk Lx.Env isNm W v ps e:=by
 obtain⟨ps,e,hf,hs⟩:=open_fun hv h;exact⟨ps,e,nlaw,hE,hf,hs,open_fun_pl hv h hw hf⟩
end
end Go.Proofs.YtnkahlloahgifaaGreatDoor
