/- Part. -/
import Derived.Test.YtnkahlloahgifaaGreatDoorVFa
import Derived.Test.YtnkahlloahgifaaGreatDoorVBi
import Derived.StillTailTactics
import Derived.Deep.RegionHeld3
set_option linter.unusedSimpArgs false
set_option linter.unusedVariables false
namespace Go.Proofs.YtnkahlloahgifaaGreatDoor
open Go.RowKit RG Go.Maps
attribute [local go_sem] Oper.semAt_some
structure FlIn (w:World) (A:Ad) (f:Nat) (F:List Nd):Prop where
 c:FlatC w A f F
 live:∀ i,i<F.length→IMap Tryz.prog w (A.mb i) []
 inj:∀ i k,i<F.length→k<F.length→A.mb i=A.mb k→i=k
 ne:∀ i,i<F.length→A.mb i≠A.pl
 pos:0<F.length
 once:(vars F).Nodup
 nxt:∀ i,i<F.length→∀ k∈(nd F i).next,i<k∧k<F.length
 lvs:∀ i x,i<F.length→lv F i x=(RG.has (nd F i).uses x||(nd F i).next.any fun k=>lv F k x && !(RG.has (nd F k).binds x))
 few:(vars F).length≤1000000
 len:F.length≤20000
 kids:∀ i,i<F.length→(nd F i).next.length≤20000
 args:∀ i,i<F.length→(nd F i).e.args.length≤1000000∧∀ x∈(nd F i).e.args,x.size≤maxLen
def SL (A:Ad) (F:List Nd):Nat→Prop:=fun q=>∃ i,i<F.length∧q=A.mb i
structure FI (w:World) (A:Ad) (f:Nat) (F:List Nd) (j:Nat) (W:World):Prop where
 fq:Fq (SL A F) w W
 done:∀ i,i<F.length→F.length - j≤i→SetAt W (A.mb i) F (lv F i)
 todo:∀ i,i<F.length→i<F.length - j→IMap Tryz.prog W (A.mb i) []
 uses:∀ i,i<F.length→F.length - j≤i→∀ x∈(nd F i).uses,x∈vars F
 box:W.heap[w.heap.size]?=some (.cells #[.pointer (some ⟨f,0,none⟩)] 99 (0,0))
 res:W.heap[w.heap.size+1]?=some (.cells #[.bool false] 4 (0,0))
 it:∃ v,w.cell? ⟨f,2,none⟩=some v∧W.heap[w.heap.size+2]?=some (.cells #[v] 115 (0,0))
structure FX (w:World) (A:Ad) (f:Nat) (F:List Nd) (W:World):Prop where
 fq:Fq (SL A F) w W
 res:W.heap[w.heap.size+1]?=some (.cells #[.bool false] 4 (0,0))
 no:flowB F=false
def FA (w:World) (A:Ad) (F:List Nd) (tm:Nat→Nat→Value→Array Value) (j:Nat) (a:Act) (W:World):Prop :=
 ∃ bx,a={ tmps:=tm j bx (.int .i64 ((F.length - 1 - j:Nat):Int)),defers:=[] }∧W.heap[bx]?=some (.cells #[.pointer (some ⟨A.nb (F.length - 1 - j),0,none⟩)] 100 (0,0))∧w.heap.size+3≤bx
def FlP (w:World) (A:Ad) (f:Nat) (F:List Nd) (e:Ending) (w':World):Prop :=
 Fq (SL A F) w w'∧e = .returned (.bool (flowB F))∧(flowB F=true→FlatAt w' A f F)
theorem map_bk {B:Nat}{W W':World}(h:Bk B W W') {b:Nat}{l:List (Int×Int)}(hm:IMap Tryz.prog W b l):IMap Tryz.prog W' b l:=by
 obtain⟨es,c,ho⟩:=hm.obj
 exact hm.keep ((heap_bk h ho (.inr rfl)).trans ho.symm)
theorem cells_bk {B:Nat}{W W':World}(h:Bk B W W') {q:Nat}{cs:Array Value}{T:TypeId}{r:Nat×Nat}(ho:W.heap[q]?=some (.cells cs T r)):W'.heap[q]?=some (.cells cs T r):=heap_bk h ho (.inl rfl)
theorem Fq.bk {S:Nat→Prop}{w W W':World}{B:Nat}(h:Fq S w W) (b:Bk B W W') (hB:w.heap.size≤B):Fq S w W':=by
 have hb:=below_bk b
 exact⟨hb.os.trans h.os,hb.tape.trans h.tape,hb.output.trans h.output,Nat.le_trans h.size hb.size,fun q hq hs=>(hb.block q (by omega)).trans (h.block q hq hs)⟩
theorem Fq.then {S:Nat→Prop}{w W W':World}(h:Fq S w W) (b:Below W.heap.size W W'):Fq S w W' :=
 ⟨b.os.trans h.os,b.tape.trans h.tape,b.output.trans h.output,Nat.le_trans h.size b.size,fun q hq hs=>(b.block q (Nat.lt_of_lt_of_le hq h.size)).trans (h.block q hq hs)⟩
theorem FI.bk {w:World}{A:Ad}{f:Nat}{F:List Nd}{j:Nat}{W W':World}(h:FI w A f F j W) (b:Bk (w.heap.size+3) W W'):FI w A f F j W':=by
 obtain⟨v,i1,i2⟩:=h.it
 exact⟨h.fq.bk b (by omega),fun i hi hj=>map_bk b (h.done i hi hj),fun i hi hj=>map_bk b (h.todo i hi hj),h.uses,cells_bk b h.box,cells_bk b h.res,v,i1,cells_bk b i2⟩
theorem map_below {W W':World}(h:Below W.heap.size W W') {b:Nat}{l:List (Int×Int)}(hm:IMap Tryz.prog W b l):IMap Tryz.prog W' b l:=hm.keep (h.block _ hm.lt)
theorem FI.below {w:World}{A:Ad}{f:Nat}{F:List Nd}{j:Nat}{W W':World}(h:FI w A f F j W) (b:Below W.heap.size W W'):FI w A f F j W':=by
 obtain⟨v,i1,i2⟩:=h.it
 exact⟨h.fq.then b,fun i hi hj=>map_below b (h.done i hi hj),fun i hi hj=>map_below b (h.todo i hi hj),h.uses,heap_below b h.box,heap_below b h.res,v,i1,heap_below b i2⟩
theorem FX.bk {w:World}{A:Ad}{f:Nat}{F:List Nd}{W W':World}(h:FX w A f F W) (b:Bk (w.heap.size+3) W W'):FX w A f F W':=⟨h.fq.bk b (by omega),cells_bk b h.res,h.no⟩
theorem FA.bk {w:World}{A:Ad}{F:List Nd}{tm:Nat→Nat→Value→Array Value}{j:Nat}{a:Act}{W W':World}{B:Nat}(h:FA w A F tm j a W) (b:Bk B W W'):FA w A F tm j a W':=by
 obtain⟨bx,h1,h2,h3⟩:=h;exact⟨bx,h1,cells_bk b h2,h3⟩
theorem FlIn.sets {w:World}{A:Ad}{f:Nat}{F:List Nd}(h:FlIn w A f F):∀ q,SL A F q→∃ es c,w.heap[q]?=some (.map es c):=by
 rintro q ⟨i,hi,rfl⟩
 exact(h.live i hi).obj
theorem FlIn.at {w W:World}{A:Ad}{f:Nat}{F:List Nd}(h:FlIn w A f F) (q:Fq (SL A F) w W):FlatC W A f F :=
 h.c.fq q h.sets (fun ⟨i,hi,e⟩=>h.ne i hi e.symm)
theorem FlIn.nodes {w:World}{A:Ad}{f:Nat}{F:List Nd}(h:FlIn w A f F):∃ c g o,w.cell? ⟨f,2,none⟩=some (.slice (some ⟨g,o,none⟩) F.length c)∧∀ i,i<F.length→w.cell? ⟨g,o+i,none⟩=some (.pointer (some ⟨A.nb i,0,none⟩)):=by
 obtain⟨sl,sn,sv,f0,f1,⟨-,ad,c,rfl,f2⟩,f3⟩:=h.c.flat
 obtain⟨g,o,rfl,hat⟩:=f2 h.pos
 exact⟨c,g,o,by rw [cell_of_row _ _ 2 _ _ _ f0];rfl,fun i hi=>hat i _ (ptrs_at (by rw [List.getElem?_map,List.getElem?_range hi];rfl))⟩
structure FJ (W2:World) (A:Ad) (F:List Nd) (i j:Nat) (W:World):Prop where
 fq:Fq (fun q=>q=A.mb i) W2 W
 set:SetAt W (A.mb i) F (RG.has ((nd F i).uses.take j))
 us:∀ x∈(nd F i).uses.take j,x∈vars F
structure FJX (W2:World) (A:Ad) (F:List Nd) (i rb:Nat) (W:World):Prop where
 fq:Fq (fun q=>q=A.mb i∨q=rb) W2 W
 res:W.heap[rb]?=some (.cells #[.bool false] 4 (0,0))
 no:flowB F=false
theorem vset_nil (F:List Nd):VSet F (RG.has [])=[]:=by
 unfold VSet named
 rw [List.filter_eq_nil_iff.2 (fun x _=>by simp [RG.has])]
 rfl
theorem flow_no {F:List Nd}{i:Nat}{x:Nm}(hi:i<F.length) (hx:x∈(nd F i).uses) (h:RG.has (vars F) x=false):flowB F=false:=by
 unfold flowB
 have:(F.all fun d=>d.uses.all (RG.has (vars F)))=false:=by
  cases hq:(F.all fun d=>d.uses.all (RG.has (vars F))) with
  | false=>rfl
  | true =>
   rw [List.all_eq_true] at hq
   have:=hq _ (nd_mem hi)
   rw [List.all_eq_true] at this
   rw [this x hx] at h
   cases h
 rw [this];rfl
theorem Fq.mono {S S':Nat→Prop}{w W:World}(h:Fq S w W) (hS:∀ q,S q→S' q):Fq S' w W:=⟨h.os,h.tape,h.output,h.size,fun q hq hs=>h.block q hq (fun x=>hs (hS q x))⟩
theorem Fq.setCell {S:Nat→Prop}{w W:World}(h:Fq S w W) (a:Addr) (v:Value) (ha:S a.block∨w.heap.size≤a.block):Fq S w (W.setCell a v) :=
 ⟨h.os,h.tape,h.output,by have:=h.size;simpa using this,fun q hq hs=>(Below.heap_setCell W a v q (by rintro rfl;rcases ha with ha | ha;exact hs ha;omega)).trans (h.block q hq hs)⟩
theorem Kb.setCell {w W:World}(h:Kb w W) {b o:Nat}{cs:Array Value}{T:TypeId}{r:Nat×Nat}(hb:W.heap[b]?=some (.cells cs T r)) (v:Value):Kb w (W.setCell ⟨b,o,none⟩ v) :=
 ⟨by have:=h.1;simpa using this,fun q ob ho hc hw=>by
  have h1:=h.2 q ob ho hc hw
  refine(Below.heap_setCell W ⟨b,o,none⟩ v q (fun e=>?_)).trans h1
  have e':q=b:=e
  subst e'
  rw [hb] at h1
  simp only [Option.some.injEq] at h1
  subst h1
  cases hc⟩
theorem Fq.kb {S:Nat→Prop}{w W:World}(h:Fq S w W) (hS:∀ q,S q→∃ es c,w.heap[q]?=some (.map es c)):Kb w W :=
 ⟨h.size,fun q o ho hc hw=>(h.block q (Array.getElem?_eq_some_iff.1 ho).1 (fun hs=>by
  obtain⟨es,c,hm⟩:=hS q hs
  rw [hm] at ho
  simp only [Option.some.injEq] at ho
  subst ho
  cases hw)).trans ho⟩
structure FK (W2:World) (A:Ad) (F:List Nd) (i k:Nat) (W:World):Prop where
 fq:Fq (fun q=>q=A.mb i) W2 W
 set:SetAt W (A.mb i) F (fun x=>RG.has (nd F i).uses x||((nd F i).next.take k).any fun m=>lv F m x && !(RG.has (nd F m).binds x))
theorem FK.link {w W2 W:World}{A:Ad}{f:Nat}{F:List Nd}{j i k m:Nat}(h:FlIn w A f F) (hi:FI w A f F j W2) (hk:FK W2 A F i k W) (h2:FlatC W2 A f F) (hmm:m<F.length) (hj:F.length - j≤m) (hne:m≠i) (hiN:i<F.length) (hm:∃ es c,W2.heap[A.mb i]?=some (.map es c)):LinkAt W A f F m:=by
 have h3:=h2.fq hk.fq (fun q e=>by rw [e];exact hm) (fun e=>h.ne i hiN e.symm)
 obtain⟨sl,sn,sv,f0,f1,f2,f3⟩:=h3.flat
 obtain⟨lv',xv,l0,l1⟩:=h3.link m hmm
 obtain⟨sx,n0,n1⟩:=h3.node m hmm
 have hs:=hi.done m hmm hj
 refine⟨by rw [cell_of_row _ _ 4 _ _ _ f0];rfl,h3.pmap,⟨lv',by rw [cell_of_row _ _ 0 _ _ _ l0];rfl,l1⟩,by rw [cell_of_row _ _ 2 _ _ _ l0];rfl,by rw [cell_of_row _ _ 2 _ _ _ n0];rfl,?_,h.once,
  fun x hx=>binds_vars hmm hx,h.few,Nat.le_trans (binds_le hmm) h.few⟩
 exact hs.keep (hk.fq.block _ hs.lt (fun e=>hne (h.inj m i hmm hiN e)))
theorem FK.fin {w W2 wr:World}{A:Ad}{f:Nat}{F:List Nd}{i j:Nat}(H:FlIn w A f F) (I2:FI w A f F j W2) (hi:i=F.length - 1 - j) (hj:j<F.length) (us:∀ x∈(nd F i).uses,x∈vars F) (hk:FK W2 A F i (nd F i).next.length wr):FI w A f F (j+1) wr:=by
 have hiN:i<F.length:=by omega
 have hm:∀ q,q=A.mb i→∃ es c,W2.heap[q]?=some (.map es c):=fun q e=>by rw [e];exact(I2.todo i hiN (by omega)).obj
 have hset:=hk.set
 rw [List.take_length] at hset
 obtain⟨v,i1,i2⟩:=I2.it
 refine⟨I2.fq.trans ?_,fun i' hi' hj'=>?_,fun i' hi' hj'=>?_,fun i' hi' hj'=>?_,hk.fq.obj hm I2.box,hk.fq.obj hm I2.res,v,i1,hk.fq.obj hm i2⟩
 ·exact hk.fq.mono fun q e=>⟨i,hiN,e⟩
 ·by_cases e:i'=i
  ·subst e
   exact hset.congr fun x _=>(H.lvs i' x hi').symm
  ·have h1:=I2.done i' hi' (by omega)
   exact h1.keep (hk.fq.block _ h1.lt (fun e2=>e (H.inj i' i hi' hiN e2)))
 ·have h1:=I2.todo i' hi' (by omega)
  exact h1.keep (hk.fq.block _ h1.lt (fun e2=>by have:=H.inj i' i hi' hiN e2;omega))
 ·by_cases e:i'=i
  ·subst e;exact us
  ·exact I2.uses i' hi' (by omega)
theorem FI.flowB {w W:World}{A:Ad}{f:Nat}{F:List Nd}(H:FlIn w A f F) (h:FI w A f F F.length W):flowB F=(vars F).all fun x => !(cross F 0 x):=by
 have:(F.all fun d=>d.uses.all (RG.has (vars F)))=true:=by
  rw [List.all_eq_true]
  intro d hd
  obtain⟨i,hi⟩:=List.getElem?_of_mem hd
  have hl:=(List.getElem?_eq_some_iff.1 hi).1
  have e:=nd_some hl
  rw [hi,Option.some.injEq] at e
  rw [List.all_eq_true]
  intro x hx
  rw [e] at hx
  exact has_iff.2 (h.uses i hl (by omega) x hx)
 unfold RG.flowB
 rw [this,Bool.true_and]
theorem FI.link0 {w W:World}{A:Ad}{f:Nat}{F:List Nd}(H:FlIn w A f F) (h:FI w A f F F.length W):LinkAt W A f F 0:=by
 have h3:=H.at h.fq
 obtain⟨sl,sn,sv,f0,f1,f2,f3⟩:=h3.flat
 obtain⟨lv',xv,l0,l1⟩:=h3.link 0 H.pos
 obtain⟨sx,n0,n1⟩:=h3.node 0 H.pos
 exact⟨by rw [cell_of_row _ _ 4 _ _ _ f0];rfl,h3.pmap,⟨lv',by rw [cell_of_row _ _ 0 _ _ _ l0];rfl,l1⟩,by rw [cell_of_row _ _ 2 _ _ _ l0];rfl,by rw [cell_of_row _ _ 2 _ _ _ n0];rfl,h.done 0 H.pos (by omega),H.once,
  fun x hx=>binds_vars H.pos hx,H.few,Nat.le_trans (binds_le H.pos) H.few⟩
theorem vset_zero {F:List Nd}{q:Nm→Bool}{n:Nat}(h:n=(VSet F q).length):((n:Int)==0)=(vars F).all fun x => !q x:=by
 rw [h,vset_length,Bool.eq_iff_iff]
 simp only [beq_iff_eq,List.all_eq_true,Bool.not_eq_true',Int.natCast_eq_zero,List.length_eq_zero_iff]
 unfold named
 rw [List.filter_eq_nil_iff]
 simp
theorem Fq.trans' {S S':Nat→Prop}{w W W':World}(h:Fq S w W) (k:Fq S' W W') (hs:∀ q,q<w.heap.size→S' q→S q):Fq S w W' :=
 ⟨k.os.trans h.os,k.tape.trans h.tape,k.output.trans h.output,Nat.le_trans h.size k.size,fun q hq hn=>(k.block q (Nat.lt_of_lt_of_le hq h.size) (fun x=>hn (hs q hq x))).trans (h.block q hq hn)⟩
theorem Fq.putObj {S:Nat→Prop}{w W:World}(h:Fq S w W) (D:Nat) (o:Obj) (hD:w.heap.size≤D):Fq S w (W.putObj D o) :=
 ⟨h.os,h.tape,h.output,by have:=h.size;simpa using this,fun q hq hn=>(World.putObj_heap_other (by omega)).trans (h.block q hq hn)⟩
theorem Fq.kb' {S:Nat→Prop}{w W:World}(h:Fq S w W) (hS:∀ q,S q→∃ o,w.heap[q]?=some o∧(o.isCells=true∨o.isWalk=true)):Kb w W :=
 ⟨h.size,fun q o ho hc hw=>(h.block q (Array.getElem?_eq_some_iff.1 ho).1 (fun hs=>by
  obtain⟨o2,hm,h2⟩:=hS q hs
  rw [hm] at ho
  simp only [Option.some.injEq] at ho
  subst ho
  rcases h2 with h2 | h2
  ·rw [h2] at hc;cases hc
  ·rw [h2] at hw;cases hw)).trans ho⟩
theorem flow_end {w W V:World}{A:Ad}{f D:Nat}{F:List Nd}{b:Bool}(H:FlIn w A f F) (hI:FI w A f F F.length W) (hb:Below W.heap.size W V) (hD:w.heap.size+1<D) (e:b=flowB F) (hq:V.heap[w.heap.size+1]?=some (.cells #[.bool false] 4 (0,0))) :
  FlP w A f F (.returned (.bool b)) ((V.setCell ⟨w.heap.size+1,0,none⟩ (.bool b)).putObj D (.deferred none)):=by
 have hfq:Fq (SL A F) w ((V.setCell ⟨w.heap.size+1,0,none⟩ (.bool b)).putObj D (.deferred none)):=((hI.fq.then hb).setCell _ _ (.inr (by show w.heap.size≤w.heap.size+1;omega))).putObj _ _ (by omega)
 refine⟨hfq,by rw [e],fun _=>(H.at hfq).full fun i hi=>?_⟩
 have h1:=hI.done i hi (by omega)
 have h0:A.mb i<w.heap.size:=(H.live i hi).lt
 refine h1.keep ?_
 rw [World.putObj_heap_other (by omega),Below.heap_setCell _ _ _ _ (by show A.mb i≠w.heap.size+1;omega)]
 exact hb.block _ h1.lt
theorem link_drew {W:World}{A:Ad}{f:Nat}{F:List Nd}{i:Nat}(h:LinkAt W A f F i):LinkAt W.drew A f F i:=h.keep (Below.drew (Below.refl _ _))
def flowTm2 (w:World) (A:Ad) (f n i bx ib:Nat) (v:Value) (s:Nm):Array Value := #[.pointer (some ⟨f,0,none⟩),.pointer (some ⟨w.heap.size,0,none⟩),.pointer (some ⟨w.heap.size+1,0,none⟩),undef,.pointer (some ⟨bx,0,none⟩),.string s,undef,undef,undef,undef,.pointer (some ⟨f,0,none⟩),.pointer (some ⟨f,0,none⟩),.pointer (some ⟨f,2,none⟩),v,.func (.func 118) #[] #[.pointer (some ⟨w.heap.size+1+1,0,none⟩)],.int .i64 i,.pointer (some ⟨A.nb i,0,none⟩),.pointer (some ⟨A.nb i,0,none⟩),.func (.func 95) #[] #[.pointer (some ⟨ib,0,none⟩)],.string s,undef,undef,undef,undef,undef,undef,undef,undef,undef,undef,undef,undef,undef,undef,undef,undef,undef,undef,undef,undef,undef,undef,undef,undef,undef,undef,undef,undef,undef,undef,undef,undef,undef,undef,undef,undef,undef,undef,undef,undef,undef,undef,undef]
def flowTm (w:World) (A:Ad) (f n:Nat) (v:Value) (j bx:Nat) (iv:Value):Array Value := #[.pointer (some ⟨f,0,none⟩),.pointer (some ⟨w.heap.size,0,none⟩),.pointer (some ⟨w.heap.size+1,0,none⟩),undef,.pointer (some ⟨bx,0,none⟩),undef,undef,undef,undef,undef,.pointer (some ⟨f,0,none⟩),.pointer (some ⟨f,0,none⟩),.pointer (some ⟨f,2,none⟩),v,.func (.func 118) #[] #[.pointer (some ⟨w.heap.size+1+1,0,none⟩)],iv,.pointer (some ⟨A.nb (n - 1 - j),0,none⟩),undef,undef,undef,undef,undef,undef,undef,undef,undef,undef,undef,undef,undef,undef,undef,undef,undef,undef,undef,undef,undef,undef,undef,undef,undef,undef,undef,undef,undef,undef,undef,undef,undef,undef,undef,undef,undef,undef,undef,undef,undef,undef,undef,undef,undef,undef]
set_option maxHeartbeats 2000000 in
set_option maxRecDepth 20000 in
theorem flow_any {w:World}{A:Ad}{f:Nat}{F:List Nd}(h:FlIn w A f F):Calls Tryz.prog 90 #[.pointer (some ⟨f,0,none⟩)] w (FlP w A f F):=by
 obtain⟨c,g,o,c2,hat⟩:=h.nodes
 have H:=zh h
 have HAT:=zh hat
 have C2:=zh c2
 obtain⟨n,hn⟩:∃ n,n=F.length:=⟨_,rfl⟩
 rw [← hn] at c2
 have HN:=zh hn
 have b1:f<w.heap.size:=World.block_lt_of_cell? w _ c2
 clear h hat hn
 refine(callsIn_wide (n:=3)).1 (callsIn_of_wp_marks Tryz.func90 rfl trivial ?_ rfl)
 refine wpIn_wide.2 ?_
 simp only [Tryz.ntmps90,List.size_toArray,List.length_cons,List.length_nil,Nat.reduceAdd,Nat.reduceSub,Array.replicate_succ,Array.replicate_zero,List.push_toArray,List.append_toArray,List.nil_append,List.cons_append]
 go_wp2_with fail
 refine(backwardN_any _ _ _ _).mono ?_
 rintro e w1 ⟨rfl,rfl⟩
 go_wp2_with fail
 obtain⟨W0,hW0⟩:∃ W,W=((w.alloc (.cells #[.pointer (some ⟨f,0,none⟩)] 99)).alloc (.cells #[.bool false] 4)).alloc (.cells #[.slice (some ⟨g,o,none⟩) n c] 115):=⟨_,rfl⟩
 obtain⟨n0,n1,n2,nb⟩:=new3 w (.cells #[.pointer (some ⟨f,0,none⟩)] 99) (.cells #[.bool false] 4) (.cells #[.slice (some ⟨g,o,none⟩) n c] 115)
 rw [← hW0] at n0 n1 n2 nb ⊢
 have hZ:W0.heap.size=w.heap.size+3:=by rw [hW0];simp
 have I0:Hid (FI w A f F 0 W0):=⟨Fq.of_below nb (Nat.le_refl _),fun i hi hj=>by omega,fun i hi _=>map_below nb (H.out.live i hi),fun i hi hj=>by omega,n0,n1,_,C2.out,by rw [← HN.out];exact n2⟩
 have HZ:=zh hZ
 clear n0 n1 n2 nb hW0 hZ c2 b1
 refine range_outer (P:=Tryz.prog) (n:=1) (B:=w.heap.size+3) (m:=n) (encs:=bkEnc n A.nb) (I:=FI w A f F) (X:=FX w A f F)
  (A:=FA w A F (flowTm w A f n (.slice (some ⟨g,o,none⟩) n c)))
  (Rd:=BkRd (w.heap.size+1+1) (some ⟨g,o,none⟩) c g o n A.nb) rfl (enters_of Tryz.func118 (by kernel_rfl) rfl) (backN_iter _ _ _ _ _ _ _ (fun _=>rfl) (by have:=H.out.len;have:=HN.out;omega)) (by rw [HZ.out];exact Nat.le_refl _) ?rd (fun j W W' h b=>h.bk b) (fun W W' h b=>h.bk b) (fun j a W W' h b=>h.bk b) (fun j W W' h b=>h.below b) (fun _=>rfl) I0.out ?assign ?body ?done ?stop
 case rd =>
  intro j W hI
  obtain⟨v,i1,i2⟩:=hI.it
  rw [C2.out] at i1
  simp only [Option.some.injEq] at i1
  subst i1
  exact⟨by rw [cell_of_row _ _ 0 _ _ _ i2,← HN.out];rfl,fun k hk=>hI.fq.kept H.out.sets _ _ (HAT.out k (by rw [← HN.out];exact hk))⟩
 case assign =>
  intro l j W hI hj
  have HI:=zh hI
  clear hI
  unfold bkEnc
  simp only [List.zip_toArray,List.zip_cons_cons,List.zip_nil_left,List.foldl_toArray',List.foldl_cons,List.foldl_nil,zq4,zq6,zq5]
  gi_wp2
  refine⟨(Below.refl _ _).alloc (Nat.le_refl _) _,W.heap.size,?_,?_,?_⟩
  ·rw [← HN.out];rfl
  ·rw [← HN.out];exact heap_alloc_new W _
  ·have h1:=HI.out.it
   obtain⟨v,_,i2⟩:=h1
   have:=(Array.getElem?_eq_some_iff.1 i2).1
   omega
 case body =>
  rintro l j a₁ W hl ⟨r,hr⟩ hI ⟨bx,rfl,hbx,hbl⟩ hj
  obtain⟨i,hi⟩:∃ i,i=n - 1 - j:=⟨_,rfl⟩
  rw [← HN.out,← hi] at hbx
  unfold flowTm
  rw [← HN.out,← hi]
  have hiN:i<F.length:=by rw [← HN.out];omega
  have HI:=zh hI
  have FC:=zh (H.out.at hI.fq)
  have HR:=zh hr
  have HBX:=zh hbx
  have HBL:=zh hbl
  have HII:=zh (And.intro hi (And.intro hj hiN))
  have x0:W.cell? ⟨bx,0,none⟩=some (.pointer (some ⟨A.nb i,0,none⟩)):=by rw [cell_of_row _ _ 0 _ _ _ hbx];rfl
  have bb:bx<W.heap.size:=(Array.getElem?_eq_some_iff.1 hbx).1
  clear hI hr hbx hbl hl hi hj hiN
  gi_wp2
  refine⟨trivial,(CallsIn.inRound l (callsIn_wide.2 (uses_any (A.nb i) W))).mono ?_⟩
  rintro e W1 ⟨rfl,rfl⟩
  gi_wp2
  obtain⟨ib,hib⟩:∃ ib,ib=W.heap.size:=⟨_,rfl⟩
  obtain⟨W2,hW2⟩:∃ W2,W2=W.alloc (.cells #[.pointer (some ⟨A.nb i,0,none⟩)] 100):=⟨_,rfl⟩
  rw [← hW2,← hib]
  have B2:Hid (Below W.heap.size W W2):=by rw [hW2];exact(Below.refl _ _).alloc (Nat.le_refl _) _
  have IB:Hid (W2.heap[ib]?=some (.cells #[.pointer (some ⟨A.nb i,0,none⟩)] 100 (0,0))):=by rw [hW2,hib];exact heap_alloc_new W _
  have FC2:=zh (FC.out.below B2.out)
  have HR2:=zh (heap_below B2.out HR.out)
  have BX2:=zh (heap_below B2.out HBX.out)
  have IBL:Hid (w.heap.size+3≤ib):=by have:=HBL.out;rw [hib];show _≤_;omega
  clear x0 bb hW2 hib
  obtain⟨sx,nd1,nd2⟩:=FC2.out.node i HII.out.2.2
  obtain⟨va,aa,ab,ca,cb,hxc⟩:=(FC2.out.exp i HII.out.2.2).open
  obtain⟨ad2,c2,hva,hargs⟩:=hxc.args.at'
  have HXC:=zh hxc
  have ND1:=zh nd1
  have ND2:=zh nd2
  have HVA:=zh hva
  have HAR:=zh hargs
  clear nd1 nd2 hxc hva hargs
  obtain⟨na,hna⟩:∃ na,na=(nd F i).e.args.length:=⟨_,rfl⟩
  have HNA:=zh hna
  have AL:=zh (H.out.args i HII.out.2.2)
  have I2:Hid (FI w A f F j W2):=HI.out.below B2.out
  have EMP:Hid (IMap Tryz.prog W2 (A.mb i) []):=I2.out.todo i HII.out.2.2 (by have:=HII.out;have:=HN.out;omega)
  have SM:Hid (∀ q,q=A.mb i→∃ es c,W2.heap[q]?=some (.map es c)):=fun q e=>by rw [e];exact EMP.out.obj
  have HG:Hid (0<(nd F i).e.args.length→∃ g2 o2,ad2=some ⟨g2,o2,none⟩∧∀ (k:Nat) x,(nd F i).e.args[k]?=some x→∃ m:Int,W2.cell? ⟨g2,o2+k*2,none⟩=some (.string x)∧W2.cell? ⟨g2,o2+k*2+1,none⟩=some (.int .i64 m)):=HAR.out
  obtain⟨g2,o2,hg2,hat2⟩:∃ g2 o2,(0<(nd F i).e.args.length→ad2=some ⟨g2,o2,none⟩)∧∀ (k:Nat) x,(nd F i).e.args[k]?=some x→∃ m:Int,W2.cell? ⟨g2,o2+k*2,none⟩=some (.string x)∧W2.cell? ⟨g2,o2+k*2+1,none⟩=some (.int .i64 m):=by
   by_cases h0:0<(nd F i).e.args.length
   ·obtain⟨g2,o2,e1,e2⟩:=HG.out h0
    exact⟨g2,o2,fun _=>e1,e2⟩
   ·exact⟨0,0,fun h=>absurd h h0,fun k x hx=>by have:=(List.getElem?_eq_some_iff.1 hx).1;omega⟩
  have HG2:=zh hg2
  have HAT2:=zh hat2
  clear hna hg2 hat2 HG HAR
  refine range_inner (P:=Tryz.prog) (n:=1) (k:=1) (B:=W2.heap.size) (m:=(nd F i).uses.length) (encs:=usEnc (nd F i).e.args) (I:=FJ W2 A F i) (X:=FJX W2 A F i (w.heap.size+1))
   (A:=fun j2 a W'=>a={ tmps:=flowTm2 w A f n i bx ib (.slice (some ⟨g,o,none⟩) n c) ((nd F i).uses.getD j2 ⟨#[]⟩),defers:=[] })
   (Rd:=UsRd ib (A.nb i) (A.xb i) (A.xo i) ad2 c2 g2 o2 (nd F i).e.args) HR2.out rfl (enters_of Tryz.func95 (by kernel_rfl) rfl) (uses_iter _ _ _ _ _ _ _ _ _ HG2.out AL.out.1) (Nat.le_refl _) ?rd2
   (fun j W W' h b=>⟨h.fq.bk b (Nat.le_refl _),map_bk b h.set,h.us⟩) (fun W W' h b=>⟨h.fq.bk b (Nat.le_refl _),cells_bk b h.res,h.no⟩) (fun _ _ _ _ h _=>h) (fun j W W' h b=>⟨h.fq.then b,map_below b h.set,h.us⟩) (fun _=>rfl)
   ⟨Fq.refl _ _,by unfold SetAt;rw [List.take_zero,vset_nil];exact EMP.out,fun x hx=>absurd hx (by simp)⟩ ?assign2 ?body2 ?done2 ?stop2
  case rd2 =>
   intro j2 W' h
   have hk:=h.fq.kept SM.out
   have hc5:=HXC.out.c5
   rw [HVA.out] at hc5
   exact⟨by rw [cell_of_row _ _ 0 _ _ _ (h.fq.obj SM.out IB.out)];rfl,by rw [cell_of_row _ _ 0 _ _ _ (h.fq.obj SM.out ND1.out)];rfl,hk _ _ hc5,fun k x hx=>by obtain⟨m,e1,e2⟩:=HAT2.out k x hx;exact⟨m,hk _ _ e1,hk _ _ e2⟩⟩
  case assign2 =>
   intro l2 j2 W' hI2 hj2
   unfold usEnc
   simp only [List.zip_toArray,List.zip_cons_cons,List.zip_nil_left,List.foldl_toArray',List.foldl_cons,List.foldl_nil,zq4,zq6,zq5]
   gi_wp2
   exact⟨Below.refl _ _,rfl⟩
  case body2 =>
   rintro l2 j2 a2 W' hl2 ⟨r2,hr2⟩ hJ rfl hj2
   obtain⟨x,hx⟩:∃ x,(nd F i).uses[j2]?=some x:=⟨_,List.getElem?_eq_getElem hj2⟩
   have hs:(nd F i).uses.getD j2 ⟨#[]⟩=x:=by rw [List.getD_eq_getElem?_getD,hx];rfl
   unfold flowTm2
   rw [hs]
   have hxu:x∈(nd F i).uses:=List.mem_of_getElem? hx
   have hxa:x∈(nd F i).e.args:=by unfold Nd.uses at hxu;exact(List.mem_filter.1 hxu).1
   have HJ:=zh hJ
   have HX:=zh hx
   have HXU:=zh hxu
   have HXS:=zh (AL.out.2 x hxa)
   have FC3:Hid (FlatC W' A f F):=FC2.out.fq hJ.fq SM.out (fun e=>H.out.ne i HII.out.2.2 e.symm)
   obtain⟨sl,sn,sv,f0,-,-,-⟩:=FC3.out.flat
   have f1:W'.cell? ⟨w.heap.size,0,none⟩=some (.pointer (some ⟨f,0,none⟩)):=by rw [cell_of_row _ _ 0 _ _ _ (hJ.fq.obj SM.out I2.out.box)];rfl
   have f4:W'.cell? ⟨f,4,none⟩=some (.map (some A.pl)):=by rw [cell_of_row _ _ 4 _ _ _ f0];rfl
   have RES:=zh (hJ.fq.obj SM.out I2.out.res)
   have BX3:=zh (hJ.fq.obj SM.out BX2.out)
   have ND3:=zh (hJ.fq.obj SM.out ND1.out)
   have KB:=zh (hJ.fq.kb SM.out)
   clear hx hs hxu hxa hJ hr2 hl2 f0 hj2
   by_cases hv:RG.has (vars F) x=true
   ·have HV:=zh hv
    have HXV:=zh (has_iff.1 hv)
    have x0:W'.cell? ⟨bx,0,none⟩=some (.pointer (some ⟨A.nb i,0,none⟩)):=by rw [cell_of_row _ _ 0 _ _ _ BX3.out];rfl
    have x2:W'.cell? ⟨A.nb i,2,none⟩=some (.map (some (A.mb i))):=by rw [cell_of_row _ _ 2 _ _ _ ND3.out];rfl
    have HPL:=zh (place_lt HXV.out)
    gi_wp2_with (first | (gi_at_lookup;refine wpListIn_pis rfl _ _ rfl A.pl (vars F) rfl FC3.out.pmap x HXS.out rfl ?_;intro c0 hc0;have HC0:=zh (hc0 _ (place_at HXV.out));clear hc0;rw [hv]) | (gi_at_mapUpdate;refine wpListIn_iput rfl _ _ _ 108 rfl Tryz.underlying108 (A.mb i) _ rfl HJ.out.set (by have:=vset_le (F:=F) (RG.has ((nd F i).uses.take j2));have:=H.out.few;omega) (place F x) 1 (by rw [← HC0.out];rfl) rfl (wf_nat (by have:=H.out.few;have:=HPL.out;omega)) (by decide) ?_))
    intro W3 hm3 hg3
    gi_wp2
    have hf3:Fq (fun q=>q=A.mb i) W' W3:=(Fq.refl _ W').grown hg3 (fun q e _=>by simp at e;exact e.symm)
    have hmap:∀ q,q=A.mb i→∃ es c,W'.heap[q]?=some (.map es c):=fun q e=>by rw [e];exact IMap.obj HJ.out.set
    refine⟨hf3.kb hmap,HJ.out.fq.trans ?_,(SetAt.put H.out.once HXV.out hm3).congr fun y _=>?_,fun y hy=>?_⟩
    ·exact⟨hf3.os,hf3.tape,hf3.output,hf3.size,hf3.block⟩
    ·rw [List.take_add_one,HX.out]
     simp only [Option.toList_some,has_append]
     congr 1
     simp [RG.has,eq_comm]
    ·rw [List.take_add_one,HX.out] at hy
     rcases List.mem_append.1 hy with hy | hy
     ·exact HJ.out.us y hy
     ·simp at hy;subst hy;exact HXV.out
   ·have hv':RG.has (vars F) x=false:=by simpa using hv
    have HNO:=zh (flow_no HII.out.2.2 HXU.out hv')
    have q0:W'.cell? ⟨w.heap.size+1,0,none⟩=some (.bool false):=by rw [cell_of_row _ _ 0 _ _ _ RES.out];rfl
    have qf:W'.frozen? ⟨w.heap.size+1,0,none⟩=false:=frozen_of_row W' _ 0 _ _ RES.out
    clear hv
    gi_wp2_with (gi_at_lookup;refine wpListIn_pis rfl _ _ rfl A.pl (vars F) rfl FC3.out.pmap x HXS.out rfl ?_;intro c0 _;rw [hv'])
    exact⟨(Kb.refl W').setCell RES.out _,(HJ.out.fq.mono fun q e => .inl e).setCell _ _ (.inl (.inr rfl)),heap_setCell_same W' _ 0 _ _ _ RES.out,HNO.out⟩
  case done2 =>
   intro W3 hJ
   have HJ:=zh hJ
   have KK:=zh (hJ.fq.kept SM.out)
   have FC3:Hid (FlatC W3 A f F):=FC2.out.fq hJ.fq SM.out (fun e=>H.out.ne i HII.out.2.2 e.symm)
   have BX3:=zh (hJ.fq.obj SM.out BX2.out)
   have ND3:=zh (hJ.fq.obj SM.out ND1.out)
   have x0:W3.cell? ⟨bx,0,none⟩=some (.pointer (some ⟨A.nb i,0,none⟩)):=by rw [cell_of_row _ _ 0 _ _ _ BX3.out];rfl
   obtain⟨-,adx,cx,hsx,hatx⟩:=ND2.out
   have HAX:=zh hatx
   obtain⟨nx,hnx⟩:∃ nx,nx=(nd F i).next.length:=⟨_,rfl⟩
   have HNX:=zh hnx
   have x1:W3.cell? ⟨A.nb i,1,none⟩=some (.slice adx nx cx):=by rw [cell_of_row _ _ 1 _ _ _ ND3.out,hsx,← hnx];rfl
   have hnz:(nx:Int)≤1000000000:=by have:=H.out.kids i HII.out.2.2;omega
   clear hJ hatx hsx hnx
   gi_wp2
   gi_loopw [41] (fun iv wr=>∃ k:Nat,k≤nx∧iv = .int .i64 k∧FK W2 A F i k wr) (fun iv _=>nx - (intOf iv).toNat)
   case atStart=>exact⟨0,Nat.zero_le _,rfl,HJ.out.fq,by have:=HJ.out.set;rw [List.take_length] at this;exact this.congr fun x _=>by simp⟩
   case round =>
    obtain⟨k,hk,rfl,hfk⟩:=hrel
    have FKK:=zh hfk
    have KL:=zh hk
    clear hk hfk x0 x1
    by_cases hlt:k<nx
    ·obtain⟨m,hm⟩:∃ m,(nd F i).next[k]?=some m:=⟨_,List.getElem?_eq_getElem (by rw [← HNX.out];exact hlt)⟩
     obtain⟨hmi,hmF⟩:=H.out.nxt i HII.out.2.2 m (List.mem_of_getElem? hm)
     obtain⟨gx,ox,rfl,hax⟩:=HAX.out (by rw [← HNX.out];omega)
     have hkk:=FKK.out.fq.kept SM.out
     have x1:=hkk _ _ (hax k _ (ptrs_at (by rw [List.getElem?_map,hm];rfl)))
     have x0:wr.cell? ⟨bx,0,none⟩=some (.pointer (some ⟨A.nb i,0,none⟩)):=by rw [cell_of_row _ _ 0 _ _ _ (FKK.out.fq.obj SM.out BX2.out)];rfl
     have x2:wr.cell? ⟨A.nb i,2,none⟩=some (.map (some (A.mb i))):=by rw [cell_of_row _ _ 2 _ _ _ (FKK.out.fq.obj SM.out ND1.out)];rfl
     have x3:wr.cell? ⟨w.heap.size,0,none⟩=some (.pointer (some ⟨f,0,none⟩)):=by rw [cell_of_row _ _ 0 _ _ _ (FKK.out.fq.obj SM.out I2.out.box)];rfl
     have LK:=zh (FKK.out.link H.out I2.out FC2.out hmF (by have:=HII.out;have:=HN.out;omega) (by omega) HII.out.2.2 (SM.out _ rfl))
     have hmx:Tryz.prog.follows .mixedOrders=true:=by kernel_rfl
     have HM:=zh hm
     have HLT:=zh hlt
     have BND:Hid ((vars F).length≤1000000):=zh H.out.few
     clear hm hmi hmF hax hkk hlt
     gi_wp2
     have UN:∀ (w1:World) (b1:Nat),Below wr.heap.size wr w1→wr.heap.size≤b1→SetAt w1 b1 F (cross F m) →
       CallsIn (Fence.wide.inRound l) 0 Tryz.prog 77 #[.map (some (A.mb i)),.slice (some ⟨w1.heap.size,0,none⟩) 1 1] (w1.alloc (.cells #[.map (some b1)] 107)) fun e w5=>e = .returned (.tuple #[])∧FK W2 A F i (k+1) w5:=by
      intro w1 b1 h1 h2 h3
      obtain⟨W4,hW4⟩:∃ W4,W4=w1.alloc (.cells #[.map (some b1)] 107):=⟨_,rfl⟩
      have a1:Below wr.heap.size wr W4:=by rw [hW4];exact h1.alloc h1.size _
      have a2:Below w1.heap.size w1 W4:=by rw [hW4];exact(Below.refl _ _).alloc (Nat.le_refl _) _
      have a3:W4.cell? ⟨w1.heap.size,0,none⟩=some (.map (some b1)):=by rw [hW4,cell_of_row _ _ 0 _ _ _ (heap_alloc_new w1 _)];rfl
      rw [← hW4]
      refine(CallsIn.inRound l (callsIn_wide.2 (union_any (c:=1) (map_below a1 FKK.out.set) (map_below a2 h3) (by have:A.mb i<wr.heap.size:=FKK.out.set.lt;omega) a3 (Nat.lt_of_le_of_lt (Nat.add_le_add (vset_le _) (vset_le _)) (by have:=BND.out;omega))))).mono ?_
      rintro e w5 ⟨rfl,hg5,hm5⟩
      refine⟨rfl,(FKK.out.fq.then a1).grown hg5 (fun q e _=>by simp at e;exact e.symm),(unionL_sets H.out.once hm5).congr fun x _=>?_⟩
      rw [List.take_add_one,HM.out,List.any_append]
      simp [cross,Bool.or_assoc]
     refine wpIn_region_round (fun w'=>w'.cell? ⟨bx,0,none⟩=some (.pointer (some ⟨A.nb i,0,none⟩))∧w'.cell? ⟨A.nb i,2,none⟩=some (.map (some (A.mb i)))∧w'.cell? ⟨w.heap.size,0,none⟩=some (.pointer (some ⟨f,0,none⟩))) hmx (no_defers rfl) ⟨x0,x2,x3⟩ ?_
     intro hHeld
     refine wpAnyH_take (i:=0) (v := .pointer (some ⟨A.nb i,0,none⟩)) rfl (by kernel_rfl) (by kernel_rfl) (by kernel_rfl) (fun _ _ _ h=>h) (Or.inl ⟨by rfl,?_⟩) (by assumption) ?_
     ·(intro w hSw;(try dsimp only at hSw);go_simp)
     simp only [Act.put,zq4,zq5,zq6]
     refine wpAnyH_take (i:=1) (v := .pointer (some ⟨A.nb i,0,none⟩)) rfl (by kernel_rfl) (by kernel_rfl) (by kernel_rfl) (fun _ _ _ h=>h) (Or.inl ⟨by rfl,?_⟩) (by assumption) ?_
     ·(intro w hSw;(try dsimp only at hSw);go_simp)
     simp only [Act.put,zq4,zq5,zq6]
     refine wpAnyH_take (i:=2) (v := .pointer (some ⟨A.nb i,2,none⟩)) rfl (by kernel_rfl) (by kernel_rfl) (by kernel_rfl) (fun _ _ _ h=>h) (Or.inl ⟨by rfl,?_⟩) (by assumption) ?_
     ·(intro w hSw;(try dsimp only at hSw);go_simp)
     simp only [Act.put,zq4,zq5,zq6]
     refine wpAnyH_take (i:=3) (v := .map (some (A.mb i))) rfl (by kernel_rfl) (by kernel_rfl) (by kernel_rfl) (fun _ _ _ h=>h) (Or.inl ⟨by rfl,?_⟩) (by assumption) ?_
     ·(intro w hSw;(try dsimp only at hSw);go_simp)
     simp only [Act.put,zq4,zq5,zq6]
     refine wpAnyH_take (i:=4) (v := .pointer (some ⟨f,0,none⟩)) rfl (by kernel_rfl) (by kernel_rfl) (by kernel_rfl) (fun _ _ _ h=>h) (Or.inl ⟨by rfl,?_⟩) (by assumption) ?_
     ·(intro w hSw;(try dsimp only at hSw);go_simp)
     simp only [Act.put,zq4,zq5,zq6]
     refine wpAnyH_take (i:=5) (v := .pointer (some ⟨A.lb m,0,none⟩)) rfl (by kernel_rfl) (by kernel_rfl) (by kernel_rfl) (fun _ _ _ h=>h) (Or.inl ⟨by rfl,?_⟩) (by assumption) ?_
     ·(intro w hSw;(try dsimp only at hSw);go_simp)
     simp only [Act.put,zq4,zq5,zq6]
     refine wpAnyH_ready (rs:=[6]) (by kernel_rfl) (by simp) ?_
     refine AllReadyH.cons rfl (fun K hK=>?_) AllReadyH.nil
     go_simp
     refine(crossing_any (link_drew LK.out)).mono ?_
     rintro e w1 ⟨b1,rfl,hb1,hs1,hw1⟩
     have HB1:Hid (wr.heap.size≤b1):=hb1
     have HS1:=zh hs1
     have HW1:Hid (Below wr.heap.size wr w1):=((Below.refl _ _).drew).trans hw1
     clear hb1 hs1 hw1
     dsimp only
     refine hK.out _ _ ⟨kept_below HW1.out _ _ x0,kept_below HW1.out _ _ x2,kept_below HW1.out _ _ x3⟩ (fun hHeld2=>?_)
     clear hK K hHeld
     refine wpAnyH_ready (rs:=[7]) (by kernel_rfl) (by simp) ?_
     refine AllReadyH.cons rfl (fun K hK=>?_) AllReadyH.nil
     go_simp
     refine hK.out _ _ (by have B4:=kept_below ((Below.refl w1.heap.size w1).alloc (Nat.le_refl _) (.cells #[.map (some b1)] 107));exact⟨B4 _ _ hHeld2.1,B4 _ _ hHeld2.2.1,B4 _ _ hHeld2.2.2⟩) (fun hHeld3=>?_)
     clear hK K hHeld2
     refine wpAnyH_ready (rs:=[8]) (by kernel_rfl) (by simp) ?_
     refine AllReadyH.cons rfl (fun K hK=>?_) AllReadyH.nil
     go_simp
     refine(callsIn_wide.1 (CallsIn.outOfRound (UN w1 b1 HW1.out HB1.out HS1.out))).mono ?_
     rintro e w5 ⟨rfl,hu5⟩
     have HU5:=zh hu5
     clear hu5
     dsimp only
     refine hK.out _ _ ⟨HU5.out.fq.kept SM.out _ _ ?_,HU5.out.fq.kept SM.out _ _ ?_,HU5.out.fq.kept SM.out _ _ ?_⟩ (fun hHeld4=>?_)
     ·rw [cell_of_row _ _ 0 _ _ _ BX2.out];rfl
     ·rw [cell_of_row _ _ 2 _ _ _ ND1.out];rfl
     ·rw [cell_of_row _ _ 0 _ _ _ I2.out.box];rfl
     clear hK K hHeld3
     refine wpAnyH_done (by kernel_rfl) ?_ _
     refine OnlyN.done ?_
     clear hHeld4 UN x0 x1 x2 x3
     gi_wp2
     go_roundw
     case rel=>exact⟨k+1,HLT.out,by go_num,HU5.out⟩
     case measure=>have:=HLT.out;simp [intOf];omega
    ·have HK:=zh (show k=nx by have:=KL.out;omega)
     have hlz:(nx:Int)≤k:=by have:=HK.out;omega
     have FIN:Hid (Kb W wr∧FI w A f F (j+1) wr):=by
      refine⟨(Kb.of_below B2.out).trans (FKK.out.fq.kb SM.out),FK.fin (i:=i) (j:=j) H.out I2.out (by rw [← HN.out];exact HII.out.1) (by rw [← HN.out];exact HII.out.2.1) ?_ ?_⟩
      ·have:=HJ.out.us
       rw [List.take_length] at this
       exact this
      ·have:=FKK.out
       rw [HK.out,HNX.out] at this
       exact this
     clear hlt
     gi_wp2
     exact FIN.out
  case stop2 =>
   intro W3 hJ
   have HJ:=zh hJ
   clear hJ
   gi_wp2
   refine⟨(Kb.of_below B2.out).trans (HJ.out.fq.kb' fun q hq=>?_),⟨I2.out.fq.trans' HJ.out.fq fun q hq hs=>?_,HJ.out.res,HJ.out.no⟩⟩
   ·rcases hq with rfl | rfl
    ·obtain⟨es,cl,h⟩:=EMP.out.obj
     exact⟨_,h,.inr rfl⟩
    ·exact⟨_,I2.out.res,.inl rfl⟩
   ·rcases hs with rfl | rfl
    ·exact⟨i,HII.out.2.2,rfl⟩
    ·omega
 case done =>
  intro D W hD hI hd
  have HI:=zh hI
  have HD:=zh hd
  have HDL:=zh hD
  rw [HN.out] at hI
  have LK:=zh (FI.link0 H.out hI)
  have FB:=zh (FI.flowB H.out hI)
  have z0:W.cell? ⟨w.heap.size,0,none⟩=some (.pointer (some ⟨f,0,none⟩)):=by rw [cell_of_row _ _ 0 _ _ _ hI.box];rfl
  have z1:W.cell? ⟨f,0,none⟩=some (.pointer (some ⟨A.lb 0,0,none⟩)):=by
   obtain⟨sl,sn,sv,f0,f1,f2,f3⟩:=(H.out.at hI.fq).flat
   rw [cell_of_row _ _ 0 _ _ _ f0];rfl
  have HI:=zh hI
  have RES:=zh hI.res
  have hff:f<w.heap.size:=World.block_lt_of_cell? w _ C2.out
  have keep2:∀ (V:World) (v:Value),w.heap.size+1≠f→V.cell? ⟨w.heap.size,0,none⟩=some (.pointer (some ⟨f,0,none⟩))∧V.cell? ⟨f,0,none⟩=some (.pointer (some ⟨A.lb 0,0,none⟩))→(V.setCell ⟨w.heap.size+1,0,none⟩ v).cell? ⟨w.heap.size,0,none⟩=some (.pointer (some ⟨f,0,none⟩))∧(V.setCell ⟨w.heap.size+1,0,none⟩ v).cell? ⟨f,0,none⟩=some (.pointer (some ⟨A.lb 0,0,none⟩)):=fun V v hne h=>⟨by rw [World.cell?_setCell_far _ _ _ _ (by simp)];exact h.1,by rw [World.cell?_setCell_far _ _ _ _ (by simpa using hne)];exact h.2⟩
  have KP2:=zh keep2
  clear keep2 hI hd hD
  have hne:w.heap.size+1≠f:=by omega
  go_wp2_with fail
  refine wp_region_noPanic ?_
  refine wp_region_held_drew (S:=(fun w'=>w'.cell? ⟨w.heap.size,0,none⟩=some (.pointer (some ⟨f,0,none⟩))∧w'.cell? ⟨f,0,none⟩=some (.pointer (some ⟨A.lb 0,0,none⟩)))) (by kernel_rfl) ⟨z0,z1⟩ (fun hHeld=>?_)
  obtain⟨k0,k1⟩:=hHeld
  refine wpAnyH_take (i:=0) (v:=?_) rfl (by kernel_rfl) (by kernel_rfl) (by kernel_rfl) (fun _ _ _ h=>h) (Or.inl ⟨by rfl,?_⟩) ⟨k0,k1⟩ ?_
  rotate_left
  ·intro wz hSw
   obtain⟨zk0,zk1⟩:=hSw
   try simp only [zq1,zq2,zq3]
   go_simp
   try with_reducible rfl
  try simp only [Act.put,zq1,zq2,zq3,zq4,zq5,zq6]
  refine wpAnyH_take (i:=1) (v:=?_) rfl (by kernel_rfl) (by kernel_rfl) (by kernel_rfl) (fun _ _ _ h=>h) (Or.inl ⟨by rfl,?_⟩) ⟨k0,k1⟩ ?_
  rotate_left
  ·intro wz hSw
   obtain⟨zk0,zk1⟩:=hSw
   try simp only [zq1,zq2,zq3]
   go_simp
   try with_reducible rfl
  try simp only [Act.put,zq1,zq2,zq3,zq4,zq5,zq6]
  refine wpAnyH_take (i:=2) (v:=?_) rfl (by kernel_rfl) (by kernel_rfl) (by kernel_rfl) (fun _ _ _ h=>h) (Or.inl ⟨by rfl,?_⟩) ⟨k0,k1⟩ ?_
  rotate_left
  ·intro wz hSw
   obtain⟨zk0,zk1⟩:=hSw
   try simp only [zq1,zq2,zq3]
   go_simp
   try with_reducible rfl
  try simp only [Act.put,zq1,zq2,zq3,zq4,zq5,zq6]
  refine wpAnyH_take (i:=3) (v:=?_) rfl (by kernel_rfl) (by kernel_rfl) (by kernel_rfl) (fun _ _ _ h=>h) (Or.inl ⟨by rfl,?_⟩) ⟨k0,k1⟩ ?_
  rotate_left
  ·intro wz hSw
   obtain⟨zk0,zk1⟩:=hSw
   try simp only [zq1,zq2,zq3]
   go_simp
   try with_reducible rfl
  try simp only [Act.put,zq1,zq2,zq3,zq4,zq5,zq6]
  refine wpAnyH_take (i:=4) (v:=?_) rfl (by kernel_rfl) (by kernel_rfl) (by kernel_rfl) (fun _ _ _ h=>h) (Or.inl ⟨by rfl,?_⟩) ⟨k0,k1⟩ ?_
  rotate_left
  ·intro wz hSw
   obtain⟨zk0,zk1⟩:=hSw
   try simp only [zq1,zq2,zq3]
   go_simp
   try with_reducible rfl
  try simp only [Act.put,zq1,zq2,zq3,zq4,zq5,zq6]
  refine wpAnyH_ready (rs:=[5]) (by kernel_rfl) (by simp) ?_
  refine AllReadyH.cons rfl (fun K hK=>?_) AllReadyH.nil
  try simp only [zq1,zq2,zq3]
  go_simp
  go_at_call 60
  (refine(crossing_any (link_drew LK.out)).mono ?_)
  (rintro e w1 ⟨b1,rfl,hb1,hs1,hw1⟩)
  (obtain⟨n1,hn1⟩:∃ n1,n1=(VSet F (cross F 0)).length:=⟨_,rfl⟩)
  (have e1:(Builtin.len_ #[108] 3 #[.map (some b1)]).run Tryz.prog w1 = .ok (.int .i64 n1) w1:=by (obtain⟨DD,h1,h2,_⟩:=hs1;have:=h1.len Tryz.underlying108 3;rw [h2,← hn1] at this;exact this))
  (have HN1:=zh hn1)
  (have HW1:Hid (Below W.heap.size W w1):=((Below.refl _ _).drew).trans hw1)
  (clear hn1 hb1 hs1 hw1)
  (have y0:=kept_below HW1.out _ _ z0)
  (have y1:=kept_below HW1.out _ _ z1)
  (have y2:=heap_below HW1.out RES.out)
  (have y3:w1.cell? ⟨w.heap.size+1,0,none⟩=some (.bool false):=by (rw [cell_of_row _ _ 0 _ _ _ y2];rfl))
  (have y4:w1.frozen? ⟨w.heap.size+1,0,none⟩=false:=frozen_of_row _ _ 0 _ _ y2)
  (have Y2:=zh y2)
  (clear y2)
  (try simp only [])
  refine hK.out _ _ ?hs (fun hHeld=>?_)
  case hs=>exact⟨y0,y1⟩
  clear hK K k0 k1
  obtain⟨k0,k1⟩:=hHeld
  try simp only [Act.put,zq1,zq2,zq3,zq4,zq5,zq6]
  refine wpAnyH_ready (rs:=[6]) (by kernel_rfl) (by simp) ?_
  refine AllReadyH.cons rfl (fun K hK=>?_) AllReadyH.nil
  try simp only [zq1,zq2,zq3]
  go_simp
  refine hK.out _ _ ?hs (fun hHeld=>?_)
  case hs=>exact⟨k0,k1⟩
  clear hK K k0 k1
  obtain⟨k0,k1⟩:=hHeld
  try simp only [Act.put,zq1,zq2,zq3,zq4,zq5,zq6]
  refine wpAnyH_take (i:=7) (v:=?_) rfl (by kernel_rfl) (by kernel_rfl) (by kernel_rfl) (fun _ _ _ h=>h) (Or.inl ⟨by rfl,?_⟩) ⟨k0,k1⟩ ?_
  rotate_left
  ·intro wz hSw
   obtain⟨zk0,zk1⟩:=hSw
   try simp only [zq1,zq2,zq3]
   go_simp
   try with_reducible rfl
  try simp only [Act.put,zq1,zq2,zq3,zq4,zq5,zq6]
  refine wpAnyH_ready (rs:=[8]) (by kernel_rfl) (by simp) ?_
  refine AllReadyH.cons rfl (fun K hK=>?_) AllReadyH.nil
  try simp only [zq1,zq2,zq3]
  go_simp
  refine hK.out _ _ ?hs (fun hHeld=>?_)
  case hs=>exact KP2.out _ _ hne ⟨k0,k1⟩
  clear hK K k0 k1 hHeld
  refine wpAnyH_done (by kernel_rfl) ?_ _
  refine NoPanic.normal ?_
  go_wp2_with fail
  have HZ0:=HZ.out
  have DL:w.heap.size+3≤D:=by have:=HDL.out;omega
  obtain⟨bv,hbv⟩:∃ bv,bv=((n1:Int)==0):=⟨_,rfl⟩
  rw [← hbv]
  have hq2:(w1.setCell ⟨w.heap.size+1,0,none⟩ (.bool bv)).heap[w.heap.size+1]?=some (.cells #[.bool bv] 4 (0,0)):=heap_setCell_same w1 _ 0 _ _ _ Y2.out
  have hd2:(w1.setCell ⟨w.heap.size+1,0,none⟩ (.bool bv)).heap[D]?=some (.deferred (some [])):=(Below.heap_setCell _ _ _ _ (by show D≠w.heap.size+1;omega)).trans (heap_below HW1.out HD.out)
  refine⟨by simp,.inl ⟨_,_,rfl,run_takeDeferred hd2,?_⟩⟩
  have FIN:=flow_end (b:=bv) (D:=D) H.out HI.out HW1.out (by omega) (by rw [hbv,vset_zero HN1.out,FB.out]) Y2.out
  have u0:((w1.setCell ⟨w.heap.size+1,0,none⟩ (.bool bv)).putObj D (.deferred none)).cell? ⟨w.heap.size+1,0,none⟩=some (.bool bv):=by
   rw [cell_of_row _ _ 0 _ _ _ ((World.putObj_heap_other (by omega)).trans hq2)];rfl
  exact⟨.bool bv,by simp [results,Tryz.results90,go_sem,u0],FIN⟩
 case stop =>
  intro D W hD hX hd
  have HX:=zh hX
  have HD:=zh hd
  have HDL:=zh hD
  clear hX hd hD
  go_wp2_with fail
  have HZ0:=HZ.out
  have DL:w.heap.size+3≤D:=by have:=HDL.out;omega
  refine⟨by simp,.inl ⟨_,_,rfl,run_takeDeferred HD.out,?_⟩⟩
  have u0:(W.putObj D (.deferred none)).cell? ⟨w.heap.size+1,0,none⟩=some (.bool false):=by
   rw [cell_of_row _ _ 0 _ _ _ ((World.putObj_heap_other (by omega)).trans HX.out.res)];rfl
  refine⟨.bool false,by simp [results,Tryz.results90,go_sem,u0],HX.out.fq.putObj _ _ (by omega),by rw [HX.out.no],fun h=>?_⟩
  rw [HX.out.no] at h
  cases h
end Go.Proofs.YtnkahlloahgifaaGreatDoor
