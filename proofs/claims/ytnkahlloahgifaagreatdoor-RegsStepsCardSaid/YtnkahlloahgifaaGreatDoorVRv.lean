/- Part. -/
import Derived.Test.YtnkahlloahgifaaGreatDoorVFb
import Derived.Test.YtnkahlloahgifaaGreatDoorVBi
set_option linter.unusedSimpArgs false
set_option linter.unusedVariables false
namespace RG
theorem nums_append:∀ (a b:List (List Nm×TE)) (n:Nat),nums n (a++b)=nums n a++nums (n+sizes a) b
 | [],b,n=>by simp [nums,sizes_nil]
 | p :: a,b,n=>by rw [List.cons_append,nums,nums,nums_append a b,sizes_cons,List.cons_append,Nat.add_assoc]
theorem nums_range {l:List (List Nm×TE)}{n m:Nat}(h:m∈nums n l):n≤m∧m<n+sizes l:=by
 obtain⟨pre,q,post,rfl,rfl⟩:=(nums_mem _ _ _).1 h
 rw [sizes_append,sizes_cons]
 have:=q.2.size_pos
 omega
theorem nums_nodup:∀ (l:List (List Nm×TE)) (n:Nat),(nums n l).Nodup
 | [],n=>by simp [nums]
 | p :: l,n=>by
  rw [nums,List.nodup_cons]
  refine⟨fun h=>?_,nums_nodup l _⟩
  have:=(nums_range h).1
  have:=p.2.size_pos
  omega
theorem Lies.num {F:List Nd}:∀ (l:List (List Nm×TE)) (n i:Nat) (p:List Nm×TE),Lies F n l→l[i]?=some p→∃ m,(nums n l)[i]?=some m∧(nd F m).binds=p.1∧(nd F m).e=p.2
 | [],n,i,p,h,hi=>by simp at hi
 | (bs,e) :: l,n,0,p,h,hi=>by
  simp only [List.getElem?_cons_zero,Option.some.injEq] at hi
  subst hi
  exact⟨n,rfl,by rw [h.head],by rw [h.head]⟩
 | (bs,e) :: l,n,i+1,p,h,hi=>by
  rw [List.getElem?_cons_succ] at hi
  obtain⟨m,h1,h2⟩:=Lies.num l _ i p h.tail hi
  exact⟨m,by rw [nums,List.getElem?_cons_succ];exact h1,h2⟩
end RG
namespace Go.Proofs.YtnkahlloahgifaaGreatDoor
open Go.RowKit RG Go.Maps
structure Kp (S:Nat→Prop) (ρ ρ':Nat→Nat) (w w':World):Prop where
 size:w.heap.size≤w'.heap.size
 obj:∀ (q:Nat) (o:Obj),w.heap[q]?=some o→(o.isCells=true∨o.isWalk=true)→¬ S q→w'.heap[q]?=some o
 role:∀ q,q<w.heap.size→ρ' q=ρ q
 fresh:∀ q,w'.heap.size≤q→ρ' q=0
theorem Kp.of_ch {M:Nat→Prop} {ρ ρ':Nat→Nat}{w w':World}(c:Ch M ρ ρ' w w'):Kp (fun q=>M (ρ q)) ρ ρ' w w' :=
 ⟨c.size,fun q o h _ hn=>c.keep h hn,c.role,c.fresh⟩
theorem Kp.of_bk {S:Nat→Prop} {ρ:Nat→Nat}{w w':World}{B:Nat}(h:Bk B w w') (hρ:∀ q,w.heap.size≤q→ρ q=0):Kp S ρ ρ w w' :=
 ⟨(below_bk h).size,fun q o ho hc _=>heap_bk h ho hc,fun _ _=>rfl,fun q hq=>hρ q (Nat.le_trans (below_bk h).size hq)⟩
theorem Kp.of_below {S:Nat→Prop} {ρ:Nat→Nat}{w w':World}(h:Below w.heap.size w w') (hρ:∀ q,w.heap.size≤q→ρ q=0):Kp S ρ ρ w w' :=
 ⟨h.size,fun q o ho _ _=>heap_below h ho,fun _ _=>rfl,fun q hq=>hρ q (Nat.le_trans h.size hq)⟩
theorem Kp.setCell {ρ:Nat→Nat}{w:World}(a:Addr) (v:Value) (hρ:∀ q,w.heap.size≤q→ρ q=0):Kp (fun q=>q=a.block) ρ ρ w (w.setCell a v) :=
 ⟨by simp,fun q o ho _ hn=>(Below.heap_setCell w a v q hn).trans ho,fun _ _=>rfl,fun q hq=>hρ q (by simpa using hq)⟩
theorem Kp.roleNew {S:Nat→Prop} {ρ ρ':Nat→Nat}{w w':World}(h:Kp S ρ ρ' w w') (ρ2:Nat→Nat) (h1:∀ q,q<w.heap.size→ρ2 q=ρ q) (h2:∀ q,w'.heap.size≤q→ρ2 q=0):Kp S ρ ρ2 w w':=⟨h.size,h.obj,h1,h2⟩
theorem cell_obj {w:World}{a:Addr}{x:Value}(h:w.cell? a=some x):∃ cs T r,w.heap[a.block]?=some (.cells cs T r):=by
 unfold World.cell? at h
 split at h
 ·exact⟨_,_,_,by assumption⟩
 ·cases h
theorem Kp.cell {S:Nat→Prop} {ρ ρ':Nat→Nat}{w w':World}(k:Kp S ρ ρ' w w') {a:Addr}{x:Value}(h:w.cell? a=some x) (hn:¬ S a.block):w'.cell? a=some x:=by
 obtain⟨cs,T,r,ho⟩:=cell_obj h
 rw [World.cell?_of_block ((k.obj _ _ ho (.inl rfl) hn).trans ho.symm)]
 exact h
theorem Kp.imap {S:Nat→Prop} {ρ ρ':Nat→Nat}{w w':World}(k:Kp S ρ ρ' w w') {P:Program}{b:Nat}{l:List (Int×Int)}(h:IMap P w b l) (hn:¬ S b):IMap P w' b l:=by
 obtain⟨es,c,ho⟩:=h.obj
 exact h.keep ((k.obj _ _ ho (.inr rfl) hn).trans ho.symm)
theorem PMap.obj {w:World}{b:Nat}{ns:List Nm}(h:PMap w b ns):∃ es c,w.heap[b]?=some (.map es c):=by
 obtain⟨D,⟨es,clock,g1,_⟩,_⟩:=h
 exact⟨_,_,g1⟩
theorem Kp.pmap {S:Nat→Prop} {ρ ρ':Nat→Nat}{w w':World}(k:Kp S ρ ρ' w w') {b:Nat}{ns:List Nm}(h:PMap w b ns) (hn:¬ S b):PMap w' b ns:=by
 obtain⟨es,c,ho⟩:=h.obj
 exact h.keep ((k.obj _ _ ho (.inr rfl) hn).trans ho.symm)
theorem Kp.rr {S:Nat→Prop} {ρ ρ':Nat→Nat}{w w':World}(k:Kp S ρ ρ' w w') {r:Nat}{e:TypeId}{size n:Nat}{v:Value}{xs:List Value}(h:RR w ρ r e size v n xs) (hn:∀ q,ρ q=r→¬ S q):RR w' ρ' r e size v n xs:=by
 obtain⟨⟨h1,h2⟩,h3⟩:=h
 rcases h2 with h2 | ⟨g,cap,cur,rfl,hb,hg,rest⟩
 ·refine⟨⟨h1,.inl h2⟩,fun q hq=>?_⟩
  rw [h2.1] at hq;simp [Value.ownBlock] at hq
 ·have r0:=h3 g (by simp [Value.ownBlock])
  refine⟨⟨h1,.inr ⟨g,cap,cur,rfl,hb,k.obj _ _ hg (.inl rfl) (hn g r0),rest⟩⟩,fun q hq=>?_⟩
  simp [Value.ownBlock] at hq
  subst hq
  exact(k.role _ (Array.getElem?_eq_some_iff.1 hg).1).trans r0
def RowIn (w:World) (ρ:Nat→Nat) (v:Value) (n:Nat) (xs:List Value):Prop :=
 xs.length=n∧∃ (ad:Option Addr) (c:Nat),v = .slice ad n c∧(0<n→∃ g o,ad=some ⟨g,o,none⟩∧ρ g=0∧∀ (i:Nat) x,xs[i]?=some x→w.cell? ⟨g,o+i,none⟩=some x)
theorem RowIn.sl {w:World} {ρ:Nat→Nat}{v:Value}{n:Nat}{xs:List Value}(h:RowIn w ρ v n xs):SlAt w v n xs:=by
 obtain⟨h1,ad,c,h2,h3⟩:=h
 exact⟨h1,ad,c,h2,fun h0=>by obtain⟨g,o,a,b,c⟩:=h3 h0;exact⟨g,o,a,c⟩⟩
theorem Kp.row {S:Nat→Prop} {ρ ρ':Nat→Nat}{w w':World}(k:Kp S ρ ρ' w w') {v:Value}{n:Nat}{xs:List Value}(h:RowIn w ρ v n xs) (hn:∀ q,ρ q=0→¬ S q):RowIn w' ρ' v n xs:=by
 obtain⟨h1,ad,c,h2,h3⟩:=h
 refine⟨h1,ad,c,h2,fun h0=>?_⟩
 obtain⟨g,o,e,hr,hat⟩:=h3 h0
 refine⟨g,o,e,?_,fun i x hi=>k.cell (hat i x hi) (hn g hr)⟩
 obtain⟨x,hx⟩:∃ x,xs[0]?=some x:=⟨_,List.getElem?_eq_getElem (by omega)⟩
 have hb:=World.block_lt_of_cell? w _ (hat 0 x hx)
 exact(k.role _ hb).trans hr
theorem Nms.kp {S:Nat→Prop}{w w':World} {ρ ρ':Nat→Nat}{f pl:Nat}{ent sl sn sv:Value}{names:List Nm}(h:Nms w ρ f pl ent sl sn sv names) (k:Kp S ρ ρ' w w') (hn:∀ q,ρ q=1∨ρ q=4∨ρ q=5→¬ S q):Nms w' ρ' f pl ent sl sn sv names :=
 ⟨k.obj _ _ h.fb (.inl rfl) (hn _ (.inl h.rf)),k.rr h.row fun q e=>hn q (.inr (.inl e)),k.pmap h.pm (hn _ (.inr (.inr h.rp))),(k.role _ (Array.getElem?_eq_some_iff.1 h.fb).1).trans h.rf,(k.role _ h.pm.lt).trans h.rp,k.fresh⟩
structure ParamsAt (w:World) (v:Value) (ns:List Nm):Prop where
 at':∃ (ad:Option Addr) (c:Nat),v = .slice ad ns.length c∧(0<ns.length→∃ g o,ad=some ⟨g,o,none⟩∧∀ i n,ns[i]?=some n→∃ m:Bool,w.cell? ⟨g,o+i*2,none⟩=some (.string n)∧w.cell? ⟨g,o+i*2+1,none⟩=some (.bool m))
structure TFunAt (w:World) (b o:Nat) (ps:List Nm) (e:TE):Prop where
 params:∃ v,w.cell? ⟨b,o+2,none⟩=some v∧ParamsAt w v ps
 body:TEAt w e b (o+3)
def LinkIn (w:World) (ρ:Nat→Nat) (i lb xb xo:Nat) (tg:Option Addr) (bs:List Nm):Prop :=
 ρ lb=2∧∃ sv xv,w.heap[lb]?=some (.cells #[sv,xv,.pointer tg] 120 (0,0))∧RowIn w ρ sv bs.length (strs bs)∧(0<i→xv = .pointer (some ⟨xb,xo,none⟩))
theorem Kp.link {S:Nat→Prop} {ρ ρ':Nat→Nat}{w w':World}(k:Kp S ρ ρ' w w') {i lb xb xo:Nat}{tg:Option Addr}{bs:List Nm}(h:LinkIn w ρ i lb xb xo tg bs) (h0:∀ q,ρ q=0→¬ S q) (hn:¬ S lb):LinkIn w' ρ' i lb xb xo tg bs:=by
 obtain⟨r,sv,xv,h1,h2,h3⟩:=h
 exact⟨(k.role _ (Array.getElem?_eq_some_iff.1 h1).1).trans r,sv,xv,k.obj _ _ h1 (.inl rfl) hn,k.row h2 h0,h3⟩
def NodeIn (w:World) (ρ:Nat→Nat) (A:Ad) (F:List Nd) (i:Nat):Prop :=
 ρ (A.nb i)=3∧∃ sx,w.heap[A.nb i]?=some (.cells #[.pointer (some ⟨A.xb i,A.xo i,none⟩),sx,.map (some (A.mb i))] 110 (0,0))∧RowIn w ρ sx (nd F i).next.length (ptrs ((nd F i).next.map A.lb))
structure RdK (w:World) (A:Ad) (F:List Nd) (j:Nat) (K:List Nat) (W:World) (ρ:Nat→Nat):Prop where
 below:Below w.heap.size w W
 low:∀ q,q<w.heap.size→ρ q=0
 rho:∀ q,W.heap.size≤q→ρ q=0
 link:∀ i,i<j∨i∈K→LinkIn W ρ i (A.lb i) (A.xb i) (A.xo i) (if i<j then some ⟨A.nb i,0,none⟩ else none) (nd F i).binds
 exp:∀ i,i<j∨i∈K→TEAt w (nd F i).e (A.xb i) (A.xo i)
 lin:∀ i k,i<j∨i∈K→k<j∨k∈K→A.lb i=A.lb k→i=k
 node:∀ i,i<j→NodeIn W ρ A F i
 live:∀ i,i<j→ρ (A.mb i)=8∧IMap Tryz.prog W (A.mb i) []
 min:∀ i k,i<j→k<j→A.mb i=A.mb k→i=k
theorem RdK.kp {w:World}{A:Ad}{F:List Nd}{j:Nat}{K:List Nat}{W W':World} {ρ ρ':Nat→Nat}(h:RdK w A F j K W ρ) {S:Nat→Prop}(k:Kp S ρ ρ' W W') (hb:Below w.heap.size W W') (h0:∀ q,ρ q=0∨ρ q=8→¬ S q)
  (hl:∀ i,i<j∨i∈K→¬ S (A.lb i)) (hn:∀ i,i<j→¬ S (A.nb i)):RdK w A F j K W' ρ':=by
 refine⟨h.below.trans hb,fun q hq=>(k.role q (Nat.lt_of_lt_of_le hq h.below.size)).trans (h.low q hq),k.fresh,fun i hi=>k.link (h.link i hi) (fun q e=>h0 q (.inl e)) (hl i hi),h.exp,h.lin,fun i hi=>?_,fun i hi=>?_,h.min⟩
 ·obtain⟨r,sx,h1,h2⟩:=h.node i hi
  exact⟨(k.role _ (Array.getElem?_eq_some_iff.1 h1).1).trans r,sx,k.obj _ _ h1 (.inl rfl) (hn i hi),k.row h2 fun q e=>h0 q (.inl e)⟩
 ·obtain⟨r,h1⟩:=h.live i hi
  exact⟨(k.role _ h1.lt).trans r,k.imap h1 (h0 _ (.inr r))⟩
theorem RdK.sub {w:World}{A:Ad}{F:List Nd}{j:Nat}{K K':List Nat}{W:World} {ρ:Nat→Nat}(h:RdK w A F j K W ρ) (hK:∀ k∈K',k∈K):RdK w A F j K' W ρ :=
 ⟨h.below,h.low,h.rho,fun i hi=>h.link i (hi.imp id (hK i)),fun i hi=>h.exp i (hi.imp id (hK i)),fun i k hi hk=>h.lin i k (hi.imp id (hK i)) (hk.imp id (hK k)),h.node,h.live,h.min⟩
theorem RdK.congr {w:World}{A A':Ad}{F:List Nd}{j:Nat}{K:List Nat}{W:World} {ρ:Nat→Nat}(h:RdK w A F j K W ρ) (hn:∀ i,i<j→∀ k∈(nd F i).next,k<j∨k∈K) (h1:∀ i,i<j∨i∈K→A'.lb i=A.lb i∧A'.xb i=A.xb i∧A'.xo i=A.xo i) (h2:∀ i,i<j→A'.nb i=A.nb i∧A'.mb i=A.mb i):RdK w A' F j K W ρ:=by
 refine⟨h.below,h.low,h.rho,fun i hi=>?_,fun i hi=>?_,fun i k hi hk e=>?_,fun i hi=>?_,fun i hi=>?_,fun i k hi hk e=>?_⟩
 ·obtain⟨e1,e2,e3⟩:=h1 i hi
  have:=h.link i hi
  rw [e1,e2,e3]
  by_cases hij:i<j
  ·rw [if_pos hij] at this ⊢;rw [(h2 i hij).1];exact this
  ·rw [if_neg hij] at this ⊢;exact this
 ·obtain⟨e1,e2,e3⟩:=h1 i hi
  rw [e2,e3];exact h.exp i hi
 ·rw [(h1 i hi).1,(h1 k hk).1] at e;exact h.lin i k hi hk e
 ·obtain⟨e1,e2,e3⟩:=h1 i (.inl hi)
  obtain⟨e4,e5⟩:=h2 i hi
  have:=h.node i hi
  unfold NodeIn at this ⊢
  rw [e2,e3,e4,e5]
  have e6:(nd F i).next.map A'.lb=(nd F i).next.map A.lb:=List.map_congr_left fun k hk=>(h1 k (hn i hi k hk)).1
  rw [e6];exact this
 ·rw [(h2 i hi).2];exact h.live i hi
 ·rw [(h2 i hi).2,(h2 k hk).2] at e;exact h.min i k hi hk e
def todos (A:Ad) (T:List Nat):List Value:=T.reverse.flatMap fun k=>[.pointer (some ⟨A.lb k,0,none⟩),.pointer (some ⟨A.xb k,A.xo k,none⟩)]
theorem todos_length (A:Ad) (T:List Nat):(todos A T).length=T.length*2:=by
 unfold todos
 rw [List.length_flatMap]
 have:(T.reverse.map fun k=>[Value.pointer (some ⟨A.lb k,0,none⟩),Value.pointer (some ⟨A.xb k,A.xo k,none⟩)].length)=T.reverse.map fun _=>2:=List.map_congr_left fun _ _=>rfl
 rw [this,List.map_const',List.sum_replicate_nat,List.length_reverse]
theorem todos_cons (A:Ad) (k:Nat) (T:List Nat):todos A (k :: T)=todos A T++[.pointer (some ⟨A.lb k,0,none⟩),.pointer (some ⟨A.xb k,A.xo k,none⟩)]:=by
 unfold todos
 rw [List.reverse_cons,List.flatMap_append]
 simp
theorem todos_congr {A A':Ad}{T:List Nat}(h:∀ i∈T,A'.lb i=A.lb i∧A'.xb i=A.xb i∧A'.xo i=A.xo i):todos A' T=todos A T:=by
 unfold todos
 have gen:∀ (l:List Nat),(∀ i∈l,A'.lb i=A.lb i∧A'.xb i=A.xb i∧A'.xo i=A.xo i)→(l.flatMap fun k=>[Value.pointer (some ⟨A'.lb k,0,none⟩),Value.pointer (some ⟨A'.xb k,A'.xo k,none⟩)])=l.flatMap fun k=>[Value.pointer (some ⟨A.lb k,0,none⟩),Value.pointer (some ⟨A.xb k,A.xo k,none⟩)]:=by
  intro l
  induction l with
  | nil=>intro _;rfl
  | cons a l ih =>
   intro h
   obtain⟨e1,e2,e3⟩:=h a List.mem_cons_self
   rw [List.flatMap_cons,List.flatMap_cons,ih fun i hi=>h i (List.mem_cons_of_mem _ hi),e1,e2,e3]
 exact gen _ fun i hi=>h i (List.mem_reverse.1 hi)
theorem RR.pop {w:World} {ρ:Nat→Nat}{r:Nat}{e:TypeId}{size n c:Nat}{a:Option Addr}{xs ys:List Value}(h:RR w ρ r e size (.slice a (n+1) c) (n+1) (xs++ys)) (hy:ys.length=size):RR w ρ r e size (.slice a n c) n xs:=by
 obtain⟨⟨h1,h2⟩,h3⟩:=h
 have hx:xs.length=n*size:=by rw [List.length_append,hy,Nat.add_mul] at h1;omega
 rcases h2 with ⟨_,h2⟩|⟨g,cap,cur,hv,hb,hg,k1,k2,k3,k4⟩
 ·omega
 ·simp only [Value.slice.injEq,true_and] at hv
  obtain⟨rfl,rfl⟩:=hv
  refine⟨⟨hx,.inr ⟨g,c,cur,rfl,hb,hg,by omega,k2,k3,?_⟩⟩,fun q hq=>h3 q (by simpa [Value.ownBlock] using hq)⟩
  have:=congrArg (List.take (n*size)) k4
  have e2:(xs++ys).take (n*size)=xs:=by rw [List.take_append_of_le_length (by omega),List.take_of_length_le (by omega)]
  rw [List.take_take,Nat.min_eq_left (Nat.mul_le_mul_right _ (Nat.le_succ n)),e2] at this
  exact this
theorem RR.cell {w:World} {ρ:Nat→Nat}{r:Nat}{e:TypeId}{size n c:Nat}{a:Option Addr}{xs:List Value}(h:RR w ρ r e size (.slice a n c) n xs) (h0:0<n):∃ g,a=some ⟨g,0,none⟩∧ρ g=r∧n≤c∧c≤maxLen∧∀ (i:Nat) x,xs[i]?=some x→w.cell? ⟨g,i,none⟩=some x:=by
 obtain⟨⟨h1,h2⟩,h3⟩:=h
 rcases h2 with ⟨_,h2⟩|⟨g,cap,cur,hv,hb,hg,k1,k2,k3,k4⟩
 ·omega
 ·simp only [Value.slice.injEq,true_and] at hv
  obtain⟨rfl,rfl⟩:=hv
  refine⟨g,rfl,h3 g (by simp [Value.ownBlock]),k1,k2,fun i x hi=>?_⟩
  have hl:=(List.getElem?_eq_some_iff.1 hi).1
  rw [cell_of_row _ _ _ _ _ _ hg,← Array.getElem?_toList,← List.getElem?_take_of_lt (show i<n*size by omega),k4]
  exact hi
structure RdS (w:World) (A:Ad) (F:List Nd) (f sc rs j:Nat) (K T:List Nat) (names:List Nm) (sl sn sv vs:Value) (nl nn:Nat) (W:World) (ρ:Nat→Nat):Prop where
 k:RdK w A F j K W ρ
 nms:Nms W ρ f A.pl (.pointer (some ⟨A.lb 0,0,none⟩)) sl sn sv names
 rl:RR W ρ 6 114 1 sl nl (ptrs ((List.range nl).map A.lb))
 rn:RR W ρ 7 100 1 sn nn (ptrs ((List.range nn).map A.nb))
 sck:W.heap[sc]?=some (.cells #[vs] 160 (0,0))
 rsc:ρ sc=9
 stk:RR W ρ 10 159 2 vs T.length (todos A T)
 res:W.heap[rs]?=some (.cells #[.pointer none] 99 (0,0))
 rrs:ρ rs=11
theorem RdS.kp {w:World}{A:Ad}{F:List Nd}{f sc rs j:Nat}{K T:List Nat}{names:List Nm}{sl sn sv vs:Value}{nl nn:Nat}{W W':World} {ρ ρ':Nat→Nat}(h:RdS w A F f sc rs j K T names sl sn sv vs nl nn W ρ) {S:Nat→Prop}(k:Kp S ρ ρ' W W') (hb:Below w.heap.size W W')
  (hS:∀ q,ρ q≠2→ρ q≠3→¬ S q) (hl:∀ i,i<j∨i∈K→¬ S (A.lb i)) (hn:∀ i,i<j→¬ S (A.nb i)):RdS w A F f sc rs j K T names sl sn sv vs nl nn W' ρ':=by
 refine⟨h.k.kp k hb (fun q e=>hS q (by omega) (by omega)) hl hn,h.nms.kp k (fun q e=>hS q (by omega) (by omega)),k.rr h.rl (fun q e=>hS q (by omega) (by omega)),k.rr h.rn (fun q e=>hS q (by omega) (by omega)),k.obj _ _ h.sck (.inl rfl) (hS _ (by rw [h.rsc];decide) (by rw [h.rsc];decide)),
  (k.role _ (Array.getElem?_eq_some_iff.1 h.sck).1).trans h.rsc,k.rr h.stk (fun q e=>hS q (by omega) (by omega)),k.obj _ _ h.res (.inl rfl) (hS _ (by rw [h.rrs];decide) (by rw [h.rrs];decide)),(k.role _ (Array.getElem?_eq_some_iff.1 h.res).1).trans h.rrs⟩
theorem RdS.grow {w:World}{A:Ad}{F:List Nd}{f sc rs j:Nat}{K T:List Nat}{names:List Nm}{sl sn sv vs:Value}{nl nn:Nat}{W W':World} {ρ:Nat→Nat}(h:RdS w A F f sc rs j K T names sl sn sv vs nl nn W ρ) (hb:Below W.heap.size W W'):RdS w A F f sc rs j K T names sl sn sv vs nl nn W' ρ :=
 h.kp (S:=fun _=>False) (Kp.of_below hb h.k.rho) (hb.mono h.k.below.size) (fun _ _ _ h=>h) (fun _ _ h=>h) (fun _ _ h=>h)
theorem RdS.bk {w:World}{A:Ad}{F:List Nd}{f sc rs j:Nat}{K T:List Nat}{names:List Nm}{sl sn sv vs:Value}{nl nn:Nat}{W W':World} {ρ:Nat→Nat}{B:Nat}(h:RdS w A F f sc rs j K T names sl sn sv vs nl nn W ρ) (hb:Bk B W W') (hB:w.heap.size≤B):RdS w A F f sc rs j K T names sl sn sv vs nl nn W' ρ :=
 h.kp (S:=fun _=>False) (Kp.of_bk hb h.k.rho) ((below_bk hb).mono hB) (fun _ _ _ h=>h) (fun _ _ h=>h) (fun _ _ h=>h)
theorem step_append_rr {P:Program}{ops:Array Oper}{o:Oper}{a:Act}{w:World}{K:Act→World→Prop}{Q:Exit→Act→World→Prop}{E:Prop}
  (hg:o.guard=none) (s x:Operand) (t:TypeId) (hop:o.op=Op.call { callee:=Callee.builtin Builtin.append,args := #[s,x],argTypes := #[t,t] })
  (e:TypeId) (i:TypeInfo) (z:Value) (size bytes:Nat) (ht:P.underlying t=some (.slice e)) (hi:P.info? e=some i) (hz:i.zero=some z)
  (hsize:i.size=size) (hby:i.bytes=bytes) (hzs:z.cells.size=size) (hsz:0<size) (ρ:Nat→Nat) (r:Nat) (v:Value) (n:Nat) (xs:List Value) (hs:a.eval s=v) (hrow:RR w ρ r e size v n xs) (hρ:∀ k,w.heap.size≤k→ρ k=0)
  (ad:Addr) (m c:Nat) (news:List Value) (hx:a.eval x = .slice (some ad) m c) (hl:news.length=m*size) (hnews:∀ j u,news[j]?=some u→w.cell? (ad.add j)=some u) (h1:∀ u∈news,u.oneCell'=true)
  (h63:n+m≤maxLen) (hbytes:(n+m)*bytes≤140737488355328)
  (hK:∀ a' c' w' ρ',RR w' ρ' r e size (.slice a' (n+m) c') (n+m) (xs++news)→Ch (· = r) ρ ρ' w w'→(∀ k,w.heap.size≤k→ρ' k=0∨ρ' k=r)→K (a.put o.dst (.slice a' (n+m) c')) w') :
  if Region.wanted o (yielded ops a.tmps)=true then Oper.wp P o a w K Q else E:=by
 have hw:Region.wanted o (yielded ops a.tmps)=true:=by simp [Region.wanted,hg]
 rw [if_pos hw]
 obtain⟨a',c',w',ρ',hr,h2,h3,h4⟩:=run_append_rr (P:=P) w t o.type e i z size bytes ht hi hz hsize hby hzs hsz ρ r v n xs hrow hρ ad m c news hl hnews h1 h63 hbytes
 unfold Oper.wp execOp
 simp only [hop,resolve,invoke,builtin,Sem.run_bind,Sem.run_pure,Result.andThen_ok,List.map_toArray,List.map_cons,List.map_nil,hs,hx,hr]
 exact hK _ _ _ _ h2 h3 h4
def mark (D:Nat):Deferred:={ target := .collected D,args := #[] }
theorem leaves_marks {Fc:Fence}{n:Nat}{P:Program}{fn:Func}{tmps:Array Value}{R:Ending→World→Prop}:∀ (Ds:List Nat) (W:World),Ds.Nodup→(∀ D∈Ds,W.heap[D]?=some (.deferred (some []))) →
  (∀ W':World,W'.os=W.os→W'.tape=W.tape→W'.output=W.output→W'.heap.size=W.heap.size→(∀ q,q∉Ds→W'.heap[q]?=W.heap[q]?)→LeavesInM Fc n P fn tmps R [] .returning W')→LeavesInM Fc n P fn tmps R (Ds.map mark) .returning W
 | [],W,_,_,h=>h W rfl rfl rfl rfl fun _ _=>rfl
 | D :: Ds,W,hn,hd,h=>by
  rw [List.nodup_cons] at hn
  have h0:=hd D List.mem_cons_self
  have hlt:=(Array.getElem?_eq_some_iff.1 h0).1
  refine⟨by simp,.inl ⟨D,_,rfl,run_takeDeferred h0,leaves_marks Ds _ hn.2 (fun E hE=>?_) fun W' a b c d e=>h W' a b c (d.trans (by simp)) fun q hq=>?_⟩⟩
  ·refine(World.putObj_heap_other ?_).trans (hd E (List.mem_cons_of_mem _ hE))
   rintro rfl
   exact hn.1 hE
  ·rw [List.mem_cons,not_or] at hq
   exact(e q hq.2).trans (World.putObj_heap_other hq.1)
end Go.Proofs.YtnkahlloahgifaaGreatDoor
namespace Go.Proofs.YtnkahlloahgifaaGreatDoor
open Go.RowKit RG Go.Maps
variable {w:World} {A:Ad} {F:List Nd} {f sc rs j:Nat} {K T:List Nat} {names:List Nm} {sl sn sv vs:Value} {nl nn:Nat} {W:World} {ρ:Nat→Nat}
theorem RdS.re {W':World} {ρ':Nat→Nat}{names':List Nm}{sl' sn' sv':Value}{nl' nn':Nat}(h:RdS w A F f sc rs j K T names sl sn sv vs nl nn W ρ) {S:Nat→Prop}(k:Kp S ρ ρ' W W') (hb:Below w.heap.size W W') (hS:∀ q,S q→ρ q=1∨ρ q=4∨ρ q=5∨ρ q=6∨ρ q=7)
  (hn:Nms W' ρ' f A.pl (.pointer (some ⟨A.lb 0,0,none⟩)) sl' sn' sv' names') (hl:RR W' ρ' 6 114 1 sl' nl' (ptrs ((List.range nl').map A.lb))) (hm:RR W' ρ' 7 100 1 sn' nn' (ptrs ((List.range nn').map A.nb))) :
  RdS w A F f sc rs j K T names' sl' sn' sv' vs nl' nn' W' ρ' :=
 ⟨h.k.kp k hb (fun q e s=>by have:=hS q s;omega) (fun i hi s=>by have:=hS _ s;have:=(h.k.link i hi).1;omega) (fun i hi s=>by have:=hS _ s;have:=(h.k.node i hi).1;omega),hn,hl,hm,
  k.obj _ _ h.sck (.inl rfl) (fun s=>by have:=hS _ s;have:=h.rsc;omega),(k.role _ (Array.getElem?_eq_some_iff.1 h.sck).1).trans h.rsc,k.rr h.stk (fun q e s=>by have:=hS q s;omega),
  k.obj _ _ h.res (.inl rfl) (fun s=>by have:=hS _ s;have:=h.rrs;omega),(k.role _ (Array.getElem?_eq_some_iff.1 h.res).1).trans h.rrs⟩
theorem RdS.restack {W':World} {ρ':Nat→Nat}{T':List Nat}{vs':Value}{sc':Nat}(h:RdS w A F f sc rs j K T names sl sn sv vs nl nn W ρ) {S:Nat→Prop}(k:Kp S ρ ρ' W W') (hb:Below w.heap.size W W') (hS:∀ q,S q→ρ q=9∨ρ q=10)
  (hc:W'.heap[sc']?=some (.cells #[vs'] 160 (0,0))) (hr:ρ' sc'=9) (ht:RR W' ρ' 10 159 2 vs' T'.length (todos A T')) :
  RdS w A F f sc' rs j K T' names sl sn sv vs' nl nn W' ρ' :=
 ⟨h.k.kp k hb (fun q e s=>by have:=hS q s;omega) (fun i hi s=>by have:=hS _ s;have:=(h.k.link i hi).1;omega) (fun i hi s=>by have:=hS _ s;have:=(h.k.node i hi).1;omega),h.nms.kp k (fun q e s=>by have:=hS q s;omega),k.rr h.rl (fun q e s=>by have:=hS q s;omega),k.rr h.rn (fun q e s=>by have:=hS q s;omega),
  hc,hr,ht,k.obj _ _ h.res (.inl rfl) (fun s=>by have:=hS _ s;have:=h.rrs;omega),(k.role _ (Array.getElem?_eq_some_iff.1 h.res).1).trans h.rrs⟩
theorem RdS.sub {K':List Nat}(h:RdS w A F f sc rs j K T names sl sn sv vs nl nn W ρ) (hK:∀ k∈K',k∈K):RdS w A F f sc rs j K' T names sl sn sv vs nl nn W ρ :=
 ⟨h.k.sub hK,h.nms,h.rl,h.rn,h.sck,h.rsc,h.stk,h.res,h.rrs⟩
theorem RdS.pop {t a:Nat}{g:Option Addr}{c:Nat}(h:RdS w A F f sc rs j K (t :: T) names sl sn sv (.slice g (T.length+1) c) nl nn W ρ):RdS w A F f sc rs j K T names sl sn sv (.slice g T.length c) nl nn (W.setCell ⟨sc,0,none⟩ (.slice g T.length c)) ρ:=by
 have hk:=Kp.setCell (ρ:=ρ) (w:=W) ⟨sc,0,none⟩ (.slice g T.length c) h.k.rho
 have hsc:w.heap.size≤sc:=Nat.le_of_not_lt fun hlt=>by have:=h.k.low _ hlt;have:=h.rsc;omega
 refine h.restack hk ((Below.refl _ _).setCell hsc _) (fun q e=>by rw [e];exact .inl h.rsc) (heap_setCell_same W sc 0 _ _ _ h.sck) h.rsc ?_
 have:=h.stk
 rw [todos_cons] at this
 exact hk.rr (this.pop rfl) (fun q e=>by rintro rfl;have:=h.rsc;simp only [] at *;omega)
def Ad.more (A:Ad) (KN:List Nat) (L:List (Nat×Nat×Nat)):Ad :=
 { A with lb:=fun m=>if m∈KN then (L.getD (KN.idxOf m) (0,0,0)).1 else A.lb m,xb:=fun m=>if m∈KN then (L.getD (KN.idxOf m) (0,0,0)).2.1 else A.xb m,xo:=fun m=>if m∈KN then (L.getD (KN.idxOf m) (0,0,0)).2.2 else A.xo m }
def Ad.node (A:Ad) (j nb mb:Nat):Ad:={ A with nb:=fun i=>if i=j then nb else A.nb i,mb:=fun i=>if i=j then mb else A.mb i }
theorem idxOf_at:∀ {KN:List Nat}{i m:Nat},KN.Nodup→KN[i]?=some m→KN.idxOf m=i
 | [],i,m,_,h=>by simp at h
 | a :: KN,0,m,hn,h=>by simp at h;subst h;simp
 | a :: KN,i+1,m,hn,h=>by
  rw [List.nodup_cons] at hn
  simp only [List.getElem?_cons_succ] at h
  have hne:a≠m:=fun e=>hn.1 (e ▸ List.mem_of_getElem? h)
  rw [List.idxOf_cons,beq_false_of_ne hne,cond_false,idxOf_at hn.2 h]
theorem Ad.more_at {A:Ad}{KN:List Nat}{L:List (Nat×Nat×Nat)}{i m:Nat}{t:Nat×Nat×Nat}(hn:KN.Nodup) (h:KN[i]?=some m) (ht:L[i]?=some t):(A.more KN L).lb m=t.1∧(A.more KN L).xb m=t.2.1∧(A.more KN L).xo m=t.2.2:=by
 unfold Ad.more
 have hm:=List.mem_of_getElem? h
 simp only [if_pos hm,idxOf_at hn h,List.getD_eq_getElem?_getD,ht,Option.getD_some,and_self]
theorem Ad.more_other {A:Ad}{KN:List Nat}{L:List (Nat×Nat×Nat)}{m:Nat}(h:m∉KN):(A.more KN L).lb m=A.lb m∧(A.more KN L).xb m=A.xb m∧(A.more KN L).xo m=A.xo m:=by
 unfold Ad.more
 simp only [if_neg h,and_self]
def linked (ρ:Nat→Nat) (L:List (Nat×Nat×Nat)):Nat→Nat:=fun q=>if q∈L.map (·.1) then 2 else ρ q
theorem NamesAt.rowIn {w W:World} {ρ:Nat→Nat}{B:Nat}{sv:Value}{bs:List Nm}(h:NamesAt w W B sv bs) (hk:Kept w W) (hlow:∀ q,q<w.heap.size→ρ q=0) (hnew:∀ q,B≤q→W.cell? ⟨q,0,none⟩=some (.string (bs.headD ⟨#[]⟩))→ρ q=0):RowIn W ρ sv bs.length (strs bs):=by
 rcases h with ⟨h1,ad,c,h2,h3⟩|⟨g,h1,h2,h3⟩
 ·refine⟨h1,ad,c,h2,fun h0=>?_⟩
  obtain⟨g,o,e,hat⟩:=h3 h0
  obtain⟨x,hx⟩:∃ x,(strs bs)[0]?=some x:=⟨_,List.getElem?_eq_getElem (by omega)⟩
  exact⟨g,o,e,hlow g (World.block_lt_of_cell? w _ (hat 0 x hx)),fun i x hi=>hk _ _ (hat i x hi)⟩
 ·refine⟨strs_length _,_,_,h1,fun h0=>⟨g,0,rfl,?_,fun i x hi=>?_⟩⟩
  ·refine hnew g h2 ?_
   cases bs with
   | nil=>simp at h0
   | cons b r=>exact h3 0 b rfl
  ·obtain⟨n,hn,rfl⟩:∃ n,bs[i]?=some n∧x = .string n:=by
    unfold strs at hi
    rw [List.getElem?_map] at hi
    cases hq:bs[i]? with
    | none=>rw [hq] at hi;cases hi
    | some n=>rw [hq] at hi;simp at hi;exact⟨n,rfl,hi.symm⟩
   rw [Nat.zero_add]
   exact h3 i n hn
theorem RdS.next {W8:World}{KN:List Nat}{ks:List (List Nm×TE)}{a:Option Addr}{c:Nat}{L:List (Nat×Nat×Nat)}
  (h:RdS w A F f sc rs j K T names sl sn sv vs nl nn W8 ρ) (hkp:Kp (fun q=>q=A.nb j) ρ ρ W8 W) (hb:Below w.heap.size W8 W) (h0:0<nl) (hnl:nl≤j+1) (hnn:nn≤j+1) (hTK:∀ i∈T,i∈K) (hF:(nd F j).next=KN) (hKN:KN.Nodup) (hlen:KN.length=ks.length)
  (hkid:∀ (i:Nat) p,ks[i]?=some p→∃ m,KN[i]?=some m∧(nd F m).binds=p.1∧(nd F m).e=p.2)
  (hj:LinkIn W8 ρ j (A.lb j) (A.xb j) (A.xo j) (some ⟨A.nb j,0,none⟩) (nd F j).binds) (ej:TEAt w (nd F j).e (A.xb j) (A.xo j))
  (hne:∀ i,i<j∨i∈K→A.lb i≠A.lb j) (hnb:W.heap[A.nb j]?=some (.cells #[.pointer (some ⟨A.xb j,A.xo j,none⟩),.slice a ks.length c,.map (some (A.mb j))] 110 (0,0))) (rnb:ρ (A.nb j)=3) (hnj:A.nb j<W8.heap.size) (hnn':∀ i,i<j→A.nb i≠A.nb j)
  (hmb:IMap Tryz.prog W8 (A.mb j) []) (rmb:ρ (A.mb j)=8) (hmn:∀ i,i<j→A.mb i≠A.mb j)
  (hks:KsAt w W8 W ks a L) (hdis:∀ m∈KN,j<m∧m∉K) (hnx:∀ i,i<j→∀ k∈(nd F i).next,k<j∨k=j∨k∈K) :
  RdS w (A.more KN L) F f sc rs (j+1) (KN++K) T names sl sn sv vs nl nn W (linked ρ L):=by
 have hw8:w.heap.size≤W8.heap.size:=h.k.below.size
 have lenL:L.length=KN.length:=by rw [hks.len,hlen]
 have hkeep:Kept w W:=kept_below (h.k.below.trans hb)
 have newL:∀ q,q∈L.map (·.1)→W8.heap.size≤q∧∃ (x y:Value) (ad:Option Addr) (n c:Nat),W.heap[q]?=some (.cells #[.slice ad n c,x,y] 120 (0,0)):=fun q hq=>by
  obtain⟨t,ht,rfl⟩:=List.mem_map.1 hq
  obtain⟨i,hi⟩:=List.getElem?_of_mem ht
  have hil:=(List.getElem?_eq_some_iff.1 hi).1
  obtain⟨p,hp⟩:∃ p,ks[i]?=some p:=⟨_,List.getElem?_eq_getElem (by rw [← hks.len];exact hil)⟩
  obtain⟨⟨v,h1,h2⟩,h3,h4⟩:=hks.kid i p t hp hi
  refine⟨h4,?_⟩
  rcases h2 with ⟨_,ad,c,rfl,_⟩|⟨g,rfl,_⟩
  ·exact⟨_,_,_,_,_,h1⟩
  ·exact⟨_,_,_,_,_,h1⟩
 have hlink0:∀ q,q<W8.heap.size→linked ρ L q=ρ q:=fun q hq=>by
  unfold linked
  rw [if_neg fun hm=>by have:=(newL q hm).1;omega]
 have k2:Kp (fun q=>q=A.nb j) ρ (linked ρ L) W8 W:=hkp.roleNew _ hlink0 fun q hq=>by
  unfold linked
  rw [if_neg fun hm=>by
   obtain⟨_,_,_,_,_,_,h1⟩:=newL q hm
   have:=(Array.getElem?_eq_some_iff.1 h1).1;omega]
  exact hkp.fresh q hq
 have h2:=h.kp k2 hb (fun q e1 e2 e3=>e2 (by rw [e3];exact rnb)) (fun i hi e=>by have:=(h.k.link i hi).1;rw [e,rnb] at this;cases this) hnn'
 have hj2:=k2.link hj (fun q e e2=>by rw [e2,rnb] at e;cases e) (fun e=>by have:=hj.1;rw [e,rnb] at this;cases this)
 have hm2:=k2.imap hmb (fun e=>by rw [e,rnb] at rmb;cases rmb)
 have oldK:∀ i,i<j∨i=j∨i∈K→i∉KN:=fun i hi hm=>by
  obtain⟨d1,d2⟩:=hdis i hm
  rcases hi with hi | hi | hi
  ·omega
  ·omega
  ·exact d2 hi
 have mo:∀ i,i<j∨i=j∨i∈K→(A.more KN L).lb i=A.lb i∧(A.more KN L).xb i=A.xb i∧(A.more KN L).xo i=A.xo i:=fun i hi=>Ad.more_other (oldK i hi)
 -- a kid
 have kid:∀ m,m∈KN→∃ (i:Nat) (t:Nat×Nat×Nat) (p:List Nm×TE),KN[i]?=some m∧L[i]?=some t∧ks[i]?=some p∧(nd F m).binds=p.1∧(nd F m).e=p.2∧(A.more KN L).lb m=t.1∧(A.more KN L).xb m=t.2.1∧(A.more KN L).xo m=t.2.2:=fun m hm=>by
  obtain⟨i,hi⟩:=List.getElem?_of_mem hm
  have hil:=(List.getElem?_eq_some_iff.1 hi).1
  obtain⟨t,ht⟩:∃ t,L[i]?=some t:=⟨_,List.getElem?_eq_getElem (by omega)⟩
  obtain⟨p,hp⟩:∃ p,ks[i]?=some p:=⟨_,List.getElem?_eq_getElem (by omega)⟩
  obtain⟨m',h1,h2,h3⟩:=hkid i p hp
  rw [hi,Option.some.injEq] at h1
  subst h1
  exact⟨i,t,p,hi,ht,hp,h2,h3,Ad.more_at hKN hi ht⟩
 have kidlb:∀ m,m∈KN→W8.heap.size≤(A.more KN L).lb m:=fun m hm=>by
  obtain⟨i,t,p,h1,h2,h3,h4,h5,h6,h7,h8⟩:=kid m hm
  rw [h6]
  exact(hks.kid i p t h3 h2).new
 have linkLt:∀ i,i<j∨i=j∨i∈K→A.lb i<W8.heap.size:=fun i hi=>by
  have key:∀ {i a b c:Nat} {t:Option Addr} {l:List Nm},LinkIn W8 ρ i a b c t l→a<W8.heap.size:=fun ⟨_,sv,xv,h1,_⟩=>(Array.getElem?_eq_some_iff.1 h1).1
  rcases hi with hi | rfl | hi
  ·exact key (h.k.link i (.inl hi))
  ·exact key hj
  ·exact key (h.k.link i (.inr hi))
 have split:∀ i,i<j+1∨i∈KN++K→(i<j∨i∈K)∨i=j∨i∈KN:=fun i hi=>by
  rcases hi with hi | hi
  ·by_cases e:i=j
   ·exact .inr (.inl e)
   ·exact .inl (.inl (by omega))
  ·rcases List.mem_append.1 hi with hi | hi
   ·exact .inr (.inr hi)
   ·exact .inl (.inr hi)
 have exp':∀ i,i<j+1∨i∈KN++K→TEAt w (nd F i).e ((A.more KN L).xb i) ((A.more KN L).xo i):=fun i hi=>by
  rcases split i hi with hi | rfl | hi
  ·obtain⟨_,e2,e3⟩:=mo i (hi.imp id .inr)
   rw [e2,e3];exact h.k.exp i hi
  ·obtain⟨_,e2,e3⟩:=mo i (.inr (.inl rfl))
   rw [e2,e3];exact ej
  ·obtain⟨q,t,p,h1,h2,h3,h4,h5,h6,h7,h8⟩:=kid i hi
   rw [h5,h7,h8]
   exact(hks.kid q p t h3 h2).exp
 refine⟨⟨h2.k.below,h2.k.low,h2.k.rho,fun i hi0=>?_,exp',fun i k hi0 hk0 e=>?_,fun i hi=>?_,fun i hi=>?_,fun i k hi hk e=>?_⟩,?_,?_,h2.rn,h2.sck,h2.rsc,?_,h2.res,h2.rrs⟩
 ·-- links
  rcases split i hi0 with hi | rfl | hi
  ·obtain⟨e1,e2,e3⟩:=mo i (hi.imp id .inr)
   rw [e1,e2,e3]
   have:=h2.k.link i hi
   by_cases hij:i<j
   ·rw [if_pos hij] at this;rw [if_pos (by omega)];exact this
   ·rw [if_neg hij] at this
    rcases hi with hi2 | hi2
    ·exact absurd hi2 hij
    ·by_cases hij2:i<j+1
     ·have:i=j:=by omega
      subst this
      exact absurd rfl (hne i (.inr hi2))
     ·rw [if_neg hij2];exact this
  ·obtain⟨e1,e2,e3⟩:=mo i (.inr (.inl rfl))
   rw [e1,e2,e3,if_pos (Nat.lt_succ_self _)]
   exact hj2
  ·obtain⟨q,t,p,k1,k2,k3,k4,k5,k6,k7,k8⟩:=kid i hi
   have hd:=hdis i hi
   rw [k6,k7,k8,if_neg (by omega),k4]
   obtain⟨⟨v,c1,c2⟩,c3,c4⟩:=hks.kid q p t k3 k2
   refine⟨?_,v,_,c1,c2.rowIn hkeep (fun q hq=>by rw [hlink0 q (by omega)];exact h.k.low q hq) (fun q hq hs=>?_),fun _=>rfl⟩
   ·unfold linked
    rw [if_pos (List.mem_map.2 ⟨t,List.mem_of_getElem? k2,rfl⟩)]
   ·unfold linked
    rw [if_neg fun hm=>?_]
    ·exact h.k.rho q hq
    ·obtain⟨_,x,y,ad,n,c,h1⟩:=newL q hm
     rw [cell_of_row _ _ 0 _ _ _ h1] at hs
     simp at hs
 ·-- apart
  rcases split i hi0 with hi | rfl | hi
  ·rcases split k hk0 with hk | rfl | hk
   ·rw [(mo i (hi.imp id .inr)).1,(mo k (hk.imp id .inr)).1] at e
    exact h.k.lin i k hi hk e
   ·rw [(mo i (hi.imp id .inr)).1,(mo k (.inr (.inl rfl))).1] at e
    exact absurd e (hne i hi)
   ·rw [(mo i (hi.imp id .inr)).1] at e
    have:=linkLt i (hi.imp id .inr)
    have:=kidlb k hk
    omega
  ·rcases split k hk0 with hk | rfl | hk
   ·rw [(mo i (.inr (.inl rfl))).1,(mo k (hk.imp id .inr)).1] at e
    exact absurd e.symm (hne k hk)
   ·rfl
   ·rw [(mo i (.inr (.inl rfl))).1] at e
    have:=linkLt i (.inr (.inl rfl))
    have:=kidlb k hk
    omega
  ·rcases split k hk0 with hk | rfl | hk
   ·rw [(mo k (hk.imp id .inr)).1] at e
    have:=linkLt k (hk.imp id .inr)
    have:=kidlb i hi
    omega
   ·rw [(mo k (.inr (.inl rfl))).1] at e
    have:=linkLt k (.inr (.inl rfl))
    have:=kidlb i hi
    omega
   ·obtain⟨q1,t1,p1,a1,a2,a3,a4,a5,a6,a7,a8⟩:=kid i hi
    obtain⟨q2,t2,p2,b1,b2,b3,b4,b5,b6,b7,b8⟩:=kid k hk
    rw [a6,b6] at e
    have hq:q1=q2:=by
     have g1:(L.map (·.1))[q1]?=some t1.1:=by rw [List.getElem?_map,a2];rfl
     have g2:(L.map (·.1))[q2]?=some t1.1:=by rw [List.getElem?_map,b2,e];rfl
     exact(List.getElem?_inj (List.getElem?_eq_some_iff.1 g1).1 hks.nodup).1 (g1.trans g2.symm)
    subst hq
    rw [a1,Option.some.injEq] at b1
    exact b1
 ·-- nodes
  by_cases e:i=j
  ·subst e
   obtain⟨e1,e2,e3⟩:=mo i (.inr (.inl rfl))
   show linked ρ L (A.nb i)=3∧_
   refine⟨by rw [hlink0 _ hnj];exact rnb,.slice a ks.length c,?_,?_⟩
   ·rw [e2,e3];exact hnb
   ·rw [hF]
    refine⟨by rw [ptrs_length,List.length_map],a,c,by rw [hlen],fun hz=>?_⟩
    obtain⟨g,rfl,hg,hat⟩:=hks.row (by rw [← hlen];exact hz)
    obtain⟨t0,ht0⟩:∃ t,L[0]?=some t:=⟨_,List.getElem?_eq_getElem (by omega)⟩
    refine⟨g,0,rfl,?_,fun q x hx=>?_⟩
    ·unfold linked
     rw [if_neg fun hm=>?_]
     ·exact h.k.rho g hg
     ·obtain⟨_,x,y,ad,n,c,h1⟩:=newL g hm
      have:=hat 0 t0 ht0
      rw [cell_of_row _ _ 0 _ _ _ h1] at this
      simp at this
    ·have hql:=(List.getElem?_eq_some_iff.1 hx).1
     rw [ptrs_length,List.length_map] at hql
     obtain⟨t,ht⟩:∃ t,L[q]?=some t:=⟨_,List.getElem?_eq_getElem (by omega)⟩
     obtain⟨m,hm⟩:∃ m,KN[q]?=some m:=⟨_,List.getElem?_eq_getElem hql⟩
     rw [ptrs_at (b:=t.1) (by rw [List.getElem?_map,hm,Option.map_some,(Ad.more_at hKN hm ht).1]),Option.some.injEq] at hx
     rw [Nat.zero_add,← hx]
     exact hat q t ht
  ·have hij:i<j:=by omega
   obtain⟨e1,e2,e3⟩:=mo i (.inl hij)
   have:=h2.k.node i hij
   unfold NodeIn at this ⊢
   have e6:(nd F i).next.map (A.more KN L).lb=(nd F i).next.map A.lb:=List.map_congr_left fun k hk=>(mo k (hnx i hij k hk)).1
   rw [e2,e3,e6]
   exact this
 ·by_cases e:i=j
  ·subst e;exact⟨by rw [hlink0 _ (show (A.more KN L).mb i<_ from hmb.lt)];exact rmb,hm2⟩
  ·exact h2.k.live i (by omega)
 ·by_cases ei:i=j
  ·by_cases ek:k=j
   ·rw [ei,ek]
   ·subst ei
    exact absurd e.symm (hmn k (by omega))
  ·by_cases ek:k=j
   ·subst ek
    exact absurd e (hmn i (by omega))
   ·exact h.k.min i k (by omega) (by omega) e
 ·have e0:(A.more KN L).lb 0=A.lb 0:=(mo 0 (by omega)).1
  rw [e0]
  exact h2.nms
 ·have e6:(List.range nl).map (A.more KN L).lb=(List.range nl).map A.lb:=List.map_congr_left fun i hi=>(mo i (by have:=List.mem_range.1 hi;omega)).1
  rw [e6]
  exact h2.rl
 ·rw [todos_congr fun i hi=>mo i (.inr (.inr (hTK i hi)))]
  exact h2.stk
end Go.Proofs.YtnkahlloahgifaaGreatDoor
namespace Go.Proofs.YtnkahlloahgifaaGreatDoor
open Go.RowKit RG Go.Maps
def ReadP (isName:Nm→Bool) (w:World) (ps:List Nm) (e:TE) (en:Ending) (w':World):Prop :=
 Below w.heap.size w w'∧((RG.Good isName ps e∧∃ A f,en = .returned (.pointer (some ⟨f,0,none⟩))∧Fl w' A f (F0 ps e))∨(¬ RG.Good isName ps e∧en = .returned (.pointer none)))
theorem new4 (w:World) (o1 o2 o3 o4:Obj):(((((w.alloc o1).alloc o2).alloc o3).alloc o4).heap[w.heap.size]?=some o1)∧(((((w.alloc o1).alloc o2).alloc o3).alloc o4).heap[w.heap.size+1]?=some o2)∧(((((w.alloc o1).alloc o2).alloc o3).alloc o4).heap[w.heap.size+2]?=some o3)∧(((((w.alloc o1).alloc o2).alloc o3).alloc o4).heap[w.heap.size+3]?=some o4)∧Below w.heap.size w ((((w.alloc o1).alloc o2).alloc o3).alloc o4):=by
 obtain⟨h0,h1,h2,hb⟩:=new3 w o1 o2 o3
 have hs:(((w.alloc o1).alloc o2).alloc o3).heap.size=w.heap.size+3:=by simp
 have k:∀ q,q<w.heap.size+3→((((w.alloc o1).alloc o2).alloc o3).alloc o4).heap[q]?=(((w.alloc o1).alloc o2).alloc o3).heap[q]?:=fun q hq=>Below.heap_alloc _ _ _ (by omega)
 refine⟨(k _ (by omega)).trans h0,(k _ (by omega)).trans h1,(k _ (by omega)).trans h2,?_,hb.alloc (by omega) _⟩
 have:=World.alloc_heap_new (((w.alloc o1).alloc o2).alloc o3) o4
 rw [hs] at this
 exact this
structure HdI (w:World) (r0:Nat) (ps:List Nm) (k:Nat) (sv:Value) (W:World) (ρ:Nat→Nat):Prop where
 below:Below w.heap.size w W
 b0:W.heap[r0]?=some (.cells #[.pointer none] 99 (0,0))
 b1:W.heap[r0+1]?=some (.cells #[sv,.pointer none,.pointer none] 120 (0,0))
 b3:W.heap[r0+3]?=some (.cells #[.pointer (some ⟨r0+1,0,none⟩),.slice none 0 0,.slice none 0 0,.slice none 0 0,.map (some (r0+1+1))] 118 (0,0))
 pm:PMap W (r0+2) []
 row:RR W ρ 4 9 1 sv k (strs (ps.take k))
 r:ρ r0=11∧ρ (r0+1)=2∧ρ (r0+2)=5∧ρ (r0+3)=1
 low:∀ q,q<r0→ρ q=0
 rho:∀ q,W.heap.size≤q→ρ q=0
def role0 (r0:Nat):Nat→Nat:=fun q=>if q=r0 then 11 else if q=r0+1 then 2 else if q=r0+2 then 5 else if q=r0+3 then 1 else 0
theorem role0_at (r0:Nat):role0 r0 r0=11∧role0 r0 (r0+1)=2∧role0 r0 (r0+2)=5∧role0 r0 (r0+3)=1:=by
 unfold role0
 refine⟨if_pos rfl,?_,?_,?_⟩
 ·rw [if_neg (by omega),if_pos rfl]
 ·rw [if_neg (by omega),if_neg (by omega),if_pos rfl]
 ·rw [if_neg (by omega),if_neg (by omega),if_neg (by omega),if_pos rfl]
theorem role0_other {r0 q:Nat}(h:q<r0∨r0+3<q):role0 r0 q=0:=by
 unfold role0
 rw [if_neg (by omega),if_neg (by omega),if_neg (by omega),if_neg (by omega)]
theorem HdI.step {w:World}{r0:Nat}{ps:List Nm}{k:Nat}{sv:Value}{W W':World} {ρ ρ':Nat→Nat}{a:Option Addr}{c:Nat}{x:Nm}(h:HdI w r0 ps k sv W ρ) (hr0:w.heap.size≤r0) (hx:ps[k]?=some x) (hc:Ch (· = 4) ρ ρ' W W')
  (hrow:RR W' ρ' 4 9 1 (.slice a (k+1) c) (k+1) (strs (ps.take k)++[.string x])):HdI w r0 ps (k+1) (.slice a (k+1) c) (W'.setCell ⟨r0+1,0,none⟩ (.slice a (k+1) c)) ρ':=by
 obtain⟨q0,q1,q2,q3⟩:=h.r
 have h1:=hc.keep h.b1 (by rw [q1];decide)
 have k0:∀ q,q≠r0+1→(W'.setCell ⟨r0+1,0,none⟩ (.slice a (k+1) c)).heap[q]?=W'.heap[q]?:=fun q hq=>Below.heap_setCell W' _ _ q hq
 have e1:=(hc.keepRole h.b1).trans q1
 refine⟨(h.below.trans (hc.below h.below.size fun q hq=>?_)).setCell (by show w.heap.size≤r0+1;omega) _,(k0 _ (by omega)).trans (hc.keep h.b0 (by rw [q0];decide)),heap_setCell_same W' _ 0 _ _ _ h1,(k0 _ (by omega)).trans (hc.keep h.b3 (by rw [q3];decide)),?_,?_,⟨(hc.keepRole h.b0).trans q0,e1,(hc.role _ h.pm.lt).trans q2,(hc.keepRole h.b3).trans q3⟩,fun q hq=>?_,fun q hq=>hc.fresh q (by simpa using hq)⟩
 ·rw [h.low q (by omega)];decide
 ·exact h.pm.keep ((k0 _ (by omega)).trans (hc.block _ h.pm.lt (by rw [q2];decide)))
 ·have e:strs (ps.take (k+1))=strs (ps.take k)++[.string x]:=by rw [List.take_add_one,hx];simp [strs]
  rw [e]
  exact hrow.keep (Ch.setCell (Ch.refl (M:=(· = 2)) (ρ:=ρ') (w:=W') hc.fresh) ⟨r0+1,0,none⟩ _ (fun _=>e1)) (by decide)
 ·rw [hc.role q (by have:=(Array.getElem?_eq_some_iff.1 h.b0).1;omega)];exact h.low q hq
theorem HdI.ch {w:World}{r0:Nat}{ps:List Nm}{k:Nat}{sv:Value}{W W':World} {ρ ρ':Nat→Nat}(h:HdI w r0 ps k sv W ρ) (hc:Ch (fun _=>False) ρ ρ' W W'):HdI w r0 ps k sv W' ρ':=by
 obtain⟨q0,q1,q2,q3⟩:=h.r
 exact⟨h.below.trans (hc.below h.below.size fun q hq h=>h),hc.keep h.b0 id,hc.keep h.b1 id,hc.keep h.b3 id,h.pm.keep (hc.block _ h.pm.lt id),h.row.keep hc id,⟨(hc.keepRole h.b0).trans q0,(hc.keepRole h.b1).trans q1,(hc.role _ h.pm.lt).trans q2,(hc.keepRole h.b3).trans q3⟩,
  fun q hq=>(hc.role q (by have:=(Array.getElem?_eq_some_iff.1 h.b0).1;omega)).trans (h.low q hq),hc.fresh⟩
theorem HdI.grow {w:World}{r0:Nat}{ps:List Nm}{k:Nat}{sv:Value}{W W':World} {ρ:Nat→Nat}(h:HdI w r0 ps k sv W ρ) (hb:Below W.heap.size W W'):HdI w r0 ps k sv W' ρ:=h.ch (Ch.of_below hb h.rho)
theorem Tryz.info35e:(Tryz.prog.info? 9).map (fun i=>(i.zero,i.size,i.bytes))=some (some (.string ⟨#[]⟩),1,16):=by kernel_rfl
def Mk (w:World) (Ds:List Nat) (W:World) (ρ:Nat→Nat):Prop:=Ds.Nodup∧∀ D∈Ds,w.heap.size≤D∧ρ D=0∧W.heap[D]?=some (.deferred (some []))
theorem Mk.ch {w W W':World}{Ds:List Nat} {ρ ρ':Nat→Nat}{M:Nat→Prop}(h:Mk w Ds W ρ) (hc:Ch M ρ ρ' W W') (hM:¬ M 0):Mk w Ds W' ρ' :=
 ⟨h.1,fun D hD=>by obtain⟨a,b,c⟩:=h.2 D hD;exact⟨a,(hc.keepRole c).trans b,hc.keep c (by rw [b];exact hM)⟩⟩
theorem Mk.grow {w W W':World}{Ds:List Nat} {ρ:Nat→Nat}(h:Mk w Ds W ρ) (hb:Below W.heap.size W W'):Mk w Ds W' ρ :=
 ⟨h.1,fun D hD=>by obtain⟨a,b,c⟩:=h.2 D hD;exact⟨a,b,heap_below hb c⟩⟩
theorem Mk.setCell {w W:World}{Ds:List Nat} {ρ:Nat→Nat}(h:Mk w Ds W ρ) (a:Addr) (v:Value) {cs:Array Value}{T:TypeId}{r:Nat×Nat}(ha:W.heap[a.block]?=some (.cells cs T r)):Mk w Ds (W.setCell a v) ρ :=
 ⟨h.1,fun D hD=>by
  obtain⟨x,y,z⟩:=h.2 D hD
  refine⟨x,y,(Below.heap_setCell W a v D ?_).trans z⟩
  rintro rfl
  rw [ha] at z
  cases z⟩
def LpI (isName:Nm→Bool) (w:World) (ps:List Nm) (e:TE) (f r0 gk:Nat) (v6:Value) (ds:List Deferred) (W:World):Prop :=
 ∃ (A:Ad) (sc j:Nat) (stk:List (List Nm×TE)) (names:List Nm) (sl sn sv vs:Value) (ρ:Nat→Nat) (Ds:List Nat),
  (gk=(F0 ps e).length - j∧j≤20000∧v6 = .pointer (some ⟨sc,0,none⟩)∧ds=Ds.map mark)∧Mk w Ds W ρ∧RdS w A (F0 ps e) f sc r0 j (nums j stk) (nums j stk) names sl sn sv vs j j W ρ ∧
  Stk (F0 ps e) j stk∧(∀ i,i<j→∀ k∈(nd (F0 ps e) i).next,k<j∨k∈nums j stk)∧(∀ k∈nums j stk,(nd (F0 ps e) k).binds.length≤16)∧names.length≤16*j∧stk.length≤16*j+1∧rd isName e.size 0 [] [(ps,e)]=rd isName (e.size - j) j names stk
theorem RdS.start {w W0 W:World}{r0 n sc rb b o:Nat}{ps:List Nm}{e:TE}{sv0:Value} {ρ0:Nat→Nat}(h:HdI w r0 ps n sv0 W0 ρ0) (hr0:r0=w.heap.size) (hn:n=ps.length) (ht:TFunAt w b o ps e) (hb:Below W0.heap.size W0 W)
  (h1:W0.heap.size≤sc) (h2:W0.heap.size≤rb) (hne:sc≠rb) (hsc:W.heap[sc]?=some (.cells #[.slice (some ⟨rb,0,none⟩) 1 1] 160 (0,0)))
  (hrb:W.heap[rb]?=some (.cells #[.pointer (some ⟨r0+1,0,none⟩),.pointer (some ⟨b,o+3,none⟩)] 159 (0,0))) :
  RdS w { lb:=fun _=>r0+1,nb:=fun _=>0,mb:=fun _=>0,xb:=fun _=>b,xo:=fun _=>o+3,pl:=r0+2 } (F0 ps e) (r0+3) sc r0 0 [0] [0] [] (.slice none 0 0) (.slice none 0 0) (.slice none 0 0) (.slice (some ⟨rb,0,none⟩) 1 1) 0 0 W (fun q=>if q=sc then 9 else if q=rb then 10 else role0 r0 q):=by
 subst hn
 obtain⟨q0,q1,q2,q3⟩:=h.r
 obtain⟨z0,z1,z2,z3⟩:=role0_at r0
 have hW:=h.grow hb
 have b0:=(Array.getElem?_eq_some_iff.1 h.b0).1
 have b1:=(Array.getElem?_eq_some_iff.1 h.b1).1
 have b2:=h.pm.lt
 have b3:=(Array.getElem?_eq_some_iff.1 h.b3).1
 have c1:=(Array.getElem?_eq_some_iff.1 hsc).1
 have c2:=(Array.getElem?_eq_some_iff.1 hrb).1
 have old:∀ q,q<W0.heap.size→(if q=sc then 9 else if q=rb then 10 else role0 r0 q)=role0 r0 q:=fun q hq=>by rw [if_neg (by omega),if_neg (by omega)]
 have fresh:∀ q,W.heap.size≤q→(if q=sc then 9 else if q=rb then 10 else role0 r0 q)=0:=fun q hq=>by
  have:=hb.size
  rw [if_neg (by omega),if_neg (by omega)]
  exact role0_other (.inr (by omega))
 have F0n:=F0_nd0 ps e
 refine⟨⟨hW.below,fun q hq=>?_,fresh,fun i hi=>?_,fun i hi=>?_,fun i k hi hk _=>?_,fun i hi=>by omega,fun i hi=>by omega,fun i k hi=>by omega⟩,⟨hW.b3,RR.nil _ _ _ _ _,hW.pm,?_,?_,fresh⟩,RR.nil _ _ _ _ _,RR.nil _ _ _ _ _,hsc,if_pos rfl,?_,hW.b0,?_⟩
 ·have:=h.below.size
  rw [old q (by omega)];exact role0_other (.inl (by omega))
 ·have e0:i=0:=by rcases hi with hi | hi;omega;simpa using hi
  subst e0
  rw [F0n]
  refine⟨(old _ b1).trans z1,sv0,.pointer none,hW.b1,?_,fun h=>absurd h (by omega)⟩
  have hrow:=hW.row
  rw [List.take_length] at hrow
  obtain⟨a,c,rfl⟩:=hrow.shape
  refine⟨strs_length _,a,c,rfl,fun h0=>?_⟩
  obtain⟨g,rfl,hg,_,_,hat⟩:=hrow.cell h0
  refine⟨g,0,rfl,?_,fun i x hi=>by rw [Nat.zero_add];exact hat i x hi⟩
  have hrow0:=h.row
  rw [List.take_length] at hrow0
  obtain⟨g',e',_,_,_,hat0⟩:=hrow0.cell h0
  simp only [Option.some.injEq,Addr.mk.injEq,and_true] at e'
  subst e'
  obtain⟨x,hx⟩:∃ x,(strs ps)[0]?=some x:=⟨_,List.getElem?_eq_getElem (by rw [strs_length];exact h0)⟩
  have hlt:=World.block_lt_of_cell? W0 _ (hat0 0 x hx)
  refine(old g hlt).trans ?_
  unfold role0
  rw [if_neg (fun e=>by rw [e,q0] at hg;cases hg),if_neg (fun e=>by rw [e,q1] at hg;cases hg),if_neg (fun e=>by rw [e,q2] at hg;cases hg),if_neg (fun e=>by rw [e,q3] at hg;cases hg)]
 ·have e0:i=0:=by rcases hi with hi | hi;omega;simpa using hi
  subst e0
  rw [F0n]
  exact ht.body
 ·have e0:i=0:=by rcases hi with hi | hi;omega;simpa using hi
  have e1:k=0:=by rcases hk with hk | hk;omega;simpa using hk
  rw [e0,e1]
 ·exact(old _ b3).trans z3
 ·exact(old _ b2).trans z2
 ·refine⟨⟨by rw [todos_length],.inr ⟨rb,1,_,rfl,Nat.zero_le _,hrb,Nat.le_refl _,by decide,rfl,rfl⟩⟩,fun q hq=>?_⟩
  simp [Value.ownBlock] at hq
  subst hq
  show (if rb=sc then 9 else if rb=rb then 10 else role0 r0 rb)=10
  rw [if_neg (fun e=>hne e.symm),if_pos rfl]
 ·exact(old _ b0).trans z0
end Go.Proofs.YtnkahlloahgifaaGreatDoor
namespace Go.Proofs.YtnkahlloahgifaaGreatDoor
open Go.RowKit RG Go.Maps
theorem nodeOk_few {e:TE}(h:nodeOk e=true):e.kids.length≤16∧e.args.length≤16∧∀ p∈e.kids,p.1.length≤16:=by
 unfold nodeOk at h
 rw [Bool.and_eq_true,List.all_eq_true] at h
 refine⟨?_,?_,fun p hp=>by simpa using h.2 p hp⟩
 ·rcases form_cases h.1 with ⟨_,_,hb,ha,_⟩|⟨_,hb,_,ha,_⟩|⟨_,_,hb,ha,_⟩
  ·obtain⟨p,he,_⟩:=kids_rest hb ha
   rw [he];exact Nat.succ_le_succ (Nat.zero_le _)
  ·rw [kids_arms hb,TA.kids_length];exact ha
  ·rw [kids_end hb ha];decide
 ·rcases form_cases h.1 with ⟨_,_,_,_,ha⟩|⟨_,_,_,_,ha,_⟩|⟨_,_,_,_,ha⟩<;>omega
theorem F0_next {ps:List Nm}{e:TE}{i:Nat}(hi:i<(F0 ps e).length):(∀ k∈(nd (F0 ps e) i).next,i<k∧k<(F0 ps e).length)∧∀ x,lv (F0 ps e) i x=(RG.has (nd (F0 ps e) i).uses x||(nd (F0 ps e) i).next.any fun k=>lv (F0 ps e) k x && !(RG.has (nd (F0 ps e) k).binds x)):=by
 obtain⟨l,hs⟩:=stk_at ps e i (by omega)
 obtain⟨bs,e1,r,rfl,hn,hz⟩:=stk_head hs hi
 have h1:=e1.size_kids
 refine⟨fun k hk=>?_,fun x=>?_⟩
 ·rw [hn] at hk
  have:=nums_range hk
  omega
 ·rw [lv_lies hs.lies hz,TE.live_kids,hn]
  simp only [Nd.uses]
  rw [lv_kids x e1.kids (i+1) hs.lies.kids.left (by omega)]
theorem RdS.flow {w W:World}{A:Ad}{f sc rs j:Nat}{ps:List Nm}{e:TE}{names:List Nm}{sl sn sv vs:Value} {ρ:Nat→Nat}(h:RdS w A (F0 ps e) f sc rs j [] [] names sl sn sv vs j j W ρ) (hj:j=(F0 ps e).length) (h20:j≤20000) (hl:names.length≤16*j)
  (hnm:names=vars (F0 ps e)) (hn:(vars (F0 ps e)).Nodup) (hok:∀ d∈F0 ps e,nodeOk d.e=true) (hsz:∀ d∈F0 ps e,(∀ x∈d.binds,x.size≤maxLen)∧∀ x∈d.e.args,x.size≤maxLen):FlIn W A f (F0 ps e):=by
 subst hnm
 have hlt:∀ i,i<(F0 ps e).length→i<j:=fun i hi=>by omega
 have slat:∀ {r:Nat} {e:TypeId} {v:Value} {n:Nat} {xs:List Value},xs.length=n→RR W ρ r e 1 v n xs→SlAt W v n xs:=fun {r e v n xs} hx hr=>by
  obtain⟨a,c,rfl⟩:=hr.shape
  exact⟨hx,a,c,rfl,fun h0=>by obtain⟨g,e1,_,_,_,hat⟩:=hr.cell h0;exact⟨g,0,e1,fun i x hi=>by rw [Nat.zero_add];exact hat i x hi⟩⟩
 refine⟨⟨⟨sl,sn,sv,h.nms.fb,?_,?_,?_⟩,fun i hi=>?_,fun i hi=>?_,fun i hi=>?_,h.nms.pm⟩,fun i hi=>(h.k.live i (hlt i hi)).2,fun i k hi hk=>h.k.min i k (hlt i hi) (hlt k hk),fun i hi e2=>?_,?_,hn,fun i hi=>(F0_next hi).1,fun i x hi=>(F0_next hi).2 x,?_,?_,fun i hi=>?_,fun i hi=>?_⟩
 ·have:=slat (by rw [ptrs_length,List.length_map,List.length_range]) h.rl
  rw [hj] at this;exact this
 ·have:=slat (by rw [ptrs_length,List.length_map,List.length_range]) h.rn
  rw [hj] at this;exact this
 ·exact slat (strs_length _) h.nms.row
 ·obtain⟨_,s,xv,h1,h2,_⟩:=h.k.link i (.inl (hlt i hi))
  rw [if_pos (hlt i hi)] at h1
  exact⟨s,xv,h1,h2.sl⟩
 ·obtain⟨_,sx,h1,h2⟩:=h.k.node i (hlt i hi)
  exact⟨sx,h1,h2.sl⟩
 ·exact TEAt.kept (kept_below h.k.below) _ _ _ (h.k.exp i (.inl (hlt i hi)))
 ·have h8:=(h.k.live i (hlt i hi)).1
  have h5:=h.nms.rp
  rw [e2] at h8
  omega
 ·rw [F0_length];exact e.size_pos
 ·omega
 ·omega
 ·obtain⟨l,hs⟩:=stk_at ps e i (by omega)
  obtain⟨bs,e1,r,rfl,hn2,hz⟩:=stk_head hs hi
  have:=(nodeOk_few (hok _ (nd_mem hi))).1
  rw [hn2] at this ⊢
  simp only [nums_length]
  simp only [] at this
  omega
 ·have:=(nodeOk_few (hok _ (nd_mem hi))).2.1
  exact⟨by omega,(hsz _ (nd_mem hi)).2⟩
theorem stk_top {F:List Nd}{j:Nat}{bs:List Nm}{e1:TE}{stk:List (List Nm×TE)}(h:Stk F j ((bs,e1) :: stk)):j<F.length∧nd F j=⟨bs,e1,nums (j+1) e1.kids⟩∧e1.size=sizes e1.kids+1∧∀ k∈nums (j+e1.size) stk,j+e1.size≤k∧k<F.length:=by
 have hs:=h.size
 rw [sizes_cons] at hs
 simp only [] at hs
 have:=e1.size_pos
 refine⟨by omega,h.lies.head,e1.size_kids,fun k hk=>?_⟩
 have:=nums_range hk
 omega
theorem rd_none {isName:Nm→Bool}{ps:List Nm}{e:TE}{x:Option (List Nm)}(h:rd isName e.size 0 [] [(ps,e)]=x) (hx:x=none):¬ RG.Good isName ps e:=fun hg=>by
 have:=(good_rd.1 hg).2.1
 rw [h,hx] at this
 cases this
theorem rd_fuel {ps:List Nm}{e:TE}{j:Nat}(h:j<(F0 ps e).length):∃ k,e.size - j=k+1∧e.size - (j+1)=k:=by
 rw [F0_length] at h
 exact⟨e.size - (j+1),by omega,rfl⟩
theorem rd_many {isName:Nm→Bool}{ps bs names:List Nm}{e e1:TE}{j:Nat}{stk:List (List Nm×TE)}(hj:j=20000) (h:j<(F0 ps e).length):rd isName (e.size - j) j names ((bs,e1) :: stk)=none:=by
 obtain⟨k,h1,_⟩:=rd_fuel h
 rw [h1,rd,if_pos hj]
theorem rd_form {isName:Nm→Bool}{ps bs names:List Nm}{e e1:TE}{j:Nat}{stk:List (List Nm×TE)}(hf:e1.form=false) (h:j<(F0 ps e).length):rd isName (e.size - j) j names ((bs,e1) :: stk)=none:=by
 obtain⟨k,h1,_⟩:=rd_fuel h
 rw [h1,rd,if_pos hf,ite_self]
theorem rd_bind {isName:Nm→Bool}{ps bs names:List Nm}{e e1:TE}{j:Nat}{stk:List (List Nm×TE)}(hb:bindOk isName names bs=none) (h:j<(F0 ps e).length):rd isName (e.size - j) j names ((bs,e1) :: stk)=none:=by
 obtain⟨k,h1,_⟩:=rd_fuel h
 rw [h1,rd,hb]
 simp
theorem rd_kids {isName:Nm→Bool}{ps bs names:List Nm}{e e1:TE}{j:Nat}{stk:List (List Nm×TE)}(hk:(e1.kids.all fun p=>decide (p.1.length≤16))=false) (h:j<(F0 ps e).length):rd isName (e.size - j) j names ((bs,e1) :: stk)=none:=by
 obtain⟨k,h1,_⟩:=rd_fuel h
 rw [h1,rd]
 split
 ·rfl
 ·split
  ·rfl
  ·cases bindOk isName names bs with
   | none=>rfl
   | some ns=>simp [hk]
theorem rd_next {isName:Nm→Bool}{ps bs names ns:List Nm}{e e1:TE}{j:Nat}{stk:List (List Nm×TE)}(h20:j≠20000) (hf:e1.form=true) (hb:bindOk isName names bs=some ns) (hk:(e1.kids.all fun p=>decide (p.1.length≤16))=true) (h:j<(F0 ps e).length) :
  rd isName (e.size - j) j names ((bs,e1) :: stk)=rd isName (e.size - (j+1)) (j+1) ns (e1.kids++stk):=by
 obtain⟨k,h1,h2⟩:=rd_fuel h
 rw [h1,h2,rd,if_neg h20,if_neg (by rw [hf];decide),hb]
 simp only []
 rw [if_neg (by rw [hk];decide)]
theorem rd_end {isName:Nm→Bool}{ps:List Nm}{e:TE}{j:Nat}{names:List Nm}(h:rd isName e.size 0 [] [(ps,e)]=rd isName (e.size - j) j names []) (hs:Stk (F0 ps e) j []) :
  j=(F0 ps e).length∧names=vars (F0 ps e)∧(∀ d∈F0 ps e,nodeOk d.e=true)∧(vars (F0 ps e)).Nodup∧rd isName e.size 0 [] [(ps,e)]=some (vars (F0 ps e)):=by
 have h2:rd isName (e.size - j) j names []=some names:=by cases e.size - j<;>rfl
 rw [h2] at h
 have hz:sizes [(ps,e)]=e.size:=by rw [sizes_cons,sizes_nil];rfl
 obtain⟨_,b,c,d⟩:=rd_some e.size 0 [] [(ps,e)] _ (by rw [hz];exact Nat.le_refl _) h
 have e1:names=vars (F0 ps e):=by rw [d,List.nil_append];rfl
 refine⟨by have:=hs.size;rw [sizes_nil] at this;exact this,e1,b,c.2,by rw [h,e1]⟩
theorem leave_marks {w W:World}{Ds:List Nat} {ρ:Nat→Nat}{tmps:Array Value}{R:Ending→World→Prop}(hm:Mk w Ds W ρ) (h:∀ W':World,Below w.heap.size W W'→(∀ q,q∉Ds→W'.heap[q]?=W.heap[q]?)→LeavesInM Fence.wide 3 Tryz.prog Tryz.f58 tmps R [] .returning W') :
  LeavesInM Fence.wide 3 Tryz.prog Tryz.f58 tmps R (Ds.map mark) .returning W :=
 leaves_marks Ds W hm.1 (fun D hD=>(hm.2 D hD).2.2) fun W' a b c d e=>h W' ⟨a,b,c,by omega,fun q hq=>e q fun hD=>by have:=(hm.2 q hD).1;omega⟩ e
theorem FlatAt.past {w1 W':World}{A:Ad}{f r0:Nat}{F:List Nd}(h:FlatAt w1 A f F) (hr:w1.heap[r0]?=some (.cells #[.pointer none] 99 (0,0)))
  (hs:∀ (q:Nat) (o:Obj),q≠r0→w1.heap[q]?=some o→(o.isCells=true∨o.isWalk=true)→W'.heap[q]?=some o) (hx:∀ i,i<F.length→TEAt W' (nd F i).e (A.xb i) (A.xo i)):FlatAt W' A f F:=by
 have hc:∀ (a:Addr) (x:Value),x ≠ .pointer none→w1.cell? a=some x→W'.cell? a=some x:=fun a x hne ha=>by
  obtain⟨cs,T,r,ho⟩:=cell_obj ha
  have hab:a.block≠r0:=fun e=>by
   obtain⟨ab,ao,asp⟩:=a
   simp only at e
   subst e
   unfold World.cell? at ha
   simp only [hr] at ha
   split at ha
   ·cases ha
   ·cases ao with
    | zero=>simp at ha;exact hne ha.symm
    | succ n=>simp at ha
  rw [World.cell?_of_block ((hs _ _ hab ho (.inl rfl)).trans ho.symm)]
  exact ha
 have ob:∀ (q:Nat) (cs:Array Value) (T:TypeId) (r:Nat×Nat),T≠99→w1.heap[q]?=some (.cells cs T r)→W'.heap[q]?=some (.cells cs T r):=fun q cs T r hT ho=>hs q _ (fun e=>by
  subst e
  rw [hr] at ho
  simp only [Option.some.injEq,Obj.cells.injEq] at ho
  exact hT ho.2.1.symm) ho (.inl rfl)
 have mp:∀ (q:Nat) es c,w1.heap[q]?=some (.map es c)→W'.heap[q]?=w1.heap[q]?:=fun q es c ho=>(hs q _ (fun e=>by subst e;rw [hr] at ho;cases ho) ho (.inr rfl)).trans ho.symm
 have hst:∀ (ns:List Nm) (x:Value),x∈strs ns→x ≠ .pointer none:=fun ns x hx e=>by
  subst e
  unfold strs at hx
  obtain⟨n,_,hn⟩:=List.mem_map.1 hx
  cases hn
 have hpt:∀ (l:List Nat) (x:Value),x∈ptrs l→x ≠ .pointer none:=fun l x hx e=>by
  subst e
  unfold ptrs at hx
  obtain⟨n,_,hn⟩:=List.mem_map.1 hx
  cases hn
 obtain⟨⟨sl,sn,sv,f0,f1,f2,f3⟩,h2,h3,h4,h5,h6⟩:=h
 refine⟨⟨sl,sn,sv,ob _ _ _ _ (by decide) f0,f1.keep fun a x hm=>hc a x (hpt _ _ hm),f2.keep fun a x hm=>hc a x (hpt _ _ hm),SlAt.keep f3 fun a x hm=>hc a x (hst _ _ hm)⟩,fun i hi=>?_,fun i hi=>?_,fun i hi=>?_,hx,?_⟩
 ·obtain⟨s,xv,a,b⟩:=h2 i hi
  exact⟨s,xv,ob _ _ _ _ (by decide) a,SlAt.keep b fun a x hm=>hc a x (hst _ _ hm)⟩
 ·obtain⟨sx,a,b⟩:=h3 i hi
  exact⟨sx,ob _ _ _ _ (by decide) a,b.keep fun a x hm=>hc a x (hpt _ _ hm)⟩
 ·obtain⟨es,c,ho⟩:=IMap.obj (h4 i hi)
  exact IMap.keep (h4 i hi) (mp _ _ _ ho)
 ·obtain⟨es,c,ho⟩:=h6.obj
  exact h6.keep (mp _ _ _ ho)
end Go.Proofs.YtnkahlloahgifaaGreatDoor
namespace Go.Proofs.YtnkahlloahgifaaGreatDoor
open Go.RowKit RG Go.Maps
variable {w:World} {A:Ad} {F:List Nd} {f sc rs j:Nat} {K T:List Nat} {names:List Nm} {sl sn sv vs:Value} {nl nn:Nat} {W:World} {ρ:Nat→Nat}
theorem RdS.below (h:RdS w A F f sc rs j K T names sl sn sv vs nl nn W ρ) {M:Nat→Prop} {ρ':Nat→Nat}{W':World}(hc:Ch M ρ ρ' W W') (h0:¬ M 0):Below w.heap.size W W' :=
 hc.below h.k.below.size fun q hq=>by rw [h.k.low q hq];exact h0
theorem RdS.high (h:RdS w A F f sc rs j K T names sl sn sv vs nl nn W ρ) {q:Nat}(hq:ρ q≠0):w.heap.size≤q:=Nat.le_of_not_lt fun hlt=>hq (h.k.low q hlt)
theorem RdS.bound {W':World} {ρ':Nat→Nat}{sv':Value}{ns:List Nm}(h:RdS w A F f sc rs j K T names sl sn sv vs nl nn W ρ) (hc:Ch MB ρ ρ' W W') (hn:Nms W' ρ' f A.pl (.pointer (some ⟨A.lb 0,0,none⟩)) sl sn sv' ns) :
  RdS w A F f sc rs j K T ns sl sn sv' vs nl nn W' ρ':=by
 have k:=Kp.of_ch hc
 refine h.re k (h.below hc (by unfold MB;decide)) (fun q hq=>?_) hn (k.rr h.rl fun q e hq=>?_) (k.rr h.rn fun q e hq=>?_)
 ·rcases hq with hq | hq | hq<;>omega
 ·rcases hq with hq | hq | hq<;>omega
 ·rcases hq with hq | hq | hq<;>omega
theorem row_set {w:World}{f i:Nat}{a b c d e v:Value}{T:TypeId}(h:w.heap[f]?=some (.cells #[a,b,c,d,e] T (0,0))):(w.setCell ⟨f,i,none⟩ v).heap[f]?=some (.cells (#[a,b,c,d,e].setIfInBounds i v) T (0,0)):=heap_setCell_same w f i _ _ _ h
theorem RdS.pushNode {W':World} {ρ':Nat→Nat}{a:Option Addr}{c:Nat}(h:RdS w A F f sc rs j K T names sl sn sv vs nl nn W ρ) (hc:Ch (· = 7) ρ ρ' W W')
  (hr:RR W' ρ' 7 100 1 (.slice a (nn+1) c) (nn+1) (ptrs ((List.range nn).map A.nb)++[.pointer (some ⟨A.nb nn,0,none⟩)])) :
  RdS w A F f sc rs j K T names sl (.slice a (nn+1) c) sv vs nl (nn+1) (W'.setCell ⟨f,2,none⟩ (.slice a (nn+1) c)) ρ':=by
 have k1:=Kp.of_ch hc
 have hn1:=h.nms.kp k1 (fun q e hq=>by omega)
 have k2:=Kp.setCell (ρ:=ρ') (w:=W') ⟨f,2,none⟩ (.slice a (nn+1) c) hc.fresh
 have fne:∀ q,ρ' q≠1→¬ (q=(⟨f,2,none⟩:Addr).block):=fun q hq e=>hq (by rw [e];exact hn1.rf)
 have k:Kp (fun q=>ρ q=1∨ρ q=7) ρ ρ' W (W'.setCell ⟨f,2,none⟩ (.slice a (nn+1) c)) :=
  ⟨by simpa using hc.size,fun q o ho hk hs=>k2.obj q o (k1.obj q o ho hk fun e=>hs (.inr e)) hk (fne q (by rw [hc.keepRole ho];exact fun e=>hs (.inl e))),hc.role,fun q hq=>hc.fresh q (by simpa using hq)⟩
 have hb:Below w.heap.size W (W'.setCell ⟨f,2,none⟩ (.slice a (nn+1) c)):=(h.below hc (by decide)).setCell (h.high (by rw [h.nms.rf];decide)) _
 refine h.re k hb (fun q hq=>by omega) ⟨row_set hn1.fb,k2.rr hn1.row (fun q e=>fne q (by omega)),k2.pmap hn1.pm (fne _ (by rw [hn1.rp];decide)),hn1.rf,hn1.rp,k2.fresh⟩ (k.rr h.rl fun q e hq=>by omega) ?_
 rw [List.range_succ,List.map_append,ptrs_append]
 exact k2.rr hr (fun q e=>fne q (by omega))
theorem RdS.pushLink {W':World} {ρ':Nat→Nat}{a:Option Addr}{c:Nat}(h:RdS w A F f sc rs j K T names sl sn sv vs nl nn W ρ) (hc:Ch (· = 6) ρ ρ' W W')
  (hr:RR W' ρ' 6 114 1 (.slice a (nl+1) c) (nl+1) (ptrs ((List.range nl).map A.lb)++[.pointer (some ⟨A.lb nl,0,none⟩)])) :
  RdS w A F f sc rs j K T names (.slice a (nl+1) c) sn sv vs (nl+1) nn (W'.setCell ⟨f,1,none⟩ (.slice a (nl+1) c)) ρ':=by
 have k1:=Kp.of_ch hc
 have hn1:=h.nms.kp k1 (fun q e hq=>by omega)
 have k2:=Kp.setCell (ρ:=ρ') (w:=W') ⟨f,1,none⟩ (.slice a (nl+1) c) hc.fresh
 have fne:∀ q,ρ' q≠1→¬ (q=(⟨f,1,none⟩:Addr).block):=fun q hq e=>hq (by rw [e];exact hn1.rf)
 have k:Kp (fun q=>ρ q=1∨ρ q=6) ρ ρ' W (W'.setCell ⟨f,1,none⟩ (.slice a (nl+1) c)) :=
  ⟨by simpa using hc.size,fun q o ho hk hs=>k2.obj q o (k1.obj q o ho hk fun e=>hs (.inr e)) hk (fne q (by rw [hc.keepRole ho];exact fun e=>hs (.inl e))),hc.role,fun q hq=>hc.fresh q (by simpa using hq)⟩
 have hb:Below w.heap.size W (W'.setCell ⟨f,1,none⟩ (.slice a (nl+1) c)):=(h.below hc (by decide)).setCell (h.high (by rw [h.nms.rf];decide)) _
 refine h.re k hb (fun q hq=>by omega) ⟨row_set hn1.fb,k2.rr hn1.row (fun q e=>fne q (by omega)),k2.pmap hn1.pm (fne _ (by rw [hn1.rp];decide)),hn1.rf,hn1.rp,k2.fresh⟩ ?_ (k.rr h.rn fun q e hq=>by omega)
 rw [List.range_succ,List.map_append,ptrs_append]
 exact k2.rr hr (fun q e=>fne q (by omega))
theorem RdS.noded (h:RdS w A F f sc rs j K T names sl sn sv vs nl nn W ρ) (hnn:nn≤j) (hnx:∀ i,i<j→∀ k∈(nd F i).next,k<j∨k∈K) (x:Value) :
  RdS w (A.node j (W.heap.size+1) W.heap.size) F f sc rs j K T names sl sn sv vs nl nn ((W.alloc (.map #[] 0)).alloc (.cells #[x,.slice none 0 0,.map (some W.heap.size)] 110)) (roleAt (roleAt ρ W.heap.size 8) (W.heap.size+1) 3):=by
 have hb:Below W.heap.size W ((W.alloc (.map #[] 0)).alloc (.cells #[x,.slice none 0 0,.map (some W.heap.size)] 110)):=((Below.refl _ _).alloc (Nat.le_refl _) _).alloc (by simp) _
 have k:Kp (fun _=>False) ρ (roleAt (roleAt ρ W.heap.size 8) (W.heap.size+1) 3) W ((W.alloc (.map #[] 0)).alloc (.cells #[x,.slice none 0 0,.map (some W.heap.size)] 110)) :=
  (Kp.of_below hb h.k.rho).roleNew _ (fun q hq=>by rw [roleAt_other _ _ _ (by omega),roleAt_other _ _ _ (by omega)]) (fun q hq=>by
   simp at hq
   rw [roleAt_other _ _ _ (by omega),roleAt_other _ _ _ (by omega)];exact h.k.rho q (by omega))
 have h2:=h.kp k (hb.mono h.k.below.size) (fun _ _ _ h=>h) (fun _ _ h=>h) (fun _ _ h=>h)
 refine⟨h2.k.congr hnx (fun i _=>⟨rfl,rfl,rfl⟩) (fun i hi=>⟨if_neg (by omega),if_neg (by omega)⟩),h2.nms,h2.rl,?_,h2.sck,h2.rsc,h2.stk,h2.res,h2.rrs⟩
 have e:(List.range nn).map (A.node j (W.heap.size+1) W.heap.size).nb=(List.range nn).map A.nb:=List.map_congr_left fun i hi=>if_neg (by have:=List.mem_range.1 hi;omega)
 rw [e]
 exact h2.rn
theorem RdS.linkTo {K':List Nat}{v:Value}(h:RdS w A F f sc rs j K T names sl sn sv vs nl nn W ρ) (hr:ρ (A.lb j)=2) (hK:∀ k∈K',k∈K) (hne:∀ i,i<j∨i∈K'→A.lb i≠A.lb j) :
  RdS w A F f sc rs j K' T names sl sn sv vs nl nn (W.setCell ⟨A.lb j,2,none⟩ v) ρ:=by
 refine(h.sub hK).kp (Kp.setCell ⟨A.lb j,2,none⟩ v h.k.rho) ((Below.refl _ _).setCell (h.high (by rw [hr];decide)) _) (fun q h2 _ e=>h2 (by rw [e];exact hr)) (fun i hi e=>hne i hi e) (fun i hi e=>?_)
 have:=(h.k.node i hi).1
 rw [e] at this
 simp only [] at this
 omega
theorem KsAt.set {w0 w w':World}{ks:List (List Nm×TE)}{a:Option Addr}{L:List (Nat×Nat×Nat)}(h:KsAt w0 w w' ks a L) {b o:Nat}(hb:b<w.heap.size) (v:Value):KsAt w0 w (w'.setCell ⟨b,o,none⟩ v) ks a L:=by
 have far:∀ (g q:Nat) (x:Value),w.heap.size≤g→w'.cell? ⟨g,q,none⟩=some x→(w'.setCell ⟨b,o,none⟩ v).cell? ⟨g,q,none⟩=some x:=fun g q x hg hx=>by
  rw [World.cell?_setCell_far _ _ _ _ (by show b≠g;omega)];exact hx
 refine⟨h.len,fun h0=>?_,fun j p t hj ht=>?_,h.nodup⟩
 ·obtain⟨g,e,hg,hat⟩:=h.row h0
  exact⟨g,e,hg,fun j t ht=>far _ _ _ hg (hat j t ht)⟩
 ·obtain⟨⟨s,h1,h2⟩,h3,h4⟩:=h.kid j p t hj ht
  refine⟨⟨s,(Below.heap_setCell w' _ v _ (by show t.1≠b;omega)).trans h1,?_⟩,h3,h4⟩
  rcases h2 with h2 | ⟨g,q1,q2,q3⟩
  ·exact .inl h2
  ·exact .inr ⟨g,q1,q2,fun i x hx=>far _ _ _ q2 (q3 i x hx)⟩
theorem Tryz.info100r:(Tryz.prog.info? 100).map (fun i=>(i.zero,i.size,i.bytes))=some (some (.pointer none),1,8):=by kernel_rfl
theorem Tryz.info159r:(Tryz.prog.info? 159).map (fun i=>(i.zero,i.size,i.bytes))=some (some (.agg #[.pointer none,.pointer none]),2,16):=by kernel_rfl
theorem Mk.ext {w W W':World}{Ds:List Nat} {ρ ρ':Nat→Nat}(h:Mk w Ds W ρ) (hb:Below W.heap.size W W') (hρ:∀ q,q<W.heap.size→ρ' q=ρ q):Mk w Ds W' ρ' :=
 ⟨h.1,fun D hD=>by obtain⟨a,b,c⟩:=h.2 D hD;exact⟨a,(hρ D (Array.getElem?_eq_some_iff.1 c).1).trans b,heap_below hb c⟩⟩
structure Ex (w:World) (Ds:List Nat) (j lb xb xo nb mb b7:Nat) (bs:List Nm) (sx:Value) (W:World) (ρ:Nat→Nat):Prop where
 node:W.heap[nb]?=some (.cells #[.pointer (some ⟨xb,xo,none⟩),sx,.map (some mb)] 110 (0,0))
 rnb:ρ nb=3
 map:IMap Tryz.prog W mb []
 rmb:ρ mb=8
 d7:W.heap[b7]?=some (.cells #[.pointer (some ⟨lb,0,none⟩),.pointer (some ⟨xb,xo,none⟩)] 159 (0,0))
 r7:ρ b7=0
 link:LinkIn W ρ j lb xb xo (some ⟨nb,0,none⟩) bs
 mks:Mk w Ds W ρ
theorem Ex.kp {w:World}{Ds:List Nat}{j lb xb xo nb mb b7:Nat}{bs:List Nm}{sx:Value}{W W':World} {ρ ρ':Nat→Nat}(h:Ex w Ds j lb xb xo nb mb b7 bs sx W ρ) {S:Nat→Prop}(k:Kp S ρ ρ' W W') (hS:∀ q,ρ q=0∨ρ q=2∨ρ q=3∨ρ q=8→¬ S q) (hm:Mk w Ds W' ρ'):Ex w Ds j lb xb xo nb mb b7 bs sx W' ρ' :=
 ⟨k.obj _ _ h.node (.inl rfl) (hS _ (.inr (.inr (.inl h.rnb)))),(k.role _ (Array.getElem?_eq_some_iff.1 h.node).1).trans h.rnb,k.imap h.map (hS _ (.inr (.inr (.inr h.rmb)))),(k.role _ h.map.lt).trans h.rmb,k.obj _ _ h.d7 (.inl rfl) (hS _ (.inl h.r7)),(k.role _ (Array.getElem?_eq_some_iff.1 h.d7).1).trans h.r7,
  k.link h.link (fun q e=>hS q (.inl e)) (hS _ (.inr (.inl h.link.1))),hm⟩
theorem Ex.grow {w:World}{Ds:List Nat}{j lb xb xo nb mb b7:Nat}{bs:List Nm}{sx:Value}{W W':World} {ρ:Nat→Nat}(h:Ex w Ds j lb xb xo nb mb b7 bs sx W ρ) (hb:Below W.heap.size W W') (hρ:∀ q,W.heap.size≤q→ρ q=0):Ex w Ds j lb xb xo nb mb b7 bs sx W' ρ :=
 h.kp (S:=fun _=>False) (Kp.of_below hb hρ) (fun _ _ h=>h) (h.mks.grow hb)
theorem Ex.pushed {w:World}{Ds:List Nat}{j lb xb xo nb mb b7 f i r:Nat}{bs:List Nm}{sx v:Value}{W W':World} {ρ ρ':Nat→Nat}{cs:Array Value}{T:TypeId}(h:Ex w Ds j lb xb xo nb mb b7 bs sx W ρ) (hc:Ch (· = r) ρ ρ' W W') (hr:r≠0∧r≠2∧r≠3∧r≠8) (hf:W'.heap[f]?=some (.cells cs T (0,0))) (rf:ρ' f=1):Ex w Ds j lb xb xo nb mb b7 bs sx (W'.setCell ⟨f,i,none⟩ v) ρ':=by
 have h1:=h.kp (Kp.of_ch hc) (fun q e hq=>by omega) (h.mks.ch hc (fun e=>hr.1 e.symm))
 exact h1.kp (Kp.setCell ⟨f,i,none⟩ v hc.fresh) (fun q e hq=>by rw [hq] at e;simp only [] at e;omega) (h1.mks.setCell ⟨f,i,none⟩ v hf)
theorem Ex.start {w:World}{Ds:List Nat}{A:Ad}{F:List Nd}{j b7:Nat}{f sc rs:Nat}{K T:List Nat}{names:List Nm}{sl sn sv vs:Value}{nl nn:Nat}{W:World} {ρ:Nat→Nat}(h:RdS w A F f sc rs j K T names sl sn sv vs nl nn W ρ) (hjK:j∈K) (hmk:Mk w Ds W ρ)
  (hd:W.heap[b7]?=some (.cells #[.pointer (some ⟨A.lb j,0,none⟩),.pointer (some ⟨A.xb j,A.xo j,none⟩)] 159 (0,0))) (rd:ρ b7=0) :
  Ex w Ds j (A.lb j) (A.xb j) (A.xo j) (W.heap.size+1) W.heap.size b7 (nd F j).binds (.slice none 0 0) (((W.alloc (.map #[] 0)).alloc (.cells #[.pointer (some ⟨A.xb j,A.xo j,none⟩),.slice none 0 0,.map (some W.heap.size)] 110)).setCell ⟨A.lb j,2,none⟩ (.pointer (some ⟨W.heap.size+1,0,none⟩))) (roleAt (roleAt ρ W.heap.size 8) (W.heap.size+1) 3):=by
 have hb:Below W.heap.size W ((W.alloc (.map #[] 0)).alloc (.cells #[.pointer (some ⟨A.xb j,A.xo j,none⟩),.slice none 0 0,.map (some W.heap.size)] 110)):=((Below.refl _ _).alloc (Nat.le_refl _) _).alloc (by simp) _
 have hρ:∀ q,q<W.heap.size→roleAt (roleAt ρ W.heap.size 8) (W.heap.size+1) 3 q=ρ q:=fun q hq=>by rw [roleAt_other _ _ _ (by omega),roleAt_other _ _ _ (by omega)]
 have k:Kp (fun _=>False) ρ (roleAt (roleAt ρ W.heap.size 8) (W.heap.size+1) 3) W ((W.alloc (.map #[] 0)).alloc (.cells #[.pointer (some ⟨A.xb j,A.xo j,none⟩),.slice none 0 0,.map (some W.heap.size)] 110)) :=
  (Kp.of_below hb h.k.rho).roleNew _ hρ (fun q hq=>by
   simp at hq
   rw [roleAt_other _ _ _ (by omega),roleAt_other _ _ _ (by omega)];exact h.k.rho q (by omega))
 obtain⟨r2,s,xv,l1,l2,l3⟩:=k.link (h.k.link j (.inr hjK)) (fun _ _ h=>h) (fun h=>h)
 rw [if_neg (Nat.lt_irrefl j)] at l1
 have hl:A.lb j<W.heap.size:=by
  obtain⟨_,_,_,h1,_⟩:=h.k.link j (.inr hjK)
  exact(Array.getElem?_eq_some_iff.1 h1).1
 have kc:=Kp.setCell (ρ:=roleAt (roleAt ρ W.heap.size 8) (W.heap.size+1) 3) (w:=(W.alloc (.map #[] 0)).alloc (.cells #[.pointer (some ⟨A.xb j,A.xo j,none⟩),.slice none 0 0,.map (some W.heap.size)] 110)) ⟨A.lb j,2,none⟩ (.pointer (some ⟨W.heap.size+1,0,none⟩)) k.fresh
 have hnd:=World.alloc_heap_new (W.alloc (.map #[] 0)) (.cells #[.pointer (some ⟨A.xb j,A.xo j,none⟩),.slice none 0 0,.map (some W.heap.size)] 110)
 rw [World.size_alloc] at hnd
 have hmp:IMap Tryz.prog ((W.alloc (.map #[] 0)).alloc (.cells #[.pointer (some ⟨A.xb j,A.xo j,none⟩),.slice none 0 0,.map (some W.heap.size)] 110)) W.heap.size []:=(IMap.made _ W).alloc _
 refine⟨kc.obj _ _ hnd (.inl rfl) (by show ¬ (W.heap.size+1=A.lb j);omega),roleAt_same _ _ _,kc.imap hmp (by show ¬ (W.heap.size=A.lb j);omega),by rw [roleAt_other _ _ _ (by omega)];exact roleAt_same _ _ _,kc.obj _ _ (heap_below hb hd) (.inl rfl) (fun e=>?_),(hρ _ (Array.getElem?_eq_some_iff.1 hd).1).trans rd,
  ⟨r2,s,xv,heap_setCell_same _ _ 2 _ _ _ l1,kc.row l2 (fun q e hq=>?_),l3⟩,(hmk.ext hb hρ).setCell ⟨A.lb j,2,none⟩ _ l1⟩
 ·have e2:b7=A.lb j:=e
  have e1:=(h.k.link j (.inr hjK)).1
  rw [← e2] at e1
  omega
 ·have hq2:q=A.lb j:=hq
  rw [hq2,r2] at e
  cases e
def R18 (w:World) (A:Ad) (F:List Nd) (f sc rs j:Nat) (K:List Nat) (names:List Nm) (sn sv vs:Value) (Ds:List Nat) (lb xb xo nb mb b7:Nat) (bs:List Nm) (W:World):Prop :=
 ∃ (ρ:Nat→Nat) (sl:Value),RdS w A F f sc rs j K K names sl sn sv vs (j+1) (j+1) W ρ∧Ex w Ds j lb xb xo nb mb b7 bs (.slice none 0 0) W ρ
theorem Kp.below_set {S:Nat→Prop} {ρ:Nat→Nat}{w w':World}(h:Below w.heap.size w w') (hρ:∀ q,w.heap.size≤q→ρ q=0) (b i:Nat) (v:Value):Kp (fun q=>q=b) ρ ρ w (w'.setCell ⟨b,i,none⟩ v) :=
 ⟨by simpa using h.size,fun q o ho _ hn=>(Below.heap_setCell w' _ v q hn).trans (heap_below h ho),fun _ _=>rfl,fun q hq=>hρ q (Nat.le_trans h.size (by simpa using hq))⟩
theorem Mk.linked {w W w':World}{Ds:List Nat} {ρ:Nat→Nat}{ks:List (List Nm×TE)}{a:Option Addr}{L:List (Nat×Nat×Nat)}(h:Mk w Ds W ρ) (hb:Below W.heap.size W w') (hks:KsAt w W w' ks a L) {b i:Nat}{v:Value}{cs:Array Value}{T:TypeId}{r:Nat×Nat}(hbk:w'.heap[b]?=some (.cells cs T r)) :
  Mk w Ds (w'.setCell ⟨b,i,none⟩ v) (Go.Proofs.YtnkahlloahgifaaGreatDoor.linked ρ L):=by
 refine((h.ext (ρ':=Go.Proofs.YtnkahlloahgifaaGreatDoor.linked ρ L) hb fun q hq=>?_).setCell ⟨b,i,none⟩ v hbk)
 unfold Go.Proofs.YtnkahlloahgifaaGreatDoor.linked
 rw [if_neg fun hm=>?_]
 obtain⟨t,ht,rfl⟩:=List.mem_map.1 hm
 obtain⟨q,hq2⟩:=List.getElem?_of_mem ht
 have hl:=(List.getElem?_eq_some_iff.1 hq2).1
 obtain⟨p,hp⟩:∃ p,ks[q]?=some p:=⟨_,List.getElem?_eq_getElem (by rw [← hks.len];exact hl)⟩
 have:=(hks.kid q p t hp hq2).new
 omega
end Go.Proofs.YtnkahlloahgifaaGreatDoor
namespace Go.Proofs.YtnkahlloahgifaaGreatDoor
open Go.RowKit RG Go.Maps
variable {w:World} {A:Ad} {F:List Nd} {f sc rs j:Nat} {K T:List Nat} {names:List Nm} {sl sn sv vs:Value} {nl nn:Nat} {W:World} {ρ:Nat→Nat}
theorem RdS.push {W':World} {ρ':Nat→Nat}{a:Option Addr}{c k:Nat}(h:RdS w A F f sc rs j K T names sl sn sv vs nl nn W ρ) (hc:Ch (· = 10) ρ ρ' W W')
  (hr:RR W' ρ' 10 159 2 (.slice a (T.length+1) c) (T.length+1) (todos A T++[.pointer (some ⟨A.lb k,0,none⟩),.pointer (some ⟨A.xb k,A.xo k,none⟩)])) :
  RdS w A F f sc rs j K (k :: T) names sl sn sv (.slice a (T.length+1) c) nl nn (W'.setCell ⟨sc,0,none⟩ (.slice a (T.length+1) c)) ρ':=by
 have k1:=Kp.of_ch hc
 have hs1:=hc.keep h.sck (by rw [h.rsc];decide)
 have rs1:=(hc.keepRole h.sck).trans h.rsc
 have k2:=Kp.setCell (ρ:=ρ') (w:=W') ⟨sc,0,none⟩ (.slice a (T.length+1) c) hc.fresh
 have k:Kp (fun q=>ρ q=9∨ρ q=10) ρ ρ' W (W'.setCell ⟨sc,0,none⟩ (.slice a (T.length+1) c)) :=
  ⟨by simpa using hc.size,fun q o ho hk hs=>k2.obj q o (k1.obj q o ho hk fun e=>hs (.inr e)) hk (fun e=>hs (.inl (by rw [e];exact h.rsc))),hc.role,fun q hq=>hc.fresh q (by simpa using hq)⟩
 refine h.restack k ((h.below hc (by decide)).setCell (h.high (by rw [h.rsc];decide)) _) (fun q hq=>hq) (heap_setCell_same W' sc 0 _ _ _ hs1) rs1 ?_
 rw [todos_cons]
 exact k2.rr hr (fun q e hq=>by rw [hq] at e;simp only [] at e;omega)
theorem rr_obj {W:World} {ρ:Nat→Nat}{r:Nat}{e:TypeId}{size n:Nat}{v:Value}{xs:List Value}(h:RR W ρ r e size v n xs) {q:Nat}(hq:v.ownBlock=some q):∃ cs T z,W.heap[q]?=some (.cells cs T z):=by
 rcases h.row.2 with ⟨h1,_⟩|⟨g,cap,cur,h1,_,hg,_⟩
 ·rw [h1] at hq;simp [Value.ownBlock] at hq
 ·rw [h1] at hq;simp [Value.ownBlock] at hq;subst hq;exact⟨_,_,_,hg⟩
theorem RdS.rerole {ρ':Nat→Nat}(h:RdS w A F f sc rs j K T names sl sn sv vs nl nn W ρ) (h1:∀ (q:Nat) (o:Obj),W.heap[q]?=some o→(o.isCells=true∨o.isWalk=true)→ρ' q=ρ q) (h2:∀ q,W.heap.size≤q→ρ' q=0) (h3:∀ q,q<w.heap.size→ρ' q=0) :
  RdS w A F f sc rs j K T names sl sn sv vs nl nn W ρ':=by
 have rr:∀ {r:Nat} {e:TypeId} {size n:Nat} {v:Value} {xs:List Value},RR W ρ r e size v n xs→RR W ρ' r e size v n xs:=fun h=>⟨h.row,fun q hq=>by
  obtain⟨cs,T,z,ho⟩:=rr_obj h hq
  exact(h1 q _ ho (.inl rfl)).trans (h.role q hq)⟩
 have row:∀ {v:Value} {n:Nat} {xs:List Value},RowIn W ρ v n xs→RowIn W ρ' v n xs:=fun {v n xs} ⟨a1,ad,c,a2,a3⟩=>⟨a1,ad,c,a2,fun h0=>by
  obtain⟨g,o,e,hr,hat⟩:=a3 h0
  obtain⟨x,hx⟩:∃ x,xs[0]?=some x:=⟨_,List.getElem?_eq_getElem (by omega)⟩
  obtain⟨cs,T,z,ho⟩:=cell_obj (hat 0 x hx)
  exact⟨g,o,e,(h1 g _ ho (.inl rfl)).trans hr,hat⟩⟩
 refine⟨⟨h.k.below,h3,h2,fun i hi=>?_,h.k.exp,h.k.lin,fun i hi=>?_,fun i hi=>?_,h.k.min⟩,⟨h.nms.fb,rr h.nms.row,h.nms.pm,(h1 _ _ h.nms.fb (.inl rfl)).trans h.nms.rf,?_,h2⟩,rr h.rl,rr h.rn,h.sck,(h1 _ _ h.sck (.inl rfl)).trans h.rsc,rr h.stk,h.res,(h1 _ _ h.res (.inl rfl)).trans h.rrs⟩
 ·obtain⟨r,s,xv,a,b,c⟩:=h.k.link i hi
  exact⟨(h1 _ _ a (.inl rfl)).trans r,s,xv,a,row b,c⟩
 ·obtain⟨r,sx,a,b⟩:=h.k.node i hi
  exact⟨(h1 _ _ a (.inl rfl)).trans r,sx,a,row b⟩
 ·obtain⟨r,a⟩:=h.k.live i hi
  obtain⟨es,c,ho⟩:=a.obj
  exact⟨(h1 _ _ ho (.inr rfl)).trans r,a⟩
 ·obtain⟨es,c,ho⟩:=h.nms.pm.obj
  exact(h1 _ _ ho (.inr rfl)).trans h.nms.rp
def BI (w:World) (A:Ad) (F:List Nd) (f sc rs j:Nat) (KN K:List Nat) (names:List Nm) (sl sn sv:Value) (Ds:List Nat) (ib:Nat) (a:Option Addr) (kl c cnt:Nat) (W:World):Prop :=
 ∃ (ρ:Nat→Nat) (vs:Value),RdS w A F f sc rs (j+1) (KN++K) (KN.drop (kl - cnt)++K) names sl sn sv vs (j+1) (j+1) W ρ∧Mk w Ds W ρ∧W.heap[ib]?=some (.cells #[.slice a kl c] 106 (0,0))∧ρ ib=0∧RowIn W ρ (.slice a kl c) kl (ptrs (KN.map A.lb)) ∧
  ∀ k m,kl - cnt≤k→KN[k]?=some m→(nd F m).binds.length≤16
def BX (isName:Nm→Bool) (w:World) (ps:List Nm) (e:TE) (rs:Nat) (Ds:List Nat) (W:World):Prop :=
 Below w.heap.size w W∧W.heap[rs]?=some (.cells #[.pointer none] 99 (0,0))∧Ds.Nodup∧(∀ D∈Ds,w.heap.size≤D∧W.heap[D]?=some (.deferred (some [])))∧¬ RG.Good isName ps e
section
variable {KN:List Nat} {Ds:List Nat} {ib kl c cnt:Nat} {a:Option Addr} {W':World} {B:Nat}
theorem Mk.bk {w W W':World}{Ds:List Nat} {ρ:Nat→Nat}{B:Nat}(h:Mk w Ds W ρ) (b:Bk B W W') (hB:∀ D∈Ds,D<B):Mk w Ds W' ρ :=
 ⟨h.1,fun D hD=>by obtain⟨x,y,z⟩:=h.2 D hD;exact⟨x,y,((below_bk b).block D (hB D hD)).trans z⟩⟩
theorem BI.bk (h:BI w A F f sc rs j KN K names sl sn sv Ds ib a kl c cnt W) (b:Bk B W W') (hB:w.heap.size≤B) (hD:∀ D∈Ds,D<B):BI w A F f sc rs j KN K names sl sn sv Ds ib a kl c cnt W':=by
 obtain⟨ρ,vs,h1,h2,h3,h4,h5,h6⟩:=h
 exact⟨ρ,vs,h1.bk b hB,h2.bk b hD,cells_bk b h3,h4,(Kp.of_bk (S:=fun _=>False) b h1.k.rho).row h5 (fun _ _ h=>h),h6⟩
theorem BI.grow (h:BI w A F f sc rs j KN K names sl sn sv Ds ib a kl c cnt W) (b:Below W.heap.size W W'):BI w A F f sc rs j KN K names sl sn sv Ds ib a kl c cnt W':=by
 obtain⟨ρ,vs,h1,h2,h3,h4,h5,h6⟩:=h
 exact⟨ρ,vs,h1.grow b,h2.grow b,heap_below b h3,h4,(Kp.of_below (S:=fun _=>False) b h1.k.rho).row h5 (fun _ _ h=>h),h6⟩
theorem BX.bk {isName:Nm→Bool}{ps:List Nm}{e:TE}(h:BX isName w ps e rs Ds W) (b:Bk B W W') (hB:w.heap.size≤B) (hD:∀ D∈Ds,D<B):BX isName w ps e rs Ds W' :=
 ⟨h.1.trans ((below_bk b).mono hB),cells_bk b h.2.1,h.2.2.1,fun D hd=>⟨(h.2.2.2.1 D hd).1,((below_bk b).block D (hD D hd)).trans (h.2.2.2.1 D hd).2⟩,h.2.2.2.2⟩
theorem BI.reads {g o:Nat}(h:BI w A F f sc rs j KN K names sl sn sv Ds ib a kl c cnt W) (hg:0<kl→a=some ⟨g,o,none⟩):BkRd ib a c g o kl (fun k=>A.lb (KN.getD k 0)) W:=by
 obtain⟨ρ,vs,h1,h2,h3,h4,⟨h5,ad,c',e,h6⟩,h7⟩:=h
 refine⟨by rw [cell_of_row _ _ 0 _ _ _ h3];rfl,fun k hk=>?_⟩
 obtain⟨g',o',e2,_,hat⟩:=h6 (by omega)
 simp only [Value.slice.injEq] at e
 obtain⟨rfl,_,rfl⟩:=e
 rw [hg (by omega)] at e2
 simp only [Option.some.injEq,Addr.mk.injEq,and_true] at e2
 obtain⟨rfl,rfl⟩:=e2
 rw [ptrs_length,List.length_map] at h5
 refine hat k _ (ptrs_at ?_)
 rw [List.getElem?_map,List.getElem?_eq_getElem (by omega)]
 show _=some (A.lb (KN.getD k 0))
 rw [List.getD_eq_getElem?_getD,List.getElem?_eq_getElem (by omega)]
 rfl
end
theorem BI.done {Ds:List Nat}{ib kl c D:Nat}{a:Option Addr}{isName:Nm→Bool}{ps:List Nm}{e e1:TE}{bs:List Nm}{stk:List (List Nm×TE)}{KN:List Nat}(h:BI w A (F0 ps e) f sc rs j KN K names sl sn sv Ds ib a kl c kl W) (hKN:KN=nums (j+1) e1.kids) (hK:K=nums (j+e1.size) stk)
  (hD:W.heap[D]?=some (.deferred (some []))) (hDw:w.heap.size≤D) (hDn:D∉Ds) (hj:j<20000) (hS:Stk (F0 ps e) j ((bs,e1) :: stk)) (hnx:∀ i,i<j→∀ k∈(nd (F0 ps e) i).next,k<j∨k∈j :: K) (h16:∀ k∈j :: K,(nd (F0 ps e) k).binds.length≤16)
  (hnm:names.length≤16*(j+1)) (hsl:(e1.kids++stk).length≤16*(j+1)+1) (hrd:rd isName e.size 0 [] [(ps,e)]=rd isName (e.size - (j+1)) (j+1) names (e1.kids++stk)) :
  ∃ (sa:Option Addr) (n8 c8:Nat),W.heap[sc]?=some (.cells #[.slice sa n8 c8] 160 (0,0))∧LpI isName w ps e f rs ((F0 ps e).length - (j+1)) (.pointer (some ⟨W.heap.size,0,none⟩)) (mark D :: Ds.map mark) (W.alloc (.cells #[.slice sa n8 c8] 160)):=by
 obtain⟨ρ,vs,h1,h2,h3,h4,h5,h6⟩:=h
 rw [Nat.sub_self,List.drop_zero] at h1
 obtain⟨sa,c8,hvs⟩:=h1.stk.shape
 refine⟨sa,(KN++K).length,c8,?_⟩
 rw [← hvs]
 obtain⟨hjF,hnd,hz,hKr⟩:=stk_top hS
 have hDlt:=(Array.getElem?_eq_some_iff.1 hD).1
 have r1:RdS w A (F0 ps e) f sc rs (j+1) (KN++K) (KN++K) names sl sn sv vs (j+1) (j+1) W (roleAt ρ D 0):=h1.rerole (fun q o ho hc=>roleAt_other _ _ _ (by
   rintro rfl
   rw [hD,Option.some.injEq] at ho
   subst ho
   rcases hc with hc | hc<;>cases hc)) (fun q hq=>by rw [roleAt_other _ _ _ (by omega)];exact h1.k.rho q hq) (fun q hq=>by rw [roleAt_other _ _ _ (by omega)];exact h1.k.low q hq)
 have hb:Below W.heap.size W (W.alloc (.cells #[vs] 160)):=(Below.refl _ _).alloc (Nat.le_refl _) _
 have hfr:∀ q,(W.alloc (.cells #[vs] 160)).heap.size≤q→roleAt (roleAt ρ D 0) W.heap.size 9 q=0:=fun q hq=>by
  simp at hq
  rw [roleAt_other _ _ _ (by omega),roleAt_other _ _ _ (by omega)];exact h1.k.rho q (by omega)
 have k2:Kp (fun _=>False) (roleAt ρ D 0) (roleAt (roleAt ρ D 0) W.heap.size 9) W (W.alloc (.cells #[vs] 160)) :=
  (Kp.of_below hb r1.k.rho).roleNew _ (fun q hq=>roleAt_other _ _ _ (by omega)) hfr
 have r2:=r1.restack (S:=fun _=>False) (sc':=W.heap.size) k2 (hb.mono r1.k.below.size) (fun _ h=>h.elim) (heap_alloc_new W (.cells #[vs] 160)) (roleAt_same _ _ _) (k2.rr r1.stk (fun _ _ h=>h))
 have hn2:nums (j+1) (e1.kids++stk)=KN++K:=by rw [nums_append,hKN,hK,show j+1+sizes e1.kids=j+e1.size from by omega]
 have hs2:Stk (F0 ps e) (j+1) (e1.kids++stk):=by
  obtain⟨l,hl⟩:=stk_at ps e (j+1) (by omega)
  refine⟨hS.lies.kids,by have:=hS.size;rw [sizes_cons] at this;rw [sizes_append];simp only [] at this;omega,fun pre q post hpq=>?_⟩
  have hm:(j+1+sizes pre)∈nums (j+1) (e1.kids++stk):=(nums_mem _ _ _).2 ⟨pre,q,post,hpq,rfl⟩
  rw [nums_append,List.mem_append] at hm
  rcases hm with hm | hm
  ·exact .inr ⟨j,by omega,by rw [hnd];exact hm⟩
  ·obtain⟨pre2,q2,post2,e2,e3⟩:=(nums_mem _ _ _).1 hm
   have:=hS.par ((bs,e1) :: pre2) q2 post2 (by rw [e2];rfl)
   rw [sizes_cons] at this
   simp only [] at this
   have e4:j+(e1.size+sizes pre2)=j+1+sizes pre:=by omega
   rw [e4] at this
   rcases this with h0 | ⟨p,hp,hm2⟩
   ·omega
   ·exact .inr ⟨p,by omega,hm2⟩
 refine⟨h1.sck,A,W.heap.size,j+1,e1.kids++stk,names,sl,sn,sv,vs,_,D :: Ds,⟨rfl,by omega,rfl,rfl⟩,⟨List.nodup_cons.2 ⟨hDn,h2.1⟩,fun E hE=>?_⟩,by rw [hn2];exact r2,hs2,fun i hi k hk=>?_,fun k hk=>?_,hnm,hsl,hrd⟩
 ·rcases List.mem_cons.1 hE with rfl | hE
  ·exact⟨hDw,by rw [roleAt_other _ _ _ (by omega)];exact roleAt_same _ _ _,heap_below hb hD⟩
  ·obtain⟨x,y,z⟩:=h2.2 E hE
   have hlt:=(Array.getElem?_eq_some_iff.1 z).1
   refine⟨x,?_,heap_below hb z⟩
   rw [roleAt_other _ _ _ (by omega),roleAt_other _ _ _ (show E≠D from fun e2=>hDn (by rw [← e2];exact hE))]
   exact y
 ·rw [hn2]
  by_cases hij:i=j
  ·subst hij
   rw [hnd] at hk
   exact .inr (List.mem_append_left _ (by rw [hKN];exact hk))
  ·rcases hnx i (by omega) k hk with h | h
   ·exact .inl (by omega)
   ·rcases List.mem_cons.1 h with h | h
    ·exact .inl (by omega)
    ·exact .inr (List.mem_append_right _ h)
 ·rw [hn2] at hk
  rcases List.mem_append.1 hk with hk | hk
  ·obtain⟨i,hi⟩:=List.getElem?_of_mem hk
   exact h6 i k (by omega) hi
  ·exact h16 k (List.mem_cons_of_mem _ hk)
theorem round_next {w W8 w9 W9:World}{A A5:Ad}{ps bs ns:List Nm}{e e1:TE}{stk:List (List Nm×TE)}{f sc rs j nb mb b7 kl c:Nat}{K' KN Ds:List Nat}{sl sn sv vs:Value} {ρ8:Nat→Nat}{a:Option Addr}{L:List (Nat×Nat×Nat)}
  (S8:RdS w A5 (F0 ps e) f sc rs j K' K' ns sl sn sv vs (j+1) (j+1) W8 ρ8) (E8:Ex w Ds j (A.lb j) (A.xb j) (A.xo j) nb mb b7 bs (.slice none 0 0) W8 ρ8)
  (ea:A5.lb=A.lb∧A5.xb=A.xb∧A5.xo=A.xo∧A5.pl=A.pl∧A5.nb j=nb∧A5.mb j=mb∧(∀ i,i≠j→A5.nb i=A.nb i∧A5.mb i=A.mb i)) (nbm:∀ i,i<j→A.nb i≠nb∧A.mb i≠mb)
  (hS:Stk (F0 ps e) j ((bs,e1) :: stk)) (hK:K'=nums (j+e1.size) stk) (neq:∀ i,i<j∨i∈K'→A5.lb i≠A5.lb j) (te:TEAt w e1 (A.xb j) (A.xo j)) (hnx:∀ i,i<j→∀ k∈(nd (F0 ps e) i).next,k<j∨k∈j :: K')
  (ks:KsAt w W8 w9 e1.kids a L) (b9:Below W8.heap.size W8 w9) (hkl:kl=e1.kids.length) (hKN:KN=nums (j+1) e1.kids) (hW:W9=w9.setCell ⟨nb,1,none⟩ (.slice a kl c)) :
  RdS w (A5.more KN L) (F0 ps e) f sc rs (j+1) (KN++K') K' ns sl sn sv vs (j+1) (j+1) W9 (linked ρ8 L)∧Mk w Ds W9 (linked ρ8 L)∧RowIn W9 (linked ρ8 L) (.slice a kl c) kl (ptrs (KN.map (A5.more KN L).lb)) ∧
   (∀ k,k<kl→∃ q xv,KN[k]?=some q∧W9.heap[(A5.more KN L).lb q]?=some (.cells #[xv,.pointer (some ⟨(A5.more KN L).xb q,(A5.more KN L).xo q,none⟩),.pointer none] 120 (0,0)))∧W9.cell? ⟨nb,1,none⟩=some (.slice a kl c)∧KN.length=kl:=by
 obtain⟨hjF,hnd,hz,hKr⟩:=stk_top hS
 have hnd9:=heap_below b9 E8.node
 have hn9:=heap_setCell_same w9 nb 1 _ _ (.slice a kl c) hnd9
 have hnbw:nb<W8.heap.size:=(Array.getElem?_eq_some_iff.1 E8.node).1
 have hnbh:w.heap.size≤nb:=S8.high (by rw [E8.rnb];decide)
 have hl8:=E8.link
 rw [← ea.1,← ea.2.1,← ea.2.2.1,← ea.2.2.2.2.1] at hl8
 have hlen:KN.length=kl:=by rw [hKN,nums_length,← hkl]
 have hnode:W9.heap[A5.nb j]?=some (.cells #[.pointer (some ⟨A5.xb j,A5.xo j,none⟩),.slice a kl c,.map (some (A5.mb j))] 110 (0,0)):=by
  rw [ea.2.2.2.2.1,ea.2.2.2.2.2.1,ea.2.1,ea.2.2.1,hW];exact hn9
 have hkp:Kp (fun q=>q=A5.nb j) ρ8 ρ8 W8 W9:=by rw [ea.2.2.2.2.1,hW];exact Kp.below_set (S:=fun _=>False) b9 S8.k.rho nb 1 _
 have hbw:Below w.heap.size W8 W9:=by rw [hW];exact(b9.mono S8.k.below.size).setCell hnbh _
 have hks:KsAt w W8 W9 e1.kids a L:=by rw [hW];exact ks.set hnbw _
 have S10:RdS w (A5.more KN L) (F0 ps e) f sc rs (j+1) (KN++K') K' ns sl sn sv vs (j+1) (j+1) W9 (linked ρ8 L):=by
  refine RdS.next (ks:=e1.kids) (a:=a) (c:=c) (j:=j) S8 hkp hbw (Nat.succ_pos j) (Nat.le_refl _) (Nat.le_refl _) (fun i hi=>hi) (by rw [hnd,hKN]) (by rw [hKN];exact nums_nodup _ _) (by rw [hKN,nums_length])
   (fun i p hp=>by rw [hKN];exact Lies.num _ _ _ _ hS.lies.kids.left hp) (by rw [hnd];exact hl8) (by rw [hnd,ea.2.1,ea.2.2.1];exact te) neq (by rw [← hkl];exact hnode) (by rw [ea.2.2.2.2.1];exact E8.rnb) (by rw [ea.2.2.2.2.1];exact hnbw) (fun i hi=>?_) (by rw [ea.2.2.2.2.2.1];exact E8.map) (by rw [ea.2.2.2.2.2.1];exact E8.rmb) (fun i hi=>?_)
   hks (fun q hq=>?_) (fun i hi k hk=>?_)
  ·rw [ea.2.2.2.2.1,(ea.2.2.2.2.2.2 i (by omega)).1];exact(nbm i hi).1
  ·rw [ea.2.2.2.2.2.1,(ea.2.2.2.2.2.2 i (by omega)).2];exact(nbm i hi).2
  ·rw [hKN] at hq
   have hr:=nums_range hq
   refine⟨by omega,fun hm=>?_⟩
   rw [hK] at hm
   have:=(hKr q hm).1
   omega
  ·rcases hnx i hi k hk with h | h
   ·exact .inl h
   ·rcases List.mem_cons.1 h with h | h
    ·exact .inr (.inl h)
    ·exact .inr (.inr h)
 refine⟨S10,?_,?_,fun k hk=>?_,?_,hlen⟩
 ·rw [hW];exact E8.mks.linked b9 ks hnd9
 ·obtain⟨_,sx,h1,h2⟩:=S10.k.node j (Nat.lt_succ_self j)
  rw [hnd] at h2
  simp only [] at h2
  rw [← hKN,hlen] at h2
  have e2:(A5.more KN L).nb j=A5.nb j:=rfl
  rw [e2,hnode] at h1
  simp only [Option.some.injEq,Obj.cells.injEq] at h1
  have h4:Value.slice a kl c=sx:=by
   have:=congrArg (fun a=>a[1]?) h1.1
   simpa using this
  rw [← h4] at h2
  exact h2
 ·obtain⟨q,hq⟩:∃ q,KN[k]?=some q:=⟨_,List.getElem?_eq_getElem (by rw [hlen];exact hk)⟩
  have hm:=List.mem_of_getElem? hq
  have hr:=nums_range (show q∈nums (j+1) e1.kids by rw [← hKN];exact hm)
  obtain⟨_,s,xv,h1,_,h3⟩:=S10.k.link q (.inr (List.mem_append_left _ hm))
  rw [if_neg (by omega),h3 (by omega)] at h1
  exact⟨q,s,hq,h1⟩
 ·rw [← ea.2.2.2.2.1,cell_of_row _ _ 1 _ _ _ hnode];rfl
theorem form_few {e:TE}(h:e.form=true):e.kids.length≤16:=by
 rcases form_cases h with ⟨_,_,hb,ha,_⟩|⟨_,hb,_,ha,_⟩|⟨_,_,hb,ha,_⟩
 ·obtain⟨p,he,_⟩:=kids_rest hb ha
  rw [he];exact Nat.succ_le_succ (Nat.zero_le _)
 ·rw [kids_arms hb,TA.kids_length];exact ha
 ·rw [kids_end hb ha];decide
theorem BI.start {w W9:World}{A:Ad}{F:List Nd}{f sc rs j kl c:Nat}{KN K Ds:List Nat}{ns:List Nm}{sl sn sv vs:Value} {ρ:Nat→Nat}{a:Option Addr}(h:RdS w A F f sc rs (j+1) (KN++K) K ns sl sn sv vs (j+1) (j+1) W9 ρ) (hm:Mk w Ds W9 ρ) (hr:RowIn W9 ρ (.slice a kl c) kl (ptrs (KN.map A.lb))) (hl:KN.length=kl) :
  BI w A F f sc rs j KN K ns sl sn sv Ds W9.heap.size a kl c 0 (W9.alloc (.cells #[.slice a kl c] 106))∧(∃ g o,0<kl→a=some ⟨g,o,none⟩)∧w.heap.size≤(W9.alloc (.cells #[.slice a kl c] 106)).heap.size∧∀ D∈Ds,D<(W9.alloc (.cells #[.slice a kl c] 106)).heap.size:=by
 have hb:Below W9.heap.size W9 (W9.alloc (.cells #[.slice a kl c] 106)):=(Below.refl _ _).alloc (Nat.le_refl _) _
 refine⟨⟨ρ,vs,?_,hm.grow hb,heap_alloc_new W9 _,h.k.rho _ (Nat.le_refl _),(Kp.of_below (S:=fun _=>False) hb h.k.rho).row hr (fun _ _ h=>h),fun k q hk hq=>?_⟩,?_,Nat.le_trans h.k.below.size hb.size,fun D hD=>?_⟩
 ·rw [Nat.sub_zero,List.drop_of_length_le (by rw [hl];exact Nat.le_refl _),List.nil_append]
  exact h.grow hb
 ·have:=(List.getElem?_eq_some_iff.1 hq).1
  omega
 ·obtain⟨_,ad,c',e',h6⟩:=hr
  by_cases h0:0<kl
  ·obtain⟨g',o',h7,_⟩:=h6 h0
   simp only [Value.slice.injEq] at e'
   exact⟨g',o',fun _=>by rw [e'.1];exact h7⟩
  ·exact⟨0,0,fun h=>absurd h h0⟩
 ·have:=(Array.getElem?_eq_some_iff.1 (hm.2 D hD).2.2).1
  exact Nat.lt_of_lt_of_le this hb.size
def Clean (W:World) (ρ:Nat→Nat):Prop:=∀ (q:Nat) (o:Obj),W.heap[q]?=some o→o.isCells=false→o.isWalk=false→ρ q=0
open Classical in
theorem BI.openUp {w W:World}{A:Ad}{F:List Nd}{f sc rs j ib kl c cnt:Nat}{KN K Ds:List Nat}{ns:List Nm}{sl sn sv:Value}{a:Option Addr}(h:BI w A F f sc rs j KN K ns sl sn sv Ds ib a kl c cnt W) (hl:KN.length=kl) (hc:cnt<kl) :
  ∃ (ρ:Nat→Nat) (vs:Value) (q:Nat),RdS w A F f sc rs (j+1) (KN++K) (KN.drop (kl - cnt)++K) ns sl sn sv vs (j+1) (j+1) W ρ∧Mk w Ds W ρ∧W.heap[ib]?=some (.cells #[.slice a kl c] 106 (0,0))∧ρ ib=0∧RowIn W ρ (.slice a kl c) kl (ptrs (KN.map A.lb)) ∧
   (∀ k m,kl - cnt≤k→KN[k]?=some m→(nd F m).binds.length≤16)∧Clean W ρ∧KN[kl - 1 - cnt]?=some q∧KN.getD (kl - 1 - cnt) 0=q∧KN.drop (kl - (cnt+1))=q :: KN.drop (kl - cnt):=by
 obtain⟨ρ,vs,h1,h2,h3,h4,h5,h6⟩:=h
 obtain⟨q,hq⟩:∃ q,KN[kl - 1 - cnt]?=some q:=⟨_,List.getElem?_eq_getElem (by omega)⟩
 let ρ':Nat→Nat:=fun q=>if ∃ o,W.heap[q]?=some o∧(o.isCells=true∨o.isWalk=true) then ρ q else 0
 have e1:∀ (q:Nat) (o:Obj),W.heap[q]?=some o→(o.isCells=true∨o.isWalk=true)→ρ' q=ρ q:=fun q o ho hk=>if_pos ⟨o,ho,hk⟩
 have e0:∀ q,ρ q=0→ρ' q=0:=fun q hq=>by show (if _ then ρ q else 0)=0;split;exact hq;rfl
 refine⟨ρ',vs,q,h1.rerole e1 (fun q hq=>e0 q (h1.k.rho q hq)) (fun q hq=>e0 q (h1.k.low q hq)),⟨h2.1,fun D hD=>by obtain⟨x,y,z⟩:=h2.2 D hD;exact⟨x,e0 D y,z⟩⟩,h3,e0 ib h4,?_,h6,fun q o ho hk hw=>?_,hq,by rw [List.getD_eq_getElem?_getD,hq];rfl,?_⟩
 ·obtain⟨a1,ad,c',a2,a3⟩:=h5
  exact⟨a1,ad,c',a2,fun h0=>by obtain⟨g,o,x,y,z⟩:=a3 h0;exact⟨g,o,x,e0 g y,z⟩⟩
 ·show (if _ then ρ q else 0)=0
  rw [if_neg]
  rintro ⟨o2,ho2,h⟩
  rw [ho,Option.some.injEq] at ho2
  subst ho2
  rcases h with h | h
  ·rw [hk] at h;cases h
  ·rw [hw] at h;cases h
 ·have hlt:kl - 1 - cnt<KN.length:=by omega
  rw [show kl - (cnt+1)=kl - 1 - cnt from by omega,List.drop_eq_getElem_cons hlt,show kl - 1 - cnt+1=kl - cnt from by omega]
  rw [List.getElem?_eq_getElem hlt,Option.some.injEq] at hq
  rw [hq]
theorem BI.step {w W W1 w':World}{A:Ad}{F:List Nd}{f sc rs j ib kl c cnt q tl c2:Nat}{KN K Ds T:List Nat}{ns:List Nm}{sl sn sv vs:Value}{a a2:Option Addr} {ρ ρ':Nat→Nat}(hT:T=KN.drop (kl - cnt)++K) (htl:tl=T.length) (hS:RdS w A F f sc rs (j+1) (KN++K) T ns sl sn sv vs (j+1) (j+1) W ρ) (hM:Mk w Ds W ρ) (hI:W.heap[ib]?=some (.cells #[.slice a kl c] 106 (0,0))) (hi:ρ ib=0) (hR:RowIn W ρ (.slice a kl c) kl (ptrs (KN.map A.lb)))
  (hF:∀ k m,kl - cnt≤k→KN[k]?=some m→(nd F m).binds.length≤16) (hC:Clean W ρ) (hq:KN[kl - 1 - cnt]?=some q) (hd:KN.drop (kl - (cnt+1))=q :: KN.drop (kl - cnt)) (h16:(nd F q).binds.length≤16) (hcnt:cnt<kl)
  (hb:Below W.heap.size W W1) (hch:Ch (· = 10) ρ ρ' W1 w') (hrr:RR w' ρ' 10 159 2 (.slice a2 (tl+1) c2) (tl+1) (todos A T++[.pointer (some ⟨A.lb q,0,none⟩),.pointer (some ⟨A.xb q,A.xo q,none⟩)])) :
  Kb W (w'.setCell ⟨sc,0,none⟩ (.slice a2 (tl+1) c2))∧BI w A F f sc rs j KN K ns sl sn sv Ds ib a kl c (cnt+1) (w'.setCell ⟨sc,0,none⟩ (.slice a2 (tl+1) c2)):=by
 subst htl
 have hS1:=hS.grow hb
 have hM1:=hM.grow hb
 have hs2:=hS1.push (k:=q) hch hrr
 have hsc':=hch.keep hS1.sck (by rw [hS1.rsc];decide)
 have hne:ib≠sc:=fun e=>by have:=hS.rsc;rw [← e,hi] at this;cases this
 refine⟨⟨Nat.le_trans hb.size (by simpa using hch.size),fun p o ho hk hw=>?_⟩,ρ',.slice a2 (T.length+1) c2,?_,?_,?_,(hch.keepRole (heap_below hb hI)).trans hi,?_,fun k m hk hm=>?_⟩
 ·have h0:=hC p o ho hk hw
  have h1:=hch.keep (heap_below hb ho) (by rw [h0];decide)
  refine(Below.heap_setCell w' _ _ p (fun e=>?_)).trans h1
  have e2:p=sc:=e
  subst e2
  rw [hS.sck,Option.some.injEq] at ho
  subst ho
  cases hk
 ·rw [hd,List.cons_append,← hT]
  exact hs2
 ·exact(hM1.ch hch (by decide)).setCell ⟨sc,0,none⟩ _ hsc'
 ·exact(Below.heap_setCell w' _ _ ib hne).trans (hch.keep (heap_below hb hI) (by rw [hi];decide))
 ·have k0:=Kp.of_below (S:=fun _=>False) hb hS.k.rho
  have r1:=(Kp.of_ch hch).row (k0.row hR (fun _ _ h=>h)) (fun p e hp=>by omega)
  have rsc':=(hch.keepRole hS1.sck).trans hS1.rsc
  exact(Kp.setCell (ρ:=ρ') (w:=w') ⟨sc,0,none⟩ _ hch.fresh).row r1 (fun p e hp=>by have hp2:p=sc:=hp;rw [hp2,rsc'] at e;cases e)
 ·by_cases e:k=kl - 1 - cnt
  ·subst e
   rw [hq,Option.some.injEq] at hm
   rw [← hm];exact h16
  ·exact hF k m (by omega) hm
theorem names_next {isName:Nm→Bool}{names ns bs:List Nm}{j:Nat}{F:List Nd}{e1:TE}{l:List Nat}(h:names.length≤16*j) (hb:bindOk isName names bs=some ns) (h16:(nd F j).binds.length≤16) (hnd:nd F j=⟨bs,e1,l⟩):ns.length≤16*(j+1):=by
 rw [(bindOk_some hb).2,List.length_append]
 rw [hnd] at h16
 simp only [] at h16
 omega
theorem kids_next {e1:TE}{stk:List (List Nm×TE)}{bs:List Nm}{j:Nat}(h:((bs,e1) :: stk).length≤16*j+1) (hf:e1.form=true):(e1.kids++stk).length≤16*(j+1)+1:=by
 have:=form_few hf
 rw [List.length_append]
 rw [List.length_cons] at h
 omega
theorem kids_all {w W:World}{A:Ad}{F:List Nd}{f sc rs j ib kl c:Nat}{KN K Ds:List Nat}{ns bs:List Nm}{sl sn sv:Value}{a:Option Addr}{e1:TE}{stk:List (List Nm×TE)}(h:BI w A F f sc rs j KN K ns sl sn sv Ds ib a kl c kl W) (hKN:KN=nums (j+1) e1.kids) (hl:KN.length=kl) (hS:Stk F j ((bs,e1) :: stk)) :
  (e1.kids.all fun p=>decide (p.1.length≤16))=true:=by
 obtain⟨ρ,vs,h1,h2,h3,h4,h5,h6⟩:=h
 rw [List.all_eq_true]
 intro p hp
 obtain⟨i,hi⟩:=List.getElem?_of_mem hp
 obtain⟨m,hm,hb,_⟩:=Lies.num _ _ _ _ hS.lies.kids.left hi
 rw [← hKN] at hm
 have:=h6 i m (by omega) hm
 rw [hb] at this
 simpa using this
theorem kids_not {F:List Nd}{j kl cnt q:Nat}{KN:List Nat}{bs:List Nm}{e1:TE}{stk:List (List Nm×TE)}(hKN:KN=nums (j+1) e1.kids) (hS:Stk F j ((bs,e1) :: stk)) (hq:KN[kl - 1 - cnt]?=some q) (h16:¬ (nd F q).binds.length≤16):(e1.kids.all fun p=>decide (p.1.length≤16))=false:=by
 rw [hKN] at hq
 have hl:=(List.getElem?_eq_some_iff.1 hq).1
 rw [nums_length] at hl
 obtain⟨p,hp⟩:∃ p,e1.kids[kl - 1 - cnt]?=some p:=⟨_,List.getElem?_eq_getElem hl⟩
 obtain⟨m,hm,hb,_⟩:=Lies.num _ _ _ _ hS.lies.kids.left hp
 rw [hq,Option.some.injEq] at hm
 subst hm
 rw [hb] at h16
 rw [List.all_eq_false]
 exact⟨p,List.mem_of_getElem? hp,by simpa using h16⟩
theorem stack_few {tl kl cnt j:Nat}{T KN K:List Nat}{bs:List Nm}{e1:TE}{stk:List (List Nm×TE)}(h1:tl=T.length) (h2:T=KN.drop (kl - cnt)++K) (h3:KN.length=kl) (h4:K=nums (j+e1.size) stk) (h5:((bs,e1) :: stk).length≤16*j+1) (h6:j<20000) (h7:kl≤16):Hid (tl≤400000):=by
 show tl≤400000
 rw [h1,h2,List.length_append,List.length_drop,h4,nums_length]
 rw [List.length_cons] at h5
 omega
theorem LpI.start {isName:Nm→Bool}{w W0 W:World}{r0 n sc rb b o f l0 pl:Nat}{ps:List Nm}{e:TE}{sv0:Value} {ρ0:Nat→Nat}(h:HdI w r0 ps n sv0 W0 ρ0) (hr0:r0=w.heap.size) (hn:n=ps.length) (h16:n≤16) (hf:f=r0+1+1+1∧pl=r0+1+1∧l0=r0+1) (ht:TFunAt w b o ps e) (hb:Below W0.heap.size W0 W)
  (h1:W0.heap.size≤sc) (h2:W0.heap.size≤rb) (hne:sc≠rb) (hsc:W.heap[sc]?=some (.cells #[.slice (some ⟨rb,0,none⟩) 1 1] 160 (0,0)))
  (hrb:W.heap[rb]?=some (.cells #[.pointer (some ⟨l0,0,none⟩),.pointer (some ⟨b,o+3,none⟩)] 159 (0,0))):LpI isName w ps e f r0 (F0 ps e).length (.pointer (some ⟨sc,0,none⟩)) [] W:=by
 obtain⟨rfl,rfl,rfl⟩:=hf
 have hs:=RdS.start h hr0 hn ht hb h1 h2 hne hsc hrb
 have hz:sizes [(ps,e)]=e.size:=by rw [sizes_cons,sizes_nil];rfl
 refine⟨_,sc,0,[(ps,e)],[],_,_,_,_,_,[],⟨by rw [Nat.sub_zero],Nat.zero_le _,rfl,rfl⟩,⟨List.nodup_nil,fun D hD=>absurd hD (by simp)⟩,hs,⟨F0_lies ps e,by rw [F0_length,hz];simp,fun pre q post hp=>?_⟩,fun i hi=>absurd hi (Nat.not_lt_zero i),fun k hk=>?_,by simp,by simp,by rw [Nat.sub_zero]⟩
 ·cases pre with
  | nil=>exact .inl (by simp [sizes_nil])
  | cons a pre=>simp at hp
 ·have e0:k=0:=by simpa [nums] using hk
  rw [e0,F0_nd0]
  show ps.length≤16
  omega
theorem LpI.start1 {isName:Nm→Bool}{w W0:World}{r0 n b o f l0 pl:Nat}{ps:List Nm}{e:TE}{sv0:Value} {ρ0:Nat→Nat}(h:HdI w r0 ps n sv0 W0 ρ0) (hr0:r0=w.heap.size) (hn:n=ps.length) (h16:n≤16) (hf:f=r0+1+1+1∧pl=r0+1+1∧l0=r0+1) (ht:TFunAt w b o ps e) :
  LpI isName w ps e f r0 (F0 ps e).length (.pointer (some ⟨W0.heap.size,0,none⟩)) [] ((W0.alloc (.cells #[.slice (some ⟨W0.heap.size+1,0,none⟩) 1 1] 160)).alloc (.cells #[.pointer (some ⟨l0,0,none⟩),.pointer (some ⟨b,o+3,none⟩)] 159)).drew:=by
 have hb:Below W0.heap.size W0 ((W0.alloc (.cells #[.slice (some ⟨W0.heap.size+1,0,none⟩) 1 1] 160)).alloc (.cells #[.pointer (some ⟨l0,0,none⟩),.pointer (some ⟨b,o+3,none⟩)] 159)):=((Below.refl _ _).alloc (Nat.le_refl _) _).alloc (by simp) _
 have h1:=World.alloc_heap_new (W0.alloc (.cells #[.slice (some ⟨W0.heap.size+1,0,none⟩) 1 1] 160)) (.cells #[.pointer (some ⟨l0,0,none⟩),.pointer (some ⟨b,o+3,none⟩)] 159)
 rw [World.size_alloc] at h1
 exact LpI.start h hr0 hn h16 hf ht hb.drew (Nat.le_refl _) (Nat.le_succ _) (by omega) ((Below.heap_alloc _ _ _ (by simp)).trans (heap_alloc_new W0 _)) h1
theorem LpI.start2 {isName:Nm→Bool}{w W0:World}{r0 n b o f l0 pl:Nat}{ps:List Nm}{e:TE}{sv0:Value} {ρ0:Nat→Nat}(h:HdI w r0 ps n sv0 W0 ρ0) (hr0:r0=w.heap.size) (hn:n=ps.length) (h16:n≤16) (hf:f=r0+1+1+1∧pl=r0+1+1∧l0=r0+1) (ht:TFunAt w b o ps e) :
  LpI isName w ps e f r0 (F0 ps e).length (.pointer (some ⟨W0.heap.size+1,0,none⟩)) [] ((W0.alloc (.cells #[.pointer (some ⟨l0,0,none⟩),.pointer (some ⟨b,o+3,none⟩)] 159)).alloc (.cells #[.slice (some ⟨W0.heap.size,0,none⟩) 1 1] 160)).drew:=by
 have hb:Below W0.heap.size W0 ((W0.alloc (.cells #[.pointer (some ⟨l0,0,none⟩),.pointer (some ⟨b,o+3,none⟩)] 159)).alloc (.cells #[.slice (some ⟨W0.heap.size,0,none⟩) 1 1] 160)):=((Below.refl _ _).alloc (Nat.le_refl _) _).alloc (by simp) _
 have h1:=World.alloc_heap_new (W0.alloc (.cells #[.pointer (some ⟨l0,0,none⟩),.pointer (some ⟨b,o+3,none⟩)] 159)) (.cells #[.slice (some ⟨W0.heap.size,0,none⟩) 1 1] 160)
 rw [World.size_alloc] at h1
 exact LpI.start h hr0 hn h16 hf ht hb.drew (Nat.le_succ _) (Nat.le_refl _) (by omega) h1 ((Below.heap_alloc _ _ _ (by simp)).trans (heap_alloc_new W0 _))
end Go.Proofs.YtnkahlloahgifaaGreatDoor
