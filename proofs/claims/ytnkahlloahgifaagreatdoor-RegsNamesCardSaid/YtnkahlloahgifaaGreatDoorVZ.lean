/- Part. -/
import Derived.Test.YtnkahlloahgifaaGreatDoorVFb
import Derived.StillTail
import Derived.Deep.RegionHeld
import Derived.WalkMore
import Derived.Sort.OwnSorted
set_option maxHeartbeats 16000000
set_option maxRecDepth 100000
set_option linter.unusedSimpArgs false
set_option linter.unusedVariables false
namespace RG
theorem nums_append:∀ (a b:List (List Nm×TE)) (n:Nat),nums n (a++b)=nums n a++nums (n+sizes a) b
 | [],b,n=>by simp [nums,zw]
 | p :: a,b,n=>by rw [List.cons_append,nums,nums,nums_append a b,zg,List.cons_append,Nat.add_assoc]
theorem nums_range {l:List (List Nm×TE)}{n m:Nat}(h:m∈nums n l):n≤m∧m<n+sizes l:=by
 obtain⟨pre,q,post,rfl,rfl⟩:=(nums_mem _ _ _).1 h;rw [zr,zg];have:=q.2.size_pos;omega
theorem nums_nodup:∀ (l:List (List Nm×TE)) (n:Nat),(nums n l).Nodup
 | [],n=>by simp [nums]
 | p :: l,n=>by
  rw [nums,List.nodup_cons];refine⟨fun h=>?_,nums_nodup l _⟩
  have:=(nums_range h).1;have:=p.2.size_pos
  omega
theorem Lies.num {F:List Nd}:∀ (l:List (List Nm×TE)) (n i:Nat) (p:List Nm×TE),Lies F n l→l[i]?=some p→∃ m,(nums n l)[i]?=some m∧(nd F m).binds=p.1∧(nd F m).e=p.2
 | [],n,i,p,h,hi=>by simp at hi
 | (bs,e) :: l,n,0,p,h,hi=>by
  simp only [List.getElem?_cons_zero,Option.some.injEq] at hi;subst hi;exact⟨n,rfl,by rw [h.head],by rw [h.head]⟩
 | (bs,e) :: l,n,i+1,p,h,hi=>by
  rw [List.getElem?_cons_succ] at hi;obtain⟨m,h1,h2⟩:=Lies.num l _ i p h.tail hi;exact⟨m,by rw [nums,List.getElem?_cons_succ];exact h1,h2⟩
end RG
namespace Go.Proofs.YtnkahlloahgifaaGreatDoor
section
open Go.RowKit RG Go.Maps
structure Kp (S:Nat→Prop) (ρ ρ':Nat→Nat) (w w':World):Prop where
 size:w.heap.size≤w'.heap.size
 obj:∀ (q:Nat) (o:Obj),w.heap[q]?=some o→(o.isCells=true∨o.isWalk=true)→¬ S q→w'.heap[q]?=some o
 role:∀ q,q<w.heap.size→ρ' q=ρ q
 fresh:∀ q,w'.heap.size≤q→ρ' q=0
theorem Kp.of_ch {M:Nat→Prop} {ρ ρ':Nat→Nat}{w w':World}(c:Ch M ρ ρ' w w'):Kp (fun q=>M (ρ q)) ρ ρ' w w' :=
 ⟨c.size,fun q o h _ hn=>c.keep h hn,c.role,c.fresh⟩
theorem Kp.of_bk {S:Nat→Prop} {ρ:Nat→Nat}{w w':World}{B:Nat}(h:Bk B w w') (hρ:∀ q,w.heap.size≤q→ρ q=0):Kp S ρ ρ w w' :=
 ⟨(below_bk h).size,fun q o ho hc _=>heap_bk h ho hc,fun _ _=>rfl,fun q hq=>hρ q (zr5 (below_bk h).size hq)⟩
theorem Kp.of_below {S:Nat→Prop} {ρ:Nat→Nat}{w w':World}(h:Below w.heap.size w w') (hρ:∀ q,w.heap.size≤q→ρ q=0):Kp S ρ ρ w w' :=
 ⟨h.size,fun q o ho _ _=>zm h ho,fun _ _=>rfl,fun q hq=>hρ q (zr5 h.size hq)⟩
theorem Kp.setCell {ρ:Nat→Nat}{w:World}(a:Addr) (v:Value) (hρ:∀ q,w.heap.size≤q→ρ q=0):Kp (fun q=>q=a.block) ρ ρ w (w.setCell a v) :=
 ⟨by simp,fun q o ho _ hn=>(zt1 w a v q hn).trans ho,fun _ _=>rfl,fun q hq=>hρ q (by simpa using hq)⟩
theorem Kp.mono {S S':Nat→Prop} {ρ ρ':Nat→Nat}{w w':World}(h:Kp S ρ ρ' w w') (hS:∀ q,q<w.heap.size→S q→S' q):Kp S' ρ ρ' w w' :=
 ⟨h.size,fun q o ho hc hn=>h.obj q o ho hc (fun x=>hn (hS q (zq7.1 ho).1 x)),h.role,h.fresh⟩
theorem Kp.roleNew {S:Nat→Prop} {ρ ρ':Nat→Nat}{w w':World}(h:Kp S ρ ρ' w w') (ρ2:Nat→Nat) (h1:∀ q,q<w.heap.size→ρ2 q=ρ q) (h2:∀ q,w'.heap.size≤q→ρ2 q=0):Kp S ρ ρ2 w w':=⟨h.size,h.obj,h1,h2⟩
theorem cell_obj {w:World}{a:Addr}{x:Value}(h:w.cell? a=some x):∃ cs T r,w.heap[a.block]?=some (.cells cs T r):=by
 unfold World.cell? at h
 split at h
 ·exact⟨_,_,_,by assumption⟩
 cases h
theorem Kp.cell {S:Nat→Prop} {ρ ρ':Nat→Nat}{w w':World}(k:Kp S ρ ρ' w w') {a:Addr}{x:Value}(h:w.cell? a=some x) (hn:¬ S a.block):w'.cell? a=some x:=by
 obtain⟨cs,T,r,ho⟩:=cell_obj h;rw [World.cell?_of_block ((k.obj _ _ ho (.inl rfl) hn).trans ho.symm)];exact h
theorem Kp.imap {S:Nat→Prop} {ρ ρ':Nat→Nat}{w w':World}(k:Kp S ρ ρ' w w') {P:Program}{b:Nat}{l:List (Int×Int)}(h:IMap P w b l) (hn:¬ S b):IMap P w' b l:=by
 obtain⟨es,c,ho⟩:=h.obj;exact h.keep ((k.obj _ _ ho (.inr rfl) hn).trans ho.symm)
theorem PMap.obj {w:World}{b:Nat}{ns:List Nm}(h:PMap w b ns):∃ es c,w.heap[b]?=some (.map es c):=by
 obtain⟨D,⟨es,clock,g1,_⟩,_⟩:=h;exact⟨_,_,g1⟩
theorem Kp.pmap {S:Nat→Prop} {ρ ρ':Nat→Nat}{w w':World}(k:Kp S ρ ρ' w w') {b:Nat}{ns:List Nm}(h:PMap w b ns) (hn:¬ S b):PMap w' b ns:=by
 obtain⟨es,c,ho⟩:=h.obj;exact h.keep ((k.obj _ _ ho (.inr rfl) hn).trans ho.symm)
theorem Kp.rr {S:Nat→Prop} {ρ ρ':Nat→Nat}{w w':World}(k:Kp S ρ ρ' w w') {r:Nat}{e:TypeId}{size n:Nat}{v:Value}{xs:List Value}(h:RR w ρ r e size v n xs) (hn:∀ q,ρ q=r→¬ S q):RR w' ρ' r e size v n xs:=by
 obtain⟨⟨h1,h2⟩,h3⟩:=h;rcases h2 with h2 | ⟨g,cap,cur,rfl,hb,hg,rest⟩
 ·refine⟨⟨h1,.inl h2⟩,fun q hq=>?_⟩
  rw [h2.1] at hq;simp [Value.ownBlock] at hq
 have r0:=h3 g (by simp [Value.ownBlock])
 refine⟨⟨h1,.inr ⟨g,cap,cur,rfl,hb,k.obj _ _ hg (.inl rfl) (hn g r0),rest⟩⟩,fun q hq=>?_⟩
 simp [Value.ownBlock] at hq;subst hq;exact(k.role _ (zq7.1 hg).1).trans r0
def RowIn (w:World) (ρ:Nat→Nat) (v:Value) (n:Nat) (xs:List Value):Prop :=
 xs.length=n∧∃ (ad:Option Addr) (c:Nat),v = .slice ad n c∧(0<n→∃ g o,ad=some ⟨g,o,none⟩∧ρ g=0∧∀ (i:Nat) x,xs[i]?=some x→w.cell? ⟨g,o+i,none⟩=some x)
theorem RowIn.sl {w:World} {ρ:Nat→Nat}{v:Value}{n:Nat}{xs:List Value}(h:RowIn w ρ v n xs):SlAt w v n xs:=by
 obtain⟨h1,ad,c,h2,h3⟩:=h;exact⟨h1,ad,c,h2,fun h0=>by obtain⟨g,o,a,b,c⟩:=h3 h0;exact⟨g,o,a,c⟩⟩
theorem Kp.row {S:Nat→Prop} {ρ ρ':Nat→Nat}{w w':World}(k:Kp S ρ ρ' w w') {v:Value}{n:Nat}{xs:List Value}(h:RowIn w ρ v n xs) (hn:∀ q,ρ q=0→¬ S q):RowIn w' ρ' v n xs:=by
 obtain⟨h1,ad,c,h2,h3⟩:=h;refine⟨h1,ad,c,h2,fun h0=>?_⟩
 obtain⟨g,o,e,hr,hat⟩:=h3 h0;refine⟨g,o,e,?_,fun i x hi=>k.cell (hat i x hi) (hn g hr)⟩
 obtain⟨x,hx⟩:∃ x,xs[0]?=some x:=⟨_,zq9 (by omega)⟩
 have hb:=zs3 w _ (hat 0 x hx);exact(k.role _ hb).trans hr
theorem Nms.kp {S:Nat→Prop}{w w':World} {ρ ρ':Nat→Nat}{f pl:Nat}{ent sl sn sv:Value}{names:List Nm}(h:Nms w ρ f pl ent sl sn sv names) (k:Kp S ρ ρ' w w') (hn:∀ q,ρ q=1∨ρ q=4∨ρ q=5→¬ S q):Nms w' ρ' f pl ent sl sn sv names :=
 ⟨k.obj _ _ h.fb (.inl rfl) (hn _ (.inl h.rf)),k.rr h.row fun q e=>hn q (.inr (.inl e)),k.pmap h.pm (hn _ (.inr (.inr h.rp))),(k.role _ (zq7.1 h.fb).1).trans h.rf,(k.role _ h.pm.lt).trans h.rp,k.fresh⟩
structure ParamsAt (w:World) (v:Value) (ns:List Nm):Prop where
 at':∃ (ad:Option Addr) (c:Nat),v = .slice ad ns.length c∧(0<ns.length→∃ g o,ad=some ⟨g,o,none⟩∧∀ i n,ns[i]?=some n→∃ m:Bool,w.cell? ⟨g,o+i*2,none⟩=some (.string n)∧w.cell? ⟨g,o+i*2+1,none⟩=some (.bool m))
structure TFunAt (w:World) (b o:Nat) (ps:List Nm) (e:TE):Prop where
 params:∃ v,w.cell? ⟨b,o+2,none⟩=some v∧ParamsAt w v ps
 body:TEAt w e b (o+3)
def LinkIn (w:World) (ρ:Nat→Nat) (i lb xb xo:Nat) (tg:Option Addr) (bs:List Nm):Prop :=
 ρ lb=2∧∃ sv xv,w.heap[lb]?=some (.cells #[sv,xv,.pointer tg] 120 (0,0))∧RowIn w ρ sv bs.length (strs bs)∧(0<i→xv = .pointer (some ⟨xb,xo,none⟩))
theorem Kp.link {S:Nat→Prop} {ρ ρ':Nat→Nat}{w w':World}(k:Kp S ρ ρ' w w') {i lb xb xo:Nat}{tg:Option Addr}{bs:List Nm}(h:LinkIn w ρ i lb xb xo tg bs) (h0:∀ q,ρ q=0→¬ S q) (hn:¬ S lb):LinkIn w' ρ' i lb xb xo tg bs:=by
 obtain⟨r,sv,xv,h1,h2,h3⟩:=h;exact⟨(k.role _ (zq7.1 h1).1).trans r,sv,xv,k.obj _ _ h1 (.inl rfl) hn,k.row h2 h0,h3⟩
def NodeIn (w:World) (ρ:Nat→Nat) (A:Ad) (F:List Nd) (i:Nat):Prop :=
 ρ (A.nb i)=3∧∃ sx,w.heap[A.nb i]?=some (.cells #[.pointer (some ⟨A.xb i,A.xo i,none⟩),sx,.map (some (A.mb i))] 110 (0,0))∧RowIn w ρ sx (nd F i).next.length (ptrs ((nd F i).next.map A.lb))
structure RdK (w:World) (A:Ad) (F:List Nd) (j:Nat) (K:List Nat) (W:World) (ρ:Nat→Nat):Prop where
 below:Below w.heap.size w W
 low:∀ q,q<w.heap.size→ρ q=0
 rho:∀ q,W.heap.size≤q→ρ q=0
 link:∀ i,i<j∨i∈K→LinkIn W ρ i (A.lb i) (A.xb i) (A.xo i) (if i<j then some ⟨A.nb i,0,none⟩ else none) (nd F i).binds
 exp:∀ i,i<j∨i∈K→TEAt w (nd F i).e (A.xb i) (A.xo i)
 lin:∀ i k,i<j∨i∈K→k<j∨k∈K→A.lb i=A.lb k→i=k
 node:∀ i,i<j→NodeIn W ρ A F i
 live:∀ i,i<j→ρ (A.mb i)=8∧IMap Tryz.prog W (A.mb i) []
 min:∀ i k,i<j→k<j→A.mb i=A.mb k→i=k
theorem RdK.kp {w:World}{A:Ad}{F:List Nd}{j:Nat}{K:List Nat}{W W':World} {ρ ρ':Nat→Nat}(h:RdK w A F j K W ρ) {S:Nat→Prop}(k:Kp S ρ ρ' W W') (hb:Below w.heap.size W W') (h0:∀ q,ρ q=0∨ρ q=8→¬ S q)
  (hl:∀ i,i<j∨i∈K→¬ S (A.lb i)) (hn:∀ i,i<j→¬ S (A.nb i)):RdK w A F j K W' ρ':=by
 refine⟨h.below.trans hb,fun q hq=>(k.role q (zt5 hq h.below.size)).trans (h.low q hq),k.fresh,fun i hi=>k.link (h.link i hi) (fun q e=>h0 q (.inl e)) (hl i hi),h.exp,h.lin,fun i hi=>?_,fun i hi=>?_,h.min⟩
 ·obtain⟨r,sx,h1,h2⟩:=h.node i hi
  exact⟨(k.role _ (zq7.1 h1).1).trans r,sx,k.obj _ _ h1 (.inl rfl) (hn i hi),k.row h2 fun q e=>h0 q (.inl e)⟩
 obtain⟨r,h1⟩:=h.live i hi;exact⟨(k.role _ h1.lt).trans r,k.imap h1 (h0 _ (.inr r))⟩
theorem RdK.sub {w:World}{A:Ad}{F:List Nd}{j:Nat}{K K':List Nat}{W:World} {ρ:Nat→Nat}(h:RdK w A F j K W ρ) (hK:∀ k∈K',k∈K):RdK w A F j K' W ρ :=
 ⟨h.below,h.low,h.rho,fun i hi=>h.link i (hi.imp id (hK i)),fun i hi=>h.exp i (hi.imp id (hK i)),fun i k hi hk=>h.lin i k (hi.imp id (hK i)) (hk.imp id (hK k)),h.node,h.live,h.min⟩
theorem RdK.congr {w:World}{A A':Ad}{F:List Nd}{j:Nat}{K:List Nat}{W:World} {ρ:Nat→Nat}(h:RdK w A F j K W ρ) (hn:∀ i,i<j→∀ k∈(nd F i).next,k<j∨k∈K) (h1:∀ i,i<j∨i∈K→A'.lb i=A.lb i∧A'.xb i=A.xb i∧A'.xo i=A.xo i) (h2:∀ i,i<j→A'.nb i=A.nb i∧A'.mb i=A.mb i):RdK w A' F j K W ρ:=by
 refine⟨h.below,h.low,h.rho,fun i hi=>?_,fun i hi=>?_,fun i k hi hk e=>?_,fun i hi=>?_,fun i hi=>?_,fun i k hi hk e=>?_⟩
 ·obtain⟨e1,e2,e3⟩:=h1 i hi
  have:=h.link i hi;rw [e1,e2,e3]
  by_cases hij:i<j
  ·rw [if_pos hij] at this ⊢;rw [(h2 i hij).1];exact this
  rw [if_neg hij] at this ⊢;exact this
 ·obtain⟨e1,e2,e3⟩:=h1 i hi
  rw [e2,e3];exact h.exp i hi
 ·rw [(h1 i hi).1,(h1 k hk).1] at e;exact h.lin i k hi hk e
 ·obtain⟨e1,e2,e3⟩:=h1 i (.inl hi)
  obtain⟨e4,e5⟩:=h2 i hi;have:=h.node i hi;unfold NodeIn at this ⊢;rw [e2,e3,e4,e5];have e6:(nd F i).next.map A'.lb=(nd F i).next.map A.lb:=List.map_congr_left fun k hk=>(h1 k (hn i hi k hk)).1
  rw [e6];exact this
 ·rw [(h2 i hi).2];exact h.live i hi
 rw [(h2 i hi).2,(h2 k hk).2] at e;exact h.min i k hi hk e
def todos (A:Ad) (T:List Nat):List Value:=T.reverse.flatMap fun k=>[.pointer (some ⟨A.lb k,0,none⟩),.pointer (some ⟨A.xb k,A.xo k,none⟩)]
theorem todos_length (A:Ad) (T:List Nat):(todos A T).length=T.length*2:=by
 unfold todos;rw [List.length_flatMap];have:(T.reverse.map fun k=>[Value.pointer (some ⟨A.lb k,0,none⟩),Value.pointer (some ⟨A.xb k,A.xo k,none⟩)].length)=T.reverse.map fun _=>2:=List.map_congr_left fun _ _=>rfl
 rw [this,List.map_const',List.sum_replicate_nat,List.length_reverse]
theorem todos_cons (A:Ad) (k:Nat) (T:List Nat):todos A (k :: T)=todos A T++[.pointer (some ⟨A.lb k,0,none⟩),.pointer (some ⟨A.xb k,A.xo k,none⟩)]:=by
 unfold todos;rw [List.reverse_cons,List.flatMap_append];simp
theorem todos_congr {A A':Ad}{T:List Nat}(h:∀ i∈T,A'.lb i=A.lb i∧A'.xb i=A.xb i∧A'.xo i=A.xo i):todos A' T=todos A T:=by
 unfold todos;have gen:∀ (l:List Nat),(∀ i∈l,A'.lb i=A.lb i∧A'.xb i=A.xb i∧A'.xo i=A.xo i)→(l.flatMap fun k=>[Value.pointer (some ⟨A'.lb k,0,none⟩),Value.pointer (some ⟨A'.xb k,A'.xo k,none⟩)])=l.flatMap fun k=>[Value.pointer (some ⟨A.lb k,0,none⟩),Value.pointer (some ⟨A.xb k,A.xo k,none⟩)]:=by
  intro l
  induction l with
  | nil=>intro _;rfl
  | cons a l ih =>
   intro h;obtain⟨e1,e2,e3⟩:=h a zr7;rw [List.flatMap_cons,List.flatMap_cons,ih fun i hi=>h i (zr8 _ hi),e1,e2,e3]
 exact gen _ fun i hi=>h i (List.mem_reverse.1 hi)
theorem RR.pop {w:World} {ρ:Nat→Nat}{r:Nat}{e:TypeId}{size n c:Nat}{a:Option Addr}{xs ys:List Value}(h:RR w ρ r e size (.slice a (n+1) c) (n+1) (xs++ys)) (hy:ys.length=size):RR w ρ r e size (.slice a n c) n xs:=by
 obtain⟨⟨h1,h2⟩,h3⟩:=h;have hx:xs.length=n*size:=by rw [zr2,hy,Nat.add_mul] at h1;omega
 rcases h2 with ⟨_,h2⟩|⟨g,cap,cur,hv,hb,hg,k1,k2,k3,k4⟩
 ·omega
 simp only [Value.slice.injEq,true_and] at hv;obtain⟨rfl,rfl⟩:=hv;refine⟨⟨hx,.inr ⟨g,c,cur,rfl,hb,hg,by omega,k2,k3,?_⟩⟩,fun q hq=>h3 q (by simpa [Value.ownBlock] using hq)⟩
 have:=congrArg (List.take (n*size)) k4;have e2:(xs++ys).take (n*size)=xs:=by rw [List.take_append_of_le_length (by omega),zr3 (by omega)]
 rw [List.take_take,Nat.min_eq_left (Nat.mul_le_mul_right _ (Nat.le_succ n)),e2] at this;exact this
theorem RR.cell {w:World} {ρ:Nat→Nat}{r:Nat}{e:TypeId}{size n c:Nat}{a:Option Addr}{xs:List Value}(h:RR w ρ r e size (.slice a n c) n xs) (h0:0<n):∃ g,a=some ⟨g,0,none⟩∧ρ g=r∧n≤c∧c≤maxLen∧∀ (i:Nat) x,xs[i]?=some x→w.cell? ⟨g,i,none⟩=some x:=by
 obtain⟨⟨h1,h2⟩,h3⟩:=h;rcases h2 with ⟨_,h2⟩|⟨g,cap,cur,hv,hb,hg,k1,k2,k3,k4⟩
 ·omega
 simp only [Value.slice.injEq,true_and] at hv;obtain⟨rfl,rfl⟩:=hv;refine⟨g,rfl,h3 g (by simp [Value.ownBlock]),k1,k2,fun i x hi=>?_⟩
 have hl:=(zq8.1 hi).1;rw [zb _ _ _ _ _ _ hg,← Array.getElem?_toList,← List.getElem?_take_of_lt (show i<n*size by omega),k4]
 exact hi
structure RdS (w:World) (A:Ad) (F:List Nd) (f sc rs j:Nat) (K T:List Nat) (names:List Nm) (sl sn sv vs:Value) (nl nn:Nat) (W:World) (ρ:Nat→Nat):Prop where
 k:RdK w A F j K W ρ
 nms:Nms W ρ f A.pl (.pointer (some ⟨A.lb 0,0,none⟩)) sl sn sv names
 rl:RR W ρ 6 114 1 sl nl (ptrs ((List.range nl).map A.lb))
 rn:RR W ρ 7 100 1 sn nn (ptrs ((List.range nn).map A.nb))
 sck:W.heap[sc]?=some (.cells #[vs] 160 (0,0))
 rsc:ρ sc=9
 stk:RR W ρ 10 159 2 vs T.length (todos A T)
 res:W.heap[rs]?=some (.cells #[.pointer none] 99 (0,0))
 rrs:ρ rs=11
theorem RdS.kp {w:World}{A:Ad}{F:List Nd}{f sc rs j:Nat}{K T:List Nat}{names:List Nm}{sl sn sv vs:Value}{nl nn:Nat}{W W':World} {ρ ρ':Nat→Nat}(h:RdS w A F f sc rs j K T names sl sn sv vs nl nn W ρ) {S:Nat→Prop}(k:Kp S ρ ρ' W W') (hb:Below w.heap.size W W')
  (hS:∀ q,ρ q≠2→ρ q≠3→¬ S q) (hl:∀ i,i<j∨i∈K→¬ S (A.lb i)) (hn:∀ i,i<j→¬ S (A.nb i)):RdS w A F f sc rs j K T names sl sn sv vs nl nn W' ρ':=by
 refine⟨h.k.kp k hb (fun q e=>hS q (by omega) (by omega)) hl hn,h.nms.kp k (fun q e=>hS q (by omega) (by omega)),k.rr h.rl (fun q e=>hS q (by omega) (by omega)),k.rr h.rn (fun q e=>hS q (by omega) (by omega)),k.obj _ _ h.sck (.inl rfl) (hS _ (by rw [h.rsc];decide) (by rw [h.rsc];decide)),
  (k.role _ (zq7.1 h.sck).1).trans h.rsc,k.rr h.stk (fun q e=>hS q (by omega) (by omega)),k.obj _ _ h.res (.inl rfl) (hS _ (by rw [h.rrs];decide) (by rw [h.rrs];decide)),(k.role _ (zq7.1 h.res).1).trans h.rrs⟩
theorem RdS.grow {w:World}{A:Ad}{F:List Nd}{f sc rs j:Nat}{K T:List Nat}{names:List Nm}{sl sn sv vs:Value}{nl nn:Nat}{W W':World} {ρ:Nat→Nat}(h:RdS w A F f sc rs j K T names sl sn sv vs nl nn W ρ) (hb:Below W.heap.size W W'):RdS w A F f sc rs j K T names sl sn sv vs nl nn W' ρ :=
 h.kp (S:=fun _=>False) (Kp.of_below hb h.k.rho) (hb.mono h.k.below.size) (fun _ _ _ h=>h) (fun _ _ h=>h) (fun _ _ h=>h)
theorem RdS.bk {w:World}{A:Ad}{F:List Nd}{f sc rs j:Nat}{K T:List Nat}{names:List Nm}{sl sn sv vs:Value}{nl nn:Nat}{W W':World} {ρ:Nat→Nat}{B:Nat}(h:RdS w A F f sc rs j K T names sl sn sv vs nl nn W ρ) (hb:Bk B W W') (hB:w.heap.size≤B):RdS w A F f sc rs j K T names sl sn sv vs nl nn W' ρ :=
 h.kp (S:=fun _=>False) (Kp.of_bk hb h.k.rho) ((below_bk hb).mono hB) (fun _ _ _ h=>h) (fun _ _ h=>h) (fun _ _ h=>h)
theorem step_append_rr {P:Program}{ops:Array Oper}{o:Oper}{a:Act}{w:World}{K:Act→World→Prop}{Q:Exit→Act→World→Prop}{E:Prop}
  (hg:o.guard=none) (s x:Operand) (t:TypeId) (hop:o.op=Op.call { callee:=Callee.builtin Builtin.append,args := #[s,x],argTypes := #[t,t] })
  (e:TypeId) (i:TypeInfo) (z:Value) (size bytes:Nat) (ht:P.underlying t=some (.slice e)) (hi:P.info? e=some i) (hz:i.zero=some z)
  (hsize:i.size=size) (hby:i.bytes=bytes) (hzs:z.cells.size=size) (hsz:0<size) (ρ:Nat→Nat) (r:Nat) (v:Value) (n:Nat) (xs:List Value) (hs:a.eval s=v) (hrow:RR w ρ r e size v n xs) (hρ:∀ k,w.heap.size≤k→ρ k=0)
  (ad:Addr) (m c:Nat) (news:List Value) (hx:a.eval x = .slice (some ad) m c) (hl:news.length=m*size) (hnews:∀ j u,news[j]?=some u→w.cell? (ad.add j)=some u) (h1:∀ u∈news,u.oneCell'=true)
  (h63:n+m≤maxLen) (hbytes:(n+m)*bytes≤140737488355328)
  (hK:∀ a' c' w' ρ',RR w' ρ' r e size (.slice a' (n+m) c') (n+m) (xs++news)→Ch (· = r) ρ ρ' w w'→(∀ k,w.heap.size≤k→ρ' k=0∨ρ' k=r)→K (a.put o.dst (.slice a' (n+m) c')) w') :
  if Region.wanted o (yielded ops a.tmps)=true then Oper.wp P o a w K Q else E:=by
 have hw:Region.wanted o (yielded ops a.tmps)=true:=by simp [Region.wanted,hg]
 rw [if_pos hw];obtain⟨a',c',w',ρ',hr,h2,h3,h4⟩:=run_append_rr (P:=P) w t o.type e i z size bytes ht hi hz hsize hby hzs hsz ρ r v n xs hrow hρ ad m c news hl hnews h1 h63 hbytes;unfold Oper.wp execOp;simp only [hop,resolve,invoke,builtin,Sem.run_bind,Sem.run_pure,Result.andThen_ok,List.map_toArray,List.map_cons,List.map_nil,hs,hx,hr];exact hK _ _ _ _ h2 h3 h4
def mark (D:Nat):Deferred:={ target := .collected D,args := #[] }
theorem leaves_marks {Fc:Fence}{n:Nat}{P:Program}{fn:Func}{tmps:Array Value}{R:Ending→World→Prop}:∀ (Ds:List Nat) (W:World),Ds.Nodup→(∀ D∈Ds,W.heap[D]?=some (.deferred (some []))) →
  (∀ W':World,W'.os=W.os→W'.tape=W.tape→W'.output=W.output→W'.heap.size=W.heap.size→(∀ q,q∉Ds→W'.heap[q]?=W.heap[q]?)→LeavesInM Fc n P fn tmps R [] .returning W')→LeavesInM Fc n P fn tmps R (Ds.map mark) .returning W
 | [],W,_,_,h=>h W rfl rfl rfl rfl fun _ _=>rfl
 | D :: Ds,W,hn,hd,h=>by
  rw [List.nodup_cons] at hn;have h0:=hd D zr7;have hlt:=(zq7.1 h0).1
  refine⟨by simp,.inl ⟨D,_,rfl,run_takeDeferred h0,leaves_marks Ds _ hn.2 (fun E hE=>?_) fun W' a b c d e=>h W' a b c (d.trans (by simp)) fun q hq=>?_⟩⟩
  ·refine(World.putObj_heap_other ?_).trans (hd E (zr8 _ hE))
   rintro rfl;exact hn.1 hE
  rw [List.mem_cons,not_or] at hq;exact(e q hq.2).trans (World.putObj_heap_other hq.1)
end
section
open Go.RowKit RG Go.Maps
variable {w:World} {A:Ad} {F:List Nd} {f sc rs j:Nat} {K T:List Nat} {names:List Nm} {sl sn sv vs:Value} {nl nn:Nat} {W:World} {ρ:Nat→Nat}
theorem RdS.re {W':World} {ρ':Nat→Nat}{names':List Nm}{sl' sn' sv':Value}{nl' nn':Nat}(h:RdS w A F f sc rs j K T names sl sn sv vs nl nn W ρ) {S:Nat→Prop}(k:Kp S ρ ρ' W W') (hb:Below w.heap.size W W') (hS:∀ q,S q→ρ q=1∨ρ q=4∨ρ q=5∨ρ q=6∨ρ q=7)
  (hn:Nms W' ρ' f A.pl (.pointer (some ⟨A.lb 0,0,none⟩)) sl' sn' sv' names') (hl:RR W' ρ' 6 114 1 sl' nl' (ptrs ((List.range nl').map A.lb))) (hm:RR W' ρ' 7 100 1 sn' nn' (ptrs ((List.range nn').map A.nb))) :
  RdS w A F f sc rs j K T names' sl' sn' sv' vs nl' nn' W' ρ' :=
 ⟨h.k.kp k hb (fun q e s=>by have:=hS q s;omega) (fun i hi s=>by have:=hS _ s;have:=(h.k.link i hi).1;omega) (fun i hi s=>by have:=hS _ s;have:=(h.k.node i hi).1;omega),hn,hl,hm,
  k.obj _ _ h.sck (.inl rfl) (fun s=>by have:=hS _ s;have:=h.rsc;omega),(k.role _ (zq7.1 h.sck).1).trans h.rsc,k.rr h.stk (fun q e s=>by have:=hS q s;omega),
  k.obj _ _ h.res (.inl rfl) (fun s=>by have:=hS _ s;have:=h.rrs;omega),(k.role _ (zq7.1 h.res).1).trans h.rrs⟩
theorem RdS.restack {W':World} {ρ':Nat→Nat}{T':List Nat}{vs':Value}{sc':Nat}(h:RdS w A F f sc rs j K T names sl sn sv vs nl nn W ρ) {S:Nat→Prop}(k:Kp S ρ ρ' W W') (hb:Below w.heap.size W W') (hS:∀ q,S q→ρ q=9∨ρ q=10)
  (hc:W'.heap[sc']?=some (.cells #[vs'] 160 (0,0))) (hr:ρ' sc'=9) (ht:RR W' ρ' 10 159 2 vs' T'.length (todos A T')) :
  RdS w A F f sc' rs j K T' names sl sn sv vs' nl nn W' ρ' :=
 ⟨h.k.kp k hb (fun q e s=>by have:=hS q s;omega) (fun i hi s=>by have:=hS _ s;have:=(h.k.link i hi).1;omega) (fun i hi s=>by have:=hS _ s;have:=(h.k.node i hi).1;omega),h.nms.kp k (fun q e s=>by have:=hS q s;omega),k.rr h.rl (fun q e s=>by have:=hS q s;omega),k.rr h.rn (fun q e s=>by have:=hS q s;omega),
  hc,hr,ht,k.obj _ _ h.res (.inl rfl) (fun s=>by have:=hS _ s;have:=h.rrs;omega),(k.role _ (zq7.1 h.res).1).trans h.rrs⟩
theorem RdS.sub {K':List Nat}(h:RdS w A F f sc rs j K T names sl sn sv vs nl nn W ρ) (hK:∀ k∈K',k∈K):RdS w A F f sc rs j K' T names sl sn sv vs nl nn W ρ :=
 ⟨h.k.sub hK,h.nms,h.rl,h.rn,h.sck,h.rsc,h.stk,h.res,h.rrs⟩
theorem RdS.pop {t a:Nat}{g:Option Addr}{c:Nat}(h:RdS w A F f sc rs j K (t :: T) names sl sn sv (.slice g (T.length+1) c) nl nn W ρ):RdS w A F f sc rs j K T names sl sn sv (.slice g T.length c) nl nn (W.setCell ⟨sc,0,none⟩ (.slice g T.length c)) ρ:=by
 have hk:=Kp.setCell (ρ:=ρ) (w:=W) ⟨sc,0,none⟩ (.slice g T.length c) h.k.rho;have hsc:w.heap.size≤sc:=Nat.le_of_not_lt fun hlt=>by have:=h.k.low _ hlt;have:=h.rsc;omega
 refine h.restack hk ((zs9 _ _).setCell hsc _) (fun q e=>by rw [e];exact .inl h.rsc) (heap_setCell_same W sc 0 _ _ _ h.sck) h.rsc ?_
 have:=h.stk;rw [todos_cons] at this;exact hk.rr (this.pop rfl) (fun q e=>by rintro rfl;have:=h.rsc;simp only [] at *;omega)
def Ad.more (A:Ad) (KN:List Nat) (L:List (Nat×Nat×Nat)):Ad :=
 { A with lb:=fun m=>if m∈KN then (L.getD (KN.idxOf m) (0,0,0)).1 else A.lb m,xb:=fun m=>if m∈KN then (L.getD (KN.idxOf m) (0,0,0)).2.1 else A.xb m,xo:=fun m=>if m∈KN then (L.getD (KN.idxOf m) (0,0,0)).2.2 else A.xo m }
def Ad.node (A:Ad) (j nb mb:Nat):Ad:={ A with nb:=fun i=>if i=j then nb else A.nb i,mb:=fun i=>if i=j then mb else A.mb i }
theorem idxOf_at:∀ {KN:List Nat}{i m:Nat},KN.Nodup→KN[i]?=some m→KN.idxOf m=i
 | [],i,m,_,h=>by simp at h
 | a :: KN,0,m,hn,h=>by simp at h;subst h;simp
 | a :: KN,i+1,m,hn,h=>by
  rw [List.nodup_cons] at hn;simp only [List.getElem?_cons_succ] at h;have hne:a≠m:=fun e=>hn.1 (e ▸ zr1 h)
  rw [List.idxOf_cons,zt6 hne,cond_false,idxOf_at hn.2 h]
theorem Ad.more_at {A:Ad}{KN:List Nat}{L:List (Nat×Nat×Nat)}{i m:Nat}{t:Nat×Nat×Nat}(hn:KN.Nodup) (h:KN[i]?=some m) (ht:L[i]?=some t):(A.more KN L).lb m=t.1∧(A.more KN L).xb m=t.2.1∧(A.more KN L).xo m=t.2.2:=by
 unfold Ad.more;have hm:=zr1 h;simp only [if_pos hm,idxOf_at hn h,zt4,ht,Option.getD_some,and_self]
theorem Ad.more_other {A:Ad}{KN:List Nat}{L:List (Nat×Nat×Nat)}{m:Nat}(h:m∉KN):(A.more KN L).lb m=A.lb m∧(A.more KN L).xb m=A.xb m∧(A.more KN L).xo m=A.xo m:=by
 unfold Ad.more;simp only [if_neg h,and_self]
def linked (ρ:Nat→Nat) (L:List (Nat×Nat×Nat)):Nat→Nat:=fun q=>if q∈L.map (·.1) then 2 else ρ q
theorem NamesAt.rowIn {w W:World} {ρ:Nat→Nat}{B:Nat}{sv:Value}{bs:List Nm}(h:NamesAt w W B sv bs) (hk:Kept w W) (hlow:∀ q,q<w.heap.size→ρ q=0) (hnew:∀ q,B≤q→W.cell? ⟨q,0,none⟩=some (.string (bs.headD ⟨#[]⟩))→ρ q=0):RowIn W ρ sv bs.length (strs bs):=by
 rcases h with ⟨h1,ad,c,h2,h3⟩|⟨g,h1,h2,h3⟩
 ·refine⟨h1,ad,c,h2,fun h0=>?_⟩
  obtain⟨g,o,e,hat⟩:=h3 h0;obtain⟨x,hx⟩:∃ x,(strs bs)[0]?=some x:=⟨_,zq9 (by omega)⟩
  exact⟨g,o,e,hlow g (zs3 w _ (hat 0 x hx)),fun i x hi=>hk _ _ (hat i x hi)⟩
 refine⟨strs_length _,_,_,h1,fun h0=>⟨g,0,rfl,?_,fun i x hi=>?_⟩⟩
 ·refine hnew g h2 ?_
  cases bs with
  | nil=>simp at h0
  | cons b r=>exact h3 0 b rfl
 obtain⟨n,hn,rfl⟩:∃ n,bs[i]?=some n∧x = .string n:=by
  unfold strs at hi;rw [List.getElem?_map] at hi;cases hq:bs[i]? with
  | none=>rw [hq] at hi;cases hi
  | some n=>rw [hq] at hi;simp at hi;exact⟨n,rfl,hi.symm⟩
 rw [Nat.zero_add];exact h3 i n hn
theorem RdS.next {W8:World}{KN:List Nat}{ks:List (List Nm×TE)}{a:Option Addr}{c:Nat}{L:List (Nat×Nat×Nat)}
  (h:RdS w A F f sc rs j K T names sl sn sv vs nl nn W8 ρ) (hkp:Kp (fun q=>q=A.nb j) ρ ρ W8 W) (hb:Below w.heap.size W8 W) (h0:0<nl) (hnl:nl≤j+1) (hnn:nn≤j+1) (hTK:∀ i∈T,i∈K) (hF:(nd F j).next=KN) (hKN:KN.Nodup) (hlen:KN.length=ks.length)
  (hkid:∀ (i:Nat) p,ks[i]?=some p→∃ m,KN[i]?=some m∧(nd F m).binds=p.1∧(nd F m).e=p.2)
  (hj:LinkIn W8 ρ j (A.lb j) (A.xb j) (A.xo j) (some ⟨A.nb j,0,none⟩) (nd F j).binds) (ej:TEAt w (nd F j).e (A.xb j) (A.xo j))
  (hne:∀ i,i<j∨i∈K→A.lb i≠A.lb j) (hnb:W.heap[A.nb j]?=some (.cells #[.pointer (some ⟨A.xb j,A.xo j,none⟩),.slice a ks.length c,.map (some (A.mb j))] 110 (0,0))) (rnb:ρ (A.nb j)=3) (hnj:A.nb j<W8.heap.size) (hnn':∀ i,i<j→A.nb i≠A.nb j)
  (hmb:IMap Tryz.prog W8 (A.mb j) []) (rmb:ρ (A.mb j)=8) (hmn:∀ i,i<j→A.mb i≠A.mb j)
  (hks:KsAt w W8 W ks a L) (hdis:∀ m∈KN,j<m∧m∉K) (hnx:∀ i,i<j→∀ k∈(nd F i).next,k<j∨k=j∨k∈K) :
  RdS w (A.more KN L) F f sc rs (j+1) (KN++K) T names sl sn sv vs nl nn W (linked ρ L):=by
 have hw8:w.heap.size≤W8.heap.size:=h.k.below.size;have lenL:L.length=KN.length:=by rw [hks.len,hlen]
 have hkeep:Kept w W:=zd (h.k.below.trans hb);have newL:∀ q,q∈L.map (·.1)→W8.heap.size≤q∧∃ (x y:Value) (ad:Option Addr) (n c:Nat),W.heap[q]?=some (.cells #[.slice ad n c,x,y] 120 (0,0)):=fun q hq=>by
  obtain⟨t,ht,rfl⟩:=List.mem_map.1 hq;obtain⟨i,hi⟩:=List.getElem?_of_mem ht;have hil:=(zq8.1 hi).1;obtain⟨p,hp⟩:∃ p,ks[i]?=some p:=⟨_,zq9 (by rw [← hks.len];exact hil)⟩
  obtain⟨⟨v,h1,h2⟩,h3,h4⟩:=hks.kid i p t hp hi;refine⟨h4,?_⟩;rcases h2 with ⟨_,ad,c,rfl,_⟩|⟨g,rfl,_⟩
  ·exact⟨_,_,_,_,_,h1⟩
  exact⟨_,_,_,_,_,h1⟩
 have hlink0:∀ q,q<W8.heap.size→linked ρ L q=ρ q:=fun q hq=>by
  unfold linked;rw [if_neg fun hm=>by have:=(newL q hm).1;omega]
 have k2:Kp (fun q=>q=A.nb j) ρ (linked ρ L) W8 W:=hkp.roleNew _ hlink0 fun q hq=>by
  unfold linked;rw [if_neg fun hm=>by
   obtain⟨_,_,_,_,_,_,h1⟩:=newL q hm;have:=(zq7.1 h1).1;omega]
  exact hkp.fresh q hq
 have h2:=h.kp k2 hb (fun q e1 e2 e3=>e2 (by rw [e3];exact rnb)) (fun i hi e=>by have:=(h.k.link i hi).1;rw [e,rnb] at this;cases this) hnn'
 have hj2:=k2.link hj (fun q e e2=>by rw [e2,rnb] at e;cases e) (fun e=>by have:=hj.1;rw [e,rnb] at this;cases this)
 have hm2:=k2.imap hmb (fun e=>by rw [e,rnb] at rmb;cases rmb)
 have oldK:∀ i,i<j∨i=j∨i∈K→i∉KN:=fun i hi hm=>by
  obtain⟨d1,d2⟩:=hdis i hm;rcases hi with hi | hi | hi
  ·omega
  ·omega
  exact d2 hi
 have mo:∀ i,i<j∨i=j∨i∈K→(A.more KN L).lb i=A.lb i∧(A.more KN L).xb i=A.xb i∧(A.more KN L).xo i=A.xo i:=fun i hi=>Ad.more_other (oldK i hi)
 -- a kid
 have kid:∀ m,m∈KN→∃ (i:Nat) (t:Nat×Nat×Nat) (p:List Nm×TE),KN[i]?=some m∧L[i]?=some t∧ks[i]?=some p∧(nd F m).binds=p.1∧(nd F m).e=p.2∧(A.more KN L).lb m=t.1∧(A.more KN L).xb m=t.2.1∧(A.more KN L).xo m=t.2.2:=fun m hm=>by
  obtain⟨i,hi⟩:=List.getElem?_of_mem hm;have hil:=(zq8.1 hi).1;obtain⟨t,ht⟩:∃ t,L[i]?=some t:=⟨_,zq9 (by omega)⟩
  obtain⟨p,hp⟩:∃ p,ks[i]?=some p:=⟨_,zq9 (by omega)⟩
  obtain⟨m',h1,h2,h3⟩:=hkid i p hp;rw [hi,zt3] at h1;subst h1;exact⟨i,t,p,hi,ht,hp,h2,h3,Ad.more_at hKN hi ht⟩
 have kidlb:∀ m,m∈KN→W8.heap.size≤(A.more KN L).lb m:=fun m hm=>by
  obtain⟨i,t,p,h1,h2,h3,h4,h5,h6,h7,h8⟩:=kid m hm;rw [h6];exact(hks.kid i p t h3 h2).new
 have linkLt:∀ i,i<j∨i=j∨i∈K→A.lb i<W8.heap.size:=fun i hi=>by
  have key:∀ {i a b c:Nat} {t:Option Addr} {l:List Nm},LinkIn W8 ρ i a b c t l→a<W8.heap.size:=fun ⟨_,sv,xv,h1,_⟩=>(zq7.1 h1).1
  rcases hi with hi | rfl | hi
  ·exact key (h.k.link i (.inl hi))
  ·exact key hj
  exact key (h.k.link i (.inr hi))
 have split:∀ i,i<j+1∨i∈KN++K→(i<j∨i∈K)∨i=j∨i∈KN:=fun i hi=>by
  rcases hi with hi | hi
  ·by_cases e:i=j
   ·exact .inr (.inl e)
   exact .inl (.inl (by omega))
  rcases List.mem_append.1 hi with hi | hi
  ·exact .inr (.inr hi)
  exact .inl (.inr hi)
 have exp':∀ i,i<j+1∨i∈KN++K→TEAt w (nd F i).e ((A.more KN L).xb i) ((A.more KN L).xo i):=fun i hi=>by
  rcases split i hi with hi | rfl | hi
  ·obtain⟨_,e2,e3⟩:=mo i (hi.imp id .inr)
   rw [e2,e3];exact h.k.exp i hi
  ·obtain⟨_,e2,e3⟩:=mo i (.inr (.inl rfl))
   rw [e2,e3];exact ej
  obtain⟨q,t,p,h1,h2,h3,h4,h5,h6,h7,h8⟩:=kid i hi;rw [h5,h7,h8];exact(hks.kid q p t h3 h2).exp
 refine⟨⟨h2.k.below,h2.k.low,h2.k.rho,fun i hi0=>?_,exp',fun i k hi0 hk0 e=>?_,fun i hi=>?_,fun i hi=>?_,fun i k hi hk e=>?_⟩,?_,?_,h2.rn,h2.sck,h2.rsc,?_,h2.res,h2.rrs⟩
 ·-- links
  rcases split i hi0 with hi | rfl | hi
  ·obtain⟨e1,e2,e3⟩:=mo i (hi.imp id .inr)
   rw [e1,e2,e3];have:=h2.k.link i hi
   by_cases hij:i<j
   ·rw [if_pos hij] at this;rw [if_pos (by omega)];exact this
   rw [if_neg hij] at this;rcases hi with hi2 | hi2
   ·exact absurd hi2 hij
   by_cases hij2:i<j+1
   ·have:i=j:=by omega
    subst this;exact absurd rfl (hne i (.inr hi2))
   rw [if_neg hij2];exact this
  ·obtain⟨e1,e2,e3⟩:=mo i (.inr (.inl rfl))
   rw [e1,e2,e3,if_pos (Nat.lt_succ_self _)];exact hj2
  obtain⟨q,t,p,k1,k2,k3,k4,k5,k6,k7,k8⟩:=kid i hi;have hd:=hdis i hi;rw [k6,k7,k8,if_neg (by omega),k4]
  obtain⟨⟨v,c1,c2⟩,c3,c4⟩:=hks.kid q p t k3 k2;refine⟨?_,v,_,c1,c2.rowIn hkeep (fun q hq=>by rw [hlink0 q (by omega)];exact h.k.low q hq) (fun q hq hs=>?_),fun _=>rfl⟩
  ·unfold linked
   rw [if_pos (List.mem_map.2 ⟨t,zr1 k2,rfl⟩)]
  unfold linked;rw [if_neg fun hm=>?_]
  ·exact h.k.rho q hq
  obtain⟨_,x,y,ad,n,c,h1⟩:=newL q hm;rw [zb _ _ 0 _ _ _ h1] at hs;simp at hs
 ·-- apart
  rcases split i hi0 with hi | rfl | hi
  ·rcases split k hk0 with hk | rfl | hk
   ·rw [(mo i (hi.imp id .inr)).1,(mo k (hk.imp id .inr)).1] at e
    exact h.k.lin i k hi hk e
   ·rw [(mo i (hi.imp id .inr)).1,(mo k (.inr (.inl rfl))).1] at e
    exact absurd e (hne i hi)
   rw [(mo i (hi.imp id .inr)).1] at e;have:=linkLt i (hi.imp id .inr);have:=kidlb k hk
   omega
  ·rcases split k hk0 with hk | rfl | hk
   ·rw [(mo i (.inr (.inl rfl))).1,(mo k (hk.imp id .inr)).1] at e
    exact absurd e.symm (hne k hk)
   ·rfl
   rw [(mo i (.inr (.inl rfl))).1] at e;have:=linkLt i (.inr (.inl rfl));have:=kidlb k hk
   omega
  rcases split k hk0 with hk | rfl | hk
  ·rw [(mo k (hk.imp id .inr)).1] at e
   have:=linkLt k (hk.imp id .inr);have:=kidlb i hi
   omega
  ·rw [(mo k (.inr (.inl rfl))).1] at e
   have:=linkLt k (.inr (.inl rfl));have:=kidlb i hi
   omega
  obtain⟨q1,t1,p1,a1,a2,a3,a4,a5,a6,a7,a8⟩:=kid i hi;obtain⟨q2,t2,p2,b1,b2,b3,b4,b5,b6,b7,b8⟩:=kid k hk;rw [a6,b6] at e;have hq:q1=q2:=by
   have g1:(L.map (·.1))[q1]?=some t1.1:=by rw [List.getElem?_map,a2];rfl
   have g2:(L.map (·.1))[q2]?=some t1.1:=by rw [List.getElem?_map,b2,e];rfl
   exact(List.getElem?_inj (zq8.1 g1).1 hks.nodup).1 (g1.trans g2.symm)
  subst hq;rw [a1,zt3] at b1;exact b1
 ·-- nodes
  by_cases e:i=j
  ·subst e
   obtain⟨e1,e2,e3⟩:=mo i (.inr (.inl rfl));show linked ρ L (A.nb i)=3∧_;refine⟨by rw [hlink0 _ hnj];exact rnb,.slice a ks.length c,?_,?_⟩
   ·rw [e2,e3];exact hnb
   rw [hF];refine⟨by rw [ptrs_length,zv1],a,c,by rw [hlen],fun hz=>?_⟩
   obtain⟨g,rfl,hg,hat⟩:=hks.row (by rw [← hlen];exact hz)
   obtain⟨t0,ht0⟩:∃ t,L[0]?=some t:=⟨_,zq9 (by omega)⟩
   refine⟨g,0,rfl,?_,fun q x hx=>?_⟩
   ·unfold linked
    rw [if_neg fun hm=>?_]
    ·exact h.k.rho g hg
    obtain⟨_,x,y,ad,n,c,h1⟩:=newL g hm;have:=hat 0 t0 ht0;rw [zb _ _ 0 _ _ _ h1] at this;simp at this
   have hql:=(zq8.1 hx).1;rw [ptrs_length,zv1] at hql;obtain⟨t,ht⟩:∃ t,L[q]?=some t:=⟨_,zq9 (by omega)⟩
   obtain⟨m,hm⟩:∃ m,KN[q]?=some m:=⟨_,zq9 hql⟩;rw [ptrs_at (b:=t.1) (by rw [List.getElem?_map,hm,Option.map_some,(Ad.more_at hKN hm ht).1]),zt3] at hx
   rw [Nat.zero_add,← hx];exact hat q t ht
  have hij:i<j:=by omega
  obtain⟨e1,e2,e3⟩:=mo i (.inl hij);have:=h2.k.node i hij;unfold NodeIn at this ⊢;have e6:(nd F i).next.map (A.more KN L).lb=(nd F i).next.map A.lb:=List.map_congr_left fun k hk=>(mo k (hnx i hij k hk)).1
  rw [e2,e3,e6];exact this
 ·by_cases e:i=j
  ·subst e;exact⟨by rw [hlink0 _ (show (A.more KN L).mb i<_ from hmb.lt)];exact rmb,hm2⟩
  exact h2.k.live i (by omega)
 ·by_cases ei:i=j
  ·by_cases ek:k=j
   ·rw [ei,ek]
   subst ei;exact absurd e.symm (hmn k (by omega))
  by_cases ek:k=j
  ·subst ek
   exact absurd e (hmn i (by omega))
  exact h.k.min i k (by omega) (by omega) e
 ·have e0:(A.more KN L).lb 0=A.lb 0:=(mo 0 (by omega)).1
  rw [e0];exact h2.nms
 ·have e6:(List.range nl).map (A.more KN L).lb=(List.range nl).map A.lb:=List.map_congr_left fun i hi=>(mo i (by have:=List.mem_range.1 hi;omega)).1
  rw [e6];exact h2.rl
 rw [todos_congr fun i hi=>mo i (.inr (.inr (hTK i hi)))]
 exact h2.stk
end
section
open Go.RowKit RG Go.Maps
def ReadP (isName:Nm→Bool) (w:World) (ps:List Nm) (e:TE) (en:Ending) (w':World):Prop :=
 Below w.heap.size w w'∧((RG.Good isName ps e∧∃ A f,en = .returned (.pointer (some ⟨f,0,none⟩))∧Fl w' A f (F0 ps e))∨(¬ RG.Good isName ps e∧en = .returned (.pointer none)))
theorem new4 (w:World) (o1 o2 o3 o4:Obj):(((((w.alloc o1).alloc o2).alloc o3).alloc o4).heap[w.heap.size]?=some o1)∧(((((w.alloc o1).alloc o2).alloc o3).alloc o4).heap[w.heap.size+1]?=some o2)∧(((((w.alloc o1).alloc o2).alloc o3).alloc o4).heap[w.heap.size+2]?=some o3)∧(((((w.alloc o1).alloc o2).alloc o3).alloc o4).heap[w.heap.size+3]?=some o4)∧Below w.heap.size w ((((w.alloc o1).alloc o2).alloc o3).alloc o4):=by
 obtain⟨h0,h1,h2,hb⟩:=new3 w o1 o2 o3;have hs:(((w.alloc o1).alloc o2).alloc o3).heap.size=w.heap.size+3:=by simp
 have k:∀ q,q<w.heap.size+3→((((w.alloc o1).alloc o2).alloc o3).alloc o4).heap[q]?=(((w.alloc o1).alloc o2).alloc o3).heap[q]?:=fun q hq=>zt2 _ _ _ (by omega)
 refine⟨(k _ (by omega)).trans h0,(k _ (by omega)).trans h1,(k _ (by omega)).trans h2,?_,hb.alloc (by omega) _⟩
 have:=World.alloc_heap_new (((w.alloc o1).alloc o2).alloc o3) o4;rw [hs] at this;exact this
structure HdI (w:World) (r0:Nat) (ps:List Nm) (k:Nat) (sv:Value) (W:World) (ρ:Nat→Nat):Prop where
 below:Below w.heap.size w W
 b0:W.heap[r0]?=some (.cells #[.pointer none] 99 (0,0))
 b1:W.heap[r0+1]?=some (.cells #[sv,.pointer none,.pointer none] 120 (0,0))
 b3:W.heap[r0+3]?=some (.cells #[.pointer (some ⟨r0+1,0,none⟩),.slice none 0 0,.slice none 0 0,.slice none 0 0,.map (some (r0+1+1))] 118 (0,0))
 pm:PMap W (r0+2) []
 row:RR W ρ 4 9 1 sv k (strs (ps.take k))
 r:ρ r0=11∧ρ (r0+1)=2∧ρ (r0+2)=5∧ρ (r0+3)=1
 low:∀ q,q<r0→ρ q=0
 rho:∀ q,W.heap.size≤q→ρ q=0
def role0 (r0:Nat):Nat→Nat:=fun q=>if q=r0 then 11 else if q=r0+1 then 2 else if q=r0+2 then 5 else if q=r0+3 then 1 else 0
theorem role0_at (r0:Nat):role0 r0 r0=11∧role0 r0 (r0+1)=2∧role0 r0 (r0+2)=5∧role0 r0 (r0+3)=1:=by
 unfold role0;refine⟨if_pos rfl,?_,?_,?_⟩
 ·rw [if_neg (by omega),if_pos rfl]
 ·rw [if_neg (by omega),if_neg (by omega),if_pos rfl]
 rw [if_neg (by omega),if_neg (by omega),if_neg (by omega),if_pos rfl]
theorem role0_other {r0 q:Nat}(h:q<r0∨r0+3<q):role0 r0 q=0:=by
 unfold role0;rw [if_neg (by omega),if_neg (by omega),if_neg (by omega),if_neg (by omega)]
theorem HdI.step {w:World}{r0:Nat}{ps:List Nm}{k:Nat}{sv:Value}{W W':World} {ρ ρ':Nat→Nat}{a:Option Addr}{c:Nat}{x:Nm}(h:HdI w r0 ps k sv W ρ) (hr0:w.heap.size≤r0) (hx:ps[k]?=some x) (hc:Ch (· = 4) ρ ρ' W W')
  (hrow:RR W' ρ' 4 9 1 (.slice a (k+1) c) (k+1) (strs (ps.take k)++[.string x])):HdI w r0 ps (k+1) (.slice a (k+1) c) (W'.setCell ⟨r0+1,0,none⟩ (.slice a (k+1) c)) ρ':=by
 obtain⟨q0,q1,q2,q3⟩:=h.r;have h1:=hc.keep h.b1 (by rw [q1];decide)
 have k0:∀ q,q≠r0+1→(W'.setCell ⟨r0+1,0,none⟩ (.slice a (k+1) c)).heap[q]?=W'.heap[q]?:=fun q hq=>zt1 W' _ _ q hq
 have e1:=(hc.keepRole h.b1).trans q1;refine⟨(h.below.trans (hc.below h.below.size fun q hq=>?_)).setCell (by show w.heap.size≤r0+1;omega) _,(k0 _ (by omega)).trans (hc.keep h.b0 (by rw [q0];decide)),heap_setCell_same W' _ 0 _ _ _ h1,(k0 _ (by omega)).trans (hc.keep h.b3 (by rw [q3];decide)),?_,?_,⟨(hc.keepRole h.b0).trans q0,e1,(hc.role _ h.pm.lt).trans q2,(hc.keepRole h.b3).trans q3⟩,fun q hq=>?_,fun q hq=>hc.fresh q (by simpa using hq)⟩
 ·rw [h.low q (by omega)];decide
 ·exact h.pm.keep ((k0 _ (by omega)).trans (hc.block _ h.pm.lt (by rw [q2];decide)))
 ·have e:strs (ps.take (k+1))=strs (ps.take k)++[.string x]:=by rw [List.take_add_one,hx];simp [strs]
  rw [e];exact hrow.keep (Ch.setCell (Ch.refl (M:=(· = 2)) (ρ:=ρ') (w:=W') hc.fresh) ⟨r0+1,0,none⟩ _ (fun _=>e1)) (by decide)
 rw [hc.role q (by have:=(zq7.1 h.b0).1;omega)];exact h.low q hq
theorem HdI.ch {w:World}{r0:Nat}{ps:List Nm}{k:Nat}{sv:Value}{W W':World} {ρ ρ':Nat→Nat}(h:HdI w r0 ps k sv W ρ) (hc:Ch (fun _=>False) ρ ρ' W W'):HdI w r0 ps k sv W' ρ':=by
 obtain⟨q0,q1,q2,q3⟩:=h.r;exact⟨h.below.trans (hc.below h.below.size fun q hq h=>h),hc.keep h.b0 id,hc.keep h.b1 id,hc.keep h.b3 id,h.pm.keep (hc.block _ h.pm.lt id),h.row.keep hc id,⟨(hc.keepRole h.b0).trans q0,(hc.keepRole h.b1).trans q1,(hc.role _ h.pm.lt).trans q2,(hc.keepRole h.b3).trans q3⟩,
  fun q hq=>(hc.role q (by have:=(zq7.1 h.b0).1;omega)).trans (h.low q hq),hc.fresh⟩
theorem HdI.grow {w:World}{r0:Nat}{ps:List Nm}{k:Nat}{sv:Value}{W W':World} {ρ:Nat→Nat}(h:HdI w r0 ps k sv W ρ) (hb:Below W.heap.size W W'):HdI w r0 ps k sv W' ρ:=h.ch (Ch.of_below hb h.rho)
theorem Tryz.info35e:(Tryz.prog.info? 9).map (fun i=>(i.zero,i.size,i.bytes))=some (some (.string ⟨#[]⟩),1,16):=by kernel_rfl
def Mk (w:World) (Ds:List Nat) (W:World) (ρ:Nat→Nat):Prop:=Ds.Nodup∧∀ D∈Ds,w.heap.size≤D∧ρ D=0∧W.heap[D]?=some (.deferred (some []))
theorem Mk.ch {w W W':World}{Ds:List Nat} {ρ ρ':Nat→Nat}{M:Nat→Prop}(h:Mk w Ds W ρ) (hc:Ch M ρ ρ' W W') (hM:¬ M 0):Mk w Ds W' ρ' :=
 ⟨h.1,fun D hD=>by obtain⟨a,b,c⟩:=h.2 D hD;exact⟨a,(hc.keepRole c).trans b,hc.keep c (by rw [b];exact hM)⟩⟩
theorem Mk.grow {w W W':World}{Ds:List Nat} {ρ:Nat→Nat}(h:Mk w Ds W ρ) (hb:Below W.heap.size W W'):Mk w Ds W' ρ :=
 ⟨h.1,fun D hD=>by obtain⟨a,b,c⟩:=h.2 D hD;exact⟨a,b,zm hb c⟩⟩
theorem Mk.setCell {w W:World}{Ds:List Nat} {ρ:Nat→Nat}(h:Mk w Ds W ρ) (a:Addr) (v:Value) {cs:Array Value}{T:TypeId}{r:Nat×Nat}(ha:W.heap[a.block]?=some (.cells cs T r)):Mk w Ds (W.setCell a v) ρ :=
 ⟨h.1,fun D hD=>by
  obtain⟨x,y,z⟩:=h.2 D hD;refine⟨x,y,(zt1 W a v D ?_).trans z⟩;rintro rfl;rw [ha] at z;cases z⟩
def LpI (isName:Nm→Bool) (w:World) (ps:List Nm) (e:TE) (f r0 gk:Nat) (v6:Value) (ds:List Deferred) (W:World):Prop :=
 ∃ (A:Ad) (sc j:Nat) (stk:List (List Nm×TE)) (names:List Nm) (sl sn sv vs:Value) (ρ:Nat→Nat) (Ds:List Nat),
  (gk=(F0 ps e).length - j∧j≤20000∧v6 = .pointer (some ⟨sc,0,none⟩)∧ds=Ds.map mark)∧Mk w Ds W ρ∧RdS w A (F0 ps e) f sc r0 j (nums j stk) (nums j stk) names sl sn sv vs j j W ρ ∧
  Stk (F0 ps e) j stk∧(∀ i,i<j→∀ k∈(nd (F0 ps e) i).next,k<j∨k∈nums j stk)∧(∀ k∈nums j stk,(nd (F0 ps e) k).binds.length≤16)∧names.length≤16*j∧stk.length≤16*j+1∧rd isName e.size 0 [] [(ps,e)]=rd isName (e.size - j) j names stk
theorem RdS.start {w W0 W:World}{r0 n sc rb b o:Nat}{ps:List Nm}{e:TE}{sv0:Value} {ρ0:Nat→Nat}(h:HdI w r0 ps n sv0 W0 ρ0) (hr0:r0=w.heap.size) (hn:n=ps.length) (ht:TFunAt w b o ps e) (hb:Below W0.heap.size W0 W)
  (h1:W0.heap.size≤sc) (h2:W0.heap.size≤rb) (hne:sc≠rb) (hsc:W.heap[sc]?=some (.cells #[.slice (some ⟨rb,0,none⟩) 1 1] 160 (0,0)))
  (hrb:W.heap[rb]?=some (.cells #[.pointer (some ⟨r0+1,0,none⟩),.pointer (some ⟨b,o+3,none⟩)] 159 (0,0))) :
  RdS w { lb:=fun _=>r0+1,nb:=fun _=>0,mb:=fun _=>0,xb:=fun _=>b,xo:=fun _=>o+3,pl:=r0+2 } (F0 ps e) (r0+3) sc r0 0 [0] [0] [] (.slice none 0 0) (.slice none 0 0) (.slice none 0 0) (.slice (some ⟨rb,0,none⟩) 1 1) 0 0 W (fun q=>if q=sc then 9 else if q=rb then 10 else role0 r0 q):=by
 subst hn;obtain⟨q0,q1,q2,q3⟩:=h.r;obtain⟨z0,z1,z2,z3⟩:=role0_at r0;have hW:=h.grow hb;have b0:=(zq7.1 h.b0).1
 have b1:=(zq7.1 h.b1).1;have b2:=h.pm.lt
 have b3:=(zq7.1 h.b3).1;have c1:=(zq7.1 hsc).1
 have c2:=(zq7.1 hrb).1;have old:∀ q,q<W0.heap.size→(if q=sc then 9 else if q=rb then 10 else role0 r0 q)=role0 r0 q:=fun q hq=>by rw [if_neg (by omega),if_neg (by omega)]
 have fresh:∀ q,W.heap.size≤q→(if q=sc then 9 else if q=rb then 10 else role0 r0 q)=0:=fun q hq=>by
  have:=hb.size;rw [if_neg (by omega),if_neg (by omega)]
  exact role0_other (.inr (by omega))
 have F0n:=F0_nd0 ps e;refine⟨⟨hW.below,fun q hq=>?_,fresh,fun i hi=>?_,fun i hi=>?_,fun i k hi hk _=>?_,fun i hi=>by omega,fun i hi=>by omega,fun i k hi=>by omega⟩,⟨hW.b3,RR.nil _ _ _ _ _,hW.pm,?_,?_,fresh⟩,RR.nil _ _ _ _ _,RR.nil _ _ _ _ _,hsc,if_pos rfl,?_,hW.b0,?_⟩
 ·have:=h.below.size
  rw [old q (by omega)];exact role0_other (.inl (by omega))
 ·have e0:i=0:=by rcases hi with hi | hi;omega;simpa using hi
  subst e0;rw [F0n];refine⟨(old _ b1).trans z1,sv0,.pointer none,hW.b1,?_,fun h=>absurd h (by omega)⟩
  have hrow:=hW.row;rw [List.take_length] at hrow;obtain⟨a,c,rfl⟩:=hrow.shape;refine⟨strs_length _,a,c,rfl,fun h0=>?_⟩
  obtain⟨g,rfl,hg,_,_,hat⟩:=hrow.cell h0;refine⟨g,0,rfl,?_,fun i x hi=>by rw [Nat.zero_add];exact hat i x hi⟩
  have hrow0:=h.row;rw [List.take_length] at hrow0;obtain⟨g',e',_,_,_,hat0⟩:=hrow0.cell h0;simp only [zt3,Addr.mk.injEq,and_true] at e';subst e';obtain⟨x,hx⟩:∃ x,(strs ps)[0]?=some x:=⟨_,zq9 (by rw [strs_length];exact h0)⟩
  have hlt:=zs3 W0 _ (hat0 0 x hx);refine(old g hlt).trans ?_;unfold role0;rw [if_neg (fun e=>by rw [e,q0] at hg;cases hg),if_neg (fun e=>by rw [e,q1] at hg;cases hg),if_neg (fun e=>by rw [e,q2] at hg;cases hg),if_neg (fun e=>by rw [e,q3] at hg;cases hg)]
 ·have e0:i=0:=by rcases hi with hi | hi;omega;simpa using hi
  subst e0;rw [F0n];exact ht.body
 ·have e0:i=0:=by rcases hi with hi | hi;omega;simpa using hi
  have e1:k=0:=by rcases hk with hk | hk;omega;simpa using hk
  rw [e0,e1]
 ·exact(old _ b3).trans z3
 ·exact(old _ b2).trans z2
 ·refine⟨⟨by rw [todos_length],.inr ⟨rb,1,_,rfl,zv3 _,hrb,zr4 _,by decide,rfl,rfl⟩⟩,fun q hq=>?_⟩
  simp [Value.ownBlock] at hq;subst hq;show (if rb=sc then 9 else if rb=rb then 10 else role0 r0 rb)=10
  rw [if_neg (fun e=>hne e.symm),if_pos rfl]
 exact(old _ b0).trans z0
end
section
open Go.RowKit RG Go.Maps
theorem nodeOk_few {e:TE}(h:nodeOk e=true):e.kids.length≤16∧e.args.length≤16∧∀ p∈e.kids,p.1.length≤16:=by
 unfold nodeOk at h;rw [Bool.and_eq_true,List.all_eq_true] at h;refine⟨?_,?_,fun p hp=>by simpa using h.2 p hp⟩
 ·rcases form_cases h.1 with ⟨_,_,hb,ha,_⟩|⟨_,hb,_,ha,_⟩|⟨_,_,hb,ha,_⟩
  ·obtain⟨p,he,_⟩:=kids_rest hb ha
   rw [he];exact Nat.succ_le_succ (zv3 _)
  ·rw [kids_arms hb,TA.kids_length];exact ha
  rw [kids_end hb ha];decide
 rcases form_cases h.1 with ⟨_,_,_,_,ha⟩|⟨_,_,_,_,ha,_⟩|⟨_,_,_,_,ha⟩<;>omega
theorem F0_next {ps:List Nm}{e:TE}{i:Nat}(hi:i<(F0 ps e).length):(∀ k∈(nd (F0 ps e) i).next,i<k∧k<(F0 ps e).length)∧∀ x,lv (F0 ps e) i x=(RG.has (nd (F0 ps e) i).uses x||(nd (F0 ps e) i).next.any fun k=>lv (F0 ps e) k x && !(RG.has (nd (F0 ps e) k).binds x)):=by
 obtain⟨l,hs⟩:=stk_at ps e i (by omega)
 obtain⟨bs,e1,r,rfl,hn,hz⟩:=stk_head hs hi;have h1:=e1.size_kids;refine⟨fun k hk=>?_,fun x=>?_⟩
 ·rw [hn] at hk
  have:=nums_range hk;omega
 rw [lv_lies hs.lies hz,TE.live_kids,hn];simp only [Nd.uses];rw [lv_kids x e1.kids (i+1) hs.lies.kids.left (by omega)]
theorem RdS.flow {w W:World}{A:Ad}{f sc rs j:Nat}{ps:List Nm}{e:TE}{names:List Nm}{sl sn sv vs:Value} {ρ:Nat→Nat}(h:RdS w A (F0 ps e) f sc rs j [] [] names sl sn sv vs j j W ρ) (hj:j=(F0 ps e).length) (h20:j≤20000) (hl:names.length≤16*j)
  (hnm:names=vars (F0 ps e)) (hn:(vars (F0 ps e)).Nodup) (hok:∀ d∈F0 ps e,nodeOk d.e=true) (hsz:∀ d∈F0 ps e,(∀ x∈d.binds,x.size≤maxLen)∧∀ x∈d.e.args,x.size≤maxLen):FlIn W A f (F0 ps e):=by
 subst hnm;have hlt:∀ i,i<(F0 ps e).length→i<j:=fun i hi=>by omega
 have slat:∀ {r:Nat} {e:TypeId} {v:Value} {n:Nat} {xs:List Value},xs.length=n→RR W ρ r e 1 v n xs→SlAt W v n xs:=fun {r e v n xs} hx hr=>by
  obtain⟨a,c,rfl⟩:=hr.shape;exact⟨hx,a,c,rfl,fun h0=>by obtain⟨g,e1,_,_,_,hat⟩:=hr.cell h0;exact⟨g,0,e1,fun i x hi=>by rw [Nat.zero_add];exact hat i x hi⟩⟩
 refine⟨⟨⟨sl,sn,sv,h.nms.fb,?_,?_,?_⟩,fun i hi=>?_,fun i hi=>?_,fun i hi=>?_,h.nms.pm⟩,fun i hi=>(h.k.live i (hlt i hi)).2,fun i k hi hk=>h.k.min i k (hlt i hi) (hlt k hk),fun i hi e2=>?_,?_,hn,fun i hi=>(F0_next hi).1,fun i x hi=>(F0_next hi).2 x,?_,?_,fun i hi=>?_,fun i hi=>?_⟩
 ·have:=slat (by rw [ptrs_length,zv1,List.length_range]) h.rl
  rw [hj] at this;exact this
 ·have:=slat (by rw [ptrs_length,zv1,List.length_range]) h.rn
  rw [hj] at this;exact this
 ·exact slat (strs_length _) h.nms.row
 ·obtain⟨_,s,xv,h1,h2,_⟩:=h.k.link i (.inl (hlt i hi))
  rw [if_pos (hlt i hi)] at h1;exact⟨s,xv,h1,h2.sl⟩
 ·obtain⟨_,sx,h1,h2⟩:=h.k.node i (hlt i hi)
  exact⟨sx,h1,h2.sl⟩
 ·exact TEAt.kept (zd h.k.below) _ _ _ (h.k.exp i (.inl (hlt i hi)))
 ·have h8:=(h.k.live i (hlt i hi)).1
  have h5:=h.nms.rp;rw [e2] at h8;omega
 ·rw [F0_length];exact e.size_pos
 ·omega
 ·omega
 ·obtain⟨l,hs⟩:=stk_at ps e i (by omega)
  obtain⟨bs,e1,r,rfl,hn2,hz⟩:=stk_head hs hi;have:=(nodeOk_few (hok _ (nd_mem hi))).1;rw [hn2] at this ⊢;simp only [nums_length];simp only [] at this;omega
 have:=(nodeOk_few (hok _ (nd_mem hi))).2.1;exact⟨by omega,(hsz _ (nd_mem hi)).2⟩
theorem stk_top {F:List Nd}{j:Nat}{bs:List Nm}{e1:TE}{stk:List (List Nm×TE)}(h:Stk F j ((bs,e1) :: stk)):j<F.length∧nd F j=⟨bs,e1,nums (j+1) e1.kids⟩∧e1.size=sizes e1.kids+1∧∀ k∈nums (j+e1.size) stk,j+e1.size≤k∧k<F.length:=by
 have hs:=h.size;rw [zg] at hs;simp only [] at hs;have:=e1.size_pos
 refine⟨by omega,h.lies.head,e1.size_kids,fun k hk=>?_⟩
 have:=nums_range hk;omega
theorem rd_none {isName:Nm→Bool}{ps:List Nm}{e:TE}{x:Option (List Nm)}(h:rd isName e.size 0 [] [(ps,e)]=x) (hx:x=none):¬ RG.Good isName ps e:=fun hg=>by
 have:=(good_rd.1 hg).2.1;rw [h,hx] at this;cases this
theorem rd_fuel {ps:List Nm}{e:TE}{j:Nat}(h:j<(F0 ps e).length):∃ k,e.size - j=k+1∧e.size - (j+1)=k:=by
 rw [F0_length] at h;exact⟨e.size - (j+1),by omega,rfl⟩
theorem rd_many {isName:Nm→Bool}{ps bs names:List Nm}{e e1:TE}{j:Nat}{stk:List (List Nm×TE)}(hj:j=20000) (h:j<(F0 ps e).length):rd isName (e.size - j) j names ((bs,e1) :: stk)=none:=by
 obtain⟨k,h1,_⟩:=rd_fuel h;rw [h1,rd,if_pos hj]
theorem rd_form {isName:Nm→Bool}{ps bs names:List Nm}{e e1:TE}{j:Nat}{stk:List (List Nm×TE)}(hf:e1.form=false) (h:j<(F0 ps e).length):rd isName (e.size - j) j names ((bs,e1) :: stk)=none:=by
 obtain⟨k,h1,_⟩:=rd_fuel h;rw [h1,rd,if_pos hf,ite_self]
theorem rd_bind {isName:Nm→Bool}{ps bs names:List Nm}{e e1:TE}{j:Nat}{stk:List (List Nm×TE)}(hb:bindOk isName names bs=none) (h:j<(F0 ps e).length):rd isName (e.size - j) j names ((bs,e1) :: stk)=none:=by
 obtain⟨k,h1,_⟩:=rd_fuel h;rw [h1,rd,hb];simp
theorem rd_kids {isName:Nm→Bool}{ps bs names:List Nm}{e e1:TE}{j:Nat}{stk:List (List Nm×TE)}(hk:(e1.kids.all fun p=>decide (p.1.length≤16))=false) (h:j<(F0 ps e).length):rd isName (e.size - j) j names ((bs,e1) :: stk)=none:=by
 obtain⟨k,h1,_⟩:=rd_fuel h;rw [h1,rd]
 split
 ·rfl
 split
 ·rfl
 cases bindOk isName names bs with
 | none=>rfl
 | some ns=>simp [hk]
theorem rd_next {isName:Nm→Bool}{ps bs names ns:List Nm}{e e1:TE}{j:Nat}{stk:List (List Nm×TE)}(h20:j≠20000) (hf:e1.form=true) (hb:bindOk isName names bs=some ns) (hk:(e1.kids.all fun p=>decide (p.1.length≤16))=true) (h:j<(F0 ps e).length) :
  rd isName (e.size - j) j names ((bs,e1) :: stk)=rd isName (e.size - (j+1)) (j+1) ns (e1.kids++stk):=by
 obtain⟨k,h1,h2⟩:=rd_fuel h;rw [h1,h2,rd,if_neg h20,if_neg (by rw [hf];decide),hb]
 simp only [];rw [if_neg (by rw [hk];decide)]
theorem rd_end {isName:Nm→Bool}{ps:List Nm}{e:TE}{j:Nat}{names:List Nm}(h:rd isName e.size 0 [] [(ps,e)]=rd isName (e.size - j) j names []) (hs:Stk (F0 ps e) j []) :
  j=(F0 ps e).length∧names=vars (F0 ps e)∧(∀ d∈F0 ps e,nodeOk d.e=true)∧(vars (F0 ps e)).Nodup∧rd isName e.size 0 [] [(ps,e)]=some (vars (F0 ps e)):=by
 have h2:rd isName (e.size - j) j names []=some names:=by cases e.size - j<;>rfl
 rw [h2] at h;have hz:sizes [(ps,e)]=e.size:=by rw [zg,zw];rfl
 obtain⟨_,b,c,d⟩:=rd_some e.size 0 [] [(ps,e)] _ (by rw [hz];exact zr4 _) h
 have e1:names=vars (F0 ps e):=by rw [d,List.nil_append];rfl
 refine⟨by have:=hs.size;rw [zw] at this;exact this,e1,b,c.2,by rw [h,e1]⟩
theorem leave_marks {w W:World}{Ds:List Nat} {ρ:Nat→Nat}{tmps:Array Value}{R:Ending→World→Prop}(hm:Mk w Ds W ρ) (h:∀ W':World,Below w.heap.size W W'→(∀ q,q∉Ds→W'.heap[q]?=W.heap[q]?)→LeavesInM Fence.wide 3 Tryz.prog Tryz.f58 tmps R [] .returning W') :
  LeavesInM Fence.wide 3 Tryz.prog Tryz.f58 tmps R (Ds.map mark) .returning W :=
 leaves_marks Ds W hm.1 (fun D hD=>(hm.2 D hD).2.2) fun W' a b c d e=>h W' ⟨a,b,c,by omega,fun q hq=>e q fun hD=>by have:=(hm.2 q hD).1;omega⟩ e
theorem FlatAt.past {w1 W':World}{A:Ad}{f r0:Nat}{F:List Nd}(h:FlatAt w1 A f F) (hr:w1.heap[r0]?=some (.cells #[.pointer none] 99 (0,0)))
  (hs:∀ (q:Nat) (o:Obj),q≠r0→w1.heap[q]?=some o→(o.isCells=true∨o.isWalk=true)→W'.heap[q]?=some o) (hx:∀ i,i<F.length→TEAt W' (nd F i).e (A.xb i) (A.xo i)):FlatAt W' A f F:=by
 have hc:∀ (a:Addr) (x:Value),x ≠ .pointer none→w1.cell? a=some x→W'.cell? a=some x:=fun a x hne ha=>by
  obtain⟨cs,T,r,ho⟩:=cell_obj ha;have hab:a.block≠r0:=fun e=>by
   obtain⟨ab,ao,asp⟩:=a;simp only at e;subst e;unfold World.cell? at ha;simp only [hr] at ha
   split at ha
   ·cases ha
   cases ao with
   | zero=>simp at ha;exact hne ha.symm
   | succ n=>simp at ha
  rw [World.cell?_of_block ((hs _ _ hab ho (.inl rfl)).trans ho.symm)];exact ha
 have ob:∀ (q:Nat) (cs:Array Value) (T:TypeId) (r:Nat×Nat),T≠99→w1.heap[q]?=some (.cells cs T r)→W'.heap[q]?=some (.cells cs T r):=fun q cs T r hT ho=>hs q _ (fun e=>by
  subst e;rw [hr] at ho;simp only [zt3,Obj.cells.injEq] at ho;exact hT ho.2.1.symm) ho (.inl rfl)
 have mp:∀ (q:Nat) es c,w1.heap[q]?=some (.map es c)→W'.heap[q]?=w1.heap[q]?:=fun q es c ho=>(hs q _ (fun e=>by subst e;rw [hr] at ho;cases ho) ho (.inr rfl)).trans ho.symm
 have hst:∀ (ns:List Nm) (x:Value),x∈strs ns→x ≠ .pointer none:=fun ns x hx e=>by
  subst e;unfold strs at hx;obtain⟨n,_,hn⟩:=List.mem_map.1 hx;cases hn
 have hpt:∀ (l:List Nat) (x:Value),x∈ptrs l→x ≠ .pointer none:=fun l x hx e=>by
  subst e;unfold ptrs at hx;obtain⟨n,_,hn⟩:=List.mem_map.1 hx;cases hn
 obtain⟨⟨sl,sn,sv,f0,f1,f2,f3⟩,h2,h3,h4,h5,h6⟩:=h;refine⟨⟨sl,sn,sv,ob _ _ _ _ (by decide) f0,f1.keep fun a x hm=>hc a x (hpt _ _ hm),f2.keep fun a x hm=>hc a x (hpt _ _ hm),SlAt.keep f3 fun a x hm=>hc a x (hst _ _ hm)⟩,fun i hi=>?_,fun i hi=>?_,fun i hi=>?_,hx,?_⟩
 ·obtain⟨s,xv,a,b⟩:=h2 i hi
  exact⟨s,xv,ob _ _ _ _ (by decide) a,SlAt.keep b fun a x hm=>hc a x (hst _ _ hm)⟩
 ·obtain⟨sx,a,b⟩:=h3 i hi
  exact⟨sx,ob _ _ _ _ (by decide) a,b.keep fun a x hm=>hc a x (hpt _ _ hm)⟩
 ·obtain⟨es,c,ho⟩:=IMap.obj (h4 i hi)
  exact IMap.keep (h4 i hi) (mp _ _ _ ho)
 obtain⟨es,c,ho⟩:=h6.obj;exact h6.keep (mp _ _ _ ho)
end
section
open Go.RowKit RG Go.Maps
variable {w:World} {A:Ad} {F:List Nd} {f sc rs j:Nat} {K T:List Nat} {names:List Nm} {sl sn sv vs:Value} {nl nn:Nat} {W:World} {ρ:Nat→Nat}
theorem RdS.below (h:RdS w A F f sc rs j K T names sl sn sv vs nl nn W ρ) {M:Nat→Prop} {ρ':Nat→Nat}{W':World}(hc:Ch M ρ ρ' W W') (h0:¬ M 0):Below w.heap.size W W' :=
 hc.below h.k.below.size fun q hq=>by rw [h.k.low q hq];exact h0
theorem RdS.high (h:RdS w A F f sc rs j K T names sl sn sv vs nl nn W ρ) {q:Nat}(hq:ρ q≠0):w.heap.size≤q:=Nat.le_of_not_lt fun hlt=>hq (h.k.low q hlt)
theorem RdS.bound {W':World} {ρ':Nat→Nat}{sv':Value}{ns:List Nm}(h:RdS w A F f sc rs j K T names sl sn sv vs nl nn W ρ) (hc:Ch MB ρ ρ' W W') (hn:Nms W' ρ' f A.pl (.pointer (some ⟨A.lb 0,0,none⟩)) sl sn sv' ns) :
  RdS w A F f sc rs j K T ns sl sn sv' vs nl nn W' ρ':=by
 have k:=Kp.of_ch hc;refine h.re k (h.below hc (by unfold MB;decide)) (fun q hq=>?_) hn (k.rr h.rl fun q e hq=>?_) (k.rr h.rn fun q e hq=>?_)
 ·rcases hq with hq | hq | hq<;>omega
 ·rcases hq with hq | hq | hq<;>omega
 rcases hq with hq | hq | hq<;>omega
theorem row_set {w:World}{f i:Nat}{a b c d e v:Value}{T:TypeId}(h:w.heap[f]?=some (.cells #[a,b,c,d,e] T (0,0))):(w.setCell ⟨f,i,none⟩ v).heap[f]?=some (.cells (#[a,b,c,d,e].setIfInBounds i v) T (0,0)):=heap_setCell_same w f i _ _ _ h
theorem RdS.pushNode {W':World} {ρ':Nat→Nat}{a:Option Addr}{c:Nat}(h:RdS w A F f sc rs j K T names sl sn sv vs nl nn W ρ) (hc:Ch (· = 7) ρ ρ' W W')
  (hr:RR W' ρ' 7 100 1 (.slice a (nn+1) c) (nn+1) (ptrs ((List.range nn).map A.nb)++[.pointer (some ⟨A.nb nn,0,none⟩)])) :
  RdS w A F f sc rs j K T names sl (.slice a (nn+1) c) sv vs nl (nn+1) (W'.setCell ⟨f,2,none⟩ (.slice a (nn+1) c)) ρ':=by
 have k1:=Kp.of_ch hc;have hn1:=h.nms.kp k1 (fun q e hq=>by omega)
 have k2:=Kp.setCell (ρ:=ρ') (w:=W') ⟨f,2,none⟩ (.slice a (nn+1) c) hc.fresh;have fne:∀ q,ρ' q≠1→¬ (q=(⟨f,2,none⟩:Addr).block):=fun q hq e=>hq (by rw [e];exact hn1.rf)
 have k:Kp (fun q=>ρ q=1∨ρ q=7) ρ ρ' W (W'.setCell ⟨f,2,none⟩ (.slice a (nn+1) c)) :=
  ⟨by simpa using hc.size,fun q o ho hk hs=>k2.obj q o (k1.obj q o ho hk fun e=>hs (.inr e)) hk (fne q (by rw [hc.keepRole ho];exact fun e=>hs (.inl e))),hc.role,fun q hq=>hc.fresh q (by simpa using hq)⟩
 have hb:Below w.heap.size W (W'.setCell ⟨f,2,none⟩ (.slice a (nn+1) c)):=(h.below hc (by decide)).setCell (h.high (by rw [h.nms.rf];decide)) _
 refine h.re k hb (fun q hq=>by omega) ⟨row_set hn1.fb,k2.rr hn1.row (fun q e=>fne q (by omega)),k2.pmap hn1.pm (fne _ (by rw [hn1.rp];decide)),hn1.rf,hn1.rp,k2.fresh⟩ (k.rr h.rl fun q e hq=>by omega) ?_
 rw [List.range_succ,List.map_append,ptrs_append];exact k2.rr hr (fun q e=>fne q (by omega))
theorem RdS.pushLink {W':World} {ρ':Nat→Nat}{a:Option Addr}{c:Nat}(h:RdS w A F f sc rs j K T names sl sn sv vs nl nn W ρ) (hc:Ch (· = 6) ρ ρ' W W')
  (hr:RR W' ρ' 6 114 1 (.slice a (nl+1) c) (nl+1) (ptrs ((List.range nl).map A.lb)++[.pointer (some ⟨A.lb nl,0,none⟩)])) :
  RdS w A F f sc rs j K T names (.slice a (nl+1) c) sn sv vs (nl+1) nn (W'.setCell ⟨f,1,none⟩ (.slice a (nl+1) c)) ρ':=by
 have k1:=Kp.of_ch hc;have hn1:=h.nms.kp k1 (fun q e hq=>by omega)
 have k2:=Kp.setCell (ρ:=ρ') (w:=W') ⟨f,1,none⟩ (.slice a (nl+1) c) hc.fresh;have fne:∀ q,ρ' q≠1→¬ (q=(⟨f,1,none⟩:Addr).block):=fun q hq e=>hq (by rw [e];exact hn1.rf)
 have k:Kp (fun q=>ρ q=1∨ρ q=6) ρ ρ' W (W'.setCell ⟨f,1,none⟩ (.slice a (nl+1) c)) :=
  ⟨by simpa using hc.size,fun q o ho hk hs=>k2.obj q o (k1.obj q o ho hk fun e=>hs (.inr e)) hk (fne q (by rw [hc.keepRole ho];exact fun e=>hs (.inl e))),hc.role,fun q hq=>hc.fresh q (by simpa using hq)⟩
 have hb:Below w.heap.size W (W'.setCell ⟨f,1,none⟩ (.slice a (nl+1) c)):=(h.below hc (by decide)).setCell (h.high (by rw [h.nms.rf];decide)) _
 refine h.re k hb (fun q hq=>by omega) ⟨row_set hn1.fb,k2.rr hn1.row (fun q e=>fne q (by omega)),k2.pmap hn1.pm (fne _ (by rw [hn1.rp];decide)),hn1.rf,hn1.rp,k2.fresh⟩ ?_ (k.rr h.rn fun q e hq=>by omega)
 rw [List.range_succ,List.map_append,ptrs_append];exact k2.rr hr (fun q e=>fne q (by omega))
theorem RdS.noded (h:RdS w A F f sc rs j K T names sl sn sv vs nl nn W ρ) (hnn:nn≤j) (hnx:∀ i,i<j→∀ k∈(nd F i).next,k<j∨k∈K) (x:Value) :
  RdS w (A.node j (W.heap.size+1) W.heap.size) F f sc rs j K T names sl sn sv vs nl nn ((W.alloc (.map #[] 0)).alloc (.cells #[x,.slice none 0 0,.map (some W.heap.size)] 110)) (roleAt (roleAt ρ W.heap.size 8) (W.heap.size+1) 3):=by
 have hb:Below W.heap.size W ((W.alloc (.map #[] 0)).alloc (.cells #[x,.slice none 0 0,.map (some W.heap.size)] 110)):=((zs9 _ _).alloc (zr4 _) _).alloc (by simp) _
 have k:Kp (fun _=>False) ρ (roleAt (roleAt ρ W.heap.size 8) (W.heap.size+1) 3) W ((W.alloc (.map #[] 0)).alloc (.cells #[x,.slice none 0 0,.map (some W.heap.size)] 110)) :=
  (Kp.of_below hb h.k.rho).roleNew _ (fun q hq=>by rw [zv _ _ _ (by omega),zv _ _ _ (by omega)]) (fun q hq=>by
   simp at hq;rw [zv _ _ _ (by omega),zv _ _ _ (by omega)];exact h.k.rho q (by omega))
 have h2:=h.kp k (hb.mono h.k.below.size) (fun _ _ _ h=>h) (fun _ _ h=>h) (fun _ _ h=>h)
 refine⟨h2.k.congr hnx (fun i _=>⟨rfl,rfl,rfl⟩) (fun i hi=>⟨if_neg (by omega),if_neg (by omega)⟩),h2.nms,h2.rl,?_,h2.sck,h2.rsc,h2.stk,h2.res,h2.rrs⟩
 have e:(List.range nn).map (A.node j (W.heap.size+1) W.heap.size).nb=(List.range nn).map A.nb:=List.map_congr_left fun i hi=>if_neg (by have:=List.mem_range.1 hi;omega)
 rw [e];exact h2.rn
theorem RdS.linkTo {K':List Nat}{v:Value}(h:RdS w A F f sc rs j K T names sl sn sv vs nl nn W ρ) (hr:ρ (A.lb j)=2) (hK:∀ k∈K',k∈K) (hne:∀ i,i<j∨i∈K'→A.lb i≠A.lb j) :
  RdS w A F f sc rs j K' T names sl sn sv vs nl nn (W.setCell ⟨A.lb j,2,none⟩ v) ρ:=by
 refine(h.sub hK).kp (Kp.setCell ⟨A.lb j,2,none⟩ v h.k.rho) ((zs9 _ _).setCell (h.high (by rw [hr];decide)) _) (fun q h2 _ e=>h2 (by rw [e];exact hr)) (fun i hi e=>hne i hi e) (fun i hi e=>?_)
 have:=(h.k.node i hi).1;rw [e] at this;simp only [] at this;omega
theorem KsAt.set {w0 w w':World}{ks:List (List Nm×TE)}{a:Option Addr}{L:List (Nat×Nat×Nat)}(h:KsAt w0 w w' ks a L) {b o:Nat}(hb:b<w.heap.size) (v:Value):KsAt w0 w (w'.setCell ⟨b,o,none⟩ v) ks a L:=by
 have far:∀ (g q:Nat) (x:Value),w.heap.size≤g→w'.cell? ⟨g,q,none⟩=some x→(w'.setCell ⟨b,o,none⟩ v).cell? ⟨g,q,none⟩=some x:=fun g q x hg hx=>by
  rw [World.cell?_setCell_far _ _ _ _ (by show b≠g;omega)];exact hx
 refine⟨h.len,fun h0=>?_,fun j p t hj ht=>?_,h.nodup⟩
 ·obtain⟨g,e,hg,hat⟩:=h.row h0
  exact⟨g,e,hg,fun j t ht=>far _ _ _ hg (hat j t ht)⟩
 obtain⟨⟨s,h1,h2⟩,h3,h4⟩:=h.kid j p t hj ht;refine⟨⟨s,(zt1 w' _ v _ (by show t.1≠b;omega)).trans h1,?_⟩,h3,h4⟩
 rcases h2 with h2 | ⟨g,q1,q2,q3⟩
 ·exact .inl h2
 exact .inr ⟨g,q1,q2,fun i x hx=>far _ _ _ q2 (q3 i x hx)⟩
theorem Tryz.info100r:(Tryz.prog.info? 100).map (fun i=>(i.zero,i.size,i.bytes))=some (some (.pointer none),1,8):=by kernel_rfl
theorem Tryz.info159r:(Tryz.prog.info? 159).map (fun i=>(i.zero,i.size,i.bytes))=some (some (.agg #[.pointer none,.pointer none]),2,16):=by kernel_rfl
theorem Mk.ext {w W W':World}{Ds:List Nat} {ρ ρ':Nat→Nat}(h:Mk w Ds W ρ) (hb:Below W.heap.size W W') (hρ:∀ q,q<W.heap.size→ρ' q=ρ q):Mk w Ds W' ρ' :=
 ⟨h.1,fun D hD=>by obtain⟨a,b,c⟩:=h.2 D hD;exact⟨a,(hρ D (zq7.1 c).1).trans b,zm hb c⟩⟩
structure Ex (w:World) (Ds:List Nat) (j lb xb xo nb mb b7:Nat) (bs:List Nm) (sx:Value) (W:World) (ρ:Nat→Nat):Prop where
 node:W.heap[nb]?=some (.cells #[.pointer (some ⟨xb,xo,none⟩),sx,.map (some mb)] 110 (0,0))
 rnb:ρ nb=3
 map:IMap Tryz.prog W mb []
 rmb:ρ mb=8
 d7:W.heap[b7]?=some (.cells #[.pointer (some ⟨lb,0,none⟩),.pointer (some ⟨xb,xo,none⟩)] 159 (0,0))
 r7:ρ b7=0
 link:LinkIn W ρ j lb xb xo (some ⟨nb,0,none⟩) bs
 mks:Mk w Ds W ρ
theorem Ex.kp {w:World}{Ds:List Nat}{j lb xb xo nb mb b7:Nat}{bs:List Nm}{sx:Value}{W W':World} {ρ ρ':Nat→Nat}(h:Ex w Ds j lb xb xo nb mb b7 bs sx W ρ) {S:Nat→Prop}(k:Kp S ρ ρ' W W') (hS:∀ q,ρ q=0∨ρ q=2∨ρ q=3∨ρ q=8→¬ S q) (hm:Mk w Ds W' ρ'):Ex w Ds j lb xb xo nb mb b7 bs sx W' ρ' :=
 ⟨k.obj _ _ h.node (.inl rfl) (hS _ (.inr (.inr (.inl h.rnb)))),(k.role _ (zq7.1 h.node).1).trans h.rnb,k.imap h.map (hS _ (.inr (.inr (.inr h.rmb)))),(k.role _ h.map.lt).trans h.rmb,k.obj _ _ h.d7 (.inl rfl) (hS _ (.inl h.r7)),(k.role _ (zq7.1 h.d7).1).trans h.r7,
  k.link h.link (fun q e=>hS q (.inl e)) (hS _ (.inr (.inl h.link.1))),hm⟩
theorem Ex.grow {w:World}{Ds:List Nat}{j lb xb xo nb mb b7:Nat}{bs:List Nm}{sx:Value}{W W':World} {ρ:Nat→Nat}(h:Ex w Ds j lb xb xo nb mb b7 bs sx W ρ) (hb:Below W.heap.size W W') (hρ:∀ q,W.heap.size≤q→ρ q=0):Ex w Ds j lb xb xo nb mb b7 bs sx W' ρ :=
 h.kp (S:=fun _=>False) (Kp.of_below hb hρ) (fun _ _ h=>h) (h.mks.grow hb)
theorem Ex.pushed {w:World}{Ds:List Nat}{j lb xb xo nb mb b7 f i r:Nat}{bs:List Nm}{sx v:Value}{W W':World} {ρ ρ':Nat→Nat}{cs:Array Value}{T:TypeId}(h:Ex w Ds j lb xb xo nb mb b7 bs sx W ρ) (hc:Ch (· = r) ρ ρ' W W') (hr:r≠0∧r≠2∧r≠3∧r≠8) (hf:W'.heap[f]?=some (.cells cs T (0,0))) (rf:ρ' f=1):Ex w Ds j lb xb xo nb mb b7 bs sx (W'.setCell ⟨f,i,none⟩ v) ρ':=by
 have h1:=h.kp (Kp.of_ch hc) (fun q e hq=>by omega) (h.mks.ch hc (fun e=>hr.1 e.symm))
 exact h1.kp (Kp.setCell ⟨f,i,none⟩ v hc.fresh) (fun q e hq=>by rw [hq] at e;simp only [] at e;omega) (h1.mks.setCell ⟨f,i,none⟩ v hf)
theorem Ex.start {w:World}{Ds:List Nat}{A:Ad}{F:List Nd}{j b7:Nat}{f sc rs:Nat}{K T:List Nat}{names:List Nm}{sl sn sv vs:Value}{nl nn:Nat}{W:World} {ρ:Nat→Nat}(h:RdS w A F f sc rs j K T names sl sn sv vs nl nn W ρ) (hjK:j∈K) (hmk:Mk w Ds W ρ)
  (hd:W.heap[b7]?=some (.cells #[.pointer (some ⟨A.lb j,0,none⟩),.pointer (some ⟨A.xb j,A.xo j,none⟩)] 159 (0,0))) (rd:ρ b7=0) :
  Ex w Ds j (A.lb j) (A.xb j) (A.xo j) (W.heap.size+1) W.heap.size b7 (nd F j).binds (.slice none 0 0) (((W.alloc (.map #[] 0)).alloc (.cells #[.pointer (some ⟨A.xb j,A.xo j,none⟩),.slice none 0 0,.map (some W.heap.size)] 110)).setCell ⟨A.lb j,2,none⟩ (.pointer (some ⟨W.heap.size+1,0,none⟩))) (roleAt (roleAt ρ W.heap.size 8) (W.heap.size+1) 3):=by
 have hb:Below W.heap.size W ((W.alloc (.map #[] 0)).alloc (.cells #[.pointer (some ⟨A.xb j,A.xo j,none⟩),.slice none 0 0,.map (some W.heap.size)] 110)):=((zs9 _ _).alloc (zr4 _) _).alloc (by simp) _
 have hρ:∀ q,q<W.heap.size→roleAt (roleAt ρ W.heap.size 8) (W.heap.size+1) 3 q=ρ q:=fun q hq=>by rw [zv _ _ _ (by omega),zv _ _ _ (by omega)]
 have k:Kp (fun _=>False) ρ (roleAt (roleAt ρ W.heap.size 8) (W.heap.size+1) 3) W ((W.alloc (.map #[] 0)).alloc (.cells #[.pointer (some ⟨A.xb j,A.xo j,none⟩),.slice none 0 0,.map (some W.heap.size)] 110)) :=
  (Kp.of_below hb h.k.rho).roleNew _ hρ (fun q hq=>by
   simp at hq;rw [zv _ _ _ (by omega),zv _ _ _ (by omega)];exact h.k.rho q (by omega))
 obtain⟨r2,s,xv,l1,l2,l3⟩:=k.link (h.k.link j (.inr hjK)) (fun _ _ h=>h) (fun h=>h)
 rw [if_neg (Nat.lt_irrefl j)] at l1;have hl:A.lb j<W.heap.size:=by
  obtain⟨_,_,_,h1,_⟩:=h.k.link j (.inr hjK);exact(zq7.1 h1).1
 have kc:=Kp.setCell (ρ:=roleAt (roleAt ρ W.heap.size 8) (W.heap.size+1) 3) (w:=(W.alloc (.map #[] 0)).alloc (.cells #[.pointer (some ⟨A.xb j,A.xo j,none⟩),.slice none 0 0,.map (some W.heap.size)] 110)) ⟨A.lb j,2,none⟩ (.pointer (some ⟨W.heap.size+1,0,none⟩)) k.fresh;have hnd:=World.alloc_heap_new (W.alloc (.map #[] 0)) (.cells #[.pointer (some ⟨A.xb j,A.xo j,none⟩),.slice none 0 0,.map (some W.heap.size)] 110)
 rw [World.size_alloc] at hnd;have hmp:IMap Tryz.prog ((W.alloc (.map #[] 0)).alloc (.cells #[.pointer (some ⟨A.xb j,A.xo j,none⟩),.slice none 0 0,.map (some W.heap.size)] 110)) W.heap.size []:=(IMap.made _ W).alloc _;refine⟨kc.obj _ _ hnd (.inl rfl) (by show ¬ (W.heap.size+1=A.lb j);omega),roleAt_same _ _ _,kc.imap hmp (by show ¬ (W.heap.size=A.lb j);omega),by rw [zv _ _ _ (by omega)];exact roleAt_same _ _ _,kc.obj _ _ (zm hb hd) (.inl rfl) (fun e=>?_),(hρ _ (zq7.1 hd).1).trans rd,
  ⟨r2,s,xv,heap_setCell_same _ _ 2 _ _ _ l1,kc.row l2 (fun q e hq=>?_),l3⟩,(hmk.ext hb hρ).setCell ⟨A.lb j,2,none⟩ _ l1⟩
 ·have e2:b7=A.lb j:=e
  have e1:=(h.k.link j (.inr hjK)).1;rw [← e2] at e1;omega
 have hq2:q=A.lb j:=hq;rw [hq2,r2] at e;cases e
def R18 (w:World) (A:Ad) (F:List Nd) (f sc rs j:Nat) (K:List Nat) (names:List Nm) (sn sv vs:Value) (Ds:List Nat) (lb xb xo nb mb b7:Nat) (bs:List Nm) (W:World):Prop :=
 ∃ (ρ:Nat→Nat) (sl:Value),RdS w A F f sc rs j K K names sl sn sv vs (j+1) (j+1) W ρ∧Ex w Ds j lb xb xo nb mb b7 bs (.slice none 0 0) W ρ
theorem Kp.below_set {S:Nat→Prop} {ρ:Nat→Nat}{w w':World}(h:Below w.heap.size w w') (hρ:∀ q,w.heap.size≤q→ρ q=0) (b i:Nat) (v:Value):Kp (fun q=>q=b) ρ ρ w (w'.setCell ⟨b,i,none⟩ v) :=
 ⟨by simpa using h.size,fun q o ho _ hn=>(zt1 w' _ v q hn).trans (zm h ho),fun _ _=>rfl,fun q hq=>hρ q (zr5 h.size (by simpa using hq))⟩
theorem Mk.linked {w W w':World}{Ds:List Nat} {ρ:Nat→Nat}{ks:List (List Nm×TE)}{a:Option Addr}{L:List (Nat×Nat×Nat)}(h:Mk w Ds W ρ) (hb:Below W.heap.size W w') (hks:KsAt w W w' ks a L) {b i:Nat}{v:Value}{cs:Array Value}{T:TypeId}{r:Nat×Nat}(hbk:w'.heap[b]?=some (.cells cs T r)) :
  Mk w Ds (w'.setCell ⟨b,i,none⟩ v) (Go.Proofs.YtnkahlloahgifaaGreatDoor.linked ρ L):=by
 refine((h.ext (ρ':=Go.Proofs.YtnkahlloahgifaaGreatDoor.linked ρ L) hb fun q hq=>?_).setCell ⟨b,i,none⟩ v hbk)
 unfold Go.Proofs.YtnkahlloahgifaaGreatDoor.linked;rw [if_neg fun hm=>?_]
 obtain⟨t,ht,rfl⟩:=List.mem_map.1 hm;obtain⟨q,hq2⟩:=List.getElem?_of_mem ht;have hl:=(zq8.1 hq2).1;obtain⟨p,hp⟩:∃ p,ks[q]?=some p:=⟨_,zq9 (by rw [← hks.len];exact hl)⟩
 have:=(hks.kid q p t hp hq2).new;omega
end
section
open Go.RowKit RG Go.Maps
variable {w:World} {A:Ad} {F:List Nd} {f sc rs j:Nat} {K T:List Nat} {names:List Nm} {sl sn sv vs:Value} {nl nn:Nat} {W:World} {ρ:Nat→Nat}
theorem RdS.push {W':World} {ρ':Nat→Nat}{a:Option Addr}{c k:Nat}(h:RdS w A F f sc rs j K T names sl sn sv vs nl nn W ρ) (hc:Ch (· = 10) ρ ρ' W W')
  (hr:RR W' ρ' 10 159 2 (.slice a (T.length+1) c) (T.length+1) (todos A T++[.pointer (some ⟨A.lb k,0,none⟩),.pointer (some ⟨A.xb k,A.xo k,none⟩)])) :
  RdS w A F f sc rs j K (k :: T) names sl sn sv (.slice a (T.length+1) c) nl nn (W'.setCell ⟨sc,0,none⟩ (.slice a (T.length+1) c)) ρ':=by
 have k1:=Kp.of_ch hc;have hs1:=hc.keep h.sck (by rw [h.rsc];decide)
 have rs1:=(hc.keepRole h.sck).trans h.rsc;have k2:=Kp.setCell (ρ:=ρ') (w:=W') ⟨sc,0,none⟩ (.slice a (T.length+1) c) hc.fresh
 have k:Kp (fun q=>ρ q=9∨ρ q=10) ρ ρ' W (W'.setCell ⟨sc,0,none⟩ (.slice a (T.length+1) c)) :=
  ⟨by simpa using hc.size,fun q o ho hk hs=>k2.obj q o (k1.obj q o ho hk fun e=>hs (.inr e)) hk (fun e=>hs (.inl (by rw [e];exact h.rsc))),hc.role,fun q hq=>hc.fresh q (by simpa using hq)⟩
 refine h.restack k ((h.below hc (by decide)).setCell (h.high (by rw [h.rsc];decide)) _) (fun q hq=>hq) (heap_setCell_same W' sc 0 _ _ _ hs1) rs1 ?_
 rw [todos_cons];exact k2.rr hr (fun q e hq=>by rw [hq] at e;simp only [] at e;omega)
theorem rr_obj {W:World} {ρ:Nat→Nat}{r:Nat}{e:TypeId}{size n:Nat}{v:Value}{xs:List Value}(h:RR W ρ r e size v n xs) {q:Nat}(hq:v.ownBlock=some q):∃ cs T z,W.heap[q]?=some (.cells cs T z):=by
 rcases h.row.2 with ⟨h1,_⟩|⟨g,cap,cur,h1,_,hg,_⟩
 ·rw [h1] at hq;simp [Value.ownBlock] at hq
 rw [h1] at hq;simp [Value.ownBlock] at hq;subst hq;exact⟨_,_,_,hg⟩
theorem RdS.rerole {ρ':Nat→Nat}(h:RdS w A F f sc rs j K T names sl sn sv vs nl nn W ρ) (h1:∀ (q:Nat) (o:Obj),W.heap[q]?=some o→(o.isCells=true∨o.isWalk=true)→ρ' q=ρ q) (h2:∀ q,W.heap.size≤q→ρ' q=0) (h3:∀ q,q<w.heap.size→ρ' q=0) :
  RdS w A F f sc rs j K T names sl sn sv vs nl nn W ρ':=by
 have rr:∀ {r:Nat} {e:TypeId} {size n:Nat} {v:Value} {xs:List Value},RR W ρ r e size v n xs→RR W ρ' r e size v n xs:=fun h=>⟨h.row,fun q hq=>by
  obtain⟨cs,T,z,ho⟩:=rr_obj h hq;exact(h1 q _ ho (.inl rfl)).trans (h.role q hq)⟩
 have row:∀ {v:Value} {n:Nat} {xs:List Value},RowIn W ρ v n xs→RowIn W ρ' v n xs:=fun {v n xs} ⟨a1,ad,c,a2,a3⟩=>⟨a1,ad,c,a2,fun h0=>by
  obtain⟨g,o,e,hr,hat⟩:=a3 h0;obtain⟨x,hx⟩:∃ x,xs[0]?=some x:=⟨_,zq9 (by omega)⟩
  obtain⟨cs,T,z,ho⟩:=cell_obj (hat 0 x hx);exact⟨g,o,e,(h1 g _ ho (.inl rfl)).trans hr,hat⟩⟩
 refine⟨⟨h.k.below,h3,h2,fun i hi=>?_,h.k.exp,h.k.lin,fun i hi=>?_,fun i hi=>?_,h.k.min⟩,⟨h.nms.fb,rr h.nms.row,h.nms.pm,(h1 _ _ h.nms.fb (.inl rfl)).trans h.nms.rf,?_,h2⟩,rr h.rl,rr h.rn,h.sck,(h1 _ _ h.sck (.inl rfl)).trans h.rsc,rr h.stk,h.res,(h1 _ _ h.res (.inl rfl)).trans h.rrs⟩
 ·obtain⟨r,s,xv,a,b,c⟩:=h.k.link i hi
  exact⟨(h1 _ _ a (.inl rfl)).trans r,s,xv,a,row b,c⟩
 ·obtain⟨r,sx,a,b⟩:=h.k.node i hi
  exact⟨(h1 _ _ a (.inl rfl)).trans r,sx,a,row b⟩
 ·obtain⟨r,a⟩:=h.k.live i hi
  obtain⟨es,c,ho⟩:=a.obj;exact⟨(h1 _ _ ho (.inr rfl)).trans r,a⟩
 obtain⟨es,c,ho⟩:=h.nms.pm.obj;exact(h1 _ _ ho (.inr rfl)).trans h.nms.rp
def BI (w:World) (A:Ad) (F:List Nd) (f sc rs j:Nat) (KN K:List Nat) (names:List Nm) (sl sn sv:Value) (Ds:List Nat) (ib:Nat) (a:Option Addr) (kl c cnt:Nat) (W:World):Prop :=
 ∃ (ρ:Nat→Nat) (vs:Value),RdS w A F f sc rs (j+1) (KN++K) (KN.drop (kl - cnt)++K) names sl sn sv vs (j+1) (j+1) W ρ∧Mk w Ds W ρ∧W.heap[ib]?=some (.cells #[.slice a kl c] 106 (0,0))∧ρ ib=0∧RowIn W ρ (.slice a kl c) kl (ptrs (KN.map A.lb)) ∧
  ∀ k m,kl - cnt≤k→KN[k]?=some m→(nd F m).binds.length≤16
def BX (isName:Nm→Bool) (w:World) (ps:List Nm) (e:TE) (rs:Nat) (Ds:List Nat) (W:World):Prop :=
 Below w.heap.size w W∧W.heap[rs]?=some (.cells #[.pointer none] 99 (0,0))∧Ds.Nodup∧(∀ D∈Ds,w.heap.size≤D∧W.heap[D]?=some (.deferred (some [])))∧¬ RG.Good isName ps e
section
variable {KN:List Nat} {Ds:List Nat} {ib kl c cnt:Nat} {a:Option Addr} {W':World} {B:Nat}
theorem Mk.bk {w W W':World}{Ds:List Nat} {ρ:Nat→Nat}{B:Nat}(h:Mk w Ds W ρ) (b:Bk B W W') (hB:∀ D∈Ds,D<B):Mk w Ds W' ρ :=
 ⟨h.1,fun D hD=>by obtain⟨x,y,z⟩:=h.2 D hD;exact⟨x,y,((below_bk b).block D (hB D hD)).trans z⟩⟩
theorem BI.bk (h:BI w A F f sc rs j KN K names sl sn sv Ds ib a kl c cnt W) (b:Bk B W W') (hB:w.heap.size≤B) (hD:∀ D∈Ds,D<B):BI w A F f sc rs j KN K names sl sn sv Ds ib a kl c cnt W':=by
 obtain⟨ρ,vs,h1,h2,h3,h4,h5,h6⟩:=h;exact⟨ρ,vs,h1.bk b hB,h2.bk b hD,cells_bk b h3,h4,(Kp.of_bk (S:=fun _=>False) b h1.k.rho).row h5 (fun _ _ h=>h),h6⟩
theorem BI.grow (h:BI w A F f sc rs j KN K names sl sn sv Ds ib a kl c cnt W) (b:Below W.heap.size W W'):BI w A F f sc rs j KN K names sl sn sv Ds ib a kl c cnt W':=by
 obtain⟨ρ,vs,h1,h2,h3,h4,h5,h6⟩:=h;exact⟨ρ,vs,h1.grow b,h2.grow b,zm b h3,h4,(Kp.of_below (S:=fun _=>False) b h1.k.rho).row h5 (fun _ _ h=>h),h6⟩
theorem BX.bk {isName:Nm→Bool}{ps:List Nm}{e:TE}(h:BX isName w ps e rs Ds W) (b:Bk B W W') (hB:w.heap.size≤B) (hD:∀ D∈Ds,D<B):BX isName w ps e rs Ds W' :=
 ⟨h.1.trans ((below_bk b).mono hB),cells_bk b h.2.1,h.2.2.1,fun D hd=>⟨(h.2.2.2.1 D hd).1,((below_bk b).block D (hD D hd)).trans (h.2.2.2.1 D hd).2⟩,h.2.2.2.2⟩
theorem BI.reads {g o:Nat}(h:BI w A F f sc rs j KN K names sl sn sv Ds ib a kl c cnt W) (hg:0<kl→a=some ⟨g,o,none⟩):BkRd ib a c g o kl (fun k=>A.lb (KN.getD k 0)) W:=by
 obtain⟨ρ,vs,h1,h2,h3,h4,⟨h5,ad,c',e,h6⟩,h7⟩:=h;refine⟨by rw [zb _ _ 0 _ _ _ h3];rfl,fun k hk=>?_⟩
 obtain⟨g',o',e2,_,hat⟩:=h6 (by omega)
 simp only [Value.slice.injEq] at e;obtain⟨rfl,_,rfl⟩:=e;rw [hg (by omega)] at e2
 simp only [zt3,Addr.mk.injEq,and_true] at e2;obtain⟨rfl,rfl⟩:=e2;rw [ptrs_length,zv1] at h5;refine hat k _ (ptrs_at ?_);rw [List.getElem?_map,zq9 (by omega)]
 show _=some (A.lb (KN.getD k 0));rw [zt4,zq9 (by omega)]
 rfl
end
theorem BI.done {Ds:List Nat}{ib kl c D:Nat}{a:Option Addr}{isName:Nm→Bool}{ps:List Nm}{e e1:TE}{bs:List Nm}{stk:List (List Nm×TE)}{KN:List Nat}(h:BI w A (F0 ps e) f sc rs j KN K names sl sn sv Ds ib a kl c kl W) (hKN:KN=nums (j+1) e1.kids) (hK:K=nums (j+e1.size) stk)
  (hD:W.heap[D]?=some (.deferred (some []))) (hDw:w.heap.size≤D) (hDn:D∉Ds) (hj:j<20000) (hS:Stk (F0 ps e) j ((bs,e1) :: stk)) (hnx:∀ i,i<j→∀ k∈(nd (F0 ps e) i).next,k<j∨k∈j :: K) (h16:∀ k∈j :: K,(nd (F0 ps e) k).binds.length≤16)
  (hnm:names.length≤16*(j+1)) (hsl:(e1.kids++stk).length≤16*(j+1)+1) (hrd:rd isName e.size 0 [] [(ps,e)]=rd isName (e.size - (j+1)) (j+1) names (e1.kids++stk)) :
  ∃ (sa:Option Addr) (n8 c8:Nat),W.heap[sc]?=some (.cells #[.slice sa n8 c8] 160 (0,0))∧LpI isName w ps e f rs ((F0 ps e).length - (j+1)) (.pointer (some ⟨W.heap.size,0,none⟩)) (mark D :: Ds.map mark) (W.alloc (.cells #[.slice sa n8 c8] 160)):=by
 obtain⟨ρ,vs,h1,h2,h3,h4,h5,h6⟩:=h;rw [Nat.sub_self,List.drop_zero] at h1;obtain⟨sa,c8,hvs⟩:=h1.stk.shape;refine⟨sa,(KN++K).length,c8,?_⟩;rw [← hvs];obtain⟨hjF,hnd,hz,hKr⟩:=stk_top hS;have hDlt:=(zq7.1 hD).1;have r1:RdS w A (F0 ps e) f sc rs (j+1) (KN++K) (KN++K) names sl sn sv vs (j+1) (j+1) W (roleAt ρ D 0):=h1.rerole (fun q o ho hc=>zv _ _ _ (by
   rintro rfl;rw [hD,zt3] at ho;subst ho;rcases hc with hc | hc<;>cases hc)) (fun q hq=>by rw [zv _ _ _ (by omega)];exact h1.k.rho q hq) (fun q hq=>by rw [zv _ _ _ (by omega)];exact h1.k.low q hq)
 have hb:Below W.heap.size W (W.alloc (.cells #[vs] 160)):=(zs9 _ _).alloc (zr4 _) _;have hfr:∀ q,(W.alloc (.cells #[vs] 160)).heap.size≤q→roleAt (roleAt ρ D 0) W.heap.size 9 q=0:=fun q hq=>by
  simp at hq;rw [zv _ _ _ (by omega),zv _ _ _ (by omega)];exact h1.k.rho q (by omega)
 have k2:Kp (fun _=>False) (roleAt ρ D 0) (roleAt (roleAt ρ D 0) W.heap.size 9) W (W.alloc (.cells #[vs] 160)) :=
  (Kp.of_below hb r1.k.rho).roleNew _ (fun q hq=>zv _ _ _ (by omega)) hfr
 have r2:=r1.restack (S:=fun _=>False) (sc':=W.heap.size) k2 (hb.mono r1.k.below.size) (fun _ h=>h.elim) (zs2 W (.cells #[vs] 160)) (roleAt_same _ _ _) (k2.rr r1.stk (fun _ _ h=>h))
 have hn2:nums (j+1) (e1.kids++stk)=KN++K:=by rw [nums_append,hKN,hK,show j+1+sizes e1.kids=j+e1.size from by omega]
 have hs2:Stk (F0 ps e) (j+1) (e1.kids++stk):=by
  obtain⟨l,hl⟩:=stk_at ps e (j+1) (by omega)
  refine⟨hS.lies.kids,by have:=hS.size;rw [zg] at this;rw [zr];simp only [] at this;omega,fun pre q post hpq=>?_⟩
  have hm:(j+1+sizes pre)∈nums (j+1) (e1.kids++stk):=(nums_mem _ _ _).2 ⟨pre,q,post,hpq,rfl⟩;rw [nums_append,List.mem_append] at hm;rcases hm with hm | hm
  ·exact .inr ⟨j,by omega,by rw [hnd];exact hm⟩
  obtain⟨pre2,q2,post2,e2,e3⟩:=(nums_mem _ _ _).1 hm;have:=hS.par ((bs,e1) :: pre2) q2 post2 (by rw [e2];rfl)
  rw [zg] at this;simp only [] at this;have e4:j+(e1.size+sizes pre2)=j+1+sizes pre:=by omega
  rw [e4] at this;rcases this with h0 | ⟨p,hp,hm2⟩
  ·omega
  exact .inr ⟨p,by omega,hm2⟩
 refine⟨h1.sck,A,W.heap.size,j+1,e1.kids++stk,names,sl,sn,sv,vs,_,D :: Ds,⟨rfl,by omega,rfl,rfl⟩,⟨List.nodup_cons.2 ⟨hDn,h2.1⟩,fun E hE=>?_⟩,by rw [hn2];exact r2,hs2,fun i hi k hk=>?_,fun k hk=>?_,hnm,hsl,hrd⟩
 ·rcases List.mem_cons.1 hE with rfl | hE
  ·exact⟨hDw,by rw [zv _ _ _ (by omega)];exact roleAt_same _ _ _,zm hb hD⟩
  obtain⟨x,y,z⟩:=h2.2 E hE;have hlt:=(zq7.1 z).1;refine⟨x,?_,zm hb z⟩;rw [zv _ _ _ (by omega),zv _ _ _ (show E≠D from fun e2=>hDn (by rw [← e2];exact hE))]
  exact y
 ·rw [hn2]
  by_cases hij:i=j
  ·subst hij
   rw [hnd] at hk;exact .inr (zr6 _ (by rw [hKN];exact hk))
  rcases hnx i (by omega) k hk with h | h
  ·exact .inl (by omega)
  rcases List.mem_cons.1 h with h | h
  ·exact .inl (by omega)
  exact .inr (List.mem_append_right _ h)
 rw [hn2] at hk;rcases List.mem_append.1 hk with hk | hk
 ·obtain⟨i,hi⟩:=List.getElem?_of_mem hk
  exact h6 i k (by omega) hi
 exact h16 k (zr8 _ hk)
theorem round_next {w W8 w9 W9:World}{A A5:Ad}{ps bs ns:List Nm}{e e1:TE}{stk:List (List Nm×TE)}{f sc rs j nb mb b7 kl c:Nat}{K' KN Ds:List Nat}{sl sn sv vs:Value} {ρ8:Nat→Nat}{a:Option Addr}{L:List (Nat×Nat×Nat)}
  (S8:RdS w A5 (F0 ps e) f sc rs j K' K' ns sl sn sv vs (j+1) (j+1) W8 ρ8) (E8:Ex w Ds j (A.lb j) (A.xb j) (A.xo j) nb mb b7 bs (.slice none 0 0) W8 ρ8)
  (ea:A5.lb=A.lb∧A5.xb=A.xb∧A5.xo=A.xo∧A5.pl=A.pl∧A5.nb j=nb∧A5.mb j=mb∧(∀ i,i≠j→A5.nb i=A.nb i∧A5.mb i=A.mb i)) (nbm:∀ i,i<j→A.nb i≠nb∧A.mb i≠mb)
  (hS:Stk (F0 ps e) j ((bs,e1) :: stk)) (hK:K'=nums (j+e1.size) stk) (neq:∀ i,i<j∨i∈K'→A5.lb i≠A5.lb j) (te:TEAt w e1 (A.xb j) (A.xo j)) (hnx:∀ i,i<j→∀ k∈(nd (F0 ps e) i).next,k<j∨k∈j :: K')
  (ks:KsAt w W8 w9 e1.kids a L) (b9:Below W8.heap.size W8 w9) (hkl:kl=e1.kids.length) (hKN:KN=nums (j+1) e1.kids) (hW:W9=w9.setCell ⟨nb,1,none⟩ (.slice a kl c)) :
  RdS w (A5.more KN L) (F0 ps e) f sc rs (j+1) (KN++K') K' ns sl sn sv vs (j+1) (j+1) W9 (linked ρ8 L)∧Mk w Ds W9 (linked ρ8 L)∧RowIn W9 (linked ρ8 L) (.slice a kl c) kl (ptrs (KN.map (A5.more KN L).lb)) ∧
   (∀ k,k<kl→∃ q xv,KN[k]?=some q∧W9.heap[(A5.more KN L).lb q]?=some (.cells #[xv,.pointer (some ⟨(A5.more KN L).xb q,(A5.more KN L).xo q,none⟩),.pointer none] 120 (0,0)))∧W9.cell? ⟨nb,1,none⟩=some (.slice a kl c)∧KN.length=kl:=by
 obtain⟨hjF,hnd,hz,hKr⟩:=stk_top hS;have hnd9:=zm b9 E8.node;have hn9:=heap_setCell_same w9 nb 1 _ _ (.slice a kl c) hnd9
 have hnbw:nb<W8.heap.size:=(zq7.1 E8.node).1;have hnbh:w.heap.size≤nb:=S8.high (by rw [E8.rnb];decide)
 have hl8:=E8.link;rw [← ea.1,← ea.2.1,← ea.2.2.1,← ea.2.2.2.2.1] at hl8;have hlen:KN.length=kl:=by rw [hKN,nums_length,← hkl]
 have hnode:W9.heap[A5.nb j]?=some (.cells #[.pointer (some ⟨A5.xb j,A5.xo j,none⟩),.slice a kl c,.map (some (A5.mb j))] 110 (0,0)):=by
  rw [ea.2.2.2.2.1,ea.2.2.2.2.2.1,ea.2.1,ea.2.2.1,hW];exact hn9
 have hkp:Kp (fun q=>q=A5.nb j) ρ8 ρ8 W8 W9:=by rw [ea.2.2.2.2.1,hW];exact Kp.below_set (S:=fun _=>False) b9 S8.k.rho nb 1 _
 have hbw:Below w.heap.size W8 W9:=by rw [hW];exact(b9.mono S8.k.below.size).setCell hnbh _
 have hks:KsAt w W8 W9 e1.kids a L:=by rw [hW];exact ks.set hnbw _
 have S10:RdS w (A5.more KN L) (F0 ps e) f sc rs (j+1) (KN++K') K' ns sl sn sv vs (j+1) (j+1) W9 (linked ρ8 L):=by
  refine RdS.next (ks:=e1.kids) (a:=a) (c:=c) (j:=j) S8 hkp hbw (Nat.succ_pos j) (zr4 _) (zr4 _) (fun i hi=>hi) (by rw [hnd,hKN]) (by rw [hKN];exact nums_nodup _ _) (by rw [hKN,nums_length])
   (fun i p hp=>by rw [hKN];exact Lies.num _ _ _ _ hS.lies.kids.left hp) (by rw [hnd];exact hl8) (by rw [hnd,ea.2.1,ea.2.2.1];exact te) neq (by rw [← hkl];exact hnode) (by rw [ea.2.2.2.2.1];exact E8.rnb) (by rw [ea.2.2.2.2.1];exact hnbw) (fun i hi=>?_) (by rw [ea.2.2.2.2.2.1];exact E8.map) (by rw [ea.2.2.2.2.2.1];exact E8.rmb) (fun i hi=>?_)
   hks (fun q hq=>?_) (fun i hi k hk=>?_)
  ·rw [ea.2.2.2.2.1,(ea.2.2.2.2.2.2 i (by omega)).1];exact(nbm i hi).1
  ·rw [ea.2.2.2.2.2.1,(ea.2.2.2.2.2.2 i (by omega)).2];exact(nbm i hi).2
  ·rw [hKN] at hq
   have hr:=nums_range hq;refine⟨by omega,fun hm=>?_⟩
   rw [hK] at hm;have:=(hKr q hm).1;omega
  rcases hnx i hi k hk with h | h
  ·exact .inl h
  rcases List.mem_cons.1 h with h | h
  ·exact .inr (.inl h)
  exact .inr (.inr h)
 refine⟨S10,?_,?_,fun k hk=>?_,?_,hlen⟩
 ·rw [hW];exact E8.mks.linked b9 ks hnd9
 ·obtain⟨_,sx,h1,h2⟩:=S10.k.node j (Nat.lt_succ_self j)
  rw [hnd] at h2;simp only [] at h2;rw [← hKN,hlen] at h2;have e2:(A5.more KN L).nb j=A5.nb j:=rfl;rw [e2,hnode] at h1;simp only [zt3,Obj.cells.injEq] at h1;have h4:Value.slice a kl c=sx:=by
   have:=congrArg (fun a=>a[1]?) h1.1
   simpa using this
  rw [← h4] at h2;exact h2
 ·obtain⟨q,hq⟩:∃ q,KN[k]?=some q:=⟨_,zq9 (by rw [hlen];exact hk)⟩
  have hm:=zr1 hq;have hr:=nums_range (show q∈nums (j+1) e1.kids by rw [← hKN];exact hm)
  obtain⟨_,s,xv,h1,_,h3⟩:=S10.k.link q (.inr (zr6 _ hm));rw [if_neg (by omega),h3 (by omega)] at h1
  exact⟨q,s,hq,h1⟩
 rw [← ea.2.2.2.2.1,zb _ _ 1 _ _ _ hnode];rfl
theorem form_few {e:TE}(h:e.form=true):e.kids.length≤16:=by
 rcases form_cases h with ⟨_,_,hb,ha,_⟩|⟨_,hb,_,ha,_⟩|⟨_,_,hb,ha,_⟩
 ·obtain⟨p,he,_⟩:=kids_rest hb ha
  rw [he];exact Nat.succ_le_succ (zv3 _)
 ·rw [kids_arms hb,TA.kids_length];exact ha
 rw [kids_end hb ha];decide
theorem BI.start {w W9:World}{A:Ad}{F:List Nd}{f sc rs j kl c:Nat}{KN K Ds:List Nat}{ns:List Nm}{sl sn sv vs:Value} {ρ:Nat→Nat}{a:Option Addr}(h:RdS w A F f sc rs (j+1) (KN++K) K ns sl sn sv vs (j+1) (j+1) W9 ρ) (hm:Mk w Ds W9 ρ) (hr:RowIn W9 ρ (.slice a kl c) kl (ptrs (KN.map A.lb))) (hl:KN.length=kl) :
  BI w A F f sc rs j KN K ns sl sn sv Ds W9.heap.size a kl c 0 (W9.alloc (.cells #[.slice a kl c] 106))∧(∃ g o,0<kl→a=some ⟨g,o,none⟩)∧w.heap.size≤(W9.alloc (.cells #[.slice a kl c] 106)).heap.size∧∀ D∈Ds,D<(W9.alloc (.cells #[.slice a kl c] 106)).heap.size:=by
 have hb:Below W9.heap.size W9 (W9.alloc (.cells #[.slice a kl c] 106)):=(zs9 _ _).alloc (zr4 _) _;refine⟨⟨ρ,vs,?_,hm.grow hb,zs2 W9 _,h.k.rho _ (zr4 _),(Kp.of_below (S:=fun _=>False) hb h.k.rho).row hr (fun _ _ h=>h),fun k q hk hq=>?_⟩,?_,zr5 h.k.below.size hb.size,fun D hD=>?_⟩
 ·rw [Nat.sub_zero,List.drop_of_length_le (by rw [hl];exact zr4 _),List.nil_append]
  exact h.grow hb
 ·have:=(zq8.1 hq).1
  omega
 ·obtain⟨_,ad,c',e',h6⟩:=hr
  by_cases h0:0<kl
  ·obtain⟨g',o',h7,_⟩:=h6 h0
   simp only [Value.slice.injEq] at e';exact⟨g',o',fun _=>by rw [e'.1];exact h7⟩
  exact⟨0,0,fun h=>absurd h h0⟩
 have:=(zq7.1 (hm.2 D hD).2.2).1;exact zt5 this hb.size
def Clean (W:World) (ρ:Nat→Nat):Prop:=∀ (q:Nat) (o:Obj),W.heap[q]?=some o→o.isCells=false→o.isWalk=false→ρ q=0
open Classical in
theorem BI.openUp {w W:World}{A:Ad}{F:List Nd}{f sc rs j ib kl c cnt:Nat}{KN K Ds:List Nat}{ns:List Nm}{sl sn sv:Value}{a:Option Addr}(h:BI w A F f sc rs j KN K ns sl sn sv Ds ib a kl c cnt W) (hl:KN.length=kl) (hc:cnt<kl) :
  ∃ (ρ:Nat→Nat) (vs:Value) (q:Nat),RdS w A F f sc rs (j+1) (KN++K) (KN.drop (kl - cnt)++K) ns sl sn sv vs (j+1) (j+1) W ρ∧Mk w Ds W ρ∧W.heap[ib]?=some (.cells #[.slice a kl c] 106 (0,0))∧ρ ib=0∧RowIn W ρ (.slice a kl c) kl (ptrs (KN.map A.lb)) ∧
   (∀ k m,kl - cnt≤k→KN[k]?=some m→(nd F m).binds.length≤16)∧Clean W ρ∧KN[kl - 1 - cnt]?=some q∧KN.getD (kl - 1 - cnt) 0=q∧KN.drop (kl - (cnt+1))=q :: KN.drop (kl - cnt):=by
 obtain⟨ρ,vs,h1,h2,h3,h4,h5,h6⟩:=h;obtain⟨q,hq⟩:∃ q,KN[kl - 1 - cnt]?=some q:=⟨_,zq9 (by omega)⟩
 let ρ':Nat→Nat:=fun q=>if ∃ o,W.heap[q]?=some o∧(o.isCells=true∨o.isWalk=true) then ρ q else 0
 have e1:∀ (q:Nat) (o:Obj),W.heap[q]?=some o→(o.isCells=true∨o.isWalk=true)→ρ' q=ρ q:=fun q o ho hk=>if_pos ⟨o,ho,hk⟩
 have e0:∀ q,ρ q=0→ρ' q=0:=fun q hq=>by show (if _ then ρ q else 0)=0;split;exact hq;rfl
 refine⟨ρ',vs,q,h1.rerole e1 (fun q hq=>e0 q (h1.k.rho q hq)) (fun q hq=>e0 q (h1.k.low q hq)),⟨h2.1,fun D hD=>by obtain⟨x,y,z⟩:=h2.2 D hD;exact⟨x,e0 D y,z⟩⟩,h3,e0 ib h4,?_,h6,fun q o ho hk hw=>?_,hq,by rw [zt4,hq];rfl,?_⟩
 ·obtain⟨a1,ad,c',a2,a3⟩:=h5
  exact⟨a1,ad,c',a2,fun h0=>by obtain⟨g,o,x,y,z⟩:=a3 h0;exact⟨g,o,x,e0 g y,z⟩⟩
 ·show (if _ then ρ q else 0)=0
  rw [if_neg];rintro ⟨o2,ho2,h⟩;rw [ho,zt3] at ho2;subst ho2;rcases h with h | h
  ·rw [hk] at h;cases h
  rw [hw] at h;cases h
 have hlt:kl - 1 - cnt<KN.length:=by omega
 rw [show kl - (cnt+1)=kl - 1 - cnt from by omega,List.drop_eq_getElem_cons hlt,show kl - 1 - cnt+1=kl - cnt from by omega]
 rw [zq9 hlt,zt3] at hq;rw [hq]
theorem BI.step {w W W1 w':World}{A:Ad}{F:List Nd}{f sc rs j ib kl c cnt q tl c2:Nat}{KN K Ds T:List Nat}{ns:List Nm}{sl sn sv vs:Value}{a a2:Option Addr} {ρ ρ':Nat→Nat}(hT:T=KN.drop (kl - cnt)++K) (htl:tl=T.length) (hS:RdS w A F f sc rs (j+1) (KN++K) T ns sl sn sv vs (j+1) (j+1) W ρ) (hM:Mk w Ds W ρ) (hI:W.heap[ib]?=some (.cells #[.slice a kl c] 106 (0,0))) (hi:ρ ib=0) (hR:RowIn W ρ (.slice a kl c) kl (ptrs (KN.map A.lb)))
  (hF:∀ k m,kl - cnt≤k→KN[k]?=some m→(nd F m).binds.length≤16) (hC:Clean W ρ) (hq:KN[kl - 1 - cnt]?=some q) (hd:KN.drop (kl - (cnt+1))=q :: KN.drop (kl - cnt)) (h16:(nd F q).binds.length≤16) (hcnt:cnt<kl)
  (hb:Below W.heap.size W W1) (hch:Ch (· = 10) ρ ρ' W1 w') (hrr:RR w' ρ' 10 159 2 (.slice a2 (tl+1) c2) (tl+1) (todos A T++[.pointer (some ⟨A.lb q,0,none⟩),.pointer (some ⟨A.xb q,A.xo q,none⟩)])) :
  Kb W (w'.setCell ⟨sc,0,none⟩ (.slice a2 (tl+1) c2))∧BI w A F f sc rs j KN K ns sl sn sv Ds ib a kl c (cnt+1) (w'.setCell ⟨sc,0,none⟩ (.slice a2 (tl+1) c2)):=by
 subst htl;have hS1:=hS.grow hb;have hM1:=hM.grow hb
 have hs2:=hS1.push (k:=q) hch hrr;have hsc':=hch.keep hS1.sck (by rw [hS1.rsc];decide)
 have hne:ib≠sc:=fun e=>by have:=hS.rsc;rw [← e,hi] at this;cases this
 refine⟨⟨zr5 hb.size (by simpa using hch.size),fun p o ho hk hw=>?_⟩,ρ',.slice a2 (T.length+1) c2,?_,?_,?_,(hch.keepRole (zm hb hI)).trans hi,?_,fun k m hk hm=>?_⟩
 ·have h0:=hC p o ho hk hw
  have h1:=hch.keep (zm hb ho) (by rw [h0];decide)
  refine(zt1 w' _ _ p (fun e=>?_)).trans h1
  have e2:p=sc:=e;subst e2;rw [hS.sck,zt3] at ho;subst ho;cases hk
 ·rw [hd,List.cons_append,← hT]
  exact hs2
 ·exact(hM1.ch hch (by decide)).setCell ⟨sc,0,none⟩ _ hsc'
 ·exact(zt1 w' _ _ ib hne).trans (hch.keep (zm hb hI) (by rw [hi];decide))
 ·have k0:=Kp.of_below (S:=fun _=>False) hb hS.k.rho
  have r1:=(Kp.of_ch hch).row (k0.row hR (fun _ _ h=>h)) (fun p e hp=>by omega)
  have rsc':=(hch.keepRole hS1.sck).trans hS1.rsc;exact(Kp.setCell (ρ:=ρ') (w:=w') ⟨sc,0,none⟩ _ hch.fresh).row r1 (fun p e hp=>by have hp2:p=sc:=hp;rw [hp2,rsc'] at e;cases e)
 by_cases e:k=kl - 1 - cnt
 ·subst e
  rw [hq,zt3] at hm;rw [← hm];exact h16
 exact hF k m (by omega) hm
theorem names_next {isName:Nm→Bool}{names ns bs:List Nm}{j:Nat}{F:List Nd}{e1:TE}{l:List Nat}(h:names.length≤16*j) (hb:bindOk isName names bs=some ns) (h16:(nd F j).binds.length≤16) (hnd:nd F j=⟨bs,e1,l⟩):ns.length≤16*(j+1):=by
 rw [(bindOk_some hb).2,zr2];rw [hnd] at h16;simp only [] at h16;omega
theorem kids_next {e1:TE}{stk:List (List Nm×TE)}{bs:List Nm}{j:Nat}(h:((bs,e1) :: stk).length≤16*j+1) (hf:e1.form=true):(e1.kids++stk).length≤16*(j+1)+1:=by
 have:=form_few hf;rw [zr2];rw [zv2] at h;omega
theorem kids_all {w W:World}{A:Ad}{F:List Nd}{f sc rs j ib kl c:Nat}{KN K Ds:List Nat}{ns bs:List Nm}{sl sn sv:Value}{a:Option Addr}{e1:TE}{stk:List (List Nm×TE)}(h:BI w A F f sc rs j KN K ns sl sn sv Ds ib a kl c kl W) (hKN:KN=nums (j+1) e1.kids) (hl:KN.length=kl) (hS:Stk F j ((bs,e1) :: stk)) :
  (e1.kids.all fun p=>decide (p.1.length≤16))=true:=by
 obtain⟨ρ,vs,h1,h2,h3,h4,h5,h6⟩:=h;rw [List.all_eq_true];intro p hp;obtain⟨i,hi⟩:=List.getElem?_of_mem hp;obtain⟨m,hm,hb,_⟩:=Lies.num _ _ _ _ hS.lies.kids.left hi;rw [← hKN] at hm;have:=h6 i m (by omega) hm
 rw [hb] at this;simpa using this
theorem kids_not {F:List Nd}{j kl cnt q:Nat}{KN:List Nat}{bs:List Nm}{e1:TE}{stk:List (List Nm×TE)}(hKN:KN=nums (j+1) e1.kids) (hS:Stk F j ((bs,e1) :: stk)) (hq:KN[kl - 1 - cnt]?=some q) (h16:¬ (nd F q).binds.length≤16):(e1.kids.all fun p=>decide (p.1.length≤16))=false:=by
 rw [hKN] at hq;have hl:=(zq8.1 hq).1;rw [nums_length] at hl;obtain⟨p,hp⟩:∃ p,e1.kids[kl - 1 - cnt]?=some p:=⟨_,zq9 hl⟩;obtain⟨m,hm,hb,_⟩:=Lies.num _ _ _ _ hS.lies.kids.left hp;rw [hq,zt3] at hm;subst hm;rw [hb] at h16;rw [List.all_eq_false];exact⟨p,zr1 hp,by simpa using h16⟩
theorem stack_few {tl kl cnt j:Nat}{T KN K:List Nat}{bs:List Nm}{e1:TE}{stk:List (List Nm×TE)}(h1:tl=T.length) (h2:T=KN.drop (kl - cnt)++K) (h3:KN.length=kl) (h4:K=nums (j+e1.size) stk) (h5:((bs,e1) :: stk).length≤16*j+1) (h6:j<20000) (h7:kl≤16):Hid (tl≤400000):=by
 show tl≤400000;rw [h1,h2,zr2,List.length_drop,h4,nums_length];rw [zv2] at h5;omega
theorem LpI.start {isName:Nm→Bool}{w W0 W:World}{r0 n sc rb b o f l0 pl:Nat}{ps:List Nm}{e:TE}{sv0:Value} {ρ0:Nat→Nat}(h:HdI w r0 ps n sv0 W0 ρ0) (hr0:r0=w.heap.size) (hn:n=ps.length) (h16:n≤16) (hf:f=r0+1+1+1∧pl=r0+1+1∧l0=r0+1) (ht:TFunAt w b o ps e) (hb:Below W0.heap.size W0 W)
  (h1:W0.heap.size≤sc) (h2:W0.heap.size≤rb) (hne:sc≠rb) (hsc:W.heap[sc]?=some (.cells #[.slice (some ⟨rb,0,none⟩) 1 1] 160 (0,0)))
  (hrb:W.heap[rb]?=some (.cells #[.pointer (some ⟨l0,0,none⟩),.pointer (some ⟨b,o+3,none⟩)] 159 (0,0))):LpI isName w ps e f r0 (F0 ps e).length (.pointer (some ⟨sc,0,none⟩)) [] W:=by
 obtain⟨rfl,rfl,rfl⟩:=hf;have hs:=RdS.start h hr0 hn ht hb h1 h2 hne hsc hrb;have hz:sizes [(ps,e)]=e.size:=by rw [zg,zw];rfl
 refine⟨_,sc,0,[(ps,e)],[],_,_,_,_,_,[],⟨by rw [Nat.sub_zero],zv3 _,rfl,rfl⟩,⟨List.nodup_nil,fun D hD=>absurd hD (by simp)⟩,hs,⟨F0_lies ps e,by rw [F0_length,hz];simp,fun pre q post hp=>?_⟩,fun i hi=>absurd hi (Nat.not_lt_zero i),fun k hk=>?_,by simp,by simp,by rw [Nat.sub_zero]⟩
 ·cases pre with
  | nil=>exact .inl (by simp [zw])
  | cons a pre=>simp at hp
 have e0:k=0:=by simpa [nums] using hk
 rw [e0,F0_nd0];show ps.length≤16;omega
theorem LpI.start1 {isName:Nm→Bool}{w W0:World}{r0 n b o f l0 pl:Nat}{ps:List Nm}{e:TE}{sv0:Value} {ρ0:Nat→Nat}(h:HdI w r0 ps n sv0 W0 ρ0) (hr0:r0=w.heap.size) (hn:n=ps.length) (h16:n≤16) (hf:f=r0+1+1+1∧pl=r0+1+1∧l0=r0+1) (ht:TFunAt w b o ps e) :
  LpI isName w ps e f r0 (F0 ps e).length (.pointer (some ⟨W0.heap.size,0,none⟩)) [] ((W0.alloc (.cells #[.slice (some ⟨W0.heap.size+1,0,none⟩) 1 1] 160)).alloc (.cells #[.pointer (some ⟨l0,0,none⟩),.pointer (some ⟨b,o+3,none⟩)] 159)).drew:=by
 have hb:Below W0.heap.size W0 ((W0.alloc (.cells #[.slice (some ⟨W0.heap.size+1,0,none⟩) 1 1] 160)).alloc (.cells #[.pointer (some ⟨l0,0,none⟩),.pointer (some ⟨b,o+3,none⟩)] 159)):=((zs9 _ _).alloc (zr4 _) _).alloc (by simp) _
 have h1:=World.alloc_heap_new (W0.alloc (.cells #[.slice (some ⟨W0.heap.size+1,0,none⟩) 1 1] 160)) (.cells #[.pointer (some ⟨l0,0,none⟩),.pointer (some ⟨b,o+3,none⟩)] 159);rw [World.size_alloc] at h1;exact LpI.start h hr0 hn h16 hf ht hb.drew (zr4 _) (Nat.le_succ _) (by omega) ((zt2 _ _ _ (by simp)).trans (zs2 W0 _)) h1
theorem LpI.start2 {isName:Nm→Bool}{w W0:World}{r0 n b o f l0 pl:Nat}{ps:List Nm}{e:TE}{sv0:Value} {ρ0:Nat→Nat}(h:HdI w r0 ps n sv0 W0 ρ0) (hr0:r0=w.heap.size) (hn:n=ps.length) (h16:n≤16) (hf:f=r0+1+1+1∧pl=r0+1+1∧l0=r0+1) (ht:TFunAt w b o ps e) :
  LpI isName w ps e f r0 (F0 ps e).length (.pointer (some ⟨W0.heap.size+1,0,none⟩)) [] ((W0.alloc (.cells #[.pointer (some ⟨l0,0,none⟩),.pointer (some ⟨b,o+3,none⟩)] 159)).alloc (.cells #[.slice (some ⟨W0.heap.size,0,none⟩) 1 1] 160)).drew:=by
 have hb:Below W0.heap.size W0 ((W0.alloc (.cells #[.pointer (some ⟨l0,0,none⟩),.pointer (some ⟨b,o+3,none⟩)] 159)).alloc (.cells #[.slice (some ⟨W0.heap.size,0,none⟩) 1 1] 160)):=((zs9 _ _).alloc (zr4 _) _).alloc (by simp) _
 have h1:=World.alloc_heap_new (W0.alloc (.cells #[.pointer (some ⟨l0,0,none⟩),.pointer (some ⟨b,o+3,none⟩)] 159)) (.cells #[.slice (some ⟨W0.heap.size,0,none⟩) 1 1] 160);rw [World.size_alloc] at h1;exact LpI.start h hr0 hn h16 hf ht hb.drew (Nat.le_succ _) (zr4 _) (by omega) h1 ((zt2 _ _ _ (by simp)).trans (zs2 W0 _))
end
section
open Go
section
variable {P:Program} {ops:Array Oper} {Q:Exit→Act→World→Prop} {md:Region.Mode} {S:World→Prop}
def wpHL (P:Program) (md:Region.Mode) (ops:Array Oper) (Q:Exit→Act→World→Prop) (S:World→Prop) (n:Nat) (L:Array Bool→Act→World→Prop):Nat→Array Bool→Act→World→Prop
 | 0,listed,a,w=>L listed a w
 | f+1,listed,a,w=>Region.ready md ops listed≠[]∧∀ i∈Region.ready md ops listed,i<n∧wpOp P ops Q i (fun a' w'=>S w'∧wpHL P md ops Q S n L f (listed.setIfInBounds i true) a' w') a w
theorem wpAny_of_hl {n g:Nat}{L:Array Bool→Act→World→Prop}(hL:∀ listed a w,L listed a w→wpAny P md ops Q g listed a w) :
  ∀ (f:Nat) (listed:Array Bool) (a:Act) (w:World),wpHL P md ops Q S n L f listed a w→wpAny P md ops Q (f+g) listed a w
 | 0,listed,a,w,h=>by rw [Nat.zero_add];exact hL _ _ _ h
 | f+1,listed,a,w,h=>by
  rw [show f+1+g=(f+g)+1 by omega]
  exact⟨fun h0=>absurd h0 h.1,fun i hi=>wpOp_mono (fun a' w' h'=>wpAny_of_hl hL f _ a' w' h'.2) (h.2 i hi).2⟩
theorem wpHL_first {n i:Nat}{oi:Oper}{v:Value}{L:Array Bool→Act→World→Prop}(hi:ops[i]?=some oi) (hsel:∀ (j:Nat) (o:Oper) cs b,ops[j]?=some o→o.op ≠ .select cs b)
  (hs:Region.sinkB md ops n=true) (hc:Region.chainB md ops n=true) (hn:n<ops.size) (hin:i<n)
  (hQ:∀ c a w,Q (.panic c) (a.put oi.dst v) w→Q (.panic c) a w) (hdone:∀ listed a w,L listed a w→∀ j∈Region.ready md ops listed,n≤j) :
  ∀ (f:Nat) (listed:Array Bool) (a:Act) (w:World),HeadInv md ops n listed →
   (∀ j oj,ops[j]?=some oj→j≠i→listed.getD j true=false→(∀ e∈oj.after,Region.binds md e=true→e.on≠i)→oi.apart ops oj=true) →
   i∈Region.ready md ops listed→YieldsIf P ops S oi v a→S w →
   wpHL P md ops Q S n L f (listed.setIfInBounds i true) (a.put oi.dst v) w→wpHL P md ops Q S n L (f+1) listed a w:=by
 intro f
 induction f with
 | zero =>
  intro listed a w inv _ hr hy hS H;have hun:=(mem_ready.1 hr).1;refine⟨fun h=>(by rw [h] at hr;cases hr),fun j hj=>?_⟩
  have hjn:j<n:=by
   rcases Nat.lt_or_ge j n with h | h
   ·exact h
   exact absurd hj (tail_waits hs hc hn inv _ i rfl hin hun j h)
  refine⟨hjn,?_⟩
  by_cases hji:j=i
  ·subst hji;exact hy.wpOp hi hS ⟨hS,H⟩
  have:=hdone _ _ _ H j (ready_mono hj hji);omega
 | succ f ih =>
  intro listed a w inv hfree hr hy hS H;have hun:=(mem_ready.1 hr).1;refine⟨fun h=>(by rw [h] at hr;cases hr),fun j hj=>?_⟩
  have hjn:j<n:=by
   rcases Nat.lt_or_ge j n with h | h
   ·exact h
   exact absurd hj (tail_waits hs hc hn inv _ i rfl hin hun j h)
  refine⟨hjn,?_⟩
  by_cases hji:j=i
  ·subst hji;exact hy.wpOp hi hS ⟨hS,H⟩
  have h1:=(H.2 j (ready_mono hj hji)).2;obtain⟨hjun,oj,hoj,hall⟩:=mem_ready.1 hj;have hnot:∀ e∈oj.after,Region.binds md e=true→e.on≠i:=fun e he hb heq=>by
   have h1:=hall e he hb;rw [heq,getD_both hun] at h1;cases h1
  have h2:=wpOp_putIf hoj (hfree j oj hoj hji hjun hnot) (fun cs b=>hsel i oi cs b hi) (fun cs b=>hsel j oj cs b hoj) hQ hy h1
  have hfree':∀ k ok,ops[k]?=some ok→k≠i→(listed.setIfInBounds j true).getD k true=false →
    (∀ e∈ok.after,Region.binds md e=true→e.on≠i)→oi.apart ops ok=true:=fun k ok hk hki hkun hno=>by
   refine hfree k ok hk hki ?_ hno
   by_cases hjk:j=k
   ·subst hjk;exact hjun
   rw [getD_set_ne true hjk] at hkun;exact hkun
  refine wpOp_mono (fun a' w' h3=>⟨h3.2.1,ih (listed.setIfInBounds j true) a' w' (inv.set hj hjn) hfree' (ready_mono hr (Ne.symm hji)) h3.1 h3.2.1 ?_⟩) h2
  rw [Array.setIfInBounds_comm _ _ hji];exact h3.2.2
def nths (b:Bool):List Bool→Nat→List Nat
 | [],_=>[]
 | c :: fl,k=>if c=b then k :: nths b fl (k+1) else nths b fl (k+1)
def behind:List Bool→List Oper→List Oper
 | _ :: fl,_ :: l=>behind fl l
 | _,l=>l
def rds (fl:List Bool) (l:List Oper):List Oper:=match fl,l with
 | true :: fl,o :: l=>o :: rds fl l
 | false :: fl,_ :: l=>rds fl l
 | _,_=>[]
def efs (fl:List Bool) (l:List Oper):List Oper:=match fl,l with
 | true :: fl,_ :: l=>efs fl l
 | false :: fl,o :: l=>o :: efs fl l
 | _,_=>[]
theorem rds_at:∀ (fl:List Bool) (l:List Oper) (k:Nat) (ops:Array Oper),(∀ j,l[j]?=ops[k+j]?)→fl.length≤l.length→∀ (j i:Nat),(nths true fl k)[j]?=some i→(rds fl l)[j]?=ops[i]?
 | [],_,_,_,_,_,j,i,h=>by simp [nths] at h
 | _ :: _,[],_,_,_,hl,_,_,_=>by simp at hl
 | true :: fl,o :: l,k,ops,ho,hl,j,i,h=>by
  simp only [nths,if_true] at h
  match j,h with
  | 0,h=>simp at h;subst h;have:=ho 0;simpa [rds] using this
  | j+1,h =>
   simp only [List.getElem?_cons_succ] at h;simp only [rds,List.getElem?_cons_succ];exact rds_at fl l (k+1) ops (fun q=>by have:=ho (q+1);simpa [Nat.add_assoc,Nat.add_comm 1 q] using this) (by simpa using hl) j i h
 | false :: fl,o :: l,k,ops,ho,hl,j,i,h=>by
  simp only [nths,Bool.false_eq_true,if_false] at h;simp only [rds];exact rds_at fl l (k+1) ops (fun q=>by have:=ho (q+1);simpa [Nat.add_assoc,Nat.add_comm 1 q] using this) (by simpa using hl) j i h
theorem efs_at:∀ (fl:List Bool) (l:List Oper) (k:Nat) (ops:Array Oper),(∀ j,l[j]?=ops[k+j]?)→fl.length≤l.length→∀ (j i:Nat),(nths false fl k)[j]?=some i→(efs fl l)[j]?=ops[i]?
 | [],_,_,_,_,_,j,i,h=>by simp [nths] at h
 | _ :: _,[],_,_,_,hl,_,_,_=>by simp at hl
 | false :: fl,o :: l,k,ops,ho,hl,j,i,h=>by
  simp only [nths,if_true] at h
  match j,h with
  | 0,h=>simp at h;subst h;have:=ho 0;simpa [efs] using this
  | j+1,h =>
   simp only [List.getElem?_cons_succ] at h;simp only [efs,List.getElem?_cons_succ];exact efs_at fl l (k+1) ops (fun q=>by have:=ho (q+1);simpa [Nat.add_assoc,Nat.add_comm 1 q] using this) (by simpa using hl) j i h
 | true :: fl,o :: l,k,ops,ho,hl,j,i,h=>by
  simp only [nths,Bool.true_eq_false,if_false] at h;simp only [efs];exact efs_at fl l (k+1) ops (fun q=>by have:=ho (q+1);simpa [Nat.add_assoc,Nat.add_comm 1 q] using this) (by simpa using hl) j i h
theorem rds_length:∀ (fl:List Bool) (l:List Oper) (k:Nat),fl.length≤l.length→(rds fl l).length=(nths true fl k).length
 | [],l,k,_=>by cases l<;>rfl
 | _ :: _,[],_,h=>by simp at h
 | true :: fl,o :: l,k,h=>by simp only [rds,nths,if_true,zv2];rw [rds_length fl l (k+1) (by simpa using h)]
 | false :: fl,o :: l,k,h=>by simp only [rds,nths,Bool.false_eq_true,if_false];exact rds_length fl l (k+1) (by simpa using h)
theorem efs_length:∀ (fl:List Bool) (l:List Oper) (k:Nat),fl.length≤l.length→(efs fl l).length=(nths false fl k).length
 | [],l,k,_=>by cases l<;>rfl
 | _ :: _,[],_,h=>by simp at h
 | false :: fl,o :: l,k,h=>by simp only [efs,nths,if_true,zv2];rw [efs_length fl l (k+1) (by simpa using h)]
 | true :: fl,o :: l,k,h=>by simp only [efs,nths,Bool.true_eq_false,if_false];exact efs_length fl l (k+1) (by simpa using h)
theorem nths_sum (fl:List Bool):∀ k,(nths true fl k).length+(nths false fl k).length=fl.length:=by
 induction fl with
 | nil=>intro k;rfl
 | cons b fl ih=>intro k;cases b<;>simp only [nths,Bool.false_eq_true,Bool.true_eq_false,if_true,if_false,zv2]<;>have:=ih (k+1)<;>omega
theorem behind_at:∀ (fl:List Bool) (l:List Oper),fl.length≤l.length→behind fl l=l.drop fl.length
 | [],l,_=>by cases l<;>rfl
 | _ :: _,[],h=>by simp at h
 | b :: fl,o :: l,h=>by simp only [behind,zv2,List.drop_succ_cons];exact behind_at fl l (by simpa using h)
def effB (md:Region.Mode) (ops:Array Oper) (n g:Nat):List Nat→Array Bool→Bool
 | [],listed=>Region.seqB md ops g n listed
 | k :: r,listed=>decide (Region.ready md ops listed=[k])&&decide (k<n)&&effB md ops n g r (listed.setIfInBounds k true)
def ordB (md:Region.Mode) (ops:Array Oper) (n g:Nat) (es:List Nat):List Nat→Array Bool→Bool
 | [],listed=>effB md ops n g es listed
 | k :: r,listed=>(Region.ready md ops listed).contains k&&Region.free md ops listed k&&decide (k<n)&&ordB md ops n g es r (listed.setIfInBounds k true)
def partB (md:Region.Mode) (ops:Array Oper) (fl:List Bool):Bool :=
 Region.noSelect ops&&decide (fl.length<ops.size)&&Region.sinkB md ops fl.length&&Region.chainB md ops fl.length &&
  ordB md ops fl.length (ops.size - fl.length) (nths false fl 0) (nths true fl 0) (Array.replicate ops.size false)
def wpRd (P:Program) (ops:Array Oper) (S:World→Prop) (L:Act→Prop):List Oper→Act→Prop
 | [],a=>L a
 | o :: r,a=>∃ v,YieldsIf P ops S o v a∧wpRd P ops S L r (a.put o.dst v)
def wpEf (P:Program) (ops:Array Oper) (Q:Exit→Act→World→Prop) (S:World→Prop) (L:Act→World→Prop):List Oper→Act→World→Prop
 | [],a,w=>L a w
 | o :: r,a,w=>if Region.wanted o (yielded ops a.tmps)=true then Oper.wp P o a w (fun a' w'=>S w'∧wpEf P ops Q S L r a' w') Q else S w∧wpEf P ops Q S L r (a.put o.dst undef) w
theorem wpHL_of_ef {n g:Nat}{L:Act→World→Prop}:∀ (l:List Oper) (es:List Nat) (listed:Array Bool) (a:Act) (w:World),l.length=es.length→(∀ (j i:Nat),es[j]?=some i→l[j]?=ops[i]?) →
  effB md ops n g es listed=true→wpEf P ops Q S L l a w→wpHL P md ops Q S n (fun listed' a' w'=>Region.seqB md ops g n listed'=true∧L a' w') l.length listed a w
 | [],[],listed,a,w,_,_,hB,h=>⟨hB,h⟩
 | [],_ :: _,_,_,_,hl,_,_,_=>by simp at hl
 | _ :: _,[],_,_,_,hl,_,_,_=>by simp at hl
 | o :: l,k :: es,listed,a,w,hl,hat,hB,h=>by
  simp only [effB,Bool.and_eq_true,decide_eq_true_eq] at hB;obtain⟨⟨hr,hk⟩,hB'⟩:=hB;have h0:ops[k]?=some o:=by have:=hat 0 k rfl;simpa using this.symm
  refine⟨fun h1=>(by rw [hr] at h1;cases h1),fun i hi=>?_⟩
  rw [hr] at hi;have hik:i=k:=by simpa using hi
  subst hik;refine⟨hk,?_⟩;have step:∀ a' w',(S w'∧wpEf P ops Q S L l a' w')→S w'∧wpHL P md ops Q S n (fun listed' a' w'=>Region.seqB md ops g n listed'=true∧L a' w') l.length (listed.setIfInBounds i true) a' w' :=
   fun a' w' h'=>⟨h'.1,wpHL_of_ef l es _ a' w' (by simpa using hl) (fun j q hq=>by have:=hat (j+1) q (by simpa using hq);simpa using this) hB' h'.2⟩
  refine wpOp_step h0 fun K' hK=>?_
  unfold wpEf at h
  split
  ·rename_i hw
   rw [if_pos hw] at h;exact Oper.wp_mono (fun a' w' h'=>hK _ _ (step a' w' h')) h
  rename_i hw;rw [if_neg hw] at h;exact hK _ _ (step _ _ h)
theorem wpHL_of_rd {n g:Nat}{es:List Nat}{ef:List Oper}{L:Act→World→Prop}{w:World}(hsel:Region.noSelect ops=true) (hs:Region.sinkB md ops n=true) (hc:Region.chainB md ops n=true) (hn:n<ops.size)
  (hQ:∀ c a d v w,Q (.panic c) (Act.put a d v) w→Q (.panic c) a w) (hS:S w)
  (hel:ef.length=es.length) (heat:∀ (j i:Nat),es[j]?=some i→ef[j]?=ops[i]?) :
  ∀ (l:List Oper) (rs:List Nat) (listed:Array Bool) (a:Act),l.length=rs.length→(∀ (j i:Nat),rs[j]?=some i→l[j]?=ops[i]?)→HeadInv md ops n listed →
  ordB md ops n g es rs listed=true→wpRd P ops S (fun a'=>wpEf P ops Q S L ef a' w) l a →
  wpHL P md ops Q S n (fun listed' a' w'=>Region.seqB md ops g n listed'=true∧L a' w') (l.length+ef.length) listed a w
 | [],[],listed,a,_,_,inv,hB,h=>by
  simp only [List.length_nil,Nat.zero_add];exact wpHL_of_ef ef es listed a w hel heat hB h
 | [],_ :: _,_,_,hl,_,_,_,_=>by simp at hl
 | _ :: _,[],_,_,hl,_,_,_,_=>by simp at hl
 | o :: l,k :: rs,listed,a,hl,hat,inv,hB,h=>by
  simp only [ordB,Bool.and_eq_true,decide_eq_true_eq] at hB;obtain⟨⟨⟨hr,hf⟩,hk⟩,hB'⟩:=hB;have h0:ops[k]?=some o:=by have:=hat 0 k rfl;simpa using this.symm
  have hr':k∈Region.ready md ops listed:=by simpa using hr
  obtain⟨v,hy,h'⟩:=h;have H:=wpHL_of_rd hsel hs hc hn hQ hS hel heat l rs (listed.setIfInBounds k true) (a.put o.dst v) (by simpa using hl) (fun j q hq=>by have:=hat (j+1) q (by simpa using hq);simpa using this) (inv.set hr' hk) hB' h'
  rw [show (o :: l).length+ef.length=(l.length+ef.length)+1 from by simp only [zv2];omega]
  exact wpHL_first h0 (Region.noSelect_spec hsel) hs hc hn hk (fun c a' w'=>hQ c a' _ _ w') (fun listed' a' w' hL=>seqB_ready hL.1) (l.length+ef.length) listed a w inv (Region.free_spec h0 hf) hr' hy hS H
theorem wp_region_part {id : Nat} {a : Act} {w : World} {l : List Oper} (fl : List Bool) (hm : P.follows .mixedOrders = true) (hB : partB .any l.toArray fl = true)
    (hQ : ∀ c a d v w, Q (.panic c) (Act.put a d v) w → Q (.panic c) a w) (hS : S w.drew)
    (h : wpRd P l.toArray S (fun a' => wpEf P l.toArray Q S (fun a'' w'' => wpList P l.toArray Q (behind fl l) a'' w'') (efs fl l) a' w.drew) (rds fl l) a) : (Code.region id l.toArray true).wp P Q a w := by
  simp only [partB, Bool.and_eq_true, decide_eq_true_eq] at hB;obtain ⟨⟨⟨⟨hsel, hn⟩, hs⟩, hc⟩, hord⟩ := hB
  have hfl : fl.length ≤ l.length := by have : fl.length < l.length := by simpa using hn
                                        omega
  have inv0 : HeadInv .any l.toArray fl.length (Array.replicate l.toArray.size false) :=
    ⟨by simp, fun j oj _ hl => (by rw [getD_replicate_false] at hl; cases hl), fun t _ ht => getD_in (by simpa using ht) (getD_replicate_false _ _)⟩
  have H := wpHL_of_rd (md := .any) (Q := Q) (L := fun a'' w'' => wpList P l.toArray Q (behind fl l) a'' w'') (g := l.toArray.size - fl.length) hsel hs hc hn hQ hS (efs_length fl l 0 hfl) (efs_at fl l 0 l.toArray (fun j => by simp) hfl)
    (rds fl l) (nths true fl 0) _ a (rds_length fl l 0 hfl) (rds_at fl l 0 l.toArray (fun j => by simp) hfl) inv0 hord h
  refine wp_region_any hm ?_;have hdl : (behind fl l).length = l.toArray.size - fl.length := by rw [behind_at fl l hfl]; simp
  have := wpAny_of_hl (Q := Q) (g := l.toArray.size - fl.length) (fun listed a' w' hL => by
    have := wpAny_of_seq (md := .any) (Q' := Q) (behind fl l) fl.length listed a' w' (fun j => by rw [behind_at fl l hfl]; simp [List.getElem?_drop]) (by rw [hdl]; exact hL.1) hL.2
    rwa [hdl] at this) _ _ _ _ H
  rw [rds_length fl l 0 hfl, efs_length fl l 0 hfl, nths_sum, show fl.length + (l.toArray.size - fl.length) = l.toArray.size by omega] at this
  exact this
theorem wpRd_step {L:Act→Prop}{o:Oper}{r:List Oper}{a:Act}{v:Value}(hy:YieldsIf P ops S o v a) (h:wpRd P ops S L r (a.put o.dst v)):wpRd P ops S L (o :: r) a:=⟨v,hy,h⟩
theorem wpEf_step {L:Act→World→Prop}{o:Oper}{r:List Oper}{a:Act}{w:World}
  (h:∀ K':Act→World→Prop,Shut (∀ a w,S w→(S w→wpEf P ops Q S L r a w)→K' a w)→if Region.wanted o (yielded ops a.tmps)=true then Oper.wp P o a w K' Q else K' (a.put o.dst undef) w):wpEf P ops Q S L (o :: r) a w:=by
 have:=h (fun a' w'=>S w'∧wpEf P ops Q S L r a' w') (fun a w hS hW=>⟨hS,hW hS⟩)
 unfold wpEf;exact this
theorem wpEf_nil {L:Act→World→Prop}{a:Act}{w:World}(h:L a w):wpEf P ops Q S L [] a w:=h
end
end
section
open Go.RowKit RG Go.Maps
attribute [local go_sem] Oper.semAt_some
theorem read_any {Env:World→Prop}{isName:Nm→Bool}(NL:NLaw Env isName) {w:World}{b o:Nat}{ps:List Nm}{e:TE}(henv:Env w) (ht:TFunAt w b o ps e)
  (hsz:∀ d∈F0 ps e,(∀ x∈d.binds,x.size≤maxLen)∧∀ x∈d.e.args,x.size≤maxLen) (hpl:ps.length*24≤140737488355328):Calls Tryz.prog 58 #[.pointer (some ⟨b,o,none⟩)] w (ReadP isName w ps e):=by
 obtain⟨v,hv,ad,c,rfl,hat⟩:=ht.params;have HNL:=zh NL;have HE:=zh henv
 have HT:=zh ht;have HSZ:=zh hsz
 have HAT:=zh hat;have HV:=zh hv
 obtain⟨n,hn⟩:∃ n,n=ps.length:=⟨_,rfl⟩;rw [← hn] at hv hpl;have HN:=zh hn;have HV2:=zh hv
 have HPL:=zh hpl;have hnz:(n:Int)≤6000000000000:=by omega
 have b1:b<w.heap.size:=zs3 w _ hv;have hmm := @run_makeMap Tryz.prog
 clear NL henv ht hsz hat hn hpl;refine(callsIn_wide (n:=3)).1 (callsIn_of_wp_marks Tryz.func58 rfl trivial ?_ rfl);refine wpIn_wide.2 ?_;simp only [Tryz.ntmps58,List.size_toArray,zv2,List.length_nil,Nat.reduceAdd,Nat.reduceSub,Array.replicate_succ,Array.replicate_zero,List.push_toArray,List.append_toArray,List.nil_append,List.cons_append]
 go_upto_region 2 with (fail)
 obtain⟨r0,hr0⟩:∃ r,r=w.heap.size:=⟨_,rfl⟩;obtain⟨W1,hW1⟩:∃ W,W=((((w.alloc (Obj.cells #[.pointer none] 99)).alloc (Obj.cells #[.slice none 0 0,.pointer none,.pointer none] 120)).alloc (Obj.map #[] 0)).alloc (Obj.cells #[.pointer (some ⟨w.heap.size+1,0,none⟩),.slice none 0 0,.slice none 0 0,.slice none 0 0,.map (some (w.heap.size+1+1))] 118)):=⟨_,rfl⟩;obtain⟨m0,m1,m2,m3,mb⟩:=new4 w (Obj.cells #[.pointer none] 99) (Obj.cells #[.slice none 0 0,.pointer none,.pointer none] 120) (Obj.map #[] 0) (Obj.cells #[.pointer (some ⟨w.heap.size+1,0,none⟩),.slice none 0 0,.slice none 0 0,.slice none 0 0,.map (some (w.heap.size+1+1))] 118);rw [← hW1] at m0 m1 m2 m3 mb ⊢;have hz1:W1.heap.size=w.heap.size+4:=by rw [hW1];simp
 rw [← hr0] at m0 m1 m2 m3 hz1 ⊢;have PM:Hid (PMap W1 (r0+2) []):=by
  have h:=PMap.made ((w.alloc (Obj.cells #[.pointer none] 99)).alloc (Obj.cells #[.slice none 0 0,.pointer none,.pointer none] 120));have e:((w.alloc (Obj.cells #[.pointer none] 99)).alloc (Obj.cells #[.slice none 0 0,.pointer none,.pointer none] 120)).heap.size=r0+2:=by simp [hr0]
  rw [e] at h;refine h.keep (m2.trans ?_);have:=World.alloc_heap_new ((w.alloc (Obj.cells #[.pointer none] 99)).alloc (Obj.cells #[.slice none 0 0,.pointer none,.pointer none] 120)) (Obj.map #[] 0);rw [e] at this;exact this.symm
 have M0:=zh m0;have M1:=zh m1
 have M3:=zh m3;have MB:=zh mb
 have HZ1:=zh hz1;have HR0:=zh hr0
 have hv1:=zd mb _ _ hv;have H0:Hid (HdI w r0 ps 0 (.slice none 0 0) W1 (role0 r0)):=⟨mb,m0,m1,m3,PM.out,RR.nil _ _ _ _ _,role0_at r0,fun q hq=>role0_other (.inl hq),fun q hq=>role0_other (.inr (by omega))⟩
 obtain⟨i0,hi0,hz0,hz1',hz2⟩:=info_parts Tryz.info35e;have HI:=zh (And.intro hi0 (And.intro hz0 (And.intro hz1' hz2)));clear m0 m1 m2 m3 mb hz1 hW1 hv hr0 b1 M0 M1 M3 PM MB HZ1 hi0 hz0 hz1' hz2;obtain⟨f,hf⟩:∃ f,f=r0+1+1+1:=⟨_,rfl⟩;obtain⟨pl,hp⟩:∃ pl,pl=r0+1+1:=⟨_,rfl⟩;obtain⟨l0,hl⟩:∃ l,l=r0+1:=⟨_,rfl⟩;rw [← hf,← hp,← hl];have HF:=zh (And.intro hf (And.intro hp hl))
 clear hf hp hl
 go_wp2_with fail
 go_loopg [21] n (fun gk iv wr=>∃ (k:Nat) (svk:Value) (ρ:Nat→Nat),k≤n∧gk=n - k∧iv = .int .i64 k∧HdI w r0 ps k svk wr ρ)
 case atStart=>exact⟨0,_,_,zv3 _,rfl,rfl,H0.out⟩
 case round =>
  obtain⟨k,svk,ρ,hk,hgk,rfl,hI⟩:=hrel;have HGK:=zh hgk;have HIK:=zh hI
  have HKL:=zh hk;clear hI hk hv1 hgk
  by_cases hlt:k<n
  ·obtain⟨g,q,rfl,hat⟩:=HAT.out (by have:=HN.out;omega)
   obtain⟨x,hx⟩:∃ x,ps[k]?=some x:=⟨_,zq9 (by have:=HN.out;omega)⟩
   obtain⟨bm,e0,e1⟩:=hat k x hx;have g0:=zd HIK.out.below _ _ e0;have g1:=zd HIK.out.below _ _ e1
   have hlz:(k:Int)<n:=by omega
   have HLT:=zh hlt;have HX:=zh hx
   clear hat hx hlt e0 e1
   go_upto_region 5 with (fail)
   obtain⟨b5,hb5⟩:∃ b,b=wr.heap.size:=⟨_,rfl⟩;obtain⟨V,hV⟩:∃ V,V=wr.alloc (Obj.cells #[.string x,.bool bm] 70):=⟨_,rfl⟩;rw [← hV,← hb5];have hIV:HdI w r0 ps k svk V ρ:=HIK.out.grow (by rw [hV];exact(zs9 _ _).alloc (zr4 _) _)
   have v5:V.heap[b5]?=some (.cells #[.string x,.bool bm] 70 (0,0)):=by rw [hV,hb5];exact zs2 wr _
   have r5:ρ b5=0:=HIK.out.rho _ (by rw [hb5];exact zr4 _)
   obtain⟨na,nc,hsv⟩:=hIV.row.shape;subst hsv;obtain⟨q0,q1,q2,q3⟩:=hIV.r;have ff:f=r0+3:=HF.out.1;have fl:l0=r0+1:=HF.out.2.2
   have z0:V.cell? ⟨f,0,none⟩=some (.pointer (some ⟨l0,0,none⟩)):=by rw [ff,zb _ _ 0 _ _ _ hIV.b3,fl];rfl
   have z1:V.cell? ⟨b5,0,none⟩=some (.string x):=by rw [zb _ _ 0 _ _ _ v5];rfl
   have z2:V.cell? ⟨l0,0,none⟩=some (.slice na k nc):=by rw [fl,zb _ _ 0 _ _ _ hIV.b1];rfl
   have hb1:f<V.heap.size:=zs3 V _ z0;have hb2:b5<V.heap.size:=zs3 V _ z1
   have hb3:l0<V.heap.size:=zs3 V _ z2;have HFL:=zh (And.intro ff fl)
   have BX:Hid (∀ (V1:World),Below V.heap.size V V1→∀ (W:World) (ρ':Nat→Nat),Ch (· = 4) ρ ρ' V1 W→W.heap[f]?=some (.cells #[.pointer (some ⟨l0,0,none⟩),.slice none 0 0,.slice none 0 0,.slice none 0 0,.map (some pl)] 118 (0,0))∧W.heap[b5]?=some (.cells #[.string x,.bool bm] 70 (0,0))∧W.heap[l0]?=some (.cells #[.slice na k nc,.pointer none,.pointer none] 120 (0,0))):=by
    intro V1 hb W ρ' hc;rw [ff,fl,show pl=r0+1+1 from HF.out.2.1]
    exact⟨hc.keep (zm hb hIV.b3) (by rw [q3];decide),hc.keep (zm hb v5) (by rw [r5];decide),hc.keep (zm hb hIV.b1) (by rw [q1];decide)⟩
   have HIV:=zh hIV;have hne1:l0≠f:=by omega
   have hne2:l0≠b5:=by have:=(zq7.1 HIK.out.b1).1;omega
   have RW:Hid (∀ V1:World,Below V.heap.size V V1→RR V1 ρ 4 9 1 (.slice na k nc) k (strs (ps.take k))):=fun V1 hb=>hIV.row.keep (Ch.of_below (M:=fun _=>False) hb hIV.rho) id
   have RH:Hid (∀ V1:World,Below V.heap.size V V1→∀ q,V1.heap.size≤q→ρ q=0):=fun V1 hb q hq=>hIV.rho q (zr5 hb.size hq)
   clear hV hb5 hIV v5 r5 q0 q1 q2 q3 ff fl;have B1:Hid (Below V.heap.size V ((V.alloc (Obj.cells #[.string x] 9)).drew)):=((zs9 _ _).alloc (zr4 _) _).drew;have X1:=zh (show ((V.alloc (Obj.cells #[.string x] 9)).drew).heap[V.heap.size]?=some (.cells #[.string x] 9 (0,0)) from zs2 V (.cells #[.string x] 9))
   refine wp_region_noPanic ?_;refine wp_region_part (S:=fun w'=>w'.cell? ⟨f,0,none⟩=some (.pointer (some ⟨l0,0,none⟩))∧w'.cell? ⟨b5,0,none⟩=some (.string x)∧w'.cell? ⟨l0,0,none⟩=some (.slice na k nc)) [true,true,true,true,true,true,true,true,true,true,true,true,true,false,false] (by kernel_rfl) (by kernel_rfl) (fun _ _ d _ _ h=>by cases d<;>exact h) ⟨z0,z1,z2⟩ ?_
   iterate 13 (refine wpRd_step (v:=?_) (Or.inl ⟨by rfl,?_⟩) ?_;rotate_left;(intro wz hSw;obtain⟨k0,k1,k2⟩:=hSw;go_simp;try with_reducible rfl);try simp only [Act.put,zq4,zq5,zq6])
   refine wpEf_step (fun K hK=>?_)
   go_simp
   refine hK.out _ _ ⟨zs4 _ z0,zs4 _ z1,zs4 _ z2⟩ (fun hHeld=>?_)
   clear hK K hHeld
   try simp only [Act.put,zq4,zq5,zq6]
   refine wpEf_step (fun K hK=>?_)
   refine step_append_rr rfl _ _ 35 rfl 9 i0 (.string ⟨#[]⟩) 1 16 Tryz.underlying35 HI.out.1 HI.out.2.1 HI.out.2.2.1 HI.out.2.2.2 rfl (by decide) ρ 4 (.slice na k nc) k (strs (ps.take k)) rfl (RW.out _ B1.out) (RH.out _ B1.out) ⟨V.heap.size,0,none⟩ 1 1 [.string x] rfl rfl (by (intro j u hu;rw [Addr.add_lit,zb _ _ _ _ _ _ X1.out];match j,hu with | 0,hu=>simpa using hu | j+1,hu=>simp at hu)) (by (intro u hu;simp at hu;subst hu;rfl)) (by (have:=HPL.out;have:=HKL.out;simp only [maxLen];omega)) (by (have:=HPL.out;have:=HKL.out;omega)) ?_
   intro a4 c4 w4 ρ4 hr4 hc4 hf4;have R4:=zh hr4;have C4:=zh hc4
   clear hr4 hc4 hf4;obtain⟨y0,y1,y2⟩:=BX.out _ B1.out _ _ C4.out;have t0:w4.cell? ⟨f,0,none⟩=some (.pointer (some ⟨l0,0,none⟩)):=by (rw [zb _ _ 0 _ _ _ y0];rfl)
   have t1:w4.cell? ⟨b5,0,none⟩=some (.string x):=by (rw [zb _ _ 0 _ _ _ y1];rfl)
   have t2:w4.cell? ⟨l0,0,none⟩=some (.slice na k nc):=by (rw [zb _ _ 0 _ _ _ y2];rfl)
   have t3:w4.frozen? ⟨l0,0,none⟩=false:=zs1 _ _ 0 _ _ y2;clear y0 y1 y2;refine hK.out _ _ ⟨t0,t1,t2⟩ (fun hHeld=>?_)
   clear hK K hHeld
   try simp only [Act.put,zq4,zq5,zq6]
   refine wpEf_nil ?_;simp only [behind]
   go_wp2_with fail
   refine NoPanic.normal ?_
   go_wp2_with fail
   go_roundg (n - (k+1))
   case measure=>have:=HGK.out;have:=HLT.out;omega
   case rel=>exact⟨k+1,_,ρ4,HLT.out,rfl,by go_num,by rw [HFL.out.2];exact HdI.step (HIV.out.grow B1.out) (by have:=HR0.out;omega) HX.out C4.out R4.out⟩
  have hlz:(n:Int)≤k:=by omega
  have HKE:Hid (k=n):=by have:=HKL.out;show _=_;omega
  have hv2:=zd HIK.out.below _ _ HV2.out;clear hlt;have ff:f=r0+3:=HF.out.1
  have fl:l0=r0+1:=HF.out.2.2
  by_cases h16:n≤16
  ·have d16:decide (16<(n:Int))=false:=by simp;omega
   have z0:wr.cell? ⟨f,0,none⟩=some (.pointer (some ⟨l0,0,none⟩)):=by rw [ff,zb _ _ 0 _ _ _ HIK.out.b3,fl];rfl
   have H16:=zh h16;have HFL:=zh (And.intro ff fl)
   clear h16 ff fl;have hbf:f<wr.heap.size:=zs3 wr _ z0
   go_upto_region 9 with (fail)
   go_cut [6] from 16 (fun v6 wc=>LpI isName w ps e f r0 (F0 ps e).length v6 [] wc)
   case first =>
    go_region_held3 (fun w'=>w'.cell? ⟨f,0,none⟩=some (.pointer (some ⟨l0,0,none⟩))) (first | exact z0 | assumption | go_keep) (fail)
    all_goals
     go_wp2_with fail
     go_meet
     case rel=>first | exact LpI.start1 (by have h:=HIK.out;rw [HKE.out] at h;exact h) HR0.out HN.out H16.out HF.out HT.out | exact LpI.start2 (by have h:=HIK.out;rw [HKE.out] at h;exact h) HR0.out HN.out H16.out HF.out HT.out
   case rest =>
    have HLP:=zh hcut;clear hcut z0 hbf hv2 d16
    go_wp2_with fail
    refine wp_loop_ghost_k (fun gk a' W=>∃ (u4 u5 u6 u7 u8 u9 u10 u11 u12 u13 u14 u15 u16 u17 u18 u19 u20 u21 u22 u23 u24 u25 u26 u27 u28 u29 u30 u31 u32 u33 u34 u35 u36 u37 u38 u39 u40 u41 u42 u43 u44 u45 u46 u47 u48 u49 u50 u51 u52 u53 u54 u55 u56 u57 u58 u59 u60 u61 u62 u63 u64 u65 u66 u67 u68 u69 u70 u71 u72 u73 u74 u75 u76 u77 u78 u79 u80 u81 u82 u83 u84 u85 u86 u87 u88 u89 u90 u91 u92 u93 u94 u95 u96 u97 u98 u99 u100 u101 u102 u103 u104 u105 u106 u107 u108 u109 u110 u111 u112 u113 u114 u115 u116 u117 u118 u119 u120 u121 u122 u123 u124 u125 u126 u127 u128 u129 u130 u131 u132 u133 u134 u135 u136 u137 u138 u139 u140 u141 u142 u143 u144 u145 u146 u147 u148 u149 u150 u151 u152 u153 u154 u155 u156:Value) (ds:List Deferred),LpI isName w ps e f r0 gk u6 ds W∧a'={ tmps := #[.pointer (some ⟨b,o,none⟩),undef,.pointer (some ⟨r0,0,none⟩),.pointer (some ⟨f,0,none⟩),u4,u5,u6,u7,u8,u9,u10,u11,u12,u13,u14,u15,u16,u17,u18,u19,u20,u21,u22,u23,u24,u25,u26,u27,u28,u29,u30,u31,u32,u33,u34,u35,u36,u37,u38,u39,u40,u41,u42,u43,u44,u45,u46,u47,u48,u49,u50,u51,u52,u53,u54,u55,u56,u57,u58,u59,u60,u61,u62,u63,u64,u65,u66,u67,u68,u69,u70,u71,u72,u73,u74,u75,u76,u77,u78,u79,u80,u81,u82,u83,u84,u85,u86,u87,u88,u89,u90,u91,u92,u93,u94,u95,u96,u97,u98,u99,u100,u101,u102,u103,u104,u105,u106,u107,u108,u109,u110,u111,u112,u113,u114,u115,u116,u117,u118,u119,u120,u121,u122,u123,u124,u125,u126,u127,u128,u129,u130,u131,u132,u133,u134,u135,u136,u137,u138,u139,u140,u141,u142,u143,u144,u145,u146,u147,u148,u149,u150,u151,u152,u153,u154,u155,u156],defers:=ds }) (F0 ps e).length ?start ?round
    case start=>(repeat apply Exists.intro);exact⟨HLP.out,rfl⟩
    case round =>
     clear HLP HIK HKL HKE;intro gk a' wr hinv;obtain⟨u4,u5,u6,u7,u8,u9,u10,u11,u12,u13,hinv⟩:=hinv;obtain⟨u14,u15,u16,u17,u18,u19,u20,u21,u22,u23,hinv⟩:=hinv;obtain⟨u24,u25,u26,u27,u28,u29,u30,u31,u32,u33,hinv⟩:=hinv;obtain⟨u34,u35,u36,u37,u38,u39,u40,u41,u42,u43,hinv⟩:=hinv;obtain⟨u44,u45,u46,u47,u48,u49,u50,u51,u52,u53,hinv⟩:=hinv;obtain⟨u54,u55,u56,u57,u58,u59,u60,u61,u62,u63,hinv⟩:=hinv;obtain⟨u64,u65,u66,u67,u68,u69,u70,u71,u72,u73,hinv⟩:=hinv;obtain⟨u74,u75,u76,u77,u78,u79,u80,u81,u82,u83,hinv⟩:=hinv;obtain⟨u84,u85,u86,u87,u88,u89,u90,u91,u92,u93,hinv⟩:=hinv;obtain⟨u94,u95,u96,u97,u98,u99,u100,u101,u102,u103,hinv⟩:=hinv;obtain⟨u104,u105,u106,u107,u108,u109,u110,u111,u112,u113,hinv⟩:=hinv;obtain⟨u114,u115,u116,u117,u118,u119,u120,u121,u122,u123,hinv⟩:=hinv;obtain⟨u124,u125,u126,u127,u128,u129,u130,u131,u132,u133,hinv⟩:=hinv;obtain⟨u134,u135,u136,u137,u138,u139,u140,u141,u142,u143,hinv⟩:=hinv;obtain⟨u144,u145,u146,u147,u148,u149,u150,u151,u152,u153,hinv⟩:=hinv;obtain⟨u154,u155,u156,hinv⟩:=hinv;obtain⟨ds,hrel,ha⟩:=hinv;subst ha;intro J K hJ hK;obtain⟨A,sc,j,stk,names,sl,sn,sv,vs,ρj,Ds,⟨hgk,hj,rfl,rfl⟩,hmk,hS,hstk,hnx,h16,hnm,hsl,hrd⟩:=hrel;have LGK:=zh hgk;have LJ:=zh hj
     have LMK:=zh hmk;have LS:=zh hS
     have LST:=zh hstk;have LNX:=zh hnx
     have L16:=zh h16;have LNM:=zh hnm
     have LRD:=zh hrd;have LSL:=zh hsl
     have y3:wr.cell? ⟨r0,0,none⟩=some (.pointer none):=by rw [zb _ _ 0 _ _ _ hS.res];rfl
     have y4:wr.frozen? ⟨r0,0,none⟩=false:=zs1 _ _ 0 _ _ hS.res;have y5:=hS.sck
     clear hgk hj hmk hstk hnx h16 hnm hrd hsl;cases stk with
     | nil =>
      obtain⟨a0,c0,hvs⟩:=hS.stk.shape;have y6:wr.cell? ⟨sc,0,none⟩=some (.slice a0 0 c0):=by rw [zb _ _ 0 _ _ _ y5,hvs];rfl
      obtain⟨e1,e2,e3,e4,e5⟩:=rd_end LRD.out LST.out;have FIN:Hid (FlIn wr A f (F0 ps e)):=RdS.flow hS e1 LJ.out LNM.out e2 e4 e3 HSZ.out;have H3:=zh (And.intro e1 (And.intro e4 e5))
      clear hvs e1 e2 e3 e4 e5 y3 y4 y5 hS
      go_wp2_with fail
      refine(flow_any FIN.out).mono ?_;rintro en w1 ⟨hfq,rfl,hfl⟩;have LFQ:=zh hfq;have LFL:=zh hfl
      have hres:w1.heap[r0]?=some (.cells #[.pointer none] 99 (0,0)):=hfq.obj FIN.out.sets LS.out.res;have RES:=zh hres
      have y3:w1.cell? ⟨r0,0,none⟩=some (.pointer none):=by rw [zb _ _ 0 _ _ _ hres];rfl
      have y4:w1.frozen? ⟨r0,0,none⟩=false:=zs1 _ _ 0 _ _ hres;have hmk1:Mk w Ds w1 ρj:=⟨LMK.out.1,fun D hD=>by
       obtain⟨d1,d2,d3⟩:=LMK.out.2 D hD;refine⟨d1,d2,(hfq.block D (zq7.1 d3).1 fun hs=>?_).trans d3⟩
       obtain⟨es,cl,hm⟩:=FIN.out.sets D hs;rw [d3] at hm;cases hm⟩
      have LMK1:=zh hmk1;have hbl:Below w.heap.size wr w1:=hfq.below LS.out.k.below.size fun q hs=>by
       obtain⟨i,hi,rfl⟩:=hs;refine Nat.le_of_not_lt fun hlt=>?_
       have h8:=(LS.out.k.live i (by have:=H3.out.1;omega)).1
       have:=LS.out.k.low _ hlt;omega
      have LBL:Hid (Below w.heap.size w w1):=LS.out.k.below.trans hbl;clear hfq hfl hres hmk1 hbl y6;have NAR:Hid (ps.length≤16):=by have:=H16.out;have:=HN.out;show _≤_;omega
      have hr0':w.heap.size≤r0:=by have:=HR0.out;omega
      cases hfb:flowB (F0 ps e) with
      | false =>
       have NG:Hid (¬ RG.Good isName ps e):=fun hg=>by have:=(good_rd.1 hg).2.2;rw [hfb] at this;cases this
       clear hfb
       go_wp2_with fail
       refine leave_marks (LMK1.out.setCell ⟨r0,0,none⟩ _ RES.out) fun W' hb hsame=>?_
       have hnr:r0∉Ds:=fun hD=>by have:=(LMK1.out.2 _ hD).2.2;rw [RES.out] at this;cases this
       have u0:W'.cell? ⟨r0,0,none⟩=some (.pointer none):=by rw [zb _ _ 0 _ _ _ ((hsame _ hnr).trans (heap_setCell_same w1 _ 0 _ _ _ RES.out))];rfl
       exact⟨.pointer none,by simp [results,Tryz.results58,go_sem,u0],(LBL.out.setCell hr0' _).trans hb,.inr ⟨NG.out,rfl⟩⟩
      | true =>
       have GD:Hid (RG.Good isName ps e):=good_rd.2 ⟨NAR.out,H3.out.2.2,hfb⟩;have FA:Hid (FlatAt w1 A f (F0 ps e)):=LFL.out hfb
       clear hfb
       go_wp2_with fail
       refine leave_marks (LMK1.out.setCell ⟨r0,0,none⟩ _ RES.out) fun W' hb hsame=>?_
       have hnr:r0∉Ds:=fun hD=>by have:=(LMK1.out.2 _ hD).2.2;rw [RES.out] at this;cases this
       have hr2:=heap_setCell_same w1 r0 0 _ _ (.pointer (some ⟨f,0,none⟩)) RES.out;have u0:W'.cell? ⟨r0,0,none⟩=some (.pointer (some ⟨f,0,none⟩)):=by rw [zb _ _ 0 _ _ _ ((hsame _ hnr).trans hr2)];rfl
       have hBW:Below w.heap.size w W':=(LBL.out.setCell hr0' _).trans hb;refine⟨.pointer (some ⟨f,0,none⟩),by simp [results,Tryz.results58,go_sem,u0],hBW,.inl ⟨GD.out,A,f,rfl,FlatAt.past FA.out RES.out (fun q ob hq ho hc=>?_) (fun i hi=>TEAt.kept (zd hBW) _ _ _ (LS.out.k.exp i (.inl (by have:=H3.out.1;omega)))),good_fo GD.out,FIN.out.few,FIN.out.len⟩⟩
       have hnD:q∉Ds:=fun hD=>by
        have:=(LMK1.out.2 _ hD).2.2;rw [ho,zt3] at this;subst this;rcases hc with hc | hc<;>cases hc
       exact(hsame _ hnD).trans ((zt1 w1 _ _ q hq).trans ho)
     | cons p0 stk =>
      obtain⟨bs,e1⟩:=p0;obtain⟨hjF,hnd,hz1,hKr⟩:=stk_top LST.out;obtain⟨K',hK'⟩:∃ K',K'=nums (j+e1.size) stk:=⟨_,rfl⟩;have hnums:nums j ((bs,e1) :: stk)=j :: K':=by rw [nums,hK']
      rw [hnums] at hS LS LNX L16;obtain⟨m,hm⟩:∃ m,m=K'.length:=⟨_,rfl⟩;obtain⟨t,htm⟩:∃ t,t=m+1:=⟨_,rfl⟩;have hlen:(j :: K').length=t:=by rw [zv2,htm,hm]
      have hstk:=hS.stk;rw [hlen] at hstk;obtain⟨a0,c0,hvs⟩:=hstk.shape;subst hvs;obtain⟨g,rfl,hg,htc,hcm,hcell⟩:=hstk.cell (by omega)
      have y6:wr.cell? ⟨sc,0,none⟩=some (.slice (some ⟨g,0,none⟩) t c0):=by rw [zb _ _ 0 _ _ _ y5];rfl
      have y7:wr.cell? ⟨g,m*2,none⟩=some (.pointer (some ⟨A.lb j,0,none⟩)):=hcell _ _ (by rw [todos_cons,List.getElem?_append_right (by rw [todos_length];omega),todos_length,← hm,Nat.sub_self];rfl)
      have y8:wr.cell? ⟨g,m*2+1,none⟩=some (.pointer (some ⟨A.xb j,A.xo j,none⟩)):=hcell _ _ (by rw [todos_cons,List.getElem?_append_right (by rw [todos_length];omega),todos_length,← hm,show m*2+1 - m*2=1 from by omega];rfl)
      have y9:wr.frozen? ⟨sc,0,none⟩=false:=zs1 _ _ 0 _ _ y5;have t1:(0:Int)<t:=by omega
      have t2:(t:Int) - 1=m:=by omega
      have t3:(m:Int)<t:=by omega
      have t4:(t:Int)≤9223372036854775807:=by unfold maxLen at hcm;omega
      have t5:(m:Int)≤c0:=by omega
      have t6:m≤c0:=by omega
      have t7:m<t:=by omega
      have hsl:sc<wr.heap.size:=(zq7.1 y5).1;have hgl:g<wr.heap.size:=zs3 wr _ y7
      have HK:=zh (And.intro hK' (And.intro hm htm));have HND:=zh hnd
      have HJF:=zh hjF;have HSK:=zh hstk
      have HKR:=zh hKr;have HZ1:=zh hz1
      clear hK' hnums hm htm hlen hstk hcell hg htc hcm hnd hjF hz1 hKr y3 y4 hS;have Y5:=zh y5;clear y5
      go_upto_region 13 with (fail)
      obtain⟨b7,hb7⟩:∃ b,b=wr.heap.size:=⟨_,rfl⟩;obtain⟨W2,hW2⟩:∃ W,W=(wr.setCell ⟨sc,0,none⟩ (.slice (some ⟨g,0,none⟩) m c0)).alloc (Obj.cells #[.pointer (some ⟨A.lb j,0,none⟩),.pointer (some ⟨A.xb j,A.xo j,none⟩)] 159):=⟨_,rfl⟩;rw [← hW2,← hb7];have S2:Hid (RdS w A (F0 ps e) f sc r0 j (j :: K') K' names sl sn sv (.slice (some ⟨g,0,none⟩) m c0) j j W2 ρj):=by
       have h:=LS.out;rw [show t=K'.length+1 from by have:=HK.out;omega] at h
       have h2:=h.pop (a:=0);rw [← HK.out.2.1] at h2;rw [hW2];exact h2.grow ((zs9 _ _).alloc (zr4 _) _)
      have D7:Hid (W2.heap[b7]?=some (.cells #[.pointer (some ⟨A.lb j,0,none⟩),.pointer (some ⟨A.xb j,A.xo j,none⟩)] 159 (0,0))):=by
       rw [hW2,hb7];have:=zs2 (wr.setCell ⟨sc,0,none⟩ (.slice (some ⟨g,0,none⟩) m c0)) (.cells #[.pointer (some ⟨A.lb j,0,none⟩),.pointer (some ⟨A.xb j,A.xo j,none⟩)] 159)
       rwa [World.size_setCell] at this
      have R7:Hid (ρj b7=0):=LS.out.k.rho _ (by rw [hb7];exact zr4 _)
      have M2:Hid (Mk w Ds W2 ρj):=by
       rw [hW2];exact(LMK.out.setCell ⟨sc,0,none⟩ _ Y5.out).grow ((zs9 _ _).alloc (zr4 _) _)
      clear hW2 hb7 y6 y7 y8 y9 t1 t2 t3 t4 t5 t6 t7 hsl hgl;obtain⟨na,nc,hsn⟩:=S2.out.rn.shape;subst hsn;have x2:W2.cell? ⟨f,2,none⟩=some (.slice na j nc):=by rw [zb _ _ 2 _ _ _ S2.out.nms.fb];rfl
      by_cases hj20:j=20000
      ·have d20:((j:Int)==20000)=true:=by simp;omega
       have NG:Hid (¬ RG.Good isName ps e):=rd_none LRD.out (rd_many hj20 HJF.out);have RES:=zh S2.out.res
       have y3:W2.cell? ⟨r0,0,none⟩=some (.pointer none):=by rw [zb _ _ 0 _ _ _ RES.out];rfl
       have y4:W2.frozen? ⟨r0,0,none⟩=false:=zs1 _ _ 0 _ _ RES.out;have LMV:=zh M2.out
       clear hj20
       go_wp2_with fail
       refine leave_marks (LMV.out.setCell ⟨r0,0,none⟩ _ RES.out) fun W' hb hsame=>?_
       have hnr:r0∉Ds:=fun hD=>by have:=(LMV.out.2 _ hD).2.2;rw [RES.out] at this;cases this
       have u0:W'.cell? ⟨r0,0,none⟩=some (.pointer none):=by rw [zb _ _ 0 _ _ _ ((hsame _ hnr).trans (heap_setCell_same _ _ 0 _ _ _ RES.out))];rfl
       exact⟨.pointer none,by simp [results,Tryz.results58,go_sem,u0],((S2.out.k.below).setCell (by have:=HR0.out;show _≤r0;omega) _).trans hb,.inr ⟨NG.out,rfl⟩⟩
      have d20:((j:Int)==20000)=false:=by simp;omega
      have HJ20:Hid (j<20000):=by have:=LJ.out;show _<_;omega
      have TE0:Hid (TEAt w e1 (A.xb j) (A.xo j)):=by
       have:=S2.out.k.exp j (.inr zr7);rw [HND.out] at this;exact this
      have TE1:Hid (TEAt W2 e1 (A.xb j) (A.xo j)):=by
       have:=S2.out.k.exp j (.inr zr7);rw [HND.out] at this;exact TEAt.kept (zd S2.out.k.below) _ _ _ this
      have z7:W2.cell? ⟨b7,1,none⟩=some (.pointer (some ⟨A.xb j,A.xo j,none⟩)):=by rw [zb _ _ 1 _ _ _ D7.out];rfl
      have z6:W2.cell? ⟨b7,0,none⟩=some (.pointer (some ⟨A.lb j,0,none⟩)):=by rw [zb _ _ 0 _ _ _ D7.out];rfl
      obtain⟨hlr,lsv,lxv,hlb,hlrow,hlx⟩:=S2.out.k.link j (.inr zr7);rw [HND.out] at hlrow;rw [if_neg (Nat.lt_irrefl j)] at hlb;have HLB:=zh hlb;have HLROW:=zh hlrow
      have HLX:=zh hlx;have HLR:=zh hlr
      have z8:W2.cell? ⟨A.lb j,0,none⟩=some lsv:=by rw [zb _ _ 0 _ _ _ hlb];rfl
      clear hj20 hlr hlb hlrow hlx;cases hfm:e1.form with
      | false =>
       have NG:Hid (¬ RG.Good isName ps e):=rd_none LRD.out (rd_form hfm HJF.out);have IFO:Hid (Calls Tryz.prog 86 #[.pointer (some ⟨A.xb j,A.xo j,none⟩)] W2 (Go.Proofs.YtnkahlloahgifaaGreatDoor.RdP W2 (.bool false))):=by have:=isForm_any TE1.out;rw [hfm] at this;exact this
       clear hfm
       go_wp2_with fail
       refine IFO.out.mono ?_;rintro en w1 ⟨rfl,q1,rfl⟩;have RES:Hid ((W2.drewN q1).heap[r0]?=some (.cells #[.pointer none] 99 (0,0))):=S2.out.res;have LMV:Hid (Mk w Ds (W2.drewN q1) ρj):=M2.out.grow (zj _ _ _)
       have y3:(W2.drewN q1).cell? ⟨r0,0,none⟩=some (.pointer none):=by rw [zb _ _ 0 _ _ _ RES.out];rfl
       have y4:(W2.drewN q1).frozen? ⟨r0,0,none⟩=false:=zs1 _ _ 0 _ _ RES.out
       go_wp2_with fail
       refine leave_marks (LMV.out.setCell ⟨r0,0,none⟩ _ RES.out) fun W' hb hsame=>?_
       have hnr:r0∉Ds:=fun hD=>by have:=(LMV.out.2 _ hD).2.2;rw [RES.out] at this;cases this
       have u0:W'.cell? ⟨r0,0,none⟩=some (.pointer none):=by rw [zb _ _ 0 _ _ _ ((hsame _ hnr).trans (heap_setCell_same _ _ 0 _ _ _ RES.out))];rfl
       exact⟨.pointer none,by simp [results,Tryz.results58,go_sem,u0],((S2.out.k.below.trans (zj _ _ _)).setCell (by have:=HR0.out;show _≤r0;omega) _).trans hb,.inr ⟨NG.out,rfl⟩⟩
      | true =>
       have IFO:Hid (Calls Tryz.prog 86 #[.pointer (some ⟨A.xb j,A.xo j,none⟩)] W2 (Go.Proofs.YtnkahlloahgifaaGreatDoor.RdP W2 (.bool true))):=by have:=isForm_any TE1.out;rw [hfm] at this;exact this
       have HFM:=zh hfm;clear hfm
       go_wp2_with fail
       refine IFO.out.mono ?_;rintro en w1 ⟨rfl,q1,hw1⟩;have hb1:Below W2.heap.size W2 w1:=by rw [hw1];exact zj _ _ _
       have S3:=zh (S2.out.grow hb1);have M3:=zh (M2.out.grow hb1)
       have D73:=zh (zm hb1 D7.out);have HLB3:=zh (zm hb1 HLB.out)
       have HLROW3:Hid (RowIn w1 ρj lsv bs.length (strs bs)):=(Kp.of_below (S:=fun _=>False) hb1 S2.out.k.rho).row HLROW.out (fun _ _ h=>h)
       have z6:w1.cell? ⟨b7,0,none⟩=some (.pointer (some ⟨A.lb j,0,none⟩)):=by rw [zb _ _ 0 _ _ _ D73.out];rfl
       have z8:w1.cell? ⟨A.lb j,0,none⟩=some lsv:=by rw [zb _ _ 0 _ _ _ HLB3.out];rfl
       clear hb1 hw1 x2 z7 IFO
       go_wp2_with fail
       have h10:=HNL.out.size _ HE.out;refine(bind_any HNL.out (w:=w1) (ρ:=ρj) (HNL.out.keep w.heap.size w w1 h10 HE.out S3.out.k.below) (fun q hq=>S3.out.k.low q (by omega)) S3.out.nms (fun W' ρ' hc=>((Kp.of_ch hc).row HLROW3.out (fun q e hs=>by rcases hs with hs | hs | hs<;>omega)).sl) ?_ ?_).mono ?_
       ·intro x hx
        have:=(HSZ.out _ (nd_mem HJF.out)).1;rw [HND.out] at this;exact this x hx
       ·have h16:=L16.out j zr7
        rw [HND.out] at h16;have:=LNM.out;have:=HJ20.out
        simp only [] at h16;omega
       rintro en w2 hbd;unfold BdP at hbd;clear z6 z8;cases hq:bindOk isName names bs with
       | none =>
        rw [hq] at hbd;obtain⟨rfl,ρ2,hc2⟩:=hbd;have NG:Hid (¬ RG.Good isName ps e):=rd_none LRD.out (rd_bind hq HJF.out);have C2:=zh hc2
        have RES:Hid (w2.heap[r0]?=some (.cells #[.pointer none] 99 (0,0))):=hc2.keep S3.out.res (by rw [S3.out.rrs];unfold MB;decide)
        have LMV:Hid (Mk w Ds w2 ρ2):=M3.out.ch hc2 (by unfold MB;decide)
        have y3:w2.cell? ⟨r0,0,none⟩=some (.pointer none):=by rw [zb _ _ 0 _ _ _ RES.out];rfl
        have y4:w2.frozen? ⟨r0,0,none⟩=false:=zs1 _ _ 0 _ _ RES.out;clear hc2 hq
        go_wp2_with fail
        refine leave_marks (LMV.out.setCell ⟨r0,0,none⟩ _ RES.out) fun W' hb hsame=>?_
        have hnr:r0∉Ds:=fun hD=>by have:=(LMV.out.2 _ hD).2.2;rw [RES.out] at this;cases this
        have u0:W'.cell? ⟨r0,0,none⟩=some (.pointer none):=by rw [zb _ _ 0 _ _ _ ((hsame _ hnr).trans (heap_setCell_same _ _ 0 _ _ _ RES.out))];rfl
        exact⟨.pointer none,by simp [results,Tryz.results58,go_sem,u0],((S3.out.k.below.trans (S3.out.below C2.out (by unfold MB;decide))).setCell (by have:=HR0.out;show _≤r0;omega) _).trans hb,.inr ⟨NG.out,rfl⟩⟩
       | some ns =>
        rw [hq] at hbd;obtain⟨rfl,ρ2,sv2,hnms2,hc2,hnew2⟩:=hbd;have HBK:=zh hq;have C2:=zh hc2
        have S4:=zh (S3.out.bound hc2 hnms2);have M4:Hid (Mk w Ds w2 ρ2):=M3.out.ch hc2 (by unfold MB;decide)
        have D74:Hid (w2.heap[b7]?=some (.cells #[.pointer (some ⟨A.lb j,0,none⟩),.pointer (some ⟨A.xb j,A.xo j,none⟩)] 159 (0,0))):=hc2.keep D73.out (by rw [R7.out];unfold MB;decide)
        have R74:Hid (ρ2 b7=0):=(hc2.keepRole D73.out).trans R7.out;have z6:w2.cell? ⟨b7,0,none⟩=some (.pointer (some ⟨A.lb j,0,none⟩)):=by rw [zb _ _ 0 _ _ _ D74.out];rfl
        have z7:w2.cell? ⟨b7,1,none⟩=some (.pointer (some ⟨A.xb j,A.xo j,none⟩)):=by rw [zb _ _ 1 _ _ _ D74.out];rfl
        clear hq hnms2 hc2 hnew2 HLROW3 HLB3 D73 HLROW HLB HLX HLR
        go_upto_region 16 with (fail)
        obtain⟨nb,hnb⟩:∃ x,x=w2.heap.size+1:=⟨_,rfl⟩;obtain⟨mb,hmb⟩:∃ x,x=w2.heap.size:=⟨_,rfl⟩;have hS5:=S4.out.noded (zr4 j) LNX.out (.pointer (some ⟨A.xb j,A.xo j,none⟩));have hE6:=Ex.start S4.out zr7 M4.out D74.out R74.out
        obtain⟨W5,hW5⟩:∃ W,W=(w2.alloc (Obj.map #[] 0)).alloc (Obj.cells #[.pointer (some ⟨A.xb j,A.xo j,none⟩),.slice none 0 0,.map (some w2.heap.size)] 110):=⟨_,rfl⟩;rw [HND.out,← hW5,← hnb,← hmb] at hE6;rw [← hW5,← hnb,← hmb] at hS5;rw [← hW5,← hnb,← hmb];obtain⟨ρ5,hρ5⟩:∃ r,r=roleAt (roleAt ρ2 mb 8) nb 3:=⟨_,rfl⟩;rw [← hρ5] at hS5 hE6;obtain⟨A5,hA5⟩:∃ A5,A5=A.node j nb mb:=⟨_,rfl⟩;rw [← hA5] at hS5;have EA:Hid (A5.lb=A.lb∧A5.xb=A.xb∧A5.xo=A.xo∧A5.pl=A.pl∧A5.nb j=nb∧A5.mb j=mb∧(∀ i,i≠j→A5.nb i=A.nb i∧A5.mb i=A.mb i)):=by rw [hA5];exact⟨rfl,rfl,rfl,rfl,if_pos rfl,if_pos rfl,fun i hi=>⟨if_neg hi,if_neg hi⟩⟩
        have NBM:Hid (∀ i,i<j→A.nb i≠nb∧A.mb i≠mb):=fun i hi=>by
         obtain⟨_,_,h1,_⟩:=S4.out.k.node i hi;have h2:=(S4.out.k.live i hi).2.lt;have h3:=(zq7.1 h1).1
         exact⟨by omega,by omega⟩
        have hlk:=hS5.k.link j (.inr zr7);rw [if_neg (Nat.lt_irrefl j),EA.out.1] at hlk;obtain⟨hlr,lsv5,lxv5,hlb5,_,_⟩:=hlk;have hNE:∀ i,i<j∨i∈K'→A5.lb i≠A5.lb j:=fun i hi e=>by
         have h1:=hS5.k.lin i j (hi.imp id (zr8 _)) (.inr zr7) e;subst h1;rcases hi with hi | hi
         ·omega
         have:=(HKR.out i (by rw [← HK.out.1];exact hi)).1
         have:=HZ1.out;omega
        have NEQ:=zh hNE;have hS6:=hS5.linkTo (K':=K') (v := .pointer (some ⟨nb,0,none⟩)) (by rw [EA.out.1];exact hlr) (fun k hk=>zr8 _ hk) hNE
        rw [EA.out.1] at hS6;have S6:=zh hS6;have E6:=zh hE6
        have D75:Hid (W5.heap[b7]?=some (.cells #[.pointer (some ⟨A.lb j,0,none⟩),.pointer (some ⟨A.xb j,A.xo j,none⟩)] 159 (0,0))):=by
         rw [hW5];exact zm (((zs9 _ _).alloc (zr4 _) _).alloc (by simp) _) D74.out
        have z6:W5.cell? ⟨b7,0,none⟩=some (.pointer (some ⟨A.lb j,0,none⟩)):=by rw [zb _ _ 0 _ _ _ D75.out];rfl
        have z8:W5.cell? ⟨A.lb j,2,none⟩=some (.pointer none):=by rw [zb _ _ 2 _ _ _ hlb5];rfl
        have z9:W5.frozen? ⟨A.lb j,2,none⟩=false:=zs1 _ _ 2 _ _ hlb5;clear hnb hmb hS5 hE6 hW5 hρ5 hA5 hlr hlb5 hNE hS6 z7
        go_upto_region 17 with (fail)
        obtain⟨W6,hW6⟩:∃ W,W=W5.setCell ⟨A.lb j,2,none⟩ (.pointer (some ⟨nb,0,none⟩)):=⟨_,rfl⟩;rw [← hW6];rw [← hW6] at S6 E6;have x2:W6.cell? ⟨f,2,none⟩=some (.slice na j nc):=by rw [zb _ _ 2 _ _ _ S6.out.nms.fb];rfl
        have bf6:f<W6.heap.size:=zs3 W6 _ x2;clear hW6 z6 z8 z9;have S6a:=zh (S6.out.grow ((zs9 _ _).alloc (zr4 _) (.cells #[.pointer (some ⟨nb,0,none⟩)] 100)))
        have E6a:=zh (E6.out.grow ((zs9 _ _).alloc (zr4 _) (.cells #[.pointer (some ⟨nb,0,none⟩)] 100)) S6.out.k.rho);have X6:=zh (zs2 W6 (.cells #[.pointer (some ⟨nb,0,none⟩)] 100))
        obtain⟨i1,hi1,hz1a,hz1b,hz1c⟩:=info_parts Tryz.info100r;have HI1:=zh (And.intro hi1 (And.intro hz1a (And.intro hz1b hz1c)));clear hi1 hz1a hz1b hz1c;have NEWS6:Hid (∀ (q:Nat) (u:Value),[Value.pointer (some ⟨nb,0,none⟩)][q]?=some u→(W6.alloc (.cells #[.pointer (some ⟨nb,0,none⟩)] 100)).cell? ((⟨W6.heap.size,0,none⟩:Addr).add q)=some u):=fun q u hu=>by
         rw [Addr.add_lit,zb _ _ _ _ _ _ X6.out]
         match q,hu with
         | 0,hu=>simpa using hu
         | q+1,hu=>simp at hu
        have ONE6:Hid (∀ u∈[Value.pointer (some ⟨nb,0,none⟩)],u.oneCell'=true):=fun u hu=>by simp at hu;subst hu;rfl
        have L6a:Hid (j+1≤maxLen):=by have:=HJ20.out;show _≤_;simp only [maxLen];omega
        have L6b:Hid ((j+1)*8≤140737488355328):=by have:=HJ20.out;show _≤_;omega
        go_wp2_with (at_builtin;refine wpList_append_rr rfl _ _ 115 rfl 100 i1 (.pointer none) 1 8 Tryz.underlying115 HI1.out.1 HI1.out.2.1 HI1.out.2.2.1 HI1.out.2.2.2 rfl (by decide) ρ5 7 (.slice na j nc) j _ rfl S6a.out.rn S6a.out.k.rho ⟨W6.heap.size,0,none⟩ 1 1 [.pointer (some ⟨nb,0,none⟩)] rfl rfl NEWS6.out ONE6.out L6a.out L6b.out ?_)
        intro a7 c7 w7 ρ7 hr7 hc7 hf7;have fb7:=hc7.keep S6a.out.nms.fb (by rw [S6a.out.nms.rf];decide)
        have rf7:=(hc7.keepRole S6a.out.nms.fb).trans S6a.out.nms.rf;have S7:=zh (S6a.out.pushNode hc7 (by rw [EA.out.2.2.2.2.1];exact hr7))
        have E7:=zh (E6a.out.pushed (i:=2) (v := .slice a7 (j+1) c7) hc7 (by decide) fb7 rf7)
        have z8:w7.cell? ⟨f,2,none⟩=some (.slice na j nc):=by rw [zb _ _ 2 _ _ _ fb7];rfl
        have z9:w7.frozen? ⟨f,2,none⟩=false:=zs1 _ _ 2 _ _ fb7;clear hr7 hc7 hf7 fb7 rf7 x2 bf6
        go_upto_region 18 with (fail)
        obtain⟨W7,hW7⟩:∃ W,W=w7.setCell ⟨f,2,none⟩ (.slice a7 (j+1) c7):=⟨_,rfl⟩;rw [← hW7];rw [← hW7] at S7 E7;obtain⟨la,lc,hls⟩:=S7.out.rl.shape;subst hls;have z6:W7.cell? ⟨b7,0,none⟩=some (.pointer (some ⟨A.lb j,0,none⟩)):=by rw [zb _ _ 0 _ _ _ E7.out.d7];rfl
        have x1:W7.cell? ⟨f,1,none⟩=some (.slice la j lc):=by rw [zb _ _ 1 _ _ _ S7.out.nms.fb];rfl
        have bb1:b7<W7.heap.size:=zs3 W7 _ z6;have bb2:f<W7.heap.size:=zs3 W7 _ x1
        have bb3:f≠b7:=fun e=>by have h1:=S7.out.nms.rf;have h2:=E7.out.r7;rw [e,h2] at h1;cases h1
        clear hW7 z8 z9
        go_cut [] from 16 (fun wc=>R18 w A5 (F0 ps e) f sc r0 j K' ns (.slice a7 (j+1) c7) sv2 (.slice (some ⟨g,0,none⟩) m c0) Ds (A.lb j) (A.xb j) (A.xo j) nb mb b7 bs wc)
        case first =>
         have B7:Hid (Below W7.heap.size W7 ((W7.alloc (.cells #[.pointer (some ⟨A.lb j,0,none⟩)] 114)).drew)):=((zs9 _ _).alloc (zr4 _) _).drew;have X7:=zh (show ((W7.alloc (.cells #[.pointer (some ⟨A.lb j,0,none⟩)] 114)).drew).heap[W7.heap.size]?=some (.cells #[.pointer (some ⟨A.lb j,0,none⟩)] 114 (0,0)) from zs2 W7 (.cells #[.pointer (some ⟨A.lb j,0,none⟩)] 114))
         have S7a:=zh (S7.out.grow B7.out);have E7a:=zh (E7.out.grow B7.out S7.out.k.rho)
         obtain⟨i2,hi2,hz2a,hz2b,hz2c⟩:=info_parts Tryz.info114;have HI2:=zh (And.intro hi2 (And.intro hz2a (And.intro hz2b hz2c)));clear hi2 hz2a hz2b hz2c;have NEWS7:Hid (∀ (q:Nat) (u:Value),[Value.pointer (some ⟨A.lb j,0,none⟩)][q]?=some u→((W7.alloc (.cells #[.pointer (some ⟨A.lb j,0,none⟩)] 114)).drew).cell? ((⟨W7.heap.size,0,none⟩:Addr).add q)=some u):=fun q u hu=>by
          rw [Addr.add_lit,zb _ _ _ _ _ _ X7.out]
          match q,hu with
          | 0,hu=>simpa using hu
          | q+1,hu=>simp at hu
         have ONE7:Hid (∀ u∈[Value.pointer (some ⟨A.lb j,0,none⟩)],u.oneCell'=true):=fun u hu=>by simp at hu;subst hu;rfl
         refine wp_region_noPanic ?_;refine wp_region_part (S:=fun w'=>w'.cell? ⟨b7,0,none⟩=some (.pointer (some ⟨A.lb j,0,none⟩))∧w'.cell? ⟨f,1,none⟩=some (.slice la j lc)) [true,true,true,true,true,true,true,false,false] (by kernel_rfl) (by kernel_rfl) (fun _ _ d _ _ h=>by cases d<;>exact h) ⟨z6,x1⟩ ?_
         iterate 7 (refine wpRd_step (v:=?_) (Or.inl ⟨by rfl,?_⟩) ?_;rotate_left;(intro wz hSw;obtain⟨k0,k1⟩:=hSw;go_simp;try with_reducible rfl);try simp only [Act.put,zq4,zq5,zq6])
         refine wpEf_step (fun K hK=>?_)
         go_simp
         refine hK.out _ _ ⟨zs4 _ z6,zs4 _ x1⟩ (fun hHeld=>?_)
         clear hK K hHeld
         try simp only [Act.put,zq4,zq5,zq6]
         refine wpEf_step (fun K hK=>?_)
         refine step_append_rr rfl _ _ 106 rfl 114 i2 (.pointer none) 1 8 Tryz.underlying106 HI2.out.1 HI2.out.2.1 HI2.out.2.2.1 HI2.out.2.2.2 rfl (by decide) ρ7 6 (.slice la j lc) j _ rfl S7a.out.rl S7a.out.k.rho ⟨W7.heap.size,0,none⟩ 1 1 [.pointer (some ⟨A.lb j,0,none⟩)] rfl rfl NEWS7.out ONE7.out L6a.out L6b.out ?_
         intro a8 c8 w8 ρ8 hr8 hc8 hf8;have R8:=zh hr8;have C8:=zh hc8
         clear hr8 hc8 hf8;have fb8:=C8.out.keep S7a.out.nms.fb (by rw [S7a.out.nms.rf];decide)
         have d8:=C8.out.keep E7a.out.d7 (by rw [E7a.out.r7];decide)
         have t0:w8.cell? ⟨b7,0,none⟩=some (.pointer (some ⟨A.lb j,0,none⟩)):=by (rw [zb _ _ 0 _ _ _ d8];rfl)
         have t1:w8.cell? ⟨f,1,none⟩=some (.slice la j lc):=by (rw [zb _ _ 1 _ _ _ fb8];rfl)
         have t2:w8.frozen? ⟨f,1,none⟩=false:=zs1 _ _ 1 _ _ fb8;have FB8:=zh fb8
         clear fb8 d8;refine hK.out _ _ ⟨t0,t1⟩ (fun hHeld=>?_)
         clear hK K hHeld
         try simp only [Act.put,zq4,zq5,zq6]
         refine wpEf_nil ?_;simp only [behind]
         go_wp2_with fail
         refine NoPanic.normal ?_
         go_wp2_with fail
         go_meet
         case rel=>exact⟨ρ8,_,S7a.out.pushLink C8.out (by have h:=R8.out;rw [EA.out.1] at h ⊢;exact h),E7a.out.pushed C8.out (by decide) FB8.out ((C8.out.keepRole S7a.out.nms.fb).trans S7a.out.nms.rf)⟩
        case rest =>
         obtain⟨ρ8,sl8,hS8,hE8⟩:=hcut;have S8:=zh hS8;have E8:=zh hE8
         have z10:wc.cell? ⟨nb,0,none⟩=some (.pointer (some ⟨A.xb j,A.xo j,none⟩)):=by rw [zb _ _ 0 _ _ _ hE8.node];rfl
         obtain⟨kl,hkl⟩:∃ kl,kl=e1.kids.length:=⟨_,rfl⟩;have HKL2:=zh hkl;clear hS8 hE8 z6 x1 bb1 bb2 bb3 hkl
         go_wp2_with fail
         refine(bindings_any (w0:=w) TE0.out (zd S8.out.k.below) z10 HFM.out).mono ?_;rintro en w9 ⟨a9,c9,L,rfl,hks9,hb9⟩;rw [← HKL2.out];have KS9:=zh hks9;have B9:=zh hb9
         have hnd9:=zm hb9 E8.out.node;have z11:w9.cell? ⟨nb,1,none⟩=some (.slice none 0 0):=by rw [zb _ _ 1 _ _ _ hnd9];rfl
         have z12:w9.frozen? ⟨nb,1,none⟩=false:=zs1 _ _ 1 _ _ hnd9;have ND9:=zh hnd9
         clear hks9 hb9 hnd9 z10
         go_upto_region 20 with (fail)
         obtain⟨W9,hW9⟩:∃ W,W=w9.setCell ⟨nb,1,none⟩ (.slice a9 kl c9):=⟨_,rfl⟩;rw [← hW9];obtain⟨KN,hKN⟩:∃ KN,KN=nums (j+1) e1.kids:=⟨_,rfl⟩;obtain⟨hS10,hM10,hROW,hKID,z13,hKL3⟩:=round_next S8.out E8.out EA.out NBM.out LST.out HK.out.1 NEQ.out TE0.out LNX.out KS9.out B9.out HKL2.out hKN hW9;obtain⟨A10,hA10⟩:∃ A10,A10=A5.more KN L:=⟨_,rfl⟩;obtain⟨ρ10,hρ10⟩:∃ ρ10,ρ10=linked ρ8 L:=⟨_,rfl⟩;rw [← hA10] at hS10 hROW hKID;rw [← hρ10] at hS10 hM10 hROW;have S10:=zh hS10;have M10:=zh hM10
         have ROW:=zh hROW;have KID:=zh hKID
         have HKL3:=zh hKL3;have HKN3:=zh hKN
         clear hW9 z11 z12 hKN hA10 hρ10 hS10 hM10 hROW hKID hKL3
         go_wp2_with fail
         refine(backward_any (.slice a9 kl c9) rfl W9 a9 kl c9 rfl).mono ?_;rintro en w10 ⟨rfl,rfl⟩;clear z13
         go_wp2_with fail
         obtain⟨hBI0,⟨g9,o9,hg9⟩,hVB⟩:=BI.start S10.out M10.out ROW.out HKL3.out;obtain⟨ib,hib⟩:∃ ib,ib=W9.heap.size:=⟨_,rfl⟩;obtain⟨V0,hV0⟩:∃ V,V=W9.alloc (Obj.cells #[.slice a9 kl c9] 106):=⟨_,rfl⟩;rw [← hib,← hV0];rw [← hib,← hV0] at hBI0;rw [← hV0] at hVB;have BI0:=zh hBI0;have G9:=zh hg9
         have VB:=zh hVB;have KLZ:Hid (kl≤16):=zh (show kl≤16 from HKL2.out ▸ form_few HFM.out)
         clear hib hV0 hg9 hBI0 hVB;refine range_outer (P:=Tryz.prog) (n:=1) (B:=V0.heap.size) (m:=kl) (encs:=bkEnc kl (fun k=>A10.lb (KN.getD k 0))) (I:=fun cnt W=>BI w A10 (F0 ps e) f sc r0 j KN K' ns sl8 (.slice a7 (j+1) c7) sv2 Ds ib a9 kl c9 cnt W) (X:=BX isName w ps e r0 Ds)
          (A:=fun cnt a W=>∃ x135:Value,a={ tmps := #[Value.pointer (some { block:=b,off:=o }),undef,Value.pointer (some { block:=r0,off:=0 }),Value.pointer (some { block:=f,off:=0 }),u4,u5,Value.pointer (some { block:=sc,off:=0 }),Value.pointer (some { block:=b7,off:=0 }),Value.pointer (some { block:=nb,off:=0 }),u9,Value.pointer (some ⟨A10.lb (KN.getD (kl - 1 - cnt) 0),0,none⟩),u11,u12,u13,u14,u15,u16,u17,u18,u19,u20,u21,u22,u23,u24,u25,u26,u27,u28,u29,u30,u31,u32,u33,u34,u35,u36,u37,u38,u39,u40,u41,u42,u43,u44,u45,u46,u47,u48,u49,u50,u51,u52,u53,u54,u55,u56,u57,u58,u59,u60,u61,u62,u63,u64,u65,u66,u67,u68,u69,u70,u71,u72,u73,u74,u75,u76,u77,u78,u79,u80,u81,u82,u83,u84,u85,u86,u87,u88,u89,u90,u91,u92,u93,u94,u95,u96,u97,u98,u99,u100,u101,u102,u103,u104,u105,u106,u107,u108,u109,u110,u111,u112,u113,u114,u115,u116,u117,u118,u119,u120,u121,u122,u123,u124,Value.pointer (some { block:=nb,off:=0 }),Value.pointer (some { block:=nb,off:=0 }),Value.slice a9 kl c9,Value.pointer (some { block:=nb,off:=0 }),Value.pointer (some { block:=nb,off:=1 }),Value.pointer (some { block:=nb,off:=0 }),Value.pointer (some { block:=nb,off:=0 }),Value.pointer (some { block:=nb,off:=1 }),Value.slice a9 kl c9,Value.func (Fn.func 112) #[] #[Value.pointer (some { block:=ib,off:=0 })],x135,Value.pointer (some ⟨A10.lb (KN.getD (kl - 1 - cnt) 0),0,none⟩),u137,u138,u139,u140,u141,u142,u143,u144,u145,u146,u147,u148,u149,u150,u151,u152,u153,u154,u155,u156],defers:=[] })
          (Rd:=BkRd ib a9 c9 g9 o9 kl (fun k=>A10.lb (KN.getD k 0))) rfl (enters_of Tryz.func112 (by kernel_rfl) rfl) (back_iter _ _ _ _ _ _ _ G9.out (zr5 KLZ.out (by decide))) (zr4 _) ?rd (fun j W W' h b=>h.bk b VB.out.1 VB.out.2) (fun W W' h b=>h.bk b VB.out.1 VB.out.2) (fun j a W W' h b=>h) (fun j W W' h b=>h.grow b) (fun _=>rfl) BI0.out ?assign ?body ?done ?stop
         case rd=>intro cnt W h;exact h.reads G9.out
         case assign =>
          intro l cnt W hI hc;unfold bkEnc;simp only [List.zip_toArray,List.zip_cons_cons,List.zip_nil_left,List.foldl_toArray',List.foldl_cons,List.foldl_nil,zq4,zq6,zq5];clear hI
          gi_wp2
          exact⟨zs9 _ _,_,rfl⟩
         case body =>
          rintro l cnt a1 W hl ⟨rr1,hr1⟩ hI ⟨x135,rfl⟩ hc;obtain⟨ρb,vsb,q,hSb,hMb,hIb,hib,hRb,hFb,hCb,hqb,hgb,hdb⟩:=hI.openUp HKL3.out hc;rw [hgb];have HSb:=zh hSb;have HMb:=zh hMb
          have HIb:=zh (And.intro hIb (And.intro hib (And.intro hRb (And.intro hFb hCb))));have HQb:=zh (And.intro hqb hdb)
          have HCN:=zh hc;obtain⟨_,snv,xv,hlk,hrn,hxx⟩:=hSb.k.link q (.inr (zr6 _ (zr1 hqb)));obtain⟨_,sna,snc,rfl,_⟩:=hrn;have hqr:=nums_range (show q∈nums (j+1) e1.kids by rw [← HKN3.out];exact zr1 hqb)
          rw [if_neg (Nat.not_lt.2 hqr.1),hxx (zt5 (Nat.succ_pos j) hqr.1)] at hlk;obtain⟨bl,hbl⟩:∃ bl,bl=(nd (F0 ps e) q).binds.length:=⟨_,rfl⟩;rw [← hbl] at hlk;have HBL:=zh hbl;have HLK:=zh hlk
          have x0:W.cell? ⟨A10.lb q,0,none⟩=some (.slice sna bl snc):=by rw [zb _ _ 0 _ _ _ hlk];rfl
          have x1:W.cell? ⟨A10.lb q,1,none⟩=some (.pointer (some ⟨A10.xb q,A10.xo q,none⟩)):=by rw [zb _ _ 1 _ _ _ hlk];rfl
          clear hI hSb hMb hIb hib hRb hFb hCb hqb hgb hdb hlk hxx hqr hbl hl
          by_cases h16:bl≤16
          ·have d16b:decide (16<(bl:Int))=false:=by simp;omega
           have H16b:=zh h16;clear h16
           gi_wp2
           have hmx:Tryz.prog.follows .mixedOrders=true:=by kernel_rfl
           obtain⟨as9,cs9,hvsb⟩:=HSb.out.stk.shape;obtain⟨TT,hTT⟩:∃ T,T=KN.drop (kl - cnt)++K':=⟨_,rfl⟩;obtain⟨tl,htl⟩:∃ tl,tl=TT.length:=⟨_,rfl⟩;rw [← hTT] at hvsb HSb;rw [← htl] at hvsb;subst hvsb;have hTL:Hid (tl≤400000):=stack_few htl hTT HKL3.out HK.out.1 LSL.out HJ20.out KLZ.out;have y6:W.cell? ⟨sc,0,none⟩=some (.slice as9 tl cs9):=by rw [zb _ _ 0 _ _ _ HSb.out.sck];rfl
           have hsW:sc<W.heap.size:=zs3 W _ y6;have HT2:=zh (And.intro hTT htl)
           have BW:Hid (Below W.heap.size W ((W.alloc (.cells #[.pointer (some ⟨A10.lb q,0,none⟩),.pointer (some ⟨A10.xb q,A10.xo q,none⟩)] 159)).drew)):=((zs9 _ _).alloc (zr4 _) _).drew;have XW:=zh (show ((W.alloc (.cells #[.pointer (some ⟨A10.lb q,0,none⟩),.pointer (some ⟨A10.xb q,A10.xo q,none⟩)] 159)).drew).heap[W.heap.size]?=some (.cells #[.pointer (some ⟨A10.lb q,0,none⟩),.pointer (some ⟨A10.xb q,A10.xo q,none⟩)] 159 (0,0)) from zs2 W (.cells #[.pointer (some ⟨A10.lb q,0,none⟩),.pointer (some ⟨A10.xb q,A10.xo q,none⟩)] 159))
           have SW:=zh (HSb.out.grow BW.out);have NW:Hid (∀ (i:Nat) (u:Value),[Value.pointer (some ⟨A10.lb q,0,none⟩),.pointer (some ⟨A10.xb q,A10.xo q,none⟩)][i]?=some u→((W.alloc (.cells #[.pointer (some ⟨A10.lb q,0,none⟩),.pointer (some ⟨A10.xb q,A10.xo q,none⟩)] 159)).drew).cell? ((⟨W.heap.size,0,none⟩:Addr).add i)=some u):=fun i u hu=>by
            rw [Addr.add_lit,zb _ _ _ _ _ _ XW.out]
            match i,hu with
            | 0,hu=>simpa using hu
            | 1,hu=>simpa using hu
            | i+2,hu=>simp at hu
           have OW:Hid (∀ u∈[Value.pointer (some ⟨A10.lb q,0,none⟩),.pointer (some ⟨A10.xb q,A10.xo q,none⟩)],u.oneCell'=true):=fun u hu=>by
            rcases List.mem_cons.1 hu with rfl | hu
            ·rfl
            rw [List.mem_singleton] at hu;subst hu;rfl
           have LWa:Hid (tl+1≤maxLen):=by have:=hTL.out;show _≤_;simp only [maxLen];omega
           have LWb:Hid ((tl+1)*16≤140737488355328):=by have:=hTL.out;show _≤_;omega
           obtain⟨i3,hi3,hz3a,hz3b,hz3c⟩:=info_parts Tryz.info159r;have HI3:=zh (And.intro hi3 (And.intro hz3a (And.intro hz3b hz3c)));have LQL:Hid (A10.lb q≠sc):=fun e=>by have h1:=HLK.out;have h2:=HSb.out.sck;rw [e,h2] at h1;cases h1
           clear hTT htl hi3 hz3a hz3b hz3c x0;refine wpIn_region_round (fun w'=>w'.cell? ⟨A10.lb q,1,none⟩=some (.pointer (some ⟨A10.xb q,A10.xo q,none⟩))) hmx (no_defers rfl) x1 ?_
           intro hHeld;refine zs5 (i:=1) (v := .pointer (some ⟨A10.lb q,0,none⟩)) rfl (by kernel_rfl) (by kernel_rfl) (by kernel_rfl) (fun _ _ _ h=>h) (Or.inl ⟨by rfl,?_⟩) (by assumption) ?_
           ·(intro w hSw;(try dsimp only at hSw);go_simp)
           simp only [Act.put,zq4,zq5,zq6];refine zs5 (i:=2) (v := .pointer (some ⟨A10.lb q,0,none⟩)) rfl (by kernel_rfl) (by kernel_rfl) (by kernel_rfl) (fun _ _ _ h=>h) (Or.inl ⟨by rfl,?_⟩) (by assumption) ?_
           ·(intro w hSw;(try dsimp only at hSw);go_simp)
           simp only [Act.put,zq4,zq5,zq6];refine zs5 (i:=3) (v := .pointer (some ⟨A10.lb q,0,none⟩)) rfl (by kernel_rfl) (by kernel_rfl) (by kernel_rfl) (fun _ _ _ h=>h) (Or.inl ⟨by rfl,?_⟩) (by assumption) ?_
           ·(intro w hSw;(try dsimp only at hSw);go_simp)
           simp only [Act.put,zq4,zq5,zq6];refine zs5 (i:=4) (v := .pointer (some ⟨A10.lb q,1,none⟩)) rfl (by kernel_rfl) (by kernel_rfl) (by kernel_rfl) (fun _ _ _ h=>h) (Or.inl ⟨by rfl,?_⟩) (by assumption) ?_
           ·(intro w hSw;(try dsimp only at hSw);go_simp)
           simp only [Act.put,zq4,zq5,zq6];refine zs5 (i:=5) (v := .pointer (some ⟨A10.xb q,A10.xo q,none⟩)) rfl (by kernel_rfl) (by kernel_rfl) (by kernel_rfl) (fun _ _ _ h=>h) (Or.inl ⟨by rfl,?_⟩) (by assumption) ?_
           ·(intro w hSw;(try dsimp only at hSw);go_simp)
           simp only [Act.put,zq4,zq5,zq6];refine zs5 (i:=6) (v := .agg #[.pointer (some ⟨A10.lb q,0,none⟩),.pointer (some ⟨A10.xb q,A10.xo q,none⟩)]) rfl (by kernel_rfl) (by kernel_rfl) (by kernel_rfl) (fun _ _ _ h=>h) (Or.inl ⟨by rfl,?_⟩) (by assumption) ?_
           ·(intro w hSw;(try dsimp only at hSw);go_simp)
           simp only [Act.put,zq4,zq5,zq6];refine zs6 (rs:=[0,7]) (by kernel_rfl) (by simp) ?_
           refine zs7 rfl (fun K hK=>?_) (zs7 rfl (fun K hK=>?_) zs8)
           ·go_simp
            refine hK.out _ _ (by assumption) (fun hHeld2=>?_)
            clear hK K;refine zs6 (rs:=[7]) (by kernel_rfl) (by simp) ?_
            refine zs7 rfl (fun K hK=>?_) zs8
            go_simp
            refine hK.out _ _ (zd BW.out _ _ x1) (fun hHeld3=>?_)
            clear hK K;refine zs6 (rs:=[8]) (by kernel_rfl) (by simp) ?_
            refine zs7 rfl (fun K hK=>?_) zs8
            refine step_append_rr rfl _ _ 160 rfl 159 i3 (.agg #[.pointer none,.pointer none]) 2 16 Tryz.underlying160 HI3.out.1 HI3.out.2.1 HI3.out.2.2.1 HI3.out.2.2.2 rfl (by decide) ρb 10 (.slice as9 tl cs9) tl (todos A10 TT) rfl (by have h:=SW.out.stk;rw [← HT2.out.2] at h;exact h) SW.out.k.rho ⟨W.heap.size,0,none⟩ 1 1 [.pointer (some ⟨A10.lb q,0,none⟩),.pointer (some ⟨A10.xb q,A10.xo q,none⟩)] rfl rfl NW.out OW.out LWa.out LWb.out ?_
            intro a11 c11 w11 ρ11 hr11 hc11 hf11;have fs11:=hc11.keep SW.out.sck (by rw [SW.out.rsc];decide)
            have fl11:=hc11.keep (zm BW.out HLK.out) (by have:=(HSb.out.k.link q (.inr (zr6 _ (zr1 HQb.out.1)))).1;rw [this];decide)
            have t0:w11.cell? ⟨A10.lb q,1,none⟩=some (.pointer (some ⟨A10.xb q,A10.xo q,none⟩)):=by rw [zb _ _ 1 _ _ _ fl11];rfl
            have t1:w11.cell? ⟨sc,0,none⟩=some (.slice as9 tl cs9):=by rw [zb _ _ 0 _ _ _ fs11];rfl
            have t2:w11.frozen? ⟨sc,0,none⟩=false:=zs1 _ _ 0 _ _ fs11;refine hK.out _ _ t0 (fun hHeld4=>?_)
            clear hK K;have FIN:=zh (BI.step (cnt:=cnt) HT2.out.1 HT2.out.2 HSb.out HMb.out HIb.out.1 HIb.out.2.1 HIb.out.2.2.1 HIb.out.2.2.2.1 HIb.out.2.2.2.2 HQb.out.1 HQb.out.2 (by rw [← HBL.out];exact H16b.out) HCN.out BW.out hc11 hr11)
            clear hr11 hc11 hf11 fs11 fl11;refine zs6 (rs:=[9]) (by kernel_rfl) (by simp) ?_
            refine zs7 rfl (fun K hK=>?_) zs8
            go_simp
            refine hK.out _ _ (by rw [World.cell?_setCell_far _ _ _ _ (by show sc≠A10.lb q;exact fun e=>LQL.out e.symm)];exact t0) (fun hHeld5=>?_)
            clear hK K;refine wpAnyH_done (by kernel_rfl) ?_ _
            refine OnlyN.done ?_;clear t0 t1 t2 hHeld hHeld4 hHeld5
            gi_wp2
            exact FIN.out
           go_simp
           refine hK.out _ _ (zd BW.out _ _ x1) (fun hHeld3=>?_)
           clear hK K;refine zs6 (rs:=[0]) (by kernel_rfl) (by simp) ?_
           refine zs7 rfl (fun K hK=>?_) zs8
           go_simp
           refine hK.out _ _ (by assumption) (fun hHeld6=>?_)
           clear hK K;refine zs6 (rs:=[8]) (by kernel_rfl) (by simp) ?_
           refine zs7 rfl (fun K hK=>?_) zs8
           refine step_append_rr rfl _ _ 160 rfl 159 i3 (.agg #[.pointer none,.pointer none]) 2 16 Tryz.underlying160 HI3.out.1 HI3.out.2.1 HI3.out.2.2.1 HI3.out.2.2.2 rfl (by decide) ρb 10 (.slice as9 tl cs9) tl (todos A10 TT) rfl (by have h:=SW.out.stk;rw [← HT2.out.2] at h;exact h) SW.out.k.rho ⟨W.heap.size,0,none⟩ 1 1 [.pointer (some ⟨A10.lb q,0,none⟩),.pointer (some ⟨A10.xb q,A10.xo q,none⟩)] rfl rfl NW.out OW.out LWa.out LWb.out ?_
           intro a11 c11 w11 ρ11 hr11 hc11 hf11;have fs11:=hc11.keep SW.out.sck (by rw [SW.out.rsc];decide)
           have fl11:=hc11.keep (zm BW.out HLK.out) (by have:=(HSb.out.k.link q (.inr (zr6 _ (zr1 HQb.out.1)))).1;rw [this];decide)
           have t0:w11.cell? ⟨A10.lb q,1,none⟩=some (.pointer (some ⟨A10.xb q,A10.xo q,none⟩)):=by rw [zb _ _ 1 _ _ _ fl11];rfl
           have t1:w11.cell? ⟨sc,0,none⟩=some (.slice as9 tl cs9):=by rw [zb _ _ 0 _ _ _ fs11];rfl
           have t2:w11.frozen? ⟨sc,0,none⟩=false:=zs1 _ _ 0 _ _ fs11;refine hK.out _ _ t0 (fun hHeld4=>?_)
           clear hK K;have FIN:=zh (BI.step (cnt:=cnt) HT2.out.1 HT2.out.2 HSb.out HMb.out HIb.out.1 HIb.out.2.1 HIb.out.2.2.1 HIb.out.2.2.2.1 HIb.out.2.2.2.2 HQb.out.1 HQb.out.2 (by rw [← HBL.out];exact H16b.out) HCN.out BW.out hc11 hr11)
           clear hr11 hc11 hf11 fs11 fl11;refine zs6 (rs:=[9]) (by kernel_rfl) (by simp) ?_
           refine zs7 rfl (fun K hK=>?_) zs8
           go_simp
           refine hK.out _ _ (by rw [World.cell?_setCell_far _ _ _ _ (by show sc≠A10.lb q;exact fun e=>LQL.out e.symm)];exact t0) (fun hHeld5=>?_)
           clear hK K;refine wpAnyH_done (by kernel_rfl) ?_ _
           refine OnlyN.done ?_;clear t0 t1 t2 hHeld hHeld4 hHeld5
           gi_wp2
           exact FIN.out
          have d16b:decide (16<(bl:Int))=true:=by simp;omega
          have NGb:Hid (¬ RG.Good isName ps e):=rd_none LRD.out (rd_kids (kids_not HKN3.out LST.out HQb.out.1 (by rw [← HBL.out];exact h16)) HJF.out)
          have y3:W.cell? ⟨r0,0,none⟩=some (.pointer none):=by rw [zb _ _ 0 _ _ _ HSb.out.res];rfl
          have y4:W.frozen? ⟨r0,0,none⟩=false:=zs1 _ _ 0 _ _ HSb.out.res;clear h16
          gi_wp2
          refine⟨(Kb.refl W).setCell HSb.out.res _,HSb.out.k.below.setCell (by have:=HR0.out;show _≤r0;rw [this];exact zr4 _) _,heap_setCell_same W _ 0 _ _ _ HSb.out.res,HMb.out.1,fun D hD=>⟨(HMb.out.2 D hD).1,?_⟩,NGb.out⟩
          exact(((HMb.out.setCell ⟨r0,0,none⟩ (.pointer none) HSb.out.res).2 D hD).2.2)
         case done =>
          intro D W hD hB hd;have HBI:=zh hB;have HDD:=zh hd
          have HDL:=zh hD;obtain⟨as9,ns9,cs9,hvs9,hlp⟩:=BI.done (bs:=bs) (stk:=stk) (isName:=isName) hB HKN3.out HK.out.1 hd (zr5 VB.out.1 hD) (fun h=>Nat.lt_irrefl _ (zt5 (VB.out.2 D h) hD)) HJ20.out LST.out LNX.out L16.out (names_next LNM.out HBK.out (L16.out j zr7) HND.out) (kids_next LSL.out HFM.out) (by rw [LRD.out];exact rd_next (Nat.ne_of_lt HJ20.out) HFM.out HBK.out (kids_all hB HKN3.out HKL3.out LST.out) HJF.out)
          have HLP:=zh hlp;have y3:W.cell? ⟨sc,0,none⟩=some (.slice as9 ns9 cs9):=by rw [zb _ _ 0 _ _ _ hvs9];rfl
          clear hB hd hD hvs9 hlp
          go_wp2_with fail
          go_roundg ((F0 ps e).length - (j+1))
          case measure=>have h1:=LGK.out;have h2:=HJF.out;rw [h1];exact Nat.sub_lt_sub_left h2 (Nat.lt_succ_self j)
          case rel=>exact HLP.out
         case stop =>
          intro D W hD hB hd;have HX:=zh hB;have HDD:=zh hd
          have HDL:=zh hD;have y3:W.cell? ⟨r0,0,none⟩=some (.pointer none):=by rw [zb _ _ 0 _ _ _ hB.2.1];rfl
          clear hB hd hD
          go_wp2_with fail
          have hnd:(D :: Ds).Nodup:=List.nodup_cons.2 ⟨fun h=>Nat.lt_irrefl _ (zt5 (VB.out.2 D h) HDL.out),HX.out.2.2.1⟩
          refine leaves_marks (D :: Ds) W hnd (fun E hE=>?_) fun W' a1 a2 a3 a4 hsame=>?_
          ·rcases List.mem_cons.1 hE with rfl | hE
           ·exact HDD.out
           exact(HX.out.2.2.2.1 E hE).2
          have hnr:r0∉D :: Ds:=fun hm=>by
           have h2:=HX.out.2.1;rcases List.mem_cons.1 hm with e2 | hm
           ·rw [e2,HDD.out] at h2;cases h2
           rw [(HX.out.2.2.2.1 _ hm).2] at h2;cases h2
          have u0:W'.cell? ⟨r0,0,none⟩=some (.pointer none):=by rw [zb _ _ 0 _ _ _ ((hsame _ hnr).trans HX.out.2.1)];rfl
          refine⟨.pointer none,by simp [results,Tryz.results58,go_sem,u0],HX.out.1.trans ⟨a1,a2,a3,Nat.le_of_eq a4.symm,fun q hq=>hsame q fun hm=>?_⟩,.inr ⟨HX.out.2.2.2.2,rfl⟩⟩
          rcases List.mem_cons.1 hm with e2 | hm
          ·subst e2;exact absurd (zt5 hq (zr5 VB.out.1 HDL.out)) (Nat.lt_irrefl _)
          exact absurd (zt5 hq (HX.out.2.2.2.1 q hm).1) (Nat.lt_irrefl _)
  have d16:decide (16<(n:Int))=true:=by simp;omega
  have z1:wr.cell? ⟨r0,0,none⟩=some (.pointer none):=by rw [zb _ _ 0 _ _ _ HIK.out.b0];rfl
  have z2:wr.frozen? ⟨r0,0,none⟩=false:=zs1 _ _ 0 _ _ HIK.out.b0;have H16:Hid (¬ RG.Good isName ps e):=fun hg=>by have:=hg.params;have:=HN.out;omega
  clear h16 ff fl
  go_wp2_with fail
  have u0:(wr.setCell ⟨r0,0,none⟩ (.pointer none)).cell? ⟨r0,0,none⟩=some (.pointer none):=by rw [zb _ _ 0 _ _ _ (heap_setCell_same wr _ 0 _ _ _ HIK.out.b0)];rfl
  exact⟨.pointer none,by simp [results,Tryz.results58,go_sem,u0],HIK.out.below.setCell (by have:=HR0.out;show _≤r0;omega) _,.inr ⟨H16.out,rfl⟩⟩
end
section
open Go.RowKit RG Go.Maps
def ISet (w:World) (b:Nat) (T:List Int):Prop:=∃ l,IMap Tryz.prog w b l∧l.length≤1000000∧(∀ k,ikey l k=true↔k∈T)∧∀ k v,(k,v)∈l→v=1
theorem ISet.keep {w w':World}{b:Nat}{T:List Int}(h:ISet w b T) (hb:w'.heap[b]?=w.heap[b]?):ISet w' b T:=by
 obtain⟨l,h1,h2⟩:=h;exact⟨l,h1.keep hb,h2⟩
theorem ISet.lt {w:World}{b:Nat}{T:List Int}(h:ISet w b T):b<w.heap.size:=by obtain⟨l,h1,h2⟩:=h;exact h1.lt
theorem ISet.made (w:World):ISet (w.alloc (.map #[] 0)) w.heap.size []:=⟨[],IMap.made _ w,zv3 _,fun k=>by simp [ikey],fun k v h=>absurd h (by simp)⟩
theorem ISet.congr {w:World}{b:Nat}{T T':List Int}(h:ISet w b T) (hT:∀ k,k∈T↔k∈T'):ISet w b T':=by
 obtain⟨l,h1,h2,h3,h4⟩:=h;exact⟨l,h1,h2,fun k=>(h3 k).trans (hT k),h4⟩
theorem iat_set {l:List (Int×Int)}{T:List Int}(hn:(l.map (·.1)).Nodup) (h3:∀ k,ikey l k=true↔k∈T) (h4:∀ k v,(k,v)∈l→v=1) (k:Int):iat l k=if k∈T then 1 else 0:=by
 by_cases h:k∈T
 ·rw [if_pos h]
  obtain⟨v,hv⟩:=ikey_iff.1 ((h3 k).2 h);rw [iat_mem hn hv,h4 k v hv]
 rw [if_neg h];exact iat_none (by cases hq:ikey l k with | false=>rfl | true=>exact absurd ((h3 k).1 hq) h)
theorem iput_length (l:List (Int×Int)) (k v:Int):(iput l k v).length≤l.length+1:=by
 unfold iput;rw [zr2];have:=List.length_filter_le (fun p:Int×Int => !decide (p.1=k)) l
 simp;omega
section
variable {w:World} {ops:Array Oper} {rest:List Oper} {o:Oper} {a:Act} {Q:Exit→Act→World→Prop}
theorem wpList_sput (hg:o.guard=none) (m x v:Operand) (hop:o.op=Op.mapUpdate 108 m x v) (b:Nat) (T:List Int)
  (hm:a.eval m = .map (some b)) (h:ISet w b T) (hl:T.length≤900000) (hsz:∀ l:List Int,l.Nodup→(∀ k∈l,k∈T)→l.length≤900000) (k:Int) (hx:a.eval x = .int .i64 k) (hv:a.eval v = .int .i64 1) (hk:(Lit.int .i64 k).wf=true)
  (hK:∀ w',ISet w' b (T++[k])→w.grownBy w' (some b)→wpList Tryz.prog ops Q rest (a.put o.dst undef) w'):wpList Tryz.prog ops Q (o :: rest) a w:=by
 obtain⟨l,h1,h2,h3,h4⟩:=h;have hll:l.length≤900000:=by
  have:=hsz (l.map (·.1)) h1.nodup (fun k hk=>by obtain⟨p,hp,rfl⟩:=List.mem_map.1 hk;exact(h3 _).1 (ikey_iff.2 ⟨p.2,hp⟩))
  rwa [zv1] at this
 refine wpList_iput Tryz.underlying3 hg m x v 108 hop Tryz.underlying108 b l hm h1 (by omega) k 1 hx hv hk (by decide) fun w' hm' hg'=>hK w' ⟨iput l k 1,hm',?_,fun j=>?_,fun j c hj=>?_⟩ hg'
 ·have:=iput_length l k 1;omega
 ·rw [ikey_iff,List.mem_append,List.mem_singleton]
  constructor
  ·rintro ⟨c,hc⟩
   rcases mem_iput.1 hc with ⟨_,hc⟩|⟨e,_⟩
   ·exact .inl ((h3 j).1 (ikey_iff.2 ⟨c,hc⟩))
   exact .inr e
  intro hj
  by_cases e:j=k
  ·exact⟨1,mem_iput.2 (.inr ⟨e,rfl⟩)⟩
  rcases hj with hj | hj
  ·obtain⟨c,hc⟩:=ikey_iff.1 ((h3 j).2 hj)
   exact⟨c,mem_iput.2 (.inl ⟨e,hc⟩)⟩
  exact absurd hj e
 rcases mem_iput.1 hj with ⟨_,hj⟩|⟨_,e⟩
 ·exact h4 j c hj
 exact e
theorem wpList_sat (hg:o.guard=none) (m x:Operand) (hop:o.op=Op.lookup 108 m x false) (b:Nat) (T:List Int)
  (hm:a.eval m = .map (some b)) (h:ISet w b T) (k:Int) (hx:a.eval x = .int .i64 k) (hk:(Lit.int .i64 k).wf=true)
  (hK:wpList Tryz.prog ops Q rest (a.put o.dst (.int .i64 (if k∈T then 1 else 0))) w):wpList Tryz.prog ops Q (o :: rest) a w:=by
 obtain⟨l,h1,h2,h3,h4⟩:=h;refine wpList_iat Tryz.underlying3 zero3 hg m x 108 hop Tryz.underlying108 b l hm h1 k hx hk ?_;rw [iat_set h1.nodup h3 h4];exact hK
end
def ofNats (T:List Nat):List Int:=T.map Int.ofNat
theorem mem_ofNats {T:List Nat}{n:Nat}:(n:Int)∈ofNats T↔n∈T:=by
 unfold ofNats;rw [List.mem_map];exact⟨fun ⟨a,ha,e⟩=>by
  have e2:(a:Int)=n:=e;have:a=n:=by omega
  exact this ▸ ha,fun h=>⟨n,h,rfl⟩⟩
theorem lowest_any {w:World}{b:Nat}{T:List Nat}(h:ISet w b (ofNats T)) (hl:T.length≤900000):Calls Tryz.prog 63 #[.map (some b)] w fun e w'=>e = .returned (.int .i64 (low T))∧w'=w:=by
 have H:=zh h;have HL:=zh hl
 clear h hl
 go_enter Tryz.func63,Tryz.ntmps63
 go_wp2_with fail
 go_step3
 go_wp2_with fail
 go_step3
 go_wp2_with fail
 go_loop [3] (fun v=>∃ r:Nat,v = .int .i64 r∧r≤T.length∧∀ k,k<r→k∈T) (fun v=>T.length+1 - (intOf v).toNat)
 case atStart=>exact⟨0,rfl,zv3 _,fun k hk=>absurd hk (Nat.not_lt_zero _)⟩
 obtain⟨r,rfl,hr,hin⟩:=hrel;have HR:=zh hr;have HIN:=zh hin
 have hrz:(r:Int)≤900000:=by have:=HL.out;omega
 clear hr hin
 by_cases hm:r∈T
 ·have hm':((r:Int)∈ofNats T)=True:=by simp only [eq_iff_iff,iff_true];exact mem_ofNats.2 hm
  have HM:=zh hm;clear hm
  go_wp2_with (at_lookup;refine wpList_sat rfl _ _ rfl b (ofNats T) rfl H.out r rfl (wf_nat (by omega)) ?_;simp only [hm',if_true])
  have HLE:Hid (r+1≤T.length):=all_in_len (n:=r+1) fun k hk=>by
   by_cases e:k=r
   ·rw [e];exact HM.out
   exact HIN.out k (by omega)
  go_round
  case rel=>exact⟨r+1,by go_num,HLE.out,fun k hk=>by
   by_cases e:k=r
   ·rw [e];exact HM.out
   exact HIN.out k (by omega)⟩
  case measure=>have:=HLE.out;simp [intOf];omega
 have hm':((r:Int)∈ofNats T)=False:=by simp only [eq_iff_iff,iff_false];exact fun h=>hm (mem_ofNats.1 h)
 have HLOW:=zh (low_unique hm HIN.out);clear hm
 go_wp2_with (at_lookup;refine wpList_sat rfl _ _ rfl b (ofNats T) rfl H.out r rfl (wf_nat (by omega)) ?_;simp only [hm',if_false])
 (try rw [Exit.noGoto_ret])
 go_ret
 rw [HLOW.out];exact⟨rfl,rfl⟩
end
section
open Go.RowKit RG Go.Maps Go.Sort
def ints (ns:List Int):List Value:=ns.map (Value.int .i64)
theorem ints_length (ns:List Int):(ints ns).length=ns.length:=zv1 _
theorem ints_append (a b:List Int):ints (a++b)=ints a++ints b:=List.map_append
def SortLaw:Prop:=∀ (blk cap:Nat) (zs:List Int) (w:World),Holds (Value.int .i64) w blk 0 zs.toArray→blk<w.heap.size→zs.length<4611686018427387904 →
  Calls Tryz.prog 106 #[.slice (some ⟨blk,0,none⟩) zs.length cap] w fun e w' =>
   e = .returned (.tuple #[])∧∃ n os,w'=grow (putRow (Value.int .i64) (Sort.ahead w n) blk 0 (zs.mergeSort fun x y=>decide (x≤y)).toArray) os
theorem holds_ints {w:World}{g:Nat}{cur:Array Value}{e:TypeId}{ns:List Int}(hb:w.heap[g]?=some (.cells cur e (0,0))) (ht:cur.toList.take ns.length=ints ns):Holds (Value.int .i64) w g 0 ns.toArray:=by
 intro j hj;have hj':j<ns.length:=by simpa using hj
 refine⟨?_,by simp [World.frozen?,hb]⟩
 have h1:(cur.toList.take ns.length)[j]?=(ints ns)[j]?:=by rw [ht]
 rw [List.getElem?_take_of_lt hj'] at h1;simp only [World.cell?,hb,Nat.zero_add];simp only [Option.isSome_none,Bool.false_eq_true,if_false];rw [← Array.getElem?_toList,h1];simp [hj',ints]
theorem heap_sortedI {w:World}{g n:Nat}{os:Array Obj}{cur:Array Value}{e:TypeId}{fr:Nat×Nat}(d:Array Int) (hb:w.heap[g]?=some (.cells cur e fr)) :
  (grow (putRow (Value.int .i64) (Sort.ahead w n) g 0 d) os).heap[g]?=some (.cells (putCells (Value.int .i64) 0 d cur) e fr):=by
 have hg:g<w.heap.size:=(zq7.1 hb).1;rw [heap_grow_old _ _ (by simpa using hg)]
 simp [putRow,mapBlock,Sort.ahead,Array.getElem?_modify,hb,onCells]
theorem grownBy_sortedI {w:World}{g n:Nat}{os:Array Obj}(d:Array Int):w.grownBy (grow (putRow (Value.int .i64) (Sort.ahead w n) g 0 d) os) (some g):=by
 refine⟨rfl,rfl,rfl,by simp,fun k hk hne=>?_⟩
 rw [heap_grow_old _ _ (by simpa using hk)]
 have:g≠k:=fun e=>hne (by rw [e])
 simp [putRow,mapBlock,Sort.ahead,Array.getElem?_modify,this]
theorem take_putCellsI (cur:Array Value) (ts:List Int) (h:ts.length≤cur.size):(putCells (Value.int .i64) 0 ts.toArray cur).toList.take ts.length=ints ts:=by
 apply List.ext_getElem?;intro j
 by_cases hj:j<ts.length
 ·rw [List.getElem?_take_of_lt hj,Array.getElem?_toList]
  simp [putCells,hj,show j<cur.size by omega,ints]
 rw [List.getElem?_take_eq_none (by omega),List.getElem?_eq_none (by simp [ints];omega)]
theorem ownsRow_sortedI {w:World}{base g cap n:Nat}{e:TypeId}{os:Array Obj}{cur:Array Value}{ss ts:List Int}(hl:ts.length=ss.length) (hbase:base≤g) (hb:w.heap[g]?=some (.cells cur e (0,0)))
  (h1:ss.length≤cap) (h2:cap≤maxLen) (h3:cur.size=cap*1) :
  (grow (putRow (Value.int .i64) (Sort.ahead w n) g 0 ts.toArray) os).ownsRow base e 1 (.slice (some ⟨g,0,none⟩) ss.length cap) ss.length (ints ts) :=
 ⟨by simp [hl,ints],.inr ⟨g,cap,_,rfl,hbase,heap_sortedI _ hb,h1,h2,by simp [putCells,h3],by rw [Nat.mul_one,← hl];exact take_putCellsI cur ts (by omega)⟩⟩
theorem Tryz.info3u:(Tryz.prog.info? 3).map (fun i=>(i.zero,i.size,i.bytes))=some (some (.int .i64 0),1,8):=by kernel_rfl
theorem own_sliceI {W:World}{B e size n:Nat}{v:Value}{xs:List Value}(h:W.ownsRow B e size v n xs):∃ a c,v = .slice a n c:=by
 rcases h.2 with ⟨rfl,rfl⟩|⟨g,cap,cur,e,_⟩
 ·exact⟨_,_,rfl⟩
 exact⟨_,_,e⟩
def ColI (l:List (Int×Int)) (todo:Int→Bool) (ns:List Int):Prop:=ns.Nodup∧∀ x:Int,x∈ns↔(ikey l x=true∧todo x=false)
theorem ColI.start (l:List (Int×Int)):ColI l (ikey l) []:=⟨List.nodup_nil,fun x=>by cases ikey l x<;>simp⟩
theorem ColI.step {l:List (Int×Int)}{todo:Int→Bool}{ns:List Int}(h:ColI l todo ns) {x v:Int}(hx:(x,v)∈l) (htx:todo x=true):ColI l (fun k=>todo k && !decide (k=x)) (ns++[x]):=by
 have hnew:x∉ns:=fun hm=>by have:=((h.2 x).1 hm).2;rw [htx] at this;cases this
 have hk:=ikey_iff.2 ⟨v,hx⟩;refine⟨List.nodup_append.2 ⟨h.1,by simp,fun a ha b hb=>by simp at hb;subst hb;exact fun e=>hnew (e ▸ ha)⟩,fun y=>?_⟩
 by_cases hy:y=x
 ·subst hy;simp [hk]
 simp [h.2 y,hy]
theorem ColI.len {l:List (Int×Int)}{todo:Int→Bool}{ns:List Int}(h:ColI l todo ns):ns.length≤l.length:=by
 have hs:∀ x∈ns,x∈l.map (·.1):=fun x hx=>by obtain⟨v,hv⟩:=ikey_iff.1 ((h.2 x).1 hx).1;exact List.mem_map.2 ⟨_,hv,rfl⟩
 have gen:∀ (a b:List Int),a.Nodup→(∀ x∈a,x∈b)→a.length≤b.length:=by
  intro a
  induction a with
  | nil=>intro b _ _;simp
  | cons x a ih =>
   intro b hn hs;rw [List.nodup_cons] at hn;have hx:=hs x zr7;have:=ih (b.erase x) hn.2 fun y hy=>(List.mem_erase_of_ne (fun e:y=x=>hn.1 (by rw [← e];exact hy))).2 (hs y (zr8 _ hy))
   rw [List.length_erase_of_mem hx] at this;have:=List.length_pos_of_mem hx;simp;omega
 have:=gen ns (l.map (·.1)) h.1 hs
 rwa [zv1] at this
structure Rise (l:List (Int×Int)) (zs:List Int):Prop where
 rise:zs.Pairwise (· < ·)
 mem:∀ k,k∈zs↔ikey l k=true
theorem ColI.sorted {l:List (Int×Int)}{todo:Int→Bool}{ns zs:List Int}(h:ColI l todo ns) (hl:∀ k,todo k=false) (hz:Rise l zs):(ns.mergeSort fun x y=>decide (x≤y))=zs:=by
 have hm:∀ x,x∈ns↔x∈zs:=fun x=>by rw [h.2 x,hl,hz.mem];simp
 have hnd:zs.Nodup:=hz.rise.imp fun h=>by omega
 have hp:ns.Perm zs:=(List.perm_ext_iff_of_nodup h.1 hnd).2 hm;have hs1:(ns.mergeSort fun x y=>decide (x≤y)).Pairwise (· ≤ ·):=by
  have:=List.pairwise_mergeSort (le:=fun x y:Int=>decide (x≤y)) (fun a b c h1 h2=>by simp at *;omega) (fun a b=>by simp;omega) ns
  exact this.imp fun h=>by simpa using h
 have hs2:zs.Pairwise (· ≤ ·):=hz.rise.imp fun h=>by omega
 exact((List.mergeSort_perm ns _).trans hp).eq_of_pairwise (fun a b _ _ h1 h2=>by omega) hs1 hs2
theorem IRg.own {P:Program}{w:World}{b r:Nat}{l:List (Int×Int)}{todo:Int→Bool}{cnt:Nat}(h:IRg P w b r l todo cnt) {base e size n:Nat}{v:Value}{xs:List Value}(hr:w.ownsRow base e size v n xs):some r≠v.ownBlock∧some b≠v.ownBlock:=by
 obtain⟨D,left,⟨es,clock,since,seen,c0,h1,_,_,_,h2,_⟩,_⟩:=h;rcases hr.2 with ⟨rfl,_⟩|⟨g,cap,cur,rfl,_,hg,_⟩
 ·exact⟨by simp [Value.ownBlock],by simp [Value.ownBlock]⟩
 constructor
 ·intro e
  simp [Value.ownBlock] at e;subst e;rw [hg] at h2;cases h2
 intro e;simp [Value.ownBlock] at e;subst e;rw [hg] at h1;cases h1
def places (F:List Nd) (q:Nm→Bool):List Int:=(named F q).map fun x=>(place F x:Int)
theorem places_rise {F:List Nd}(hn:(vars F).Nodup) (q:Nm→Bool):Rise (VSet F q) (places F q):=by
 refine⟨?_,fun k=>?_⟩
 ·unfold places
  rw [List.pairwise_map];have hs:(named F q).Sublist (vars F):=List.filter_sublist;have hp:(vars F).Pairwise fun x y=>(place F x:Int)<place F y:=by
   rw [List.pairwise_iff_getElem];intro i j hi hj hij;rw [place_of hn (zq9 hi),place_of hn (zq9 hj)]
   exact_mod_cast hij
  exact hp.sublist hs
 unfold places;rw [ikey_iff,List.mem_map];constructor
 ·rintro ⟨x,hx,rfl⟩
  obtain⟨h1,h2⟩:=mem_named.1 hx;exact⟨1,vset_mem.2 ⟨x,h1,h2,rfl,rfl⟩⟩
 rintro ⟨v,hv⟩;obtain⟨x,h1,h2,e,_⟩:=vset_mem.1 hv;exact⟨x,mem_named.2 ⟨h1,h2⟩,e.symm⟩
def RsP (w:World) (zs:List Int) (e:Ending) (w':World):Prop :=
 ∃ a c,e = .returned (.slice a zs.length c)∧w'.ownsRow w.heap.size 3 1 (.slice a zs.length c) zs.length (ints zs)∧Below w.heap.size w w'
theorem rising_any (SORT:SortLaw) {w:World}{b:Nat}{l:List (Int×Int)}{zs:List Int}(h:IMap Tryz.prog w b l) (hz:Rise l zs) (hl:l.length≤1000000):Calls Tryz.prog 85 #[.map (some b)] w (RsP w zs):=by
 have HS:=zh SORT;have H:=zh h
 have HZ:=zh hz;have HL:=zh hl
 have HMB:=zh h.lt;have e1:(Builtin.len_ #[108] 3 #[.map (some b)]).run Tryz.prog w = .ok (.int .i64 l.length) w:=by obtain⟨D,h1,h2,_⟩:=h;have:=h1.len Tryz.underlying108 3;rw [h2] at this;exact this
 obtain⟨i0,hi0,hz0,hz1,hz2⟩:=info_parts Tryz.info3u;have HI:=zh (And.intro hi0 (And.intro hz0 (And.intro hz1 hz2)));obtain⟨n,hn⟩:∃ n,n=l.length:=⟨_,rfl⟩;rw [← hn] at e1;have HN:=zh hn
 clear SORT h hz hl hi0 hz0 hz1 hz2 hn
 go_enter Tryz.func85,Tryz.ntmps85
 go_wp2_with (at_make;refine wpList_make_own w rfl _ _ 40 rfl w.heap.size 3 i0 (.int .i64 0) 1 Tryz.underlying40 HI.out.1 HI.out.2.1 HI.out.2.2.1 .i64 .i64 n n rfl rfl rfl ?_ ?_ (zr4 _) ?_)
 ·have:=HI.out.2.2.2;have:=HL.out;have:=HN.out;rw [HI.out.2.2.2];omega
 ·have:=HL.out;have:=HN.out;unfold maxLen;omega
 intro w1 hown1 hg1;have O1:=zh hown1;have B1:Hid (Below w.heap.size w w1):=(zs9 _ w).grown hg1 (zr4 _) (by simp)
 have H1:=zh (H.out.keep (hg1.block b HMB.out (by simp)))
 clear hown1 hg1 e1
 go_wp2_with (at_range;refine wpList_irange Tryz.underlying3 rfl _ 108 rfl Tryz.underlying108 b l rfl H1.out ?_;intro w2 hrg2 hg2 hs2)
 go_frame
 have R2:=zh hrg2;have B2:=zh (B1.out.grown hg2 B1.out.size (by simp))
 have O2:Hid (w2.ownsRow w.heap.size 3 1 (.slice (some ⟨w.heap.size,0,none⟩) 0 n) 0 []):=O1.out.kept hg2 (.inr (by simp [Value.ownBlock]))
 clear hrg2 hg2 hs2;obtain⟨r,hr⟩:∃ r,r=w1.heap.size:=⟨_,rfl⟩;rw [← hr];have R3:Hid (IRg Tryz.prog w2 b r l (ikey l) l.length):=by rw [hr];exact R2.out
 have RB:Hid (w.heap.size≤r):=by rw [hr];exact B1.out.size
 clear R2 hr
 go_loopw [3] (fun o wr=>∃ (todo:Int→Bool) (cnt:Nat) (ns:List Int) (a:Option Addr) (k c:Nat),o = .slice a k c∧a≠none∧k=ns.length∧IRg Tryz.prog wr b r l todo cnt∧ColI l todo ns∧wr.ownsRow w.heap.size 3 1 (.slice a k c) k (ints ns)∧Below w.heap.size w wr)
  (fun _ wr=>wr.rangeLeft b r)
 case atStart=>exact⟨_,_,[],_,0,n,rfl,by simp,rfl,R3.out,ColI.start l,O2.out,B2.out⟩
 obtain⟨todo,cnt,ns,a,k,c,rfl,hna,hk,hrg,hcol,hrow,hb⟩:=hrel;have HNA:=zh hna;have HK:=zh hk
 have HRG:=zh hrg;have HCO:=zh hcol
 have HRO:=zh hrow;have HB:=zh hb
 clear hna hk hrg hcol hrow hb
 go_wp2_with (at_next;refine wpList_inext Tryz.underlying3 rfl _ rfl b r l todo cnt rfl HRG.out ?_ ?_)
 ·intro hl0
  have HSO:=zh (HCO.out.sorted hl0 HZ.out);clear hl0;rcases HRO.out.2 with ⟨hnil,hn0⟩|⟨g,cap,cur,hv,hbase,hbk,k1,k2,k3,k4⟩
  ·simp at hnil;exact absurd hnil.1 HNA.out
  simp only [Value.slice.injEq,true_and] at hv;obtain⟨rfl,rfl⟩:=hv;have hlen:zs.length=k:=by rw [← HSO.out,List.length_mergeSort,HK.out]
  have SC:=HS.out g c ns wr (holds_ints hbk (by rw [← HK.out];simpa using k4)) (zq7.1 hbk).1 (by have:=HCO.out.len;have:=HL.out;omega)
  rw [← HK.out,HSO.out] at SC;have SC2:=zh SC;have FIN:Hid (∀ (q:Nat) (os:Array Obj) (w2:World),w2=grow (putRow (Value.int .i64) (Sort.ahead wr q) g 0 zs.toArray) os→RsP w zs (.returned (.slice (some ⟨g,0,none⟩) k c)) w2):=fun q os w2 e=>by
   unfold RsP;rw [hlen];refine⟨_,_,rfl,?_,?_⟩
   ·rw [e]
    have:=ownsRow_sortedI (w:=wr) (base:=w.heap.size) (n:=q) (os:=os) (ss:=ns) (ts:=zs) (by rw [hlen,HK.out]) (by omega) hbk (by rw [← HK.out];exact k1) k2 k3
    rw [← HK.out] at this;exact this
   rw [e];exact HB.out.grown (grownBy_sortedI _) HB.out.size (by intro k ek;cases ek;omega)
  clear SC hlen hbk k1 k2 k3 k4 hbase
  go_wp2_with fail
  refine(SC2.out).mono ?_;rintro e w2 ⟨rfl,q,os,hw2⟩;have HW:=zh hw2;clear hw2
  go_wp2_with fail
  go_ret
  exact FIN.out q os _ HW.out
 intro x v w3 cnt1 hwx hx htx hrg1 hlt hg1 hs1 hen;have HC2:=zh (HCO.out.step hx htx);have HRG1:=zh hrg1
 have hne:=HRG.out.own HRO.out;have HRO2:=zh ((HRO.out.kept hg1 (.inr (fun e=>hne.1 e.symm))).alloc (.cells #[.int .i64 x] 3))
 have HB1:=zh ((HB.out.grown hg1 HB.out.size (by intro k e;cases e;exact RB.out)).alloc (by have:=HB.out.size;have:=hg1.size;omega) (.cells #[.int .i64 x] 3))
 have HLT:=zh hlt;have HX:=zh (zs2 w3 (.cells #[.int .i64 x] 3))
 have HL2:=zh HCO.out.len;clear hwx hx htx hrg1 hlt hg1 hs1 hne
 go_wp2_with (at_builtin;refine wpList_append_own _ rfl _ _ 40 rfl w.heap.size 3 i0 (.int .i64 0) 1 8 Tryz.underlying40 HI.out.1 HI.out.2.1 HI.out.2.2.1 HI.out.2.2.2 rfl (by decide) (.slice a k c) k (ints ns) rfl HRO2.out ⟨w3.heap.size,0,none⟩ 1 1 [.int .i64 x] rfl rfl ?_ ?_ ?_ ?_ ?_ ?_)
 ·intro j u hu
  rw [Addr.add_lit,zb _ _ _ _ _ _ HX.out]
  match j,hu with
  | 0,hu=>simpa using hu
  | j+1,hu=>simp at hu
 ·intro u hu;simp at hu;subst hu;rfl
 ·have:=HL2.out;have:=HL.out;have:=HK.out;simp only [maxLen];omega
 ·have:=HL2.out;have:=HL.out;have:=HK.out;omega
 ·exact HB1.out.size
 intro v' w4 h1 h2 h3;obtain⟨a2,c2,rfl⟩:=own_sliceI h1;have HNA2:Hid (a2≠none):=fun e=>by subst e;rcases h1.2 with ⟨e,_⟩|⟨g,cap,cur,e,_⟩<;>simp at e
 clear h3;have hne2:=(HRG1.out.kept (row:=none) (World.grownBy_alloc w3 (.cells #[.int .i64 x] 3) none) (by simp) (by simp)).own HRO2.out
 have HRG2:=zh ((HRG1.out.kept (row:=none) (World.grownBy_alloc w3 (.cells #[.int .i64 x] 3) none) (by simp) (by simp)).kept h2 hne2.2 hne2.1)
 have HROW:=zh h1;have HB2:=zh (HB1.out.grown h2 HB1.out.size (fun q e=>(HRO2.out.lt _ e).1))
 clear h1 h2 hne2 hen
 go_wp2_with fail
 go_roundw
 case rel=>exact⟨_,cnt1,ns++[x],a2,k+1,c2,rfl,HNA2.out,by rw [zr2,List.length_singleton,HK.out],HRG2.out,HC2.out,by rw [ints_append];exact HROW.out,HB2.out⟩
 case measure=>rw [HRG2.out.left_eq,HRG.out.left_eq];exact HLT.out
end
section
open Go.RowKit RG Go.Maps Go.Sort
theorem Tryz.info9u:(Tryz.prog.info? 9).map (fun i=>(i.zero,i.size,i.bytes))=some (some (.string ⟨#[]⟩),1,16):=by kernel_rfl
theorem Fl.names {w:World}{A:Ad}{f:Nat}{F:List Nd}(h:Fl w A f F):∃ ad c,w.cell? ⟨f,3,none⟩=some (.slice ad (vars F).length c)∧(0<(vars F).length→∃ g o,ad=some ⟨g,o,none⟩∧∀ (i:Nat) x,(vars F)[i]?=some x→w.cell? ⟨g,o+i,none⟩=some (.string x)):=by
 obtain⟨sl,sn,sv,f0,f1,f2,-,ad,c,rfl,h2⟩:=h.at'.flat;exact⟨ad,c,by rw [zb _ _ 3 _ _ _ f0];rfl,fun h0=>by obtain⟨g,o,e,h3⟩:=h2 h0;exact⟨g,o,e,fun i x hi=>h3 i _ (strs_at hi)⟩⟩
def NmP (w:World) (ns:List Nm) (e:Ending) (w':World):Prop :=
 ∃ a c,e = .returned (.slice a ns.length c)∧w'.ownsRow w.heap.size 9 1 (.slice a ns.length c) ns.length (strs ns)∧Below w.heap.size w w'
theorem named_any (SORT:SortLaw) {w:World}{A:Ad}{f b:Nat}{F:List Nd}{q:Nm→Bool}(h:Fl w A f F) (hs:SetAt w b F q):Calls Tryz.prog 56 #[.pointer (some ⟨f,0,none⟩),.map (some b)] w (NmP w (named F q)):=by
 have RS:=zh (rising_any SORT hs (places_rise h.fo.once q) (zr5 (vset_le q) h.few));have H:=zh h
 obtain⟨i0,hi0,hz0,hz1,hz2⟩:=info_parts Tryz.info9u;have HI:=zh (And.intro hi0 (And.intro hz0 (And.intro hz1 hz2)));obtain⟨n,hn⟩:∃ n,n=(places F q).length:=⟨_,rfl⟩;have HN:=zh hn
 have HN2:Hid (n=(named F q).length):=by show _=_;rw [hn];exact zv1 _
 have HNZ:Hid (n≤1000000):=by have:=h.few;have h2:=List.length_filter_le q (vars F);have h3:=HN2.out;unfold named at h3;show _≤_;omega
 have hnz:(n:Int)≤1000000:=by have:=HNZ.out;omega
 clear hi0 hz0 hz1 hz2 hs h hn SORT
 go_enter Tryz.func56,Tryz.ntmps56
 go_wp2_with fail
 refine RS.out.mono ?_;rintro e w1 ⟨ra,rc,rfl,hro,hb⟩;rw [← HN.out] at hro ⊢;have HR:=zh hro;have HB:=zh hb
 clear hro hb
 go_wp2_with fail
 go_loopw [5,11] (fun o iv wr=>∃ (k:Nat) (a:Option Addr) (c:Nat),k≤n∧iv = .int .i64 k∧o = .slice a k c∧wr.ownsRow w1.heap.size 9 1 (.slice a k c) k (strs ((named F q).take k))∧Below w1.heap.size w1 wr) (fun _ iv _=>n - (intOf iv).toNat)
 case atStart=>exact⟨0,none,0,zv3 _,rfl,rfl,World.ownsRow_nil _ _ _ _,zs9 _ _⟩
 obtain⟨k,a,c,hk,rfl,rfl,hrow,hb⟩:=hrel;have KR:=zh hrow;have KB:=zh hb
 have KL:=zh hk;clear hrow hb hk
 by_cases hlt:k<n
 ·have hkn:k<(named F q).length:=by rw [← HN2.out];exact hlt
  obtain⟨x,hx⟩:∃ x,(named F q)[k]?=some x:=⟨_,zq9 hkn⟩;have hxv:x∈vars F:=(mem_named.1 (zr1 hx)).1;have hpx:(places F q)[k]?=some (place F x:Int):=by unfold places;rw [List.getElem?_map,hx];rfl
  have hpl:=place_lt hxv;have BW:Below w.heap.size w wr:=HB.out.trans (KB.out.mono HB.out.size)
  obtain⟨ad,nc,c3,hat⟩:=(H.out.keep BW).names;obtain⟨g,o,rfl,hat2⟩:=hat (by omega)
  have hcx:=hat2 _ _ (place_at hxv);clear hat2
  -- the place that was sorted
  obtain⟨rg,hra,hrat⟩:∃ rg,ra=some ⟨rg,0,none⟩∧w1.cell? ⟨rg,k,none⟩=some (.int .i64 (place F x)):=by
   rcases HR.out.2 with ⟨e,h0⟩|⟨rg,cap,cur,e,hbase,hg,k1,k2,k3,k4⟩
   ·omega
   simp only [Value.slice.injEq,true_and] at e;refine⟨rg,e.1,?_⟩;rw [zb _ _ _ _ _ _ hg,← Array.getElem?_toList,← List.getElem?_take_of_lt (show k<n*1 by omega),k4]
   unfold ints;rw [List.getElem?_map,hpx];rfl
  subst hra;have hrat2:=zd KB.out _ _ hrat;have hlz:(k:Int)<n:=by omega
  have HLT:=zh hlt;have HX:=zh hx
  have hpz:(place F x:Int)<(vars F).length:=by omega
  obtain⟨p,hp⟩:∃ p,p=place F x:=⟨_,rfl⟩;rw [← hp] at hcx hrat2 hpz;have hvz:((vars F).length:Int)≤1000000:=by have:=H.out.few;omega
  obtain⟨vn,hvn⟩:∃ vn,vn=(vars F).length:=⟨_,rfl⟩;rw [← hvn] at c3 hpz hvz;have HBW:=zh BW;have HRO2:=zh (KR.out.alloc (.cells #[.string x] 9))
  have HXA:=zh (zs2 wr (.cells #[.string x] 9));clear hat hx hlt hrat hxv hpx hpl hkn BW hp hvn
  go_wp2_with (at_builtin;refine wpList_append_own _ rfl _ _ 35 rfl w1.heap.size 9 i0 (.string ⟨#[]⟩) 1 16 Tryz.underlying35 HI.out.1 HI.out.2.1 HI.out.2.2.1 HI.out.2.2.2 rfl (by decide) (.slice a k c) k (strs ((named F q).take k)) rfl HRO2.out ⟨wr.heap.size,0,none⟩ 1 1 [.string x] rfl rfl ?_ ?_ ?_ ?_ ?_ ?_)
  ·intro j u hu
   rw [Addr.add_lit,zb _ _ _ _ _ _ HXA.out]
   match j,hu with
   | 0,hu=>simpa using hu
   | j+1,hu=>simp at hu
  ·intro u hu;simp at hu;subst hu;rfl
  ·have:=HLT.out;have:=HNZ.out;simp only [maxLen];omega
  ·have:=HLT.out;have:=HNZ.out;omega
  ·have:=KB.out.size;simp;omega
  intro v' w4 h1 h2 _;obtain⟨a2,c2,rfl⟩:=own_sliceI h1;have HROW:Hid (w4.ownsRow w1.heap.size 9 1 (.slice a2 (k+1) c2) (k+1) (strs ((named F q).take (k+1)))):=by
   rw [List.take_add_one,HX.out,strs_append];exact h1
  have HB2:=zh ((KB.out.alloc KB.out.size (.cells #[.string x] 9)).grown h2 (by have:=KB.out.size;simp;omega) (fun q e=>(HRO2.out.lt _ e).1))
  clear h1 h2
  go_wp2_with fail
  go_roundw
  case rel=>exact⟨k+1,a2,c2,HLT.out,by go_num,rfl,HROW.out,HB2.out⟩
  case measure=>have:=HLT.out;simp [intOf];omega
 have hlz:(n:Int)≤k:=by omega
 have HE:Hid (k=n):=by have:=KL.out;show _=_;omega
 clear hlt
 go_wp2_with fail
 go_ret
 have e:k=(named F q).length:=by rw [HE.out];exact HN2.out
 have hrow:=KR.out;rw [e,List.take_length] at hrow;refine⟨a,c,by show Ending.returned (.slice a k c)=_;rw [e],?_,HB.out.trans (KB.out.mono HB.out.size)⟩
 obtain⟨h1,h2⟩:=hrow;exact⟨h1,h2.imp id fun ⟨g,cap,cur,e1,e2,rest⟩=>⟨g,cap,cur,e1,zr5 HB.out.size e2,rest⟩⟩
end
end Go.Proofs.YtnkahlloahgifaaGreatDoor
