/- Part. -/
import Derived.Test.YtnkahlloahgifaaGreatDoorVB
import Derived.Test.YtnkahlloahgifaaGreatDoorVPg
import Derived.WalkKit
import Derived.Laws.AppendOwn
import Derived.Laws.Append
import Derived.Maps.Own
import Derived.Maps.OwnOps
import Derived.Maps.OwnSet
import Derived.Maps.RangeWalk
import Derived.Below
import Derived.Lib.Hide
import Derived.Deep.QuietTactic
import Derived.Test.YtnkahlloahgifaaGreatDoorProg
import Derived.Test.YtnkahlloahgifaaGreatDoorChecked
import Derived.BigQuiet
import Derived.Outline
import Derived.WalkSpells
import Derived.RangeFuncNested
import Derived.RangeFuncBound
import Derived.RangeFuncCalls
import Derived.RangeFuncLeaves
import Derived.Shelf.Abstract
import Derived.Handy
import Derived.Lib.Bytes
import Derived.RangeFuncSeq
import Derived.OwnWalkIn
import Derived.TacticsInMore
import Derived.LoopNIn
import Derived.LoopIn
import Derived.BigFrameIn
import Derived.Deep.LoopGhost
import Derived.Deep.Cut
import Derived.Maps.OwnIn
import Derived.Deep.RegionHeld3
import Derived.StillTactics
import Derived.OwnWalk
import Derived.Deep.AppendLies
import Derived.OrdersIn
import Derived.Laws.EntriesVeiled
import Derived.StillTailTactics
import Derived.Deep.CutBlock
set_option maxHeartbeats 16000000
set_option maxRecDepth 100000
set_option linter.unusedSimpArgs false
set_option linter.unusedVariables false
namespace Go.Proofs.YtnkahlloahgifaaGreatDoor
section
open Go.RowKit
structure Ch (M:Nat→Prop) (ρ ρ':Nat→Nat) (w w':World):Prop where
 os:w'.os=w.os
 tape:w'.tape=w.tape
 output:w'.output=w.output
 size:w.heap.size≤w'.heap.size
 block:∀ k,k<w.heap.size→¬ M (ρ k)→w'.heap[k]?=w.heap[k]?
 role:∀ k,k<w.heap.size→ρ' k=ρ k
 fresh:∀ k,w'.heap.size≤k→ρ' k=0
theorem Ch.refl {M:Nat→Prop} {ρ:Nat→Nat}{w:World}(h:∀ k,w.heap.size≤k→ρ k=0):Ch M ρ ρ w w :=
 ⟨rfl,rfl,rfl,zr4 _,fun _ _ _=>rfl,fun _ _=>rfl,h⟩
theorem Ch.trans {M : Nat → Prop} {ρ ρ1 ρ2 : Nat → Nat} {w w1 w2 : World} (h : Ch M ρ ρ1 w w1) (k : Ch M ρ1 ρ2 w1 w2) : Ch M ρ ρ2 w w2 :=
  ⟨k.os.trans h.os, k.tape.trans h.tape, k.output.trans h.output, Nat.le_trans h.size k.size,
   fun i hi hm => (k.block i (Nat.lt_of_lt_of_le hi h.size) (by rw [h.role i hi]; exact hm)).trans (h.block i hi hm),
   fun i hi => (k.role i (Nat.lt_of_lt_of_le hi h.size)).trans (h.role i hi), k.fresh⟩
theorem Ch.mono {M M':Nat→Prop} {ρ ρ':Nat→Nat}{w w':World}(h:Ch M ρ ρ' w w') (hm:∀ r,M r→M' r):Ch M' ρ ρ' w w' :=
 ⟨h.os,h.tape,h.output,h.size,fun k hk hn=>h.block k hk (fun x=>hn (hm _ x)),h.role,h.fresh⟩
theorem Ch.drewN {M:Nat→Prop} {ρ ρ':Nat→Nat}{w w':World}(h:Ch M ρ ρ' w w') (n:Nat):Ch M ρ ρ' w (w'.drewN n) :=
 ⟨h.os,h.tape,h.output,h.size,h.block,h.role,h.fresh⟩
theorem Ch.drew {M:Nat→Prop} {ρ ρ':Nat→Nat}{w w':World}(h:Ch M ρ ρ' w w'):Ch M ρ ρ' w w'.drew :=
 ⟨h.os,h.tape,h.output,h.size,h.block,h.role,h.fresh⟩
theorem Ch.alloc {M : Nat → Prop} {ρ ρ' : Nat → Nat} {w w' : World} (h : Ch M ρ ρ' w w') (o : Obj) : Ch M ρ ρ' w (w'.alloc o) :=
  ⟨h.os, h.tape, h.output, by have := h.size; simp; omega, fun k hk hm => (Below.heap_alloc w' o k (Nat.lt_of_lt_of_le hk h.size)).trans (h.block k hk hm), h.role,
   fun k hk => h.fresh k (by simp at hk; omega)⟩
theorem Ch.setCell {M : Nat → Prop} {ρ ρ' : Nat → Nat} {w w' : World} (h : Ch M ρ ρ' w w') (a : Addr) (v : Value) (hm : a.block < w.heap.size → M (ρ a.block)) : Ch M ρ ρ' w (w'.setCell a v) :=
  ⟨h.os, h.tape, h.output, by simpa using h.size, fun k hk hn => (Below.heap_setCell w' a v k (by rintro rfl; exact hn (hm hk))).trans (h.block k hk hn), h.role,
   fun k hk => h.fresh k (by simpa using hk)⟩
theorem Ch.below {M:Nat→Prop} {ρ ρ':Nat→Nat}{w w':World}{B:Nat}(h:Ch M ρ ρ' w w') (hB:B≤w.heap.size) (hr:∀ k,k<B→¬ M (ρ k)):Below B w w' :=
 ⟨h.os,h.tape,h.output,h.size,fun k hk=>h.block k (by omega) (hr k hk)⟩
theorem Ch.keep {M:Nat→Prop} {ρ ρ':Nat→Nat}{w w':World}(h:Ch M ρ ρ' w w') {k:Nat}{o:Obj}(ho:w.heap[k]?=some o) (hn:¬ M (ρ k)):w'.heap[k]?=some o:=by
 rw [h.block k (zq7.1 ho).1 hn];exact ho
theorem Ch.keepRole {M:Nat→Prop} {ρ ρ':Nat→Nat}{w w':World}(h:Ch M ρ ρ' w w') {k:Nat}{o:Obj}(ho:w.heap[k]?=some o):ρ' k=ρ k :=
 h.role k (zq7.1 ho).1
def roleAt (ρ:Nat→Nat) (b r:Nat):Nat→Nat:=fun k=>if k=b then r else ρ k
theorem roleAt_same (ρ:Nat→Nat) (b r:Nat):roleAt ρ b r b=r:=by simp [roleAt]
theorem zv (ρ:Nat→Nat) (b r:Nat) {k:Nat}(h:k≠b):roleAt ρ b r k=ρ k:=by simp [roleAt,h]
theorem Ch.named {M : Nat → Prop} {ρ ρ' : Nat → Nat} {w w' : World} (h : Ch M ρ ρ' w w') (b r : Nat) (h1 : w.heap.size ≤ b) (h2 : b < w'.heap.size) : Ch M ρ (roleAt ρ' b r) w w' :=
  ⟨h.os, h.tape, h.output, h.size, h.block, fun k hk => by rw [zv _ _ _ (by omega)]; exact h.role k hk,
   fun k hk => by rw [zv _ _ _ (by omega)]; exact h.fresh k hk⟩
theorem Ch.grown {M : Nat → Prop} {ρ ρ' : Nat → Nat} {w w1 w2 : World} (h : Ch M ρ ρ' w w1) {row : Option Nat} (g : w1.grownBy w2 row) (hr : ∀ k, row = some k → k < w.heap.size → M (ρ k)) : Ch M ρ ρ' w w2 :=
  ⟨g.os.trans h.os, g.tape.trans h.tape, g.output.trans h.output, Nat.le_trans h.size g.size,
   fun k hk hn => (g.block k (Nat.lt_of_lt_of_le hk h.size) (fun e => hn (hr k e.symm hk))).trans (h.block k hk hn), h.role, fun k hk => h.fresh k (Nat.le_trans g.size hk)⟩
theorem Ch.of_below {M:Nat→Prop} {ρ:Nat→Nat}{w w':World}(h:Below w.heap.size w w') (hρ:∀ k,w.heap.size≤k→ρ k=0):Ch M ρ ρ w w' :=
 ⟨h.os,h.tape,h.output,h.size,fun k hk _=>h.block k hk,fun _ _=>rfl,fun k hk=>hρ k (zr5 h.size hk)⟩
theorem zj (w:World) (B n:Nat):Below B w (w.drewN n):=⟨rfl,rfl,rfl,zr4 _,fun _ _=>rfl⟩
theorem Below.drawn {B:Nat}{w w':World}(h:Below B w w') (n:Nat):Below B w (w'.drewN n):=⟨h.os,h.tape,h.output,h.size,h.block⟩
theorem append_where {P:Program}{w:World}{base n size bytes:Nat}{v:Value}{xs:List Value}{t e:TypeId}{i:TypeInfo}{z:Value}(ht:P.underlying t=some (.slice e)) (hi:P.info? e=some i) (hz:i.zero=some z) (hsize:i.size=size) (hby:i.bytes=bytes)
  (hsz:0<size) (hown:w.ownsRow base e size v n xs) (ty:TypeId) (ad:Addr) (m c:Nat) (news:List Value) (hl:news.length=m*size) (hnews:∀ j u,news[j]?=some u→w.cell? (ad.add j)=some u)
  (h1:∀ u∈news,u.oneCell'=true) (h63:n+m≤maxLen) (hbytes:(n+m)*bytes≤140737488355328) {v':Value} {w':World} (hr:(Builtin.append_ #[t,t] ty #[v,.slice (some ad) m c]).run P w = .ok v' w') (hn:v = .slice none 0 0→m=0→v' = .slice none 0 0) :
  v'.ownBlock=v.ownBlock∨v'.ownBlock=some w.heap.size:=by
 subst hsize;subst hby;have hsmall:n+m≤9223372036854775807:=by simp only [maxLen] at h63;omega
 rcases hown.2 with ⟨rfl,rfl⟩|⟨g,cap,cur,rfl,hbg,hg,hnc,hcm,hcs,htake⟩
 ·by_cases hm:m=0
  ·rw [hn rfl hm];exact .inl rfl
  rw [Nat.zero_add] at hbytes;have e:=run_append_nil (P:=P) w t ty e i _ ht hi hz ad m c news hl hnews (by omega) (by omega) (by omega)
  rw [e] at hr;simp only [Result.ok.injEq] at hr;rw [← hr.1];exact .inr rfl
 have hxl:=hown.1
 by_cases hroom:n+m≤cap
 ·have e:=run_append_room (P:=P) w t ty e i ht hi g n cap cur hg ad m c news hl hnews h1 hroom (by rw [hl,hcs,← Nat.add_mul];exact Nat.mul_le_mul_right _ hroom)
  rw [e] at hr;simp only [Result.ok.injEq] at hr;rw [← hr.1];exact .inl rfl
 have holds:∀ j u,xs[j]?=some u→w.cell? ((⟨g,0,none⟩:Addr).add j)=some u:=hown.cells (g:=g) rfl;have e:=run_append_grow (P:=P) w t ty e i _ ht hi hz ⟨g,0,none⟩ n cap xs hxl holds ad m c news hl hnews (by omega) (by omega) (growslice_fits (by omega) hbytes)
 rw [e] at hr;simp only [Result.ok.injEq] at hr;rw [← hr.1];exact .inr rfl
structure RR (w:World) (ρ:Nat→Nat) (r:Nat) (e:TypeId) (size:Nat) (v:Value) (n:Nat) (xs:List Value):Prop where
 row:w.ownsRow 0 e size v n xs
 role:∀ q,v.ownBlock=some q→ρ q=r
theorem RR.nil (w:World) (ρ:Nat→Nat) (r:Nat) (e:TypeId) (size:Nat):RR w ρ r e size (.slice none 0 0) 0 []:=⟨World.ownsRow_nil _ _ _ _,fun q hq=>by simp [Value.ownBlock] at hq⟩
theorem RR.keep {M:Nat→Prop}{w w':World} {ρ ρ':Nat→Nat}{r e size n:Nat}{v:Value}{xs:List Value}(h:RR w ρ r e size v n xs) (c:Ch M ρ ρ' w w') (hn:¬ M r):RR w' ρ' r e size v n xs:=by
 obtain⟨⟨h1,h2⟩,h3⟩:=h;rcases h2 with h2 | ⟨g,cap,cur,rfl,hb,hg,rest⟩
 ·refine⟨⟨h1,.inl h2⟩,fun q hq=>?_⟩
  rw [h2.1] at hq;simp [Value.ownBlock] at hq
 have r0:=h3 g (by simp [Value.ownBlock])
 refine⟨⟨h1,.inr ⟨g,cap,cur,rfl,hb,c.keep hg (by rw [r0];exact hn),rest⟩⟩,fun q hq=>?_⟩
 simp [Value.ownBlock] at hq;subst hq;exact(c.keepRole hg).trans r0
theorem RR.shape {w:World} {ρ:Nat→Nat}{r e size n:Nat}{v:Value}{xs:List Value}(h:RR w ρ r e size v n xs):∃ a c,v = .slice a n c:=by
 rcases h.row.2 with ⟨rfl,rfl⟩|⟨g,cap,cur,rfl,_⟩
 ·exact⟨_,_,rfl⟩
 exact⟨_,_,rfl⟩
theorem run_append_rr {P:Program}(w:World) (t ty e:TypeId) (i:TypeInfo) (z:Value) (size bytes:Nat) (ht:P.underlying t=some (.slice e)) (hi:P.info? e=some i) (hz:i.zero=some z)
  (hsize:i.size=size) (hby:i.bytes=bytes) (hzs:z.cells.size=size) (hsz:0<size) (ρ:Nat→Nat) (r:Nat) (v:Value) (n:Nat) (xs:List Value) (hrow:RR w ρ r e size v n xs) (hρ:∀ k,w.heap.size≤k→ρ k=0)
  (ad:Addr) (m c:Nat) (news:List Value) (hl:news.length=m*size) (hnews:∀ j u,news[j]?=some u→w.cell? (ad.add j)=some u) (h1:∀ u∈news,u.oneCell'=true)
  (h63:n+m≤maxLen) (hbytes:(n+m)*bytes≤140737488355328) :
  ∃ a' c' w' ρ',(Builtin.append_ #[t,t] ty #[v,.slice (some ad) m c]).run P w = .ok (.slice a' (n+m) c') w'∧RR w' ρ' r e size (.slice a' (n+m) c') (n+m) (xs++news)∧Ch (· = r) ρ ρ' w w'∧(∀ k,w.heap.size≤k→ρ' k=0∨ρ' k=r):=by
 obtain⟨v',w',hr,h2,h3,h4⟩:=run_append_own (P:=P) w 0 t ty e i z size bytes ht hi hz hsize hby hzs hsz v n xs hrow.row ad m c news hl hnews h1 h63 hbytes (zv3 _);have hwh:=append_where ht hi hz hsize hby hsz hrow.row ty ad m c news hl hnews h1 h63 hbytes hr (fun e1 e2=>h4.2 ⟨e1,e2⟩)
 have hold:∀ q,v.ownBlock=some q→q<w.heap.size:=fun q hq=>(hrow.row.lt q hq).2
 have hch:Ch (· = r) ρ ρ w w':=(Ch.refl hρ).grown h3 fun k hk _=>hrow.role k hk
 have hsh:∃ a' c',v' = .slice a' (n+m) c':=by
  rcases h2.2 with ⟨rfl,h0⟩|⟨g,cap,cur,rfl,_⟩
  ·rw [h0];exact⟨_,_,rfl⟩
  exact⟨_,_,rfl⟩
 obtain⟨a',c',rfl⟩:=hsh
 by_cases hnew:(Value.slice a' (n+m) c').ownBlock=some w.heap.size
 ·have hlt:=(h2.lt _ hnew).2
  refine⟨a',c',w',roleAt ρ w.heap.size r,hr,⟨h2,fun q hq=>?_⟩,hch.named _ _ (zr4 _) hlt,fun k hk=>?_⟩
  ·rw [hnew] at hq
   simp only [zt3] at hq;subst hq;exact roleAt_same _ _ _
  by_cases e:k=w.heap.size
  ·subst e;exact .inr (roleAt_same _ _ _)
  rw [zv _ _ _ e];exact .inl (hρ k hk)
 refine⟨a',c',w',ρ,hr,⟨h2,fun q hq=>?_⟩,hch,fun k hk => .inl (hρ k hk)⟩
 rcases hwh with e | e
 ·exact hrow.role q (by rw [← e];exact hq)
 exact absurd e hnew
theorem wpList_append_run {P:Program}{w w':World}{ops:Array Oper}{rest:List Oper}{o:Oper}{a:Act}{Q:Exit→Act→World→Prop}(hgd:o.guard=none) (s x:Operand) (t:TypeId)
  (ho:o.op = .call { callee := .builtin .append,args := #[s,x],argTypes := #[t,t] }) {v v' xv:Value} (hs:a.eval s=v) (hx:a.eval x=xv)
  (hr:(Builtin.append_ #[t,t] o.type #[v,xv]).run P w = .ok v' w') (h:wpList P ops Q rest (a.put o.dst v') w'):wpList P ops Q (o :: rest) a w :=
 wpList_plain hgd fun K hK=>by
  unfold Oper.wp execOp;simp only [ho,resolve,invoke,builtin,Sem.run_bind,Sem.run_pure,Result.andThen_ok,List.map_toArray,List.map_cons,List.map_nil,hs,hx,hr];exact hK _ _ h
theorem wpList_append_rr {P:Program}{w:World}{ops:Array Oper}{rest:List Oper}{o:Oper}{a:Act}{Q:Exit→Act→World→Prop}(hgd:o.guard=none) (s x:Operand) (t:TypeId)
  (ho:o.op = .call { callee := .builtin .append,args := #[s,x],argTypes := #[t,t] })
  (e:TypeId) (i:TypeInfo) (z:Value) (size bytes:Nat) (ht:P.underlying t=some (.slice e)) (hi:P.info? e=some i) (hz:i.zero=some z)
  (hsize:i.size=size) (hby:i.bytes=bytes) (hzs:z.cells.size=size) (hsz:0<size) (ρ:Nat→Nat) (r:Nat) (v:Value) (n:Nat) (xs:List Value) (hs:a.eval s=v) (hrow:RR w ρ r e size v n xs) (hρ:∀ k,w.heap.size≤k→ρ k=0)
  (ad:Addr) (m c:Nat) (news:List Value) (hx:a.eval x = .slice (some ad) m c) (hl:news.length=m*size) (hnews:∀ j u,news[j]?=some u→w.cell? (ad.add j)=some u) (h1:∀ u∈news,u.oneCell'=true)
  (h63:n+m≤maxLen) (hbytes:(n+m)*bytes≤140737488355328)
  (h:∀ a' c' w' ρ',RR w' ρ' r e size (.slice a' (n+m) c') (n+m) (xs++news)→Ch (· = r) ρ ρ' w w'→(∀ k,w.heap.size≤k→ρ' k=0∨ρ' k=r)→wpList P ops Q rest (a.put o.dst (.slice a' (n+m) c')) w'):wpList P ops Q (o :: rest) a w:=by
 obtain⟨a',c',w',ρ',hr,h2,h3,h4⟩:=run_append_rr (P:=P) w t o.type e i z size bytes ht hi hz hsize hby hzs hsz ρ r v n xs hrow hρ ad m c news hl hnews h1 h63 hbytes;exact wpList_append_run hgd s x t ho hs hx hr (h a' c' w' ρ' h2 h3 h4)
open Go.Maps
def IMap (P:Program) (w:World) (b:Nat) (l:List (Int×Int)):Prop :=
 ∃ D:DataW Unit,w.ownsMap P 3 (plainElem P 3) b (Maps.size D) D∧Maps.size D=l.length∧(l.map (·.1)).Nodup∧(∀ k v:Int,(k,v)∈l→(Lit.int .i64 k).wf=true∧Maps.has D (.int .i64 k)=true∧∀ z,D.atKey (.int .i64 k) z = .lit (.int .i64 v)) ∧
  ∀ k:Int,Maps.has D (.int .i64 k)=true→∃ v,(k,v)∈l
theorem IMap.keep {P:Program}{w w':World}{b:Nat}{l:List (Int×Int)}(h:IMap P w b l) (hb:w'.heap[b]?=w.heap[b]?):IMap P w' b l:=by
 obtain⟨D,⟨es,clock,g1,g2,g3,g4⟩,rest⟩:=h;exact⟨D,⟨es,clock,by rw [hb];exact g1,g2,g3,g4⟩,rest⟩
theorem IMap.lt {P:Program}{w:World}{b:Nat}{l:List (Int×Int)}(h:IMap P w b l):b<w.heap.size:=by
 obtain⟨D,⟨es,clock,g1,_⟩,_⟩:=h;exact(zq7.1 g1).1
theorem IMap.obj {P:Program}{w:World}{b:Nat}{l:List (Int×Int)}(h:IMap P w b l):∃ es clock,w.heap[b]?=some (.map es clock):=by
 obtain⟨D,⟨es,clock,g1,_⟩,_⟩:=h;exact⟨_,_,g1⟩
theorem IMap.made (P:Program) (w:World):IMap P (w.alloc (.map #[] 0)) w.heap.size [] :=
 ⟨.map [],World.ownsMap_made w P 3 _,rfl,List.nodup_nil,fun k v h=>absurd h (by simp),fun k h=>by simp [Maps.has] at h⟩
def ikey (l:List (Int×Int)) (k:Int):Bool:=l.any fun p=>decide (p.1=k)
def iat (l:List (Int×Int)) (k:Int):Int:=((l.find? fun p=>decide (p.1=k)).map (·.2)).getD 0
def iput (l:List (Int×Int)) (k v:Int):List (Int×Int):=l.filter (fun p => !decide (p.1=k))++[(k,v)]
def idel (l:List (Int×Int)) (k:Int):List (Int×Int):=l.filter fun p => !decide (p.1=k)
theorem ikey_iff {l:List (Int×Int)}{k:Int}:ikey l k=true↔∃ v,(k,v)∈l:=by
 unfold ikey;rw [List.any_eq_true];constructor
 ·rintro ⟨⟨a,v⟩,h,e⟩;simp only [decide_eq_true_eq] at e;subst e;exact⟨v,h⟩
 rintro ⟨v,h⟩;exact⟨_,h,by simp⟩
theorem nodup_val {l:List (Int×Int)}(hn:(l.map (·.1)).Nodup) {k u v:Int}(h1:(k,u)∈l) (h2:(k,v)∈l):u=v:=by
 have:=RG.nodup_of_map hn (k,u) h1 (k,v) h2 rfl;simpa using this
theorem iat_mem {l:List (Int×Int)}(hn:(l.map (·.1)).Nodup) {k v:Int}(h:(k,v)∈l):iat l k=v:=by
 unfold iat;cases hq:l.find? (fun p=>decide (p.1=k)) with
 | none =>
  rw [List.find?_eq_none] at hq;exact absurd (hq _ h) (by simp)
 | some p =>
  have h1:=List.mem_of_find?_eq_some hq;have h2:p.1=k:=by have:=List.find?_some hq;simpa using this
  obtain⟨a,b⟩:=p;simp only at h2;subst h2;show b=v;exact nodup_val hn h1 h
theorem iat_none {l:List (Int×Int)}{k:Int}(h:ikey l k=false):iat l k=0:=by
 unfold iat;have:l.find? (fun p=>decide (p.1=k))=none:=by
  rw [List.find?_eq_none];intro p hp;unfold ikey at h;rw [List.any_eq_false] at h;exact h p hp
 rw [this];rfl
theorem filter_ne_length {l:List (Int×Int)}(hn:(l.map (·.1)).Nodup) (k:Int):(l.filter fun p => !decide (p.1=k)).length=if ikey l k then l.length - 1 else l.length:=by
 induction l with
 | nil=>rfl
 | cons p r ih =>
  rw [List.map_cons,List.nodup_cons] at hn;have ih:=ih hn.2
  by_cases e:p.1=k
  ·have hk:ikey r k=false:=by
    cases hq:ikey r k with
    | false=>rfl
    | true =>
     obtain⟨v,hv⟩:=ikey_iff.1 hq;exact absurd (List.mem_map.2 ⟨_,hv,e.symm⟩) hn.1
   have h1:ikey (p :: r) k=true:=by unfold ikey;rw [List.any_cons];simp [e]
   rw [hk] at ih;rw [List.filter_cons,h1];simp [e,ih]
  have h1:ikey (p :: r) k=ikey r k:=by unfold ikey;rw [List.any_cons];simp [e]
  rw [List.filter_cons,h1];simp only [e,decide_false,Bool.not_false,if_true,zv2,ih];cases hq:ikey r k with
  | false=>simp
  | true =>
   obtain⟨v,hv⟩:=ikey_iff.1 hq;have:=List.length_pos_of_mem hv;simp;omega
theorem mem_iput {l:List (Int×Int)}{k v a b:Int}:(a,b)∈iput l k v↔(a≠k∧(a,b)∈l)∨(a=k∧b=v):=by
 unfold iput;rw [List.mem_append,List.mem_filter,List.mem_singleton];simp only [Bool.not_eq_true',decide_eq_false_iff_not,Prod.mk.injEq];constructor
 ·rintro (⟨h1,h2⟩ | h);exact .inl ⟨h2,h1⟩;exact .inr h
 rintro (⟨h1,h2⟩ | h);exact .inl ⟨h2,h1⟩;exact .inr h
theorem nodup_iput {l:List (Int×Int)}(hn:(l.map (·.1)).Nodup) (k v:Int):((iput l k v).map (·.1)).Nodup:=by
 unfold iput;rw [List.map_append,List.nodup_append];refine⟨hn.sublist (List.filter_sublist.map _),by simp,fun a ha b hb=>?_⟩
 obtain⟨p,hp,rfl⟩:=List.mem_map.1 ha;simp only [List.map_cons,List.map_nil,List.mem_singleton] at hb;subst hb;have:=(List.mem_filter.1 hp).2;simpa using this
theorem mem_idel {l:List (Int×Int)}{k a b:Int}:(a,b)∈idel l k↔a≠k∧(a,b)∈l:=by
 unfold idel;rw [List.mem_filter];simp only [Bool.not_eq_true',decide_eq_false_iff_not];exact⟨fun h=>⟨h.2,h.1⟩,fun h=>⟨h.2,h.1⟩⟩
theorem IMap.congr {P:Program}{w:World}{b:Nat}{l l':List (Int×Int)}(h:IMap P w b l) (hn:(l'.map (·.1)).Nodup) (hm:∀ p,p∈l'↔p∈l):IMap P w b l':=by
 obtain⟨D,h1,h2,h3,h4,h5⟩:=h;have nod:∀ {l:List (Int×Int)},(l.map (·.1)).Nodup→l.Nodup:=fun {l} h=>by
  unfold List.Nodup at h ⊢;rw [List.pairwise_map] at h;exact h.imp fun hne e=>hne (by rw [e])
 have hp:l'.Perm l:=(List.perm_ext_iff_of_nodup (nod hn) (nod h3)).2 hm;exact⟨D,h1,by rw [h2];exact hp.length_eq.symm,hn,fun k v hk=>h4 k v ((hm _).1 hk),fun k hk=>by obtain⟨v,hv⟩:=h5 k hk;exact⟨v,(hm _).2 hv⟩⟩
variable {P:Program}
theorem key_wf {k:Int}(hu:P.underlying 3=some (.int .i64)) (hw:(Lit.int .i64 k).wf=true):keyOf P 3 (.int .i64 k)=some (.int .i64 k):=keyOf_int_mk hu hw
theorem IMap.put {w w':World}{b n:Nat}{D:DataW Unit}{l:List (Int×Int)}(hK:Keyed P 3) {k v:Int}(hw:(Lit.int .i64 k).wf=true)
  (hown0:w.ownsMap P 3 (plainElem P 3) b (Maps.size D) D) (h2:Maps.size D=l.length) (h3:(l.map (·.1)).Nodup) (h4:∀ k v:Int,(k,v)∈l→(Lit.int .i64 k).wf=true∧Maps.has D (.int .i64 k)=true∧∀ z,D.atKey (.int .i64 k) z = .lit (.int .i64 v))
  (h5:∀ k:Int,Maps.has D (.int .i64 k)=true→∃ v,(k,v)∈l) (hown:w'.ownsMap P 3 (plainElem P 3) b n (D.put (.int .i64 k) (.lit (.int .i64 v)))):IMap P w' b (iput l k v):=by
 have hKl:WideAt.IsKeyLit (.int .i64 k):=trivial;have hT:=hown0.tidy hK
 have hI:=hown0.isMap;have hh:Maps.has D (.int .i64 k)=ikey l k:=by
  cases hq:ikey l k with
  | true=>obtain⟨v,hv⟩:=ikey_iff.1 hq;exact(h4 k v hv).2.1
  | false =>
   cases hq2:Maps.has D (.int .i64 k) with
   | false=>rfl
   | true=>rw [ikey_iff.2 (h5 k hq2)] at hq;cases hq
 refine⟨D.put (.int .i64 k) (.lit (.int .i64 v)),?_,?_,nodup_iput h3 k v,fun a c hm=>?_,fun a ha=>?_⟩
 ·obtain⟨es,clock,g1,g2,g3,g4⟩:=hown
  exact⟨es,clock,g1,g2,by rw [g4,Maps.size_eq,length_read];exact zr4 _,g4⟩
 ·rw [Maps.size_put hT,hh,h2]
  unfold iput;rw [zr2,filter_ne_length h3];cases hq:ikey l k with
  | false=>simp
  | true =>
   obtain⟨v,hv⟩:=ikey_iff.1 hq;have:=List.length_pos_of_mem hv;simp;omega
 ·rcases mem_iput.1 hm with ⟨hne,hm⟩|⟨rfl,rfl⟩
  ·obtain⟨g1,g2,g3⟩:=h4 a c hm
   have hne':(Lit.int .i64 a)≠Lit.int .i64 k:=by simp;exact hne
   exact⟨g1,by rw [Maps.has_put_other hne'];exact g2,fun z=>by rw [Maps.atKey_put_other hne'];exact g3 z⟩
  exact⟨hw,Maps.has_put_same hI hKl _,fun z=>Maps.atKey_put_same hI hKl _ z⟩
 by_cases e:a=k
 ·subst e;exact⟨v,mem_iput.2 (.inr ⟨rfl,rfl⟩)⟩
 rw [Maps.has_put_other (by simp;exact e)] at ha
 obtain⟨c,hc⟩:=h5 a ha;exact⟨c,mem_iput.2 (.inl ⟨e,hc⟩)⟩
theorem IMap.del {w w':World}{b n:Nat}{D:DataW Unit}{l:List (Int×Int)}(hK:Keyed P 3) {k:Int}
  (hown0:w.ownsMap P 3 (plainElem P 3) b (Maps.size D) D) (h2:Maps.size D=l.length) (h3:(l.map (·.1)).Nodup) (h4:∀ k v:Int,(k,v)∈l→(Lit.int .i64 k).wf=true∧Maps.has D (.int .i64 k)=true∧∀ z,D.atKey (.int .i64 k) z = .lit (.int .i64 v))
  (h5:∀ k:Int,Maps.has D (.int .i64 k)=true→∃ v,(k,v)∈l) (hown:w'.ownsMap P 3 (plainElem P 3) b n (D.del (.int .i64 k))):IMap P w' b (idel l k):=by
 have hT:=hown0.tidy hK;have hh:Maps.has D (.int .i64 k)=ikey l k:=by
  cases hq:ikey l k with
  | true=>obtain⟨v,hv⟩:=ikey_iff.1 hq;exact(h4 k v hv).2.1
  | false =>
   cases hq2:Maps.has D (.int .i64 k) with
   | false=>rfl
   | true=>rw [ikey_iff.2 (h5 k hq2)] at hq;cases hq
 refine⟨D.del (.int .i64 k),?_,?_,h3.sublist (List.filter_sublist.map _),fun a c hm=>?_,fun a ha=>?_⟩
 ·obtain⟨es,clock,g1,g2,g3,g4⟩:=hown
  exact⟨es,clock,g1,g2,by rw [g4,Maps.size_eq,length_read];exact zr4 _,g4⟩
 ·have:=Maps.size_del hT (k := .int .i64 k)
  rw [hh] at this;unfold idel;rw [filter_ne_length h3];cases hq:ikey l k with
  | false=>rw [hq] at this;simp at this;simp;omega
  | true=>rw [hq] at this;simp at this;simp;omega
 ·obtain⟨hne,hm⟩:=mem_idel.1 hm
  obtain⟨g1,g2,g3⟩:=h4 a c hm;have hne':(Lit.int .i64 a)≠Lit.int .i64 k:=by simp;exact hne
  exact⟨g1,by rw [Maps.has_del_other hne'];exact g2,fun z=>by rw [Maps.atKey_del_other hne'];exact g3 z⟩
 by_cases e:a=k
 ·subst e;rw [Maps.has_del_same] at ha;simp at ha
 rw [Maps.has_del_other (by simp;exact e)] at ha
 obtain⟨c,hc⟩:=h5 a ha;exact⟨c,mem_idel.2 ⟨e,hc⟩⟩
section
variable {w:World} {ops:Array Oper} {rest:List Oper} {o:Oper} {a:Act} {Q:Exit→Act→World→Prop}
theorem wpList_iput (hu:P.underlying 3=some (.int .i64)) (hg:o.guard=none) (m x v:Operand) (t:TypeId) (hop:o.op=Op.mapUpdate t m x v) (ht:P.underlying t=some (.map 3 3)) (b:Nat) (l:List (Int×Int))
  (hm:a.eval m = .map (some b)) (h:IMap P w b l) (hl:l.length<4000000000) (k c:Int) (hx:a.eval x = .int .i64 k) (hv:a.eval v = .int .i64 c) (hk:(Lit.int .i64 k).wf=true) (hc:(Lit.int .i64 c).wf=true)
  (hK:∀ w',IMap P w' b (iput l k c)→w.grownBy w' (some b)→wpList P ops Q rest (a.put o.dst undef) w'):wpList P ops Q (o :: rest) a w:=by
 obtain⟨D,h1,h2,h3,h4,h5⟩:=h;refine wpList_mapUpdate_own w hg m x v t hop 3 3 (int_keyed hu) ht (plainElem P 3) b (Maps.size D) D hm h1 (by rw [h2];unfold maxLen;omega) _ _ (.int .i64 k) hx hv (key_wf hu hk) _ [] (plainElem_int hu hc) fun w' ho hgr=>?_
 exact hK w' (IMap.put (int_keyed hu) hk h1 h2 h3 h4 h5 ho) hgr
theorem wpList_iat (hu:P.underlying 3=some (.int .i64)) (hz0:∀ w,(zeroValue 3).run P w = .ok (.int .i64 0) w) (hg:o.guard=none) (m x:Operand) (t:TypeId) (hop:o.op=Op.lookup t m x false) (ht:P.underlying t=some (.map 3 3)) (b:Nat) (l:List (Int×Int))
  (hm:a.eval m = .map (some b)) (h:IMap P w b l) (k:Int) (hx:a.eval x = .int .i64 k) (hk:(Lit.int .i64 k).wf=true)
  (hK:wpList P ops Q rest (a.put o.dst (.int .i64 (iat l k))) w):wpList P ops Q (o :: rest) a w:=by
 obtain⟨D,h1,h2,h3,h4,h5⟩:=h;refine wpList_lookup_own_int w hg m x t hop 3 3 .i64 (int_keyed hu) ht hu (hz0 w) b (Maps.size D) D hm h1 _ (.int .i64 k) hx (key_wf hu hk) fun c hat _=>?_
 have:c=iat l k:=by
  cases hq:ikey l k with
  | true =>
   obtain⟨v,hv⟩:=ikey_iff.1 hq;rw [(h4 k v hv).2.2] at hat;simp at hat;rw [← hat,iat_mem h3 hv]
  | false =>
   have hno:Maps.has D (.int .i64 k)=false:=by
    cases hq2:Maps.has D (.int .i64 k) with
    | false=>rfl
    | true=>rw [ikey_iff.2 (h5 k hq2)] at hq;cases hq
   rw [Maps.atKey_of_not_has hno] at hat;simp at hat;rw [← hat,iat_none hq]
 rw [this];exact hK
theorem wpList_idel (hu:P.underlying 3=some (.int .i64)) (hg:o.guard=none) (m x:Operand) (t:TypeId) (hop:o.op=Op.call { callee:=Callee.builtin Builtin.delete,args := #[m,x],argTypes := #[t,3] }) (ht:P.underlying t=some (.map 3 3)) (b:Nat) (l:List (Int×Int))
  (hm:a.eval m = .map (some b)) (h:IMap P w b l) (k:Int) (hx:a.eval x = .int .i64 k) (hk:(Lit.int .i64 k).wf=true)
  (hK:∀ w',IMap P w' b (idel l k)→w.grownBy w' (some b)→wpList P ops Q rest (a.put o.dst (.tuple #[])) w'):wpList P ops Q (o :: rest) a w:=by
 obtain⟨D,h1,h2,h3,h4,h5⟩:=h;exact wpList_delete_own w hg m x t 3 hop 3 (int_keyed hu) ht (plainElem P 3) b (Maps.size D) D hm h1 _ (.int .i64 k) hx (key_wf hu hk) fun w' ho ht=>hK w' (IMap.del (int_keyed hu) h1 h2 h3 h4 h5 ho) ht.grown
end
end
section
open Go.RowKit RG
structure SlAt (w:World) (v:Value) (n:Nat) (xs:List Value):Prop where
 len:xs.length=n
 at':∃ (ad:Option Addr) (c:Nat),v = .slice ad n c∧(0<n→∃ g o,ad=some ⟨g,o,none⟩∧∀ (i:Nat) x,xs[i]?=some x→w.cell? ⟨g,o+i,none⟩=some x)
def strs (ns:List Nm):List Value:=ns.map Value.string
def ptrs (l:List Nat):List Value:=l.map fun b=>Value.pointer (some ⟨b,0,none⟩)
theorem strs_length (ns:List Nm):(strs ns).length=ns.length:=zv1 _
theorem ptrs_length (l:List Nat):(ptrs l).length=l.length:=zv1 _
theorem strs_at {ns:List Nm}{i:Nat}{n:Nm}(h:ns[i]?=some n):(strs ns)[i]?=some (.string n):=by unfold strs;rw [List.getElem?_map,h];rfl
theorem ptrs_at {l:List Nat}{i b:Nat}(h:l[i]?=some b):(ptrs l)[i]?=some (.pointer (some ⟨b,0,none⟩)):=by unfold ptrs;rw [List.getElem?_map,h];rfl
def StrsAt (w:World) (v:Value) (ns:List Nm):Prop:=SlAt w v ns.length (strs ns)
structure AtomsAt (w:World) (v:Value) (ns:List Nm):Prop where
 at':∃ (ad:Option Addr) (c:Nat),v = .slice ad ns.length c∧(0<ns.length→∃ g o,ad=some ⟨g,o,none⟩∧∀ i n,ns[i]?=some n→∃ m:Int,w.cell? ⟨g,o+i*2,none⟩=some (.string n)∧w.cell? ⟨g,o+i*2+1,none⟩=some (.int .i64 m))
mutual
def TEAt (w:World):TE→Nat→Nat→Prop
 | .mk kind name args arms body,b,o=>∃ (op:ByteArray) (num site:Int) (va:Value) (aa ab:Option Addr) (ca cb ga oa gb ob:Nat),
   (w.cell? ⟨b,o,none⟩=some (.int .i64 kind)∧w.cell? ⟨b,o+1,none⟩=some (.string name)∧w.cell? ⟨b,o+2,none⟩=some (.string op)∧w.cell? ⟨b,o+3,none⟩=some (.int .i64 num)) ∧
   (w.cell? ⟨b,o+4,none⟩=some (.int .i64 site)∧w.cell? ⟨b,o+5,none⟩=some va∧w.cell? ⟨b,o+6,none⟩=some (.slice aa arms.length ca)∧w.cell? ⟨b,o+7,none⟩=some (.slice ab body.length cb)) ∧
   AtomsAt w va args∧(0<arms.length→aa=some ⟨ga,oa,none⟩)∧TAAt w arms ga oa∧(0<body.length→ab=some ⟨gb,ob,none⟩)∧TBAt w body gb ob
def TAAt (w:World):TA→Nat→Nat→Prop
 | .nil,_,_=>True
 | .cons vs e r,g,o=>(∃ (con:ByteArray) (vv:Value),w.cell? ⟨g,o,none⟩=some (.string con)∧w.cell? ⟨g,o+1,none⟩=some vv∧StrsAt w vv vs)∧TEAt w e g (o+2)∧TAAt w r g (o+10)
def TBAt (w:World):TB→Nat→Nat→Prop
 | .nil,_,_=>True
 | .cons e r,g,o=>TEAt w e g o∧TBAt w r g (o+8)
end
def Kept (w w':World):Prop:=∀ (a:Addr) (x:Value),w.cell? a=some x→w'.cell? a=some x
theorem Kept.refl (w:World):Kept w w:=fun _ _ h=>h
theorem Kept.trans {w w1 w2:World}(h:Kept w w1) (k:Kept w1 w2):Kept w w2:=fun a x hx=>k a x (h a x hx)
theorem zd {w w':World}(hb:Below w.heap.size w w'):Kept w w':=fun a x hx=>(hb.cell (p:=a) (zs3 w _ hx)).trans hx
theorem SlAt.keep {w w':World}{v:Value}{n:Nat}{xs:List Value}(h:SlAt w v n xs) (hb:∀ (a:Addr) (x:Value),x∈xs→w.cell? a=some x→w'.cell? a=some x):SlAt w' v n xs:=by
 obtain⟨hl,ad,c,h1,h2⟩:=h;exact⟨hl,ad,c,h1,fun h0=>by obtain⟨g,o,e,h3⟩:=h2 h0;exact⟨g,o,e,fun i x hi=>hb _ _ (zr1 hi) (h3 i x hi)⟩⟩
theorem SlAt.kept {w w':World}{v:Value}{n:Nat}{xs:List Value}(h:SlAt w v n xs) (hb:Kept w w'):SlAt w' v n xs:=h.keep fun a x _ hx=>hb a x hx
theorem StrsAt.kept {w w':World}{v:Value}{ns:List Nm}(h:StrsAt w v ns) (hb:Kept w w'):StrsAt w' v ns:=SlAt.kept h hb
theorem AtomsAt.kept {w w':World}{v:Value}{ns:List Nm}(h:AtomsAt w v ns) (hb:Kept w w'):AtomsAt w' v ns:=by
 obtain⟨ad,c,h1,h2⟩:=h;refine⟨ad,c,h1,fun h0=>?_⟩
 obtain⟨g,o,e,h3⟩:=h2 h0;refine⟨g,o,e,fun i n hi=>?_⟩
 obtain⟨m,a,b⟩:=h3 i n hi;exact⟨m,hb _ _ a,hb _ _ b⟩
mutual
theorem TEAt.kept {w w':World}(hb:Kept w w'):∀ (e:TE) (b o:Nat),TEAt w e b o→TEAt w' e b o
 | .mk kind name args arms body,b,o,h=>by
  rw [TEAt] at h ⊢;obtain⟨op,num,site,va,aa,ab,ca,cb,ga,oa,gb,ob,⟨c0,c1,c2,c3⟩,⟨c4,c5,c6,c7⟩,h1,h2,h3,h4,h5⟩:=h;exact⟨op,num,site,va,aa,ab,ca,cb,ga,oa,gb,ob,⟨hb _ _ c0,hb _ _ c1,hb _ _ c2,hb _ _ c3⟩,⟨hb _ _ c4,hb _ _ c5,hb _ _ c6,hb _ _ c7⟩,h1.kept hb,h2,TAAt.kept hb arms ga oa h3,h4,TBAt.kept hb body gb ob h5⟩
theorem TAAt.kept {w w':World}(hb:Kept w w'):∀ (a:TA) (g o:Nat),TAAt w a g o→TAAt w' a g o
 | .nil,g,o,h=>by rw [TAAt];trivial
 | .cons vs e r,g,o,h=>by
  rw [TAAt] at h ⊢;obtain⟨⟨con,vv,c0,c1,h1⟩,h2,h3⟩:=h;exact⟨⟨con,vv,hb _ _ c0,hb _ _ c1,h1.kept hb⟩,TEAt.kept hb e g (o+2) h2,TAAt.kept hb r g (o+10) h3⟩
theorem TBAt.kept {w w':World}(hb:Kept w w'):∀ (a:TB) (g o:Nat),TBAt w a g o→TBAt w' a g o
 | .nil,g,o,h=>by rw [TBAt];trivial
 | .cons e r,g,o,h=>by
  rw [TBAt] at h ⊢;exact⟨TEAt.kept hb e g o h.1,TBAt.kept hb r g (o+8) h.2⟩
end
def TA.nth:TA→Nat→Option (List Nm×TE)
 | .nil,_=>none
 | .cons vs e _,0=>some (vs,e)
 | .cons _ _ r,k+1=>TA.nth r k
theorem TA.nth_kids:∀ (a:TA) (k:Nat),a.kids[k]?=TA.nth a k
 | .nil,k=>by simp [TA.kids,TA.nth]
 | .cons vs e r,0=>by simp [TA.kids,TA.nth]
 | .cons vs e r,k+1=>by simp [TA.kids,TA.nth,TA.nth_kids r k]
theorem TA.kids_length:∀ a:TA,a.kids.length=a.length
 | .nil=>rfl
 | .cons vs e r=>by rw [TA.kids,zv2,TA.kids_length r,TA.length]
theorem TB.kids_length (n:Nm):∀ a:TB,(a.kids n).length=a.length
 | .nil=>rfl
 | .cons e r=>by rw [TB.kids,zv2,TB.kids_length n r,TB.length]
theorem TAAt.nth {w:World}:∀ (a:TA) (g o k:Nat) (vs:List Nm) (e:TE),TAAt w a g o→TA.nth a k=some (vs,e) →
  (∃ (con:ByteArray) (vv:Value),w.cell? ⟨g,o+k*10,none⟩=some (.string con)∧w.cell? ⟨g,o+k*10+1,none⟩=some vv∧StrsAt w vv vs)∧TEAt w e g (o+k*10+2)
 | .nil,g,o,k,vs,e,_,h=>by simp [TA.nth] at h
 | .cons vs' e' r,g,o,0,vs,e,h,hk=>by
  simp only [TA.nth,zt3,Prod.mk.injEq] at hk;obtain⟨rfl,rfl⟩:=hk;rw [TAAt] at h;rw [Nat.zero_mul,Nat.add_zero];exact⟨h.1,h.2.1⟩
 | .cons vs' e' r,g,o,k+1,vs,e,h,hk=>by
  simp only [TA.nth] at hk;rw [TAAt] at h;have:=TAAt.nth r g (o+10) k vs e h.2.2 hk;rw [show o+10+k*10=o+(k+1)*10 from by omega] at this
  exact this
structure Ad where
 lb:Nat→Nat
 nb:Nat→Nat
 mb:Nat→Nat
 xb:Nat→Nat
 xo:Nat→Nat
 pl:Nat
def PMap (w:World) (b:Nat) (ns:List Nm):Prop :=
 ∃ D:DataW Unit,w.ownsMap Tryz.prog 9 (plainElem Tryz.prog 3) b (Maps.size D) D∧Maps.size D=ns.length ∧
  (∀ (i:Nat) n,ns[i]?=some n→n.size≤maxLen∧Maps.has D (.string n.data.toList)=true∧∀ z,D.atKey (.string n.data.toList) z = .lit (.int .i64 i)) ∧
  ∀ n:Nm,Maps.has D (.string n.data.toList)=true→n∈ns
theorem PMap.keep {w w':World}{b:Nat}{ns:List Nm}(h:PMap w b ns) (hb:w'.heap[b]?=w.heap[b]?):PMap w' b ns:=by
 obtain⟨D,⟨es,clock,g1,g2,g3,g4⟩,rest⟩:=h;exact⟨D,⟨es,clock,by rw [hb];exact g1,g2,g3,g4⟩,rest⟩
theorem PMap.lt {w:World}{b:Nat}{ns:List Nm}(h:PMap w b ns):b<w.heap.size:=by
 obtain⟨D,⟨es,clock,g1,_⟩,_⟩:=h;exact(zq7.1 g1).1
def VSet (F:List Nd) (q:Nm→Bool):List (Int×Int):=(named F q).map fun x=>((place F x:Int),1)
def SetAt (w:World) (b:Nat) (F:List Nd) (q:Nm→Bool):Prop:=IMap Tryz.prog w b (VSet F q)
structure FlatAt (w:World) (A:Ad) (f:Nat) (F:List Nd):Prop where
 flat:∃ sl sn sv,w.heap[f]?=some (.cells #[.pointer (some ⟨A.lb 0,0,none⟩),sl,sn,sv,.map (some A.pl)] 118 (0,0)) ∧
  SlAt w sl F.length (ptrs ((List.range F.length).map A.lb))∧SlAt w sn F.length (ptrs ((List.range F.length).map A.nb))∧StrsAt w sv (vars F)
 link:∀ i,i<F.length→∃ sv xv,w.heap[A.lb i]?=some (.cells #[sv,xv,.pointer (some ⟨A.nb i,0,none⟩)] 120 (0,0))∧StrsAt w sv (nd F i).binds
 node:∀ i,i<F.length→∃ sx,w.heap[A.nb i]?=some (.cells #[.pointer (some ⟨A.xb i,A.xo i,none⟩),sx,.map (some (A.mb i))] 110 (0,0))∧SlAt w sx (nd F i).next.length (ptrs ((nd F i).next.map A.lb))
 live:∀ i,i<F.length→SetAt w (A.mb i) F (lv F i)
 exp:∀ i,i<F.length→TEAt w (nd F i).e (A.xb i) (A.xo i)
 pmap:PMap w A.pl (vars F)
theorem zm {w w':World}(hb:Below w.heap.size w w') {k:Nat}{o:Obj}(h:w.heap[k]?=some o):w'.heap[k]?=some o:=(hb.block k (zq7.1 h).1).trans h
theorem FlatAt.keep {w w':World}{A:Ad}{f:Nat}{F:List Nd}(h:FlatAt w A f F) (hb:Below w.heap.size w w'):FlatAt w' A f F:=by
 have hk:=zd hb;obtain⟨⟨sl,sn,sv,f0,f1,f2,f3⟩,h2,h3,h4,h5,h6⟩:=h;refine⟨⟨sl,sn,sv,zm hb f0,f1.kept hk,f2.kept hk,f3.kept hk⟩,fun i hi=>?_,fun i hi=>?_,fun i hi=>(h4 i hi).keep (hb.block _ (h4 i hi).lt),fun i hi=>TEAt.kept hk _ _ _ (h5 i hi),h6.keep (hb.block _ h6.lt)⟩
 ·obtain⟨sv,xv,a,b⟩:=h2 i hi;exact⟨sv,xv,zm hb a,b.kept hk⟩
 obtain⟨sx,a,b⟩:=h3 i hi;exact⟨sx,zm hb a,b.kept hk⟩
end
section
open Go.RowKit RG Go.Maps
def IRg (P:Program) (w:World) (b r:Nat) (l:List (Int×Int)) (todo:Int→Bool) (cnt:Nat):Prop :=
 ∃ (D:DataW Unit) (left:Lit→Bool),w.ranges P 3 (plainElem P 3) b r (Maps.size D) D left cnt∧Maps.size D=l.length∧(l.map (·.1)).Nodup ∧
  (∀ k v:Int,(k,v)∈l→(Lit.int .i64 k).wf=true∧Maps.has D (.int .i64 k)=true∧∀ z,D.atKey (.int .i64 k) z = .lit (.int .i64 v)) ∧
  (∀ k:Int,Maps.has D (.int .i64 k)=true→∃ v,(k,v)∈l)∧∀ k:Int,left (.int .i64 k)=todo k
theorem IRg.imap {P:Program}{w:World}{b r:Nat}{l:List (Int×Int)}{todo:Int→Bool}{cnt:Nat}(h:IRg P w b r l todo cnt):IMap P w b l:=by
 obtain⟨D,left,h1,h2,h3,h4,h5,h6⟩:=h;exact⟨D,h1.owns,h2,h3,h4,h5⟩
theorem IRg.kept {P:Program}{w w':World}{b r:Nat}{l:List (Int×Int)}{todo:Int→Bool}{cnt:Nat}{row:Option Nat}(h:IRg P w b r l todo cnt) (hg:w.grownBy w' row) (hb:some b≠row) (hr:some r≠row):IRg P w' b r l todo cnt:=by
 obtain⟨D,left,h1,rest⟩:=h;exact⟨D,left,h1.kept hg hb hr,rest⟩
theorem IRg.left_eq {P:Program}{w:World}{b r:Nat}{l:List (Int×Int)}{todo:Int→Bool}{cnt:Nat}(h:IRg P w b r l todo cnt):w.rangeLeft b r=cnt:=by
 obtain⟨D,left,h1,rest⟩:=h;exact h1.left_eq
theorem IRg.ne {P:Program}{w:World}{b r:Nat}{l:List (Int×Int)}{todo:Int→Bool}{cnt:Nat}(h:IRg P w b r l todo cnt):r≠b:=by
 obtain⟨D,left,h1,rest⟩:=h;exact h1.ne
theorem IRg.lt {P:Program}{w:World}{b r:Nat}{l:List (Int×Int)}{todo:Int→Bool}{cnt:Nat}(h:IRg P w b r l todo cnt):r<w.heap.size:=by
 obtain⟨D,left,h1,rest⟩:=h;exact h1.lt
section
variable {P:Program} {w:World} {ops:Array Oper} {rest:List Oper} {o:Oper} {a:Act} {Q:Exit→Act→World→Prop}
theorem wpList_irange (hu:P.underlying 3=some (.int .i64)) (hg:o.guard=none) (m:Operand) (t:TypeId) (hop:o.op=Op.range t m) (ht:P.underlying t=some (.map 3 3)) (b:Nat) (l:List (Int×Int))
  (hm:a.eval m = .map (some b)) (h:IMap P w b l)
  (hK:∀ w',IRg P w' b w.heap.size l (ikey l) l.length→w.grownBy w' none→w'.heap.size=w.heap.size+1→wpList P ops Q rest (a.put o.dst (.pointer (some ⟨w.heap.size,0,none⟩))) w') :
  wpList P ops Q (o :: rest) a w:=by
 obtain⟨D,h1,h2,h3,h4,h5⟩:=h;refine wpList_range_own w hg m t hop 3 3 (int_keyed hu) ht (plainElem P 3) b (Maps.size D) D hm h1 fun w' hr hg' hs=>hK w' ⟨D,Maps.has D,?_,h2,h3,h4,h5,fun k=>?_⟩ hg' hs
 ·rw [← h2];exact hr
 cases hq:ikey l k with
 | true=>obtain⟨v,hv⟩:=ikey_iff.1 hq;exact(h4 k v hv).2.1
 | false =>
  cases hq2:Maps.has D (.int .i64 k) with
  | false=>rfl
  | true=>rw [ikey_iff.2 (h5 k hq2)] at hq;cases hq
theorem wpList_inext (hu:P.underlying 3=some (.int .i64)) (hg:o.guard=none) (it:Operand) (hop:o.op=Op.next it false) (b r:Nat) (l:List (Int×Int)) (todo:Int→Bool) (cnt:Nat)
  (hit:a.eval it = .pointer (some ⟨r,0,none⟩)) (h:IRg P w b r l todo cnt)
  (hDone:(∀ k,todo k=false)→wpList P ops Q rest (a.put o.dst (.tuple #[.bool false])) w)
  (hMore:∀ (x v:Int) (w':World) (cnt':Nat),(Lit.int .i64 x).wf=true→(x,v)∈l→todo x=true→IRg P w' b r l (fun k=>todo k && !decide (k=x)) cnt'→cnt'<cnt →
   w.grownBy w' (some r)→w'.heap.size=w.heap.size→(Instr.entry (.pointer (some ⟨r,0,none⟩))).run P w' = .ok (.tuple #[.int .i64 x,.int .i64 v]) w'→wpList P ops Q rest (a.put o.dst (.tuple #[.bool true,.int .i64 x,.int .i64 v])) w') :
  wpList P ops Q (o :: rest) a w:=by
 obtain⟨D,left,h1,h2,h3,h4,h5,h6⟩:=h;refine wpList_next_ranges_ii w hg it hop 3 3 .i64 .i64 (int_keyed hu) hu hu b r (Maps.size D) D left cnt hit h1 (fun _ hl=>hDone fun k=>by rw [← h6];exact hl _) fun x c w' cnt' hwx hwc hl hat hr hlt hgr hsz hen=>?_
 obtain⟨v,hv⟩:=h5 x (Maps.has_true_of_atKey hat);have hc:c=v:=by
  have e1:=(h4 x v hv).2.2 (.lit (.int .i64 0));rw [hat] at e1;simpa using e1
 subst hc;refine hMore x c w' cnt' hwx hv (by rw [← h6];exact hl) ⟨D,_,hr,h2,h3,h4,h5,fun k=>?_⟩ hlt hgr hsz hen
 simp only [h6]
 congr 1
 unfold Lit.sameKey
 by_cases e:k=x<;>simp [e]
end
def unionL (lt ls:List (Int×Int)):List (Int×Int):=lt.filter (fun p => !ikey ls p.1)++ls.map fun p=>(p.1,1)
def unionP (lt ls:List (Int×Int)) (todo:Int→Bool):List (Int×Int):=lt.filter (fun p => !(ikey ls p.1 && !todo p.1))++(ls.filter fun p => !todo p.1).map fun p=>(p.1,1)
theorem mem_unionP {lt ls:List (Int×Int)}{todo:Int→Bool}{a b:Int}:(a,b)∈unionP lt ls todo↔((a,b)∈lt∧(ikey ls a=false∨todo a=true))∨(ikey ls a=true∧todo a=false∧b=1):=by
 unfold unionP;rw [List.mem_append,List.mem_filter,List.mem_map];refine or_congr ⟨fun h=>⟨h.1,?_⟩,fun h=>⟨h.1,?_⟩⟩ ⟨?_,?_⟩
 ·have:=h.2
  cases hq:ikey ls a
  ·exact .inl rfl
  rw [hq] at this;simp at this;exact .inr this
 ·rcases h.2 with h2 | h2
  ·rw [h2];rfl
  rw [h2];simp
 ·rintro ⟨⟨x,y⟩,hm,e⟩
  obtain⟨h1,h2⟩:=List.mem_filter.1 hm;simp only [Prod.mk.injEq] at e;obtain⟨rfl,rfl⟩:=e;exact⟨ikey_iff.2 ⟨y,h1⟩,by simpa using h2,rfl⟩
 rintro ⟨h1,h2,rfl⟩;obtain⟨y,hy⟩:=ikey_iff.1 h1;exact⟨(a,y),List.mem_filter.2 ⟨hy,by simp [h2]⟩,rfl⟩
theorem nodup_unionP {lt ls:List (Int×Int)}{todo:Int→Bool}(h1:(lt.map (·.1)).Nodup) (h2:(ls.map (·.1)).Nodup) (ht:∀ k,todo k=true→ikey ls k=true):((unionP lt ls todo).map (·.1)).Nodup:=by
 unfold unionP;rw [List.map_append,List.nodup_append];refine⟨h1.sublist (List.filter_sublist.map _),?_,fun a ha b hb=>?_⟩
 ·rw [List.map_map]
  exact h2.sublist (List.filter_sublist.map _)
 obtain⟨p,hp,rfl⟩:=List.mem_map.1 ha;obtain⟨q,hq,rfl⟩:=List.mem_map.1 hb;obtain⟨z,hz,rfl⟩:=List.mem_map.1 hq;obtain⟨p1,p2⟩:=List.mem_filter.1 hp;obtain⟨z1,z2⟩:=List.mem_filter.1 hz;intro e;have hk:ikey ls p.1=true:=ikey_iff.2 ⟨z.2,by rw [e];exact z1⟩
 rw [hk,e] at p2;simp at p2 z2;rw [p2] at z2;cases z2
theorem keyed3:Keyed Tryz.prog 3:=int_keyed Tryz.underlying3
theorem zero3 (w:World):(zeroValue 3).run Tryz.prog w = .ok (.int .i64 0) w:=by kernel_rfl
theorem unionP_start {lt ls:List (Int×Int)}{P:Program}{w:World}{b:Nat}(h:IMap P w b lt):IMap P w b (unionP lt ls (ikey ls)):=by
 obtain⟨D,h1,h2,h3,h4,h5⟩:=h;refine IMap.congr ⟨D,h1,h2,h3,h4,h5⟩ ?_ fun p=>?_
 ·have e:unionP lt ls (ikey ls)=lt:=by
   unfold unionP;rw [List.filter_eq_self.2 (fun p _=>by simp),List.filter_eq_nil_iff.2 (fun p hp=>by simp;exact ikey_iff.2 ⟨p.2,hp⟩)]
   simp
  rw [e];exact h3
 obtain⟨a,c⟩:=p;rw [mem_unionP];constructor
 ·rintro (⟨h,_⟩|⟨h1,h2,_⟩)
  ·exact h
  rw [h1] at h2;cases h2
 intro h;refine .inl ⟨h,?_⟩;cases ikey ls a
 ·exact .inl rfl
 exact .inr rfl
theorem unionP_step {lt ls:List (Int×Int)}{todo:Int→Bool}{x v:Int}{P:Program}{w:World}{b:Nat}(n1:(lt.map (·.1)).Nodup) (n2:(ls.map (·.1)).Nodup) (ht:∀ k,todo k=true→ikey ls k=true) (hx:(x,v)∈ls) (htx:todo x=true)
  (h:IMap P w b (iput (unionP lt ls todo) x 1)):IMap P w b (unionP lt ls fun k=>todo k && !decide (k=x)):=by
 refine h.congr (nodup_unionP n1 n2 fun k hk=>ht k (by simp at hk;exact hk.1)) fun p=>?_
 obtain⟨a,c⟩:=p;rw [mem_unionP,mem_iput,mem_unionP];have hkx:=ikey_iff.2 ⟨v,hx⟩
 by_cases e:a=x
 ·subst e
  simp [hkx]
 simp [e]
theorem unionP_end {lt ls:List (Int×Int)}{todo:Int→Bool}(hl:∀ k,todo k=false):unionP lt ls todo=unionL lt ls:=by
 unfold unionP unionL
 congr 1
 ·apply List.filter_congr
  intro p _;rw [hl];simp
 rw [List.filter_eq_self.2 (fun p _=>by rw [hl];rfl)]
theorem IMap.nodup {P:Program}{w:World}{b:Nat}{l:List (Int×Int)}(h:IMap P w b l):(l.map (·.1)).Nodup:=by obtain⟨_,_,_,h3,_⟩:=h;exact h3
theorem grown_trans {w w1 w2:World}{b:Nat}{row:Option Nat}(h:w.grownBy w1 (some b)) (k:w1.grownBy w2 row) (hr:∀ r,row=some r→r=b∨w.heap.size≤r):w.grownBy w2 (some b) :=
 ⟨k.os.trans h.os,k.tape.trans h.tape,k.output.trans h.output,zr5 h.size k.size,fun q hq hne=>(k.block q (zt5 hq h.size) (fun e=>by
  rcases hr q e.symm with e2 | e2
  ·exact hne (by rw [e2])
  omega)).trans (h.block q hq hne)⟩
theorem unionP_len {lt ls:List (Int×Int)}{todo:Int→Bool}:(unionP lt ls todo).length≤lt.length+ls.length:=by
 unfold unionP;rw [zr2,zv1];have:=List.length_filter_le (fun p:Int×Int => !(ikey ls p.1 && !todo p.1)) lt
 have:=List.length_filter_le (fun p:Int×Int => !todo p.1) ls
 omega
def UnP (w:World) (tb:Nat) (lt ls:List (Int×Int)) (w':World):Prop:=w.grownBy w' (some tb)∧IMap Tryz.prog w' tb (unionL lt ls)
theorem union_any {w:World}{tb sb g c:Nat}{lt ls:List (Int×Int)}(ht:IMap Tryz.prog w tb lt) (hs:IMap Tryz.prog w sb ls) (hne:tb≠sb) (hc:w.cell? ⟨g,0,none⟩=some (.map (some sb))) (hl:lt.length+ls.length<4000000000) :
  Calls Tryz.prog 77 #[.map (some tb),.slice (some ⟨g,0,none⟩) 1 c] w fun e w'=>e = .returned (.tuple #[])∧UnP w tb lt ls w':=by
 have HT:=zh ht;have HS:=zh hs
 have HN:=zh hne;have HL:=zh hl
 have hlt:=ht.lt;have HTB:=zh hlt
 have HSB:=zh hs.lt;clear ht hs hne hl hlt
 go_enter Tryz.func77,Tryz.ntmps77
 go_wp2_with fail
 go_loopw [9] (fun i wr=>(i = .int .i64 0∧w=wr)∨(i = .int .i64 1∧UnP w tb lt ls wr)) (fun i _=>(1 - intOf i).toNat)
 case atStart=>exact .inl ⟨rfl,rfl⟩
 rcases hrel with ⟨rfl,rfl⟩|⟨rfl,hu⟩
 ·go_wp2_with (at_range;refine wpList_irange Tryz.underlying3 rfl _ 107 rfl Tryz.underlying107 sb ls rfl HS.out ?_;intro w0 hrg0 hg0 hs0)
  go_frame
  have R0:=zh hrg0;have G0:=zh hg0
  have S0:=zh hs0;clear hrg0 hg0 hs0
  go_loopw [6] (fun _ wr=>∃ (todo:Int→Bool) (cnt:Nat),IRg Tryz.prog wr sb w.heap.size ls todo cnt∧(∀ k,todo k=true→ikey ls k=true)∧IMap Tryz.prog wr tb (unionP lt ls todo)∧w.grownBy wr (some tb)∧w.heap.size<wr.heap.size)
   (fun _ wr=>wr.rangeLeft sb w.heap.size)
  case atStart=>exact⟨_,_,R0.out,fun k h=>h,unionP_start (HT.out.keep (G0.out.block _ HTB.out (by simp))),G0.out.but _,by rw [S0.out];exact Nat.lt_succ_self _⟩
  obtain⟨todo,cnt,hrg,htd,hm,hg,hsz⟩:=hrel;have RG1:=zh hrg;have TD:=zh htd
  have HM:=zh hm;have HG:=zh hg
  have HSZ:=zh hsz;clear hrg htd hm hg hsz
  go_wp2_with (at_next;refine wpList_inext Tryz.underlying3 rfl _ rfl sb w.heap.size ls todo cnt rfl RG1.out ?_ ?_)
  ·intro hl0
   have FIN:Hid (UnP w tb lt ls wr):=⟨HG.out,by rw [← unionP_end hl0];exact HM.out⟩
   clear hl0
   go_wp2_with fail
   go_roundw
   case rel=>exact .inr ⟨rfl,FIN.out⟩
   case measure=>simp [intOf]
  intro x v w1 cnt1 hwx hx htx hrg1 hlt1 hg1 hs1 hen;have K1:=zh hwx;have K2:=zh hx
  have K3:=zh htx;have K4:=zh hrg1
  have K5:=zh hlt1;have K6:=zh hg1
  have HM1:=zh (HM.out.keep (hg1.block tb HM.out.lt (by intro e;simp at e;have:=HTB.out;omega)))
  clear hwx hx htx hrg1 hlt1 hg1 hs1
  go_wp2_with (at_mapUpdate;refine wpList_iput Tryz.underlying3 rfl _ _ _ 107 rfl Tryz.underlying107 tb _ rfl HM1.out ?_ x 1 rfl rfl K1.out (by decide) ?_)
  ·have:=unionP_len (lt:=lt) (ls:=ls) (todo:=todo);have:=HL.out;omega
  intro w2 hm2 hg2;have HM2:=zh (unionP_step HT.out.nodup HS.out.nodup TD.out K2.out K3.out hm2);have RG2:=zh (K4.out.kept hg2 (by intro e;simp at e;exact HN.out e.symm) (by intro e;simp at e;have:=HTB.out;omega))
  have HG2:=zh (grown_trans (grown_trans HG.out K6.out (fun r e=>by simp at e;omega)) hg2 (fun r e=>by simp at e;omega))
  have HSZ2:Hid (w.heap.size<w2.heap.size):=zt5 HSZ.out (zr5 K6.out.size hg2.size);clear hm2 hg2 hen
  go_wp2_with fail
  go_roundw
  case rel=>exact⟨_,cnt1,RG2.out,fun k hk=>TD.out k (by simp at hk;exact hk.1),HM2.out,HG2.out,HSZ2.out⟩
  case measure=>rw [RG2.out.left_eq,RG1.out.left_eq];exact K5.out
 have HU:=zh hu;clear hu
 go_wp2_with fail
 refine bodyPost_end (results_none rfl _ _ _) rfl ?_;exact⟨rfl,HU.out⟩
end
section
open Go.RowKit RG Go.Maps
open Go.WideMaps (keyOf_string_mk)
theorem IMap.alloc {P:Program}{w:World}{b:Nat}{l:List (Int×Int)}(h:IMap P w b l) (o:Obj):IMap P (w.alloc o) b l:=h.keep (zt2 w o b h.lt)
theorem cell_new1 (w:World) (x:Value) (T:TypeId):(w.alloc (.cells #[x] T)).cell? ⟨w.heap.size,0,none⟩=some x:=by rw [zb _ _ 0 _ _ _ (zs2 w _)];rfl
theorem cell_new2 (w:World) (o:Obj) (x:Value) (T:TypeId):((w.alloc o).alloc (.cells #[x] T)).cell? ⟨w.heap.size+1,0,none⟩=some x:=by
 have:=cell_new1 (w.alloc o) x T;rw [World.size_alloc] at this;exact this
theorem vset_mem {F:List Nd}{q:Nm→Bool}{a b:Int}:(a,b)∈VSet F q↔∃ x∈vars F,q x=true∧a=place F x∧b=1:=by
 unfold VSet;rw [List.mem_map];constructor
 ·rintro ⟨x,hx,e⟩
  obtain⟨h1,h2⟩:=mem_named.1 hx;simp only [Prod.mk.injEq] at e;exact⟨x,h1,h2,e.1.symm,e.2.symm⟩
 rintro ⟨x,h1,h2,rfl,rfl⟩;exact⟨x,mem_named.2 ⟨h1,h2⟩,rfl⟩
theorem vset_nodup {F:List Nd}(hn:(vars F).Nodup) (q:Nm→Bool):((VSet F q).map (·.1)).Nodup:=by
 unfold VSet;rw [List.map_map];refine nodup_map_inj (hn.filter _) fun x hx y hy e=>?_
 have hx':=(mem_named.1 hx).1;have hy':=(mem_named.1 hy).1
 simp only [Function.comp] at e;exact place_inj hx' hy' (by exact_mod_cast e)
theorem vset_length {F:List Nd}(q:Nm→Bool):(VSet F q).length=(named F q).length:=zv1 _
theorem vset_le {F:List Nd}(q:Nm→Bool):(VSet F q).length≤(vars F).length:=by rw [vset_length];exact List.length_filter_le _ _
theorem named_congr {F:List Nd}{p q:Nm→Bool}(h:∀ x∈vars F,p x=q x):named F p=named F q:=List.filter_congr h
theorem vset_congr {F:List Nd}{p q:Nm→Bool}(h:∀ x∈vars F,p x=q x):VSet F p=VSet F q:=by unfold VSet;rw [named_congr h]
theorem vset_key {F:List Nd}{q:Nm→Bool}{x:Nm}(hx:x∈vars F):ikey (VSet F q) (place F x)=q x:=by
 rw [Bool.eq_iff_iff,ikey_iff];constructor
 ·rintro ⟨v,hv⟩
  obtain⟨y,h1,h2,h3,_⟩:=vset_mem.1 hv;rw [place_inj hx h1 (by exact_mod_cast h3)];exact h2
 intro h;exact⟨1,vset_mem.2 ⟨x,hx,h,rfl,rfl⟩⟩
theorem vset_at {F:List Nd}(hn:(vars F).Nodup) {q:Nm→Bool}{x:Nm}(hx:x∈vars F):iat (VSet F q) (place F x)=if q x=true then 1 else 0:=by
 by_cases h:q x=true
 ·rw [if_pos h,iat_mem (vset_nodup hn q) (vset_mem.2 ⟨x,hx,h,rfl,rfl⟩)]
 rw [if_neg h,iat_none (by rw [vset_key hx];simpa using h)]
theorem SetAt.del {F:List Nd}(hn:(vars F).Nodup) {w:World}{b:Nat}{q:Nm→Bool}{x:Nm}(hx:x∈vars F) (h:IMap Tryz.prog w b (idel (VSet F q) (place F x))):SetAt w b F (fun y=>q y && !decide (y=x)):=by
 refine h.congr (vset_nodup hn _) fun p=>?_
 obtain⟨a,c⟩:=p;rw [mem_idel,vset_mem,vset_mem];constructor
 ·rintro ⟨y,h1,h2,rfl,rfl⟩
  simp at h2;exact⟨fun e=>h2.2 (place_inj h1 hx (by exact_mod_cast e)),y,h1,h2.1,rfl,rfl⟩
 rintro ⟨hne,y,h1,h2,rfl,rfl⟩;exact⟨y,h1,by simp [h2];rintro rfl;exact hne rfl,rfl,rfl⟩
theorem SetAt.put {F:List Nd}(hn:(vars F).Nodup) {w:World}{b:Nat}{q:Nm→Bool}{x:Nm}(hx:x∈vars F) (h:IMap Tryz.prog w b (iput (VSet F q) (place F x) 1)):SetAt w b F (fun y=>q y||decide (y=x)):=by
 refine h.congr (vset_nodup hn _) fun p=>?_
 obtain⟨a,c⟩:=p;rw [mem_iput,vset_mem,vset_mem];constructor
 ·rintro ⟨y,h1,h2,rfl,rfl⟩
  by_cases e:y=x
  ·subst e;exact .inr ⟨rfl,rfl⟩
  simp [e] at h2;exact .inl ⟨fun e2=>e (place_inj h1 hx (by exact_mod_cast e2)),y,h1,h2,rfl,rfl⟩
 rintro (⟨hne,y,h1,h2,rfl,rfl⟩|⟨rfl,rfl⟩)
 ·exact⟨y,h1,by simp [h2],rfl,rfl⟩
 exact⟨x,hx,by simp,rfl,rfl⟩
theorem SetAt.congr {F:List Nd}{w:World}{b:Nat}{p q:Nm→Bool}(h:SetAt w b F p) (hpq:∀ x∈vars F,p x=q x):SetAt w b F q:=by
 unfold SetAt at h ⊢;rw [← vset_congr hpq];exact h
theorem unionL_sets {F:List Nd}(hn:(vars F).Nodup) {w:World}{b:Nat}{p q:Nm→Bool}(h:IMap Tryz.prog w b (unionL (VSet F p) (VSet F q))):SetAt w b F (fun x=>p x||q x):=by
 refine h.congr (vset_nodup hn _) fun z=>?_
 obtain⟨a,c⟩:=z;rw [← unionP_end (todo:=fun _=>false) (fun _=>rfl),mem_unionP,vset_mem,vset_mem]
 constructor
 ·rintro ⟨y,h1,h2,rfl,rfl⟩
  rw [vset_key h1];cases hq:q y with
  | true=>exact .inr ⟨rfl,rfl,rfl⟩
  | false=>simp [hq] at h2;exact .inl ⟨⟨y,h1,h2,rfl,rfl⟩,.inl rfl⟩
 rintro (⟨⟨y,h1,h2,rfl,rfl⟩,_⟩|⟨hk,_,rfl⟩)
 ·exact⟨y,h1,by simp [h2],rfl,rfl⟩
 obtain⟨v,hv⟩:=ikey_iff.1 hk;obtain⟨y,h1,h2,rfl,rfl⟩:=vset_mem.1 hv;exact⟨y,h1,by simp [h2],rfl,rfl⟩
theorem unionL_nil {F:List Nd}{w:World}{b:Nat}{q:Nm→Bool}(hn:(vars F).Nodup) (h:IMap Tryz.prog w b (unionL [] (VSet F q))):SetAt w b F q:=by
 have:unionL [] (VSet F q)=unionL (VSet F fun _=>false) (VSet F q):=by
  have:VSet F (fun _=>false)=[]:=by unfold VSet named;simp
  rw [this]
 rw [this] at h;exact(unionL_sets hn h).congr fun x _=>by simp
theorem keyed9:Keyed Tryz.prog 9:=string_keyed Tryz.underlying9
section
variable {w:World} {ops:Array Oper} {rest:List Oper} {o:Oper} {a:Act} {Q:Exit→Act→World→Prop}
theorem wpList_pat (hg:o.guard=none) (m x:Operand) (hop:o.op=Op.lookup 116 m x false) (b:Nat) (F:List Nd)
  (hm:a.eval m = .map (some b)) (h:PMap w b (vars F)) (n:Nm) (hn:n∈vars F) (hx:a.eval x = .string n)
  (hK:wpList Tryz.prog ops Q rest (a.put o.dst (.int .i64 (place F n))) w):wpList Tryz.prog ops Q (o :: rest) a w:=by
 obtain⟨D,h1,h2,h3,h4⟩:=h;obtain⟨g1,g2,g3⟩:=h3 _ _ (place_at hn);refine wpList_lookup_own_int w hg m x 116 hop 9 3 .i64 keyed9 Tryz.underlying116 Tryz.underlying3 (zero3 w) b (Maps.size D) D hm h1 _ _ hx (keyOf_string_mk Tryz.underlying9 g1) fun c hat _=>?_
 rw [g3] at hat;simp at hat;rw [← hat];exact hK
theorem wpList_pis (hg:o.guard=none) (m x:Operand) (hop:o.op=Op.lookup 116 m x true) (b:Nat) (F:List Nm)
  (hm:a.eval m = .map (some b)) (h:PMap w b F) (n:Nm) (hs:n.size≤maxLen) (hx:a.eval x = .string n)
  (hK:∀ c:Int,(∀ i:Nat,F[i]?=some n→c=i)→wpList Tryz.prog ops Q rest (a.put o.dst (.tuple #[.int .i64 c,.bool (has F n)])) w):wpList Tryz.prog ops Q (o :: rest) a w:=by
 obtain⟨D,h1,h2,h3,h4⟩:=h;refine wpList_lookup_own_ok_int w hg m x 116 hop 9 3 .i64 keyed9 Tryz.underlying116 Tryz.underlying3 (zero3 w) b (Maps.size D) D hm h1 _ _ hx (keyOf_string_mk Tryz.underlying9 hs) fun c hat _=>?_
 have e:Maps.has D (.string n.data.toList)=has F n:=by
  rw [Bool.eq_iff_iff,zx];constructor
  ·exact h4 n
  intro hm;obtain⟨i,hi⟩:=List.getElem?_of_mem hm;exact(h3 i n hi).2.1
 rw [e];refine hK c fun i hi=>?_
 rw [(h3 i n hi).2.2] at hat;simp at hat;exact hat.symm
end
structure LinkAt (w:World) (A:Ad) (f:Nat) (F:List Nd) (i:Nat):Prop where
 f4:w.cell? ⟨f,4,none⟩=some (.map (some A.pl))
 pm:PMap w A.pl (vars F)
 l0:∃ sv,w.cell? ⟨A.lb i,0,none⟩=some sv∧StrsAt w sv (nd F i).binds
 l2:w.cell? ⟨A.lb i,2,none⟩=some (.pointer (some ⟨A.nb i,0,none⟩))
 n2:w.cell? ⟨A.nb i,2,none⟩=some (.map (some (A.mb i)))
 set:SetAt w (A.mb i) F (lv F i)
 once:(vars F).Nodup
 sub:∀ x∈(nd F i).binds,x∈vars F
 few:(vars F).length≤1000000
 nb:(nd F i).binds.length≤1000000
theorem LinkAt.keep {w w':World}{A:Ad}{f:Nat}{F:List Nd}{i:Nat}(h:LinkAt w A f F i) (hb:Below w.heap.size w w'):LinkAt w' A f F i:=by
 have hk:=zd hb;obtain⟨sv,c,s⟩:=h.l0;exact⟨hk _ _ h.f4,h.pm.keep (hb.block _ h.pm.lt),⟨sv,hk _ _ c,s.kept hk⟩,hk _ _ h.l2,hk _ _ h.n2,IMap.keep h.set (hb.block _ (IMap.lt h.set)),h.once,h.sub,h.few,h.nb⟩
def SetP (w:World) (F:List Nd) (q:Nm→Bool) (e:Ending) (w':World):Prop:=∃ b,e = .returned (.map (some b))∧w.heap.size≤b∧SetAt w' b F q∧Below w.heap.size w w'
theorem wf_nat {n:Nat}(h:n≤1000000000):(Lit.int .i64 (n:Int)).wf=true:=WalkArith.wf_i64 (by omega)
theorem crossing_any {w:World}{A:Ad}{f:Nat}{F:List Nd}{i:Nat}(h:LinkAt w A f F i):Calls Tryz.prog 60 #[.pointer (some ⟨f,0,none⟩),.pointer (some ⟨A.lb i,0,none⟩)] w (SetP w F (cross F i)):=by
 obtain⟨sv,hsv,hst⟩:=h.l0;obtain⟨-,sa,sc,rfl,hsl⟩:=hst;have H:=zh h;have HSL:=zh hsl
 have l2:=h.l2;have n2:=h.n2
 have b1:A.lb i<w.heap.size:=zs3 w _ l2;have b2:A.nb i<w.heap.size:=zs3 w _ n2
 obtain⟨n,hn⟩:∃ n,n=(nd F i).binds.length:=⟨_,rfl⟩;rw [← hn] at hsv hsl;have HN:=zh hn;have HC:=zh hsv
 have hmm := @run_makeMap Tryz.prog;have hnz:(n:Int)≤1000000:=by have:=h.nb;omega
 clear h hsl hn
 go_enter Tryz.func60,Tryz.ntmps60
 go_wp2_with fail
 have hmb:=H.out.set.lt;refine(union_any ((IMap.made Tryz.prog w).alloc _) ((IMap.alloc H.out.set _).alloc _) (by omega) (cell_new2 w _ _ _) (by have:=vset_le (F:=F) (lv F i);have:=H.out.few;simp;omega)).mono ?_
 rintro e w1 ⟨rfl,hg1,hm1⟩;have HM1:=zh (unionL_nil H.out.once hm1);have HB1:Hid (Below w.heap.size w w1):=((((zs9 _ w).alloc (zr4 _) _).alloc (by simp) _).grown hg1 (by simp;omega) (fun r e=>by simp at e;omega))
 have H1:=zh (H.out.keep HB1.out);have S1:=zh HB1.out.size
 clear hsv l2 n2 hmb hg1 hm1 b1 b2;obtain⟨sv,hsv,hst⟩:=H1.out.l0;have hsv1:w1.cell? ⟨A.lb i,0,none⟩=some (.slice sa n sc):=HB1.out.cell (p:=⟨A.lb i,0,none⟩) (by obtain⟨_,h,_⟩:=H.out.l0;exact zs3 w _ h) |>.trans HC.out
 clear hsv hst
 go_wp2_with fail
 go_loopw [24] (fun iv wr=>∃ k:Nat,k≤n∧iv = .int .i64 k∧SetAt wr w.heap.size F (fun x=>lv F i x && !(has ((nd F i).binds.take k) x))∧Below w.heap.size w wr) (fun iv _=>n - (intOf iv).toNat)
 case atStart=>exact⟨0,zv3 _,rfl,HM1.out.congr fun x _=>by simp [RG.has],HB1.out⟩
 obtain⟨k,hk,rfl,hset,hb⟩:=hrel;have KS:=zh hset;have KB:=zh hb
 have KL:=zh hk;clear hset hb hk hsv1
 by_cases hlt:k<n
 ·obtain⟨g,o,rfl,hat⟩:=HSL.out (by rw [← HN.out];omega)
  obtain⟨x,hx⟩:∃ x,(nd F i).binds[k]?=some x:=⟨_,zq9 (by rw [← HN.out];exact hlt)⟩
  have hcx:=zd KB.out _ _ (hat k _ (strs_at hx));have H2:=zh (H.out.keep KB.out)
  have f4:=H2.out.f4;have HX:=zh hx
  have HXV:=zh (H.out.sub x (zr1 hx));have hlz:(k:Int)<n:=by omega
  have HLT:=zh hlt;clear hat hx hlt
  go_wp2_with (first | (at_lookup;refine wpList_pat rfl _ _ rfl A.pl F rfl H2.out.pm x HXV.out rfl ?_) | (at_delete;(refine wpList_idel Tryz.underlying3 rfl _ _ 108 rfl Tryz.underlying108 w.heap.size _ rfl KS.out (place F x) rfl (wf_nat (by have:=place_lt HXV.out;have:=H.out.few;omega)) ?_);intro w2 hm2 hg2))
  have KS2:=zh (SetAt.del H.out.once HXV.out hm2);have KB2:=zh (KB.out.grown hg2 KB.out.size (fun r e=>by simp at e;omega))
  clear hm2 hg2
  go_wp2_with fail
  go_roundw
  case rel =>
   refine⟨k+1,HLT.out,by go_num,KS2.out.congr fun y _=>?_,KB2.out⟩
   rw [List.take_add_one,HX.out];simp only [Option.toList_some,has_append];rw [Bool.not_or,← Bool.and_assoc]
   congr 1
   simp [RG.has,eq_comm]
  case measure=>have:=HLT.out;simp [intOf];omega
 have hlz:(n:Int)≤k:=by omega
 have HE:Hid (k=n):=by have:=KL.out;show _=_;omega
 clear hlt
 go_wp2_with fail
 go_ret
 refine⟨_,rfl,zr4 _,KS.out.congr fun x _=>?_,KB.out⟩
 rw [HE.out,HN.out,List.take_length];rfl
end
section
open Go.RowKit RG Go.Maps
theorem binds_le {F:List Nd}{i:Nat}(hi:i<F.length):(nd F i).binds.length≤(vars F).length:=by
 have:∀ (F:List Nd) (i:Nat) (d:Nd),F[i]?=some d→d.binds.length≤(vars F).length:=by
  intro F
  induction F with
  | nil=>intro i d h;simp at h
  | cons c F ih =>
   intro i d h;rw [vars_cons,zr2];cases i with
   | zero=>simp at h;subst h;omega
   | succ i=>have:=ih i d (by simpa using h);omega
 exact this F i _ (nd_some hi)
structure Fl (w:World) (A:Ad) (f:Nat) (F:List Nd):Prop where
 at':FlatAt w A f F
 fo:Fo F
 few:(vars F).length≤1000000
 len:F.length≤20000
theorem Fl.keep {w w':World}{A:Ad}{f:Nat}{F:List Nd}(h:Fl w A f F) (hb:Below w.heap.size w w'):Fl w' A f F:=⟨h.at'.keep hb,h.fo,h.few,h.len⟩
theorem Fl.link {w:World}{A:Ad}{f:Nat}{F:List Nd}(h:Fl w A f F) {i:Nat}(hi:i<F.length):LinkAt w A f F i:=by
 obtain⟨sl,sn,sv,f0,f1,f2,f3⟩:=h.at'.flat;obtain⟨lv',xv,l0,l1⟩:=h.at'.link i hi;obtain⟨sx,n0,n1⟩:=h.at'.node i hi;exact⟨by rw [zb _ _ 4 _ _ _ f0];rfl,h.at'.pmap,⟨lv',by rw [zb _ _ 0 _ _ _ l0];rfl,l1⟩,by rw [zb _ _ 2 _ _ _ l0];rfl,by rw [zb _ _ 2 _ _ _ n0];rfl,h.at'.live i hi,h.fo.once,
  fun x hx=>binds_vars hi hx,h.few,zr5 (binds_le hi) h.few⟩
theorem Fl.links {w:World}{A:Ad}{f:Nat}{F:List Nd}(h:Fl w A f F):∃ c g o,w.cell? ⟨f,1,none⟩=some (.slice (some ⟨g,o,none⟩) F.length c)∧∀ i,i<F.length→w.cell? ⟨g,o+i,none⟩=some (.pointer (some ⟨A.lb i,0,none⟩)):=by
 obtain⟨sl,sn,sv,f0,⟨-,ad,c,rfl,f1⟩,f2,f3⟩:=h.at'.flat;obtain⟨g,o,rfl,hat⟩:=f1 h.fo.pos;exact⟨c,g,o,by rw [zb _ _ 1 _ _ _ f0];rfl,fun i hi=>hat i _ (ptrs_at (by rw [List.getElem?_map,List.getElem?_range hi];rfl))⟩
theorem around_any {w:World}{A:Ad}{f:Nat}{F:List Nd}{i:Nat}(h:LinkAt w A f F i):Calls Tryz.prog 94 #[.pointer (some ⟨f,0,none⟩),.pointer (some ⟨A.lb i,0,none⟩)] w (SetP w F fun x=>cross F i x||RG.has (nd F i).binds x):=by
 obtain⟨sv,hsv,hst⟩:=h.l0;obtain⟨-,sa,sc,rfl,hsl⟩:=hst;have H:=zh h;have HSL:=zh hsl
 obtain⟨n,hn⟩:∃ n,n=(nd F i).binds.length:=⟨_,rfl⟩;rw [← hn] at hsv hsl;have HN:=zh hn;have HC:=zh hsv
 have hnz:(n:Int)≤1000000:=by have:=h.nb;omega
 clear h hsl hn hsv
 go_enter Tryz.func94,Tryz.ntmps94
 go_wp2_with fail
 refine(crossing_any H.out).mono ?_;rintro e w1 ⟨b,rfl,hb1,hs1,hw1⟩;have HBB:=zh hb1;have HS1:=zh hs1
 have HW1:=zh hw1;have hsv1:=zd HW1.out _ _ HC.out
 clear hb1 hs1 hw1
 go_wp2_with fail
 go_loopw [16] (fun iv wr=>∃ k:Nat,k≤n∧iv = .int .i64 k∧SetAt wr b F (fun x=>cross F i x||RG.has ((nd F i).binds.take k) x)∧Below w.heap.size w wr) (fun iv _=>n - (intOf iv).toNat)
 case atStart=>exact⟨0,zv3 _,rfl,HS1.out.congr fun x _=>by simp [RG.has],HW1.out⟩
 obtain⟨k,hk,rfl,hset,hb⟩:=hrel;have KS:=zh hset;have KB:=zh hb
 have KL:=zh hk;clear hset hb hk hsv1
 by_cases hlt:k<n
 ·obtain⟨g,o,rfl,hat⟩:=HSL.out (by rw [← HN.out];omega)
  obtain⟨x,hx⟩:∃ x,(nd F i).binds[k]?=some x:=⟨_,zq9 (by rw [← HN.out];exact hlt)⟩
  have hcx:=zd KB.out _ _ (hat k _ (strs_at hx));have H2:=zh (H.out.keep KB.out)
  have f4:=H2.out.f4;have HX:=zh hx
  have HXV:=zh (H.out.sub x (zr1 hx));have hlz:(k:Int)<n:=by omega
  have HLT:=zh hlt;clear hat hx hlt
  go_wp2_with (first | (at_lookup;refine wpList_pat rfl _ _ rfl A.pl F rfl H2.out.pm x HXV.out rfl ?_) | (at_mapUpdate;refine wpList_iput Tryz.underlying3 rfl _ _ _ 108 rfl Tryz.underlying108 b _ rfl KS.out ?_ (place F x) 1 rfl rfl (wf_nat (by have:=place_lt HXV.out;have:=H.out.few;omega)) (by decide) ?_))
  ·have:=vset_le (F:=F) (fun x=>cross F i x||RG.has ((nd F i).binds.take k) x);have:=H.out.few;omega
  intro w2 hm2 hg2;have KS2:=zh (SetAt.put H.out.once HXV.out hm2);have KB2:=zh (KB.out.grown hg2 KB.out.size (fun r e=>by simp at e;have:=HBB.out;omega))
  clear hm2 hg2
  go_wp2_with fail
  go_roundw
  case rel =>
   refine⟨k+1,HLT.out,by go_num,KS2.out.congr fun y _=>?_,KB2.out⟩
   rw [List.take_add_one,HX.out];simp only [Option.toList_some,has_append];rw [← Bool.or_assoc]
   congr 1
   simp [RG.has,eq_comm]
  case measure=>have:=HLT.out;simp [intOf];omega
 have hlz:(n:Int)≤k:=by omega
 have HE:Hid (k=n):=by have:=KL.out;show _=_;omega
 clear hlt
 go_wp2_with fail
 go_ret
 refine⟨_,rfl,HBB.out,KS.out.congr fun x _=>?_,KB.out⟩
 rw [HE.out,HN.out,List.take_length]
theorem crowdOf_snoc (F : List Nd) : ∀ (l : List Nat) (o : Option (List Nm)) (i : Nat), crowdOf F (l ++ [i]) o = some (match crowdOf F l o with
      | none => around F i
      | some c => if c.length < (around F i).length then around F i else c)
  | [], none, i => rfl
  | [], some c, i => by
    simp only [List.nil_append, crowdOf]
    split <;> rfl
  | j :: r, none, i => by rw [List.cons_append, crowdOf, crowdOf_snoc F r, crowdOf]
  | j :: r, some c, i => by rw [List.cons_append, crowdOf, crowdOf_snoc F r, crowdOf]
def CrAt (w wr:World) (F:List Nd) (k:Nat) (v:Value):Prop :=
 (k=0∧v = .map none)∨(0<k∧∃ b q,v = .map (some b)∧w.heap.size≤b∧SetAt wr b F q∧crowdOf F (List.range k) none=some (named F q))
theorem CrAt.keep {w wr wr':World}{F:List Nd}{k:Nat}{v:Value}(h:CrAt w wr F k v) (hb:Below wr.heap.size wr wr'):CrAt w wr' F k v:=by
 rcases h with h | ⟨h0,b,q,rfl,hb0,hs,hc⟩
 ·exact .inl h
 exact .inr ⟨h0,b,q,rfl,hb0,IMap.keep hs (hb.block _ (IMap.lt hs)),hc⟩
def CrP (w:World) (F:List Nd) (e:Ending) (w':World):Prop:=∃ b q,e = .returned (.map (some b))∧SetAt w' b F q∧crowd F=named F q∧Below w.heap.size w w'
theorem crowd_any {w:World}{A:Ad}{f:Nat}{F:List Nd}(h:Fl w A f F):Calls Tryz.prog 65 #[.pointer (some ⟨f,0,none⟩)] w (CrP w F):=by
 obtain⟨sc,g,o,c1,hat⟩:=h.links;have H:=zh h;have HAT:=zh hat
 obtain⟨n,hn⟩:∃ n,n=F.length:=⟨_,rfl⟩;rw [← hn] at c1;have HN:=zh hn;have hnz:(n:Int)≤20000:=by have:=h.len;omega
 have HP:Hid (0<n):=by have:=h.fo.pos;show _<_;omega
 clear h hat hn
 go_enter Tryz.func65,Tryz.ntmps65
 go_wp2_with fail
 go_loopw [3,12] (fun v iv wr=>∃ k:Nat,k≤n∧iv = .int .i64 k∧CrAt w wr F k v∧Below w.heap.size w wr) (fun _ iv _=>n - (intOf iv).toNat)
 case atStart=>exact⟨0,zv3 _,rfl,.inl ⟨rfl,rfl⟩,zs9 _ _⟩
 obtain⟨k,hk,rfl,hcr,hb⟩:=hrel;have KC:=zh hcr;have KB:=zh hb
 have KL:=zh hk;clear hcr hb hk c1
 by_cases hlt:k<n
 ·have hcx:=zd KB.out _ _ (HAT.out k (by have:=HN.out;omega))
  have hlz:(k:Int)<n:=by omega
  have HLT:=zh hlt;have AR:=around_any ((H.out.link (i:=k) (by have:=HN.out;omega)).keep KB.out)
  have HAR:=zh AR;clear AR hlt;have qT:=fun (w:World) (r:Option Nat)=>run_eql_map_nil (P:=Tryz.prog) w 108 _ _ r Tryz.underlying108
  rcases KC.out with ⟨h0,rfl⟩|⟨h0,b,q,rfl,hb0,hs,hc⟩
  ·have HK0:=zh h0
   clear h0
   go_wp2_with fail
   refine HAR.out.mono ?_;rintro e w1 ⟨b1,rfl,hb1,hs1,hw1⟩;have HS1:=zh hs1;have HB1:=zh hb1
   have HW1:Hid (Below w.heap.size w w1):=KB.out.trans (hw1.mono KB.out.size);clear hs1 hb1 hw1
   go_wp2_with fail
   go_roundw
   case rel=>exact⟨k+1,HLT.out,by go_num,.inr ⟨Nat.succ_pos k,b1,_,rfl,zr5 KB.out.size HB1.out,HS1.out,by rw [HK0.out];rfl⟩,HW1.out⟩
   case measure=>have:=HLT.out;simp [intOf];omega
  have HS:=zh hs;have HC:=zh hc
  have HB0:=zh hb0;have H0:=zh h0
  clear hs hc hb0 h0
  go_wp2_with fail
  refine HAR.out.mono ?_;rintro e w1 ⟨b1,rfl,hb1,hs1,hw1⟩;have HS1:=zh hs1;have HB1:=zh hb1
  have HW1:Hid (Below w.heap.size w w1):=KB.out.trans (hw1.mono KB.out.size);have HS2:Hid (SetAt w1 b F q):=IMap.keep HS.out (hw1.block _ (IMap.lt HS.out))
  clear hs1 hb1 hw1;have hlen:(VSet F (fun x=>cross F k x||RG.has (nd F k).binds x)).length=(around F k).length:=vset_length _
  have hleq:(VSet F q).length=(named F q).length:=vset_length _;obtain⟨n1,hn1⟩:∃ n1,n1=(VSet F (fun x=>cross F k x||RG.has (nd F k).binds x)).length:=⟨_,rfl⟩
  obtain⟨n2,hn2⟩:∃ n2,n2=(VSet F q).length:=⟨_,rfl⟩;rw [← hn1] at hlen;rw [← hn2] at hleq;have e1:(Builtin.len_ #[108] 3 #[.map (some b1)]).run Tryz.prog w1 = .ok (.int .i64 n1) w1:=by obtain⟨D,h1,h2,_⟩:=HS1.out;have:=h1.len Tryz.underlying108 3;rw [h2,← hn1] at this;exact this
  have e2:(Builtin.len_ #[108] 3 #[.map (some b)]).run Tryz.prog w1 = .ok (.int .i64 n2) w1:=by obtain⟨D,h1,h2,_⟩:=HS2.out;have:=h1.len Tryz.underlying108 3;rw [h2,← hn2] at this;exact this
  have REL:Hid (∀ v,(v = .map (some b)∧n1≤n2∨v = .map (some b1)∧n2<n1)→CrAt w w1 F (k+1) v):=fun v hv=>by
   refine .inr ⟨Nat.succ_pos _,?_⟩;rw [List.range_succ,crowdOf_snoc,HC.out];rcases hv with ⟨rfl,hle⟩|⟨rfl,hlt⟩
   ·exact⟨b,q,rfl,HB0.out,HS2.out,by simp only [];rw [if_neg (by omega)]⟩
   exact⟨b1,_,rfl,zr5 KB.out.size HB1.out,HS1.out,by simp only [];rw [if_pos (by omega)];rfl⟩
  clear hlen hleq hn1 hn2
  by_cases hgt:n2<n1
  ·have hgz:(n2:Int)<n1:=by omega
   have HGT:=zh hgt;clear hgt
   go_wp2_with fail
   go_roundw
   case rel=>exact⟨k+1,HLT.out,by go_num,REL.out _ (.inr ⟨rfl,HGT.out⟩),HW1.out⟩
   case measure=>have:=HLT.out;simp [intOf];omega
  have hgz:(n1:Int)≤n2:=by omega
  have HGT:Hid (n1≤n2):=by show _≤_;omega
  clear hgt
  go_wp2_with fail
  go_roundw
  case rel=>exact⟨k+1,HLT.out,by go_num,REL.out _ (.inl ⟨rfl,HGT.out⟩),HW1.out⟩
  case measure=>have:=HLT.out;simp [intOf];omega
 have hlz:(n:Int)≤k:=by omega
 have HE:Hid (k=n):=by have:=KL.out;show _=_;omega
 clear hlt;rcases KC.out with ⟨h0,rfl⟩|⟨h0,b,q,rfl,hb0,hs,hc⟩
 ·have:=HP.out;have:=HE.out;omega
 have HS:=zh hs;have HC:=zh hc
 clear h0 hb0 hs hc
 go_wp2_with fail
 go_ret
 refine⟨b,q,rfl,HS.out,?_,KB.out⟩;have:=HC.out;rw [HE.out,HN.out] at this;unfold crowd;rw [this];rfl
end
section
open Go.RowKit
def Bk (B:Nat) (W W':World):Prop:=∃ (q:Nat) (o o':Obj),W.heap[q]?=some o∧o.isCells=false∧o.isWalk=false∧B≤q∧W'=W.putObj q o'
def Kb (W W':World):Prop:=W.heap.size≤W'.heap.size∧∀ (q:Nat) (o:Obj),W.heap[q]?=some o→o.isCells=false→o.isWalk=false→W'.heap[q]?=some o
theorem Kb.refl (W:World):Kb W W:=⟨zr4 _,fun _ _ h _ _=>h⟩
theorem Kb.trans {A B C:World}(h:Kb A B) (k:Kb B C):Kb A C:=⟨zr5 h.1 k.1,fun q o a b c=>k.2 q o (h.2 q o a b c) b c⟩
theorem Kb.of_below {W W':World}(h:Below W.heap.size W W'):Kb W W':=⟨h.size,fun q o a _ _=>(h.block q (zq7.1 a).1).trans a⟩
theorem heap_bk {B:Nat}{W W':World}(h:Bk B W W') {q:Nat}{o:Obj}(ho:W.heap[q]?=some o) (hc:o.isCells=true∨o.isWalk=true):W'.heap[q]?=some o:=by
 obtain⟨p,o1,o2,h1,h2,h3,h4,rfl⟩:=h;refine(World.putObj_heap_other fun e=>?_).trans ho
 subst e;rw [h1] at ho;simp only [zt3] at ho;subst ho;rcases hc with hc | hc
 ·rw [h2] at hc;cases hc
 rw [h3] at hc;cases hc
theorem below_bk {B:Nat}{W W':World}(h:Bk B W W'):Below B W W':=by
 obtain⟨p,o1,o2,h1,h2,h3,h4,rfl⟩:=h;exact⟨rfl,rfl,rfl,by simp,fun k hk=>World.putObj_heap_other (by omega)⟩
def IterLaw (P:Program) (G:Nat) (lbs:Array Value) (m:Nat) (encs:Nat→Array Value) (Rd:World→Prop):Prop :=
 ∀ (n l:Nat) (J:Nat→World→Prop) (Jx:World→Prop) (W:World),(∀ j W1 W2,J j W1→Below W1.heap.size W1 W2→J j W2)→(∀ j W1,J j W1→Rd W1) →
  (∀ j W1,J j W1→j<m→YieldAt Fence.wide n P l (encs j) W1 fun e W'=>(e = .returned (.bool true)∧J (j+1) W')∨(e = .returned (.bool false)∧Jx W'))→J 0 W →
  Calls P G (#[.func (.yield l) #[] #[]]++lbs) W fun e W'=>(∃ v,e = .returned v)∧(J m W'∨Jx W')
def BodyP (I:Nat→World→Prop) (X:World→Prop) (j:Nat) (W:World):Exit→Act→World→Prop
 | .normal,_,W'=>Kb W W'∧I (j+1) W'
 | .ret,_,W'=>Kb W W'∧X W'
 | .exit _,_,_=>False
 | .goto _,_,_=>False
 | .panic _,_,_=>False
 | .outgrown,_,_=>False
def rcd (fn:FuncId) (tmps:Array Value) (ps:Array Tmp) (assign body:Code) (D:Nat) (st:LoopState) (pe:Option Code):Loop:={ state:=st,pending:=pe,fn,tmps,params:=ps,assign,body,defers:=D }
section
variable {P:Program} {n:Nat} {I:Nat→World→Prop} {X:World→Prop} {B m:Nat} {encs:Nat→Array Value} {A:Nat→Act→World→Prop}
theorem one_round {fn:FuncId}{tmps:Array Value}{ps:Array Tmp}{assign body:Code}{D l:Nat}(hl:B≤l)
  (hI:∀ j W W',I j W→Bk B W W'→I j W') (hX:∀ W W',X W→Bk B W W'→X W') (hA:∀ j a W W',A j a W→Bk B W W'→A j a W') (hIb:∀ j W W',I j W→Below W.heap.size W W'→I j W')
  (hps:∀ j,(encs j).size=ps.size)
  (hassign:∀ l j W,I j W→j<m→assign.wpIn (Fence.wide.inRound l) n P (Exit.then (fun a₁ w₁=>Below W.heap.size W w₁∧A j a₁ w₁) (fun _ _ _=>False)) { tmps:=(ps.zip (encs j)).foldl (fun t (p,v)=>t.setIfInBounds p v) tmps,defers:=[] } W)
  (hbody:∀ l j a₁ W,B≤l→(∃ r,W.heap[l]?=some (.loop r))→I j W→A j a₁ W→j<m→body.wpIn (Fence.wide.inRound l) n P (BodyP I X j W) a₁ W)
  {j:Nat} {W:World} (hi:I j W) (hj:j<m) (hlo:W.heap[l]?=some (.loop (rcd fn tmps ps assign body D .ready none))) :
  YieldAt Fence.wide n P l (encs j) W fun e W'=>(e = .returned (.bool true)∧I (j+1) W'∧W'.heap[l]?=some (.loop (rcd fn tmps ps assign body D .ready none))∧∀ (q:Nat) (o:Obj),q≠l→W.heap[q]?=some o→o.isCells=false→o.isWalk=false→W'.heap[q]?=some o) ∨
   (e = .returned (.bool false)∧X W'∧W'.heap[l]?=some (.loop (rcd fn tmps ps assign body D .done (some .ret)))∧∀ (q:Nat) (o:Obj),q≠l→W.heap[q]?=some o→o.isCells=false→o.isWalk=false→W'.heap[q]?=some o):=by
 have hy:=run_yield (P:=P) (args:=encs j) hlo (hps j);refine⟨fn,_,assign,body,hy,roundIn_of_wpIn trivial ?_⟩;refine wpIn_mono (hassign l j W hi hj) ?_;intro e a1 W1 hp;cases e with
 | normal =>
  obtain⟨hb1,ha1⟩:=hp;have hl1:W1.heap[l]?=some (.loop (rcd fn tmps ps assign body D .ready none)):=(hb1.block l (zq7.1 hlo).1).trans hlo;have hlt1:=(zq7.1 hl1).1
  refine⟨_,run_beginRound hl1 rfl,?_⟩;have bk1:Bk B W1 (W1.putObj l (.loop { rcd fn tmps ps assign body D .ready none with state := .busy })):=⟨l,_,_,hl1,rfl,rfl,hl,rfl⟩
  have hl2:(W1.putObj l (.loop { rcd fn tmps ps assign body D .ready none with state := .busy })).heap[l]?=some (.loop { rcd fn tmps ps assign body D .ready none with state := .busy }):=World.putObj_heap_same hlt1
  have pre:∀ (q:Nat) (o:Obj),q≠l→W.heap[q]?=some o→(W1.putObj l (.loop { rcd fn tmps ps assign body D .ready none with state := .busy })).heap[q]?=some o:=fun q o hq ho =>
   (World.putObj_heap_other hq).trans ((hb1.block q (zq7.1 ho).1).trans ho)
  refine wpIn_mono (hbody l j a1 _ hl ⟨_,hl2⟩ (hI _ _ _ (hIb _ _ _ hi hb1) bk1) (hA _ _ _ _ ha1 bk1) hj) ?_;intro e2 a2 W2 hp2;cases e2 with
  | normal =>
   obtain⟨hk,hi2⟩:=hp2;have hl3:=hk.2 _ _ hl2 rfl rfl;have hr:=run_endRound (P:=P) none hl3
   refine⟨_,_,hr,.inl ⟨rfl,hI _ _ _ hi2 ⟨l,_,_,hl3,rfl,rfl,hl,rfl⟩,World.putObj_heap_same (zq7.1 hl3).1,fun q o hq ho hc hw=>(World.putObj_heap_other hq).trans (hk.2 q o (pre q o hq ho) hc hw)⟩⟩
  | ret =>
   obtain⟨hk,hx2⟩:=hp2;have hl3:=hk.2 _ _ hl2 rfl rfl;have hr:=run_endRound (P:=P) (some .ret) hl3
   refine⟨_,_,hr,.inr ⟨rfl,hX _ _ hx2 ⟨l,_,_,hl3,rfl,rfl,hl,rfl⟩,World.putObj_heap_same (zq7.1 hl3).1,fun q o hq ho hc hw=>(World.putObj_heap_other hq).trans (hk.2 q o (pre q o hq ho) hc hw)⟩⟩
  | exit id=>exact hp2.elim
  | goto t=>exact hp2.elim
  | panic ch=>exact hp2.elim
  | outgrown=>exact hp2.elim
 | ret=>exact hp.elim
 | exit id=>exact hp.elim
 | goto t=>exact hp.elim
 | panic ch=>exact hp.elim
 | outgrown=>exact hp.elim
theorem range_outer {g:Operand}{ps:Array Tmp}{assign body:Code}{Q:Exit→Act→World→Prop}{a:Act}{w:World}{G:Nat}{lbs:Array Value}{Rd:World→Prop}
  (hg:a.eval g = .func (.func G) #[] lbs) (eg:∀ args w,(callFunc G args).run P w = .ok (.enter G args) w) (IL:IterLaw P G lbs m encs Rd)
  (hB:B≤w.heap.size) (hRd:∀ j W,I j W→Rd W)
  (hI:∀ j W W',I j W→Bk B W W'→I j W') (hX:∀ W W',X W→Bk B W W'→X W') (hA:∀ j a W W',A j a W→Bk B W W'→A j a W') (hIb:∀ j W W',I j W→Below W.heap.size W W'→I j W')
  (hps:∀ j,(encs j).size=ps.size) (h0:I 0 w)
  (hassign:∀ l j W,I j W→j<m→assign.wpIn (Fence.wide.inRound l) n P (Exit.then (fun a₁ w₁=>Below W.heap.size W w₁∧A j a₁ w₁) (fun _ _ _=>False)) { tmps:=(ps.zip (encs j)).foldl (fun t (p,v)=>t.setIfInBounds p v) a.tmps,defers:=[] } W)
  (hbody:∀ l j a₁ W,B≤l→(∃ r,W.heap[l]?=some (.loop r))→I j W→A j a₁ W→j<m→body.wpIn (Fence.wide.inRound l) n P (BodyP I X j W) a₁ W)
  (hdone:∀ (D:Nat) (W:World),w.heap.size≤D→I m W→W.heap[D]?=some (.deferred (some []))→Q .normal { a with defers:={ target := .collected D,args := #[] } :: a.defers } W)
  (hstop:∀ (D:Nat) (W:World),w.heap.size≤D→X W→W.heap[D]?=some (.deferred (some []))→Code.ret.wp P Q { a with defers:={ target := .collected D,args := #[] } :: a.defers } W) :
  (Code.rangeFunc g ps assign body).wp P Q a w:=by
 refine(wpIn_wide (n:=2)).1 ?_;refine wpIn_rangeFunc ?_;intro fn hfn;obtain⟨W3,hW3⟩:∃ W,W=(w.alloc (.deferred (some []))).alloc (.loop (rcd fn a.tmps ps assign body w.heap.size .ready none)):=⟨_,rfl⟩;have he:(Instr.enterLoop fn a.tmps ps assign body Fence.wide.round).run P w = .ok (w.heap.size+1,[{ target := .collected w.heap.size,args := #[] }]) W3:=by
  rw [hW3];exact run_enterLoop_outer fn a.tmps ps assign body
 have h3:Below w.heap.size w W3:=by rw [hW3];exact((zs9 _ _).alloc (zr4 _) _).alloc (by simp) _
 have hD3:W3.heap[w.heap.size]?=some (.deferred (some [])):=by
  rw [hW3,zt2 _ _ _ (by simp)];exact World.alloc_heap_new w _
 have hl3:W3.heap[w.heap.size+1]?=some (.loop (rcd fn a.tmps ps assign body w.heap.size .ready none)):=by
  rw [hW3];have:=World.alloc_heap_new (w.alloc (.deferred (some []))) (.loop (rcd fn a.tmps ps assign body w.heap.size .ready none));rw [World.size_alloc] at this;exact this
 refine⟨w.heap.size+1,[{ target := .collected w.heap.size,args := #[] }],W3,{ target := .fn (.func G) lbs,args := #[.func (.yield (w.heap.size+1)) #[] #[]] },W3,G,
  #[.func (.yield (w.heap.size+1)) #[] #[]]++lbs,W3,he,?_,?_,?_,(fun _=>by decide),?_⟩
 ·simp only [resolve,hg]
  simp [go_sem]
 ·intro f' _;exact trivial
 ·simp [invoke,go_sem,eg]
 refine callsIn_wide.2 ((IL n (w.heap.size+1) (fun j W=>I j W∧W.heap[w.heap.size+1]?=some (.loop (rcd fn a.tmps ps assign body w.heap.size .ready none))∧W.heap[w.heap.size]?=some (.deferred (some [])))
  (fun W=>X W∧W.heap[w.heap.size+1]?=some (.loop (rcd fn a.tmps ps assign body w.heap.size .done (some .ret)))∧W.heap[w.heap.size]?=some (.deferred (some []))) W3
  (fun j W1 W2 h hb=>⟨hIb j W1 W2 h.1 hb,(hb.block _ (zq7.1 h.2.1).1).trans h.2.1,(hb.block _ (zq7.1 h.2.2).1).trans h.2.2⟩) (fun j W1 h=>hRd j W1 h.1) ?_ ⟨hIb 0 w W3 h0 h3,hl3,hD3⟩).mono ?_)
 ·rintro j W1 ⟨hi,hl,hd⟩ hj
  obtain⟨f,t,asg,bo,hy,hR⟩:=one_round (m:=m) (encs:=encs) (A:=A) (show B≤w.heap.size+1 by omega) hI hX hA hIb hps hassign hbody hi hj hl
  refine⟨f,t,asg,bo,hy,hR.mono ?_⟩;rintro e W' (⟨rfl,h1,h2,h3⟩|⟨rfl,h1,h2,h3⟩)
  ·exact .inl ⟨rfl,h1,h2,h3 _ _ (by omega) hd rfl rfl⟩
  exact .inr ⟨rfl,h1,h2,h3 _ _ (by omega) hd rfl rfl⟩
 rintro e W ⟨⟨v,rfl⟩,⟨hi,hl,hd⟩|⟨hx,hl,hd⟩⟩
 ·refine⟨none,_,run_endLoop hl (by simp [rcd]),?_⟩
  exact hdone _ _ (zr4 _) (hI _ _ _ hi ⟨_,_,_,hl,rfl,rfl,by omega,rfl⟩) ((World.putObj_heap_other (by omega)).trans hd)
 refine⟨some .ret,_,run_endLoop hl (by simp [rcd]),?_⟩
 exact wpIn_wide.2 (hstop _ _ (zr4 _) (hX _ _ hx ⟨_,_,_,hl,rfl,rfl,by omega,rfl⟩) ((World.putObj_heap_other (by omega)).trans hd))
theorem range_inner {g:Operand}{ps:Array Tmp}{assign body:Code}{Q:Exit→Act→World→Prop}{a:Act}{w:World}{G:Nat}{lbs:Array Value}{Rd:World→Prop} {l₀ k:Nat} {r₀ : Loop} (hl₀ : w.heap[l₀]?=some (.loop r₀))
  (hg:a.eval g = .func (.func G) #[] lbs) (eg:∀ args w,(callFunc G args).run P w = .ok (.enter G args) w) (IL:IterLaw P G lbs m encs Rd)
  (hB:B≤w.heap.size) (hRd:∀ j W,I j W→Rd W)
  (hI:∀ j W W',I j W→Bk B W W'→I j W') (hX:∀ W W',X W→Bk B W W'→X W') (hA:∀ j a W W',A j a W→Bk B W W'→A j a W') (hIb:∀ j W W',I j W→Below W.heap.size W W'→I j W')
  (hps:∀ j,(encs j).size=ps.size) (h0:I 0 w)
  (hassign:∀ l j W,I j W→j<m→assign.wpIn (Fence.wide.inRound l) n P (Exit.then (fun a₁ w₁=>Below W.heap.size W w₁∧A j a₁ w₁) (fun _ _ _=>False)) { tmps:=(ps.zip (encs j)).foldl (fun t (p,v)=>t.setIfInBounds p v) a.tmps,defers:=[] } W)
  (hbody:∀ l j a₁ W,B≤l→(∃ r,W.heap[l]?=some (.loop r))→I j W→A j a₁ W→j<m→body.wpIn (Fence.wide.inRound l) n P (BodyP I X j W) a₁ W)
  (hdone:∀ (W:World),I m W→Q .normal a W)
  (hstop:∀ (W:World),X W→Code.ret.wpIn (Fence.wide.inRound l₀) k P Q a W) :
  (Code.rangeFunc g ps assign body).wpIn (Fence.wide.inRound l₀) k P Q a w:=by
 refine wpIn_rangeFunc ?_;intro fn hfn;obtain⟨W3,hW3⟩:∃ W,W=w.alloc (.loop (rcd fn a.tmps ps assign body r₀.defers .ready none)):=⟨_,rfl⟩;have he:(Instr.enterLoop fn a.tmps ps assign body (Fence.wide.inRound l₀).round).run P w = .ok (w.heap.size,[]) W3:=by
  rw [hW3];exact run_enterLoop_inner hl₀ fn a.tmps ps assign body
 have h3:Below w.heap.size w W3:=by rw [hW3];exact(zs9 _ _).alloc (zr4 _) _
 have hl3:W3.heap[w.heap.size]?=some (.loop (rcd fn a.tmps ps assign body r₀.defers .ready none)):=by
  rw [hW3];exact World.alloc_heap_new w _
 refine⟨w.heap.size,[],W3,{ target := .fn (.func G) lbs,args := #[.func (.yield w.heap.size) #[] #[]] },W3,G,
  #[.func (.yield w.heap.size) #[] #[]]++lbs,W3,he,?_,?_,?_,(fun h=>by cases h),?_⟩
 ·simp only [resolve,hg]
  simp [go_sem]
 ·intro f' _;exact trivial
 ·simp [invoke,go_sem,eg]
 refine CallsIn.inRound l₀ (callsIn_wide.2 ((IL n w.heap.size (fun j W=>I j W∧W.heap[w.heap.size]?=some (.loop (rcd fn a.tmps ps assign body r₀.defers .ready none)))
  (fun W=>X W∧W.heap[w.heap.size]?=some (.loop (rcd fn a.tmps ps assign body r₀.defers .done (some .ret)))) W3
  (fun j W1 W2 h hb=>⟨hIb j W1 W2 h.1 hb,(hb.block _ (zq7.1 h.2).1).trans h.2⟩) (fun j W1 h=>hRd j W1 h.1) ?_ ⟨hIb 0 w W3 h0 h3,hl3⟩).mono ?_))
 ·rintro j W1 ⟨hi,hl⟩ hj
  obtain⟨f,t,asg,bo,hy,hR⟩:=one_round (m:=m) (encs:=encs) (A:=A) hB hI hX hA hIb hps hassign hbody hi hj hl;refine⟨f,t,asg,bo,hy,hR.mono ?_⟩;rintro e W' (⟨rfl,h1,h2,h3⟩|⟨rfl,h1,h2,h3⟩)
  ·exact .inl ⟨rfl,h1,h2⟩
  exact .inr ⟨rfl,h1,h2⟩
 rintro e W ⟨⟨v,rfl⟩,⟨hi,hl⟩|⟨hx,hl⟩⟩
 ·refine⟨none,_,run_endLoop hl (by simp [rcd]),?_⟩
  exact hdone _ (hI _ _ _ hi ⟨_,_,_,hl,rfl,rfl,hB,rfl⟩)
 refine⟨some .ret,_,run_endLoop hl (by simp [rcd]),?_⟩
 exact hstop _ (hX _ _ hx ⟨_,_,_,hl,rfl,rfl,hB,rfl⟩)
end
end
section
open Go.RowKit RG
theorem isRest_any (k:Int) (w:World):Calls Tryz.prog 107 #[.int .i64 k] w fun e w'=>e = .returned (.bool (isRest k))∧w'=w:=by
 by_cases h1:1≤k
 ·by_cases h2:k≤6
  ·go_enter Tryz.func107,Tryz.ntmps107
   go_wp2_with fail
   go_ret
   exact⟨by simp [isRest,h1,h2],rfl⟩
  have hd:decide (k≤6)=false:=by simpa using h2
  go_enter Tryz.func107,Tryz.ntmps107
  go_wp2_with fail
  go_ret
  exact⟨by simp [isRest,h1,h2],rfl⟩
 have hd:decide (1≤k)=false:=by simpa using h1
 go_enter Tryz.func107,Tryz.ntmps107
 go_wp2_with fail
 go_ret
 exact⟨by simp [isRest];omega,rfl⟩
theorem toList_empty {s:ByteArray}(h:s.size=0):s.toList.isEmpty=true:=by
 rw [Lib.toList_data,List.isEmpty_iff];exact List.eq_nil_of_length_eq_zero (by simpa using h)
theorem toList_full {s:ByteArray}(h:s.size≠0):s.toList.isEmpty=false:=by
 rw [Lib.toList_data];cases hq:s.data.toList with
 | nil=>exact absurd (by have:=congrArg List.length hq;simpa using this) h
 | cons a l=>rfl
structure Xc (w:World) (e:TE) (b o:Nat) (va:Value) (aa ab:Option Addr) (ca cb:Nat):Prop where
 c0:w.cell? ⟨b,o,none⟩=some (.int .i64 e.kind)
 c1:w.cell? ⟨b,o+1,none⟩=some (.string e.name)
 c5:w.cell? ⟨b,o+5,none⟩=some va
 c6:w.cell? ⟨b,o+6,none⟩=some (.slice aa e.arms.length ca)
 c7:w.cell? ⟨b,o+7,none⟩=some (.slice ab e.body.length cb)
 args:AtomsAt w va e.args
 arms:0<e.arms.length→∃ ga oa,aa=some ⟨ga,oa,none⟩∧TAAt w e.arms ga oa
 body:0<e.body.length→∃ gb ob,ab=some ⟨gb,ob,none⟩∧TBAt w e.body gb ob
theorem TEAt.open {w:World}{e:TE}{b o:Nat}(h:TEAt w e b o):∃ va aa ab ca cb,Xc w e b o va aa ab ca cb:=by
 obtain⟨k,n,xs,arms,body⟩:=e;rw [TEAt] at h;obtain⟨op,num,site,va,aa,ab,ca,cb,ga,oa,gb,ob,⟨c0,c1,c2,c3⟩,⟨c4,c5,c6,c7⟩,h1,h2,h3,h4,h5⟩:=h;exact⟨va,aa,ab,ca,cb,c0,c1,c5,c6,c7,h1,fun h=>⟨ga,oa,h2 h,h3⟩,fun h=>⟨gb,ob,h4 h,h5⟩⟩
def RdP (w:World) (v:Value) (e:Ending) (w':World):Prop:=e = .returned v∧∃ n,w'=w.drewN n
theorem isForm_any {w:World}{e:TE}{b o:Nat}(h:TEAt w e b o):Calls Tryz.prog 86 #[.pointer (some ⟨b,o,none⟩)] w (RdP w (.bool e.form)):=by
 obtain⟨va,aa,ab,ca,cb,hx⟩:=h.open;obtain⟨ad,c,rfl,hargs⟩:=hx.args.at';obtain⟨c0,c1,c5,c6,c7,-,-,-⟩:=hx;obtain⟨v,hv⟩:∃ v,v=e.form:=⟨_,rfl⟩;rw [← hv];obtain⟨k,n,xs,arms,body⟩:=e;simp only [TE.kind,TE.name,TE.args,TE.arms,TE.body] at *;have hform:v=(decide (1≤k)&&decide (k≤10)&&(isRest k==(body.length==1))&&decide (body.length≤1) &&
  (if k=7 then xs.length==1&&((xs.headD ⟨#[]⟩).size != 0)&&decide (1≤arms.length)&&decide (arms.length≤16) else arms.length==0&&decide (xs.length≤16))):=hv
 have HA:=zh hargs;obtain⟨hdn,hhd⟩:∃ x,x=xs.headD ⟨#[]⟩:=⟨_,rfl⟩;have HH:=zh hhd
 rw [← hhd] at hform;obtain⟨ng,hng⟩:∃ x,x=xs.length:=⟨_,rfl⟩;obtain⟨na,hna⟩:∃ x,x=arms.length:=⟨_,rfl⟩;obtain⟨nb,hnb⟩:∃ x,x=body.length:=⟨_,rfl⟩;rw [← hng,← hna,← hnb] at hform;rw [← hng] at c5;rw [← hna] at c6;rw [← hnb] at c7;have HNG:=zh hng;have HV:=zh hform
 clear hargs hform hng hna hnb h hv hhd
 by_cases k1:k<1
 ·have E1:Hid (v=false):=by show _=_;rw [HV.out,show decide (1≤k)=false by simp;omega];rfl
  go_enter Tryz.func86,Tryz.ntmps86
  go_wp2_with fail
  go_quiet ((go_at_call 107;exact Calls.quiet_of_same (isRest_any _ _)))
  go_wp2_with fail
  go_ret
  rw [E1.out];exact⟨rfl,_,rfl⟩
 by_cases k2:10<k
 ·have E1:Hid (v=false):=by show _=_;rw [HV.out,show decide (k≤10)=false by simp;omega];simp
  have d1:decide (k<1)=false:=by simpa using k1
  go_enter Tryz.func86,Tryz.ntmps86
  go_wp2_with fail
  go_quiet ((go_at_call 107;exact Calls.quiet_of_same (isRest_any _ _)))
  go_wp2_with fail
  go_ret
  rw [E1.out];exact⟨rfl,_,rfl⟩
 have d1:decide (k<1)=false:=by simpa using k1
 have d2:decide (10<k)=false:=by simpa using k2
 obtain⟨r,hr⟩:∃ r,r=isRest k:=⟨_,rfl⟩;have hnb1:((nb:Int)==1)=(nb==1):=by rw [Bool.eq_iff_iff];simp;omega
 by_cases hq:r=(nb==1)
 ·have b2:(r==((nb:Int)==1))=true:=by rw [hnb1,← hq];cases r<;>rfl
  by_cases hb:1<nb
  ·have b3:decide (1<(nb:Int))=true:=by simp;omega
   have E1:Hid (v=false):=by show _=_;rw [HV.out,show decide (nb≤1)=false by simp;omega];simp
   rw [hr] at b2;clear hq hb hr hnb1
   go_enter Tryz.func86,Tryz.ntmps86
   go_wp2_with fail
   go_quiet ((go_at_call 107;exact Calls.quiet_of_same (isRest_any _ _)))
   go_wp2_with fail
   go_ret
   rw [E1.out];exact⟨rfl,_,rfl⟩
  have b3:decide (1<(nb:Int))=false:=by simp;omega
  have HV2:Hid (v=(if k=7 then ng==1&&(hdn.size != 0)&&decide (1≤na)&&decide (na≤16) else na==0&&decide (ng≤16))):=by
   show _=_;rw [HV.out,show decide (1≤k)=true by simp;omega,show decide (k≤10)=true by simp;omega,← hr,hq,show decide (nb≤1)=true by simp;omega]
   simp
  rw [hr] at b2;clear hq hb hr hnb1
  by_cases h7:k=7
  ·have b7:(k != 7)=false:=by simp [h7]
   have HV3:Hid (v=(ng==1&&(hdn.size != 0)&&decide (1≤na)&&decide (na≤16))):=by show _=_;rw [HV2.out,if_pos h7]
   clear h7
   by_cases n1:ng=1
   ·have c1:((ng:Int)==1)=true:=by simp [n1]
    obtain⟨g,q,rfl,hat⟩:=HA.out (by rw [← HNG.out];omega)
    obtain⟨m,hm,_⟩:=hat 0 hdn (by rw [HH.out];cases xs with | nil=>have:=HNG.out;simp at this;omega | cons a t=>rfl)
    rw [Nat.zero_mul,Nat.add_zero] at hm;have i1:(0:Int)<ng:=by omega
    have i2:0<ng:=by omega
    have N1:=zh n1;clear hat n1
    by_cases s0:hdn.size=0
    ·have c2:hdn.toList.isEmpty=true:=toList_empty s0
     have E1:Hid (v=false):=by show _=_;rw [HV3.out];simp [s0]
     clear s0
     go_enter Tryz.func86,Tryz.ntmps86
     go_wp2_with fail
     go_quiet ((go_at_call 107;exact Calls.quiet_of_same (isRest_any _ _)))
     go_wp2_with fail
     go_ret
     rw [E1.out];exact⟨rfl,_,rfl⟩
    have c2:hdn.toList.isEmpty=false:=toList_full s0
    by_cases a1:1≤na
    ·have c3:decide ((1:Int)≤na)=true:=by simp;omega
     by_cases a2:na≤16
     ·have c4:decide ((na:Int)≤16)=true:=by simp;omega
      have E1:Hid (v=true):=by show _=_;rw [HV3.out,N1.out];simp [s0,a1,a2]
      clear s0 a1 a2
      go_enter Tryz.func86,Tryz.ntmps86
      go_wp2_with fail
      go_quiet ((go_at_call 107;exact Calls.quiet_of_same (isRest_any _ _)))
      go_wp2_with fail
      go_ret
      rw [E1.out];exact⟨rfl,_,rfl⟩
     have c4:decide ((na:Int)≤16)=false:=by simp;omega
     have E1:Hid (v=false):=by show _=_;rw [HV3.out];simp [a2]
     clear s0 a1 a2
     go_enter Tryz.func86,Tryz.ntmps86
     go_wp2_with fail
     go_quiet ((go_at_call 107;exact Calls.quiet_of_same (isRest_any _ _)))
     go_wp2_with fail
     go_ret
     rw [E1.out];exact⟨rfl,_,rfl⟩
    have c3:decide ((1:Int)≤na)=false:=by simp;omega
    have E1:Hid (v=false):=by show _=_;rw [HV3.out];simp [a1]
    clear s0 a1
    go_enter Tryz.func86,Tryz.ntmps86
    go_wp2_with fail
    go_quiet ((go_at_call 107;exact Calls.quiet_of_same (isRest_any _ _)))
    go_wp2_with fail
    go_ret
    rw [E1.out];exact⟨rfl,_,rfl⟩
   have c1:((ng:Int)==1)=false:=by simp;omega
   have E1:Hid (v=false):=by show _=_;rw [HV3.out];simp [n1]
   clear n1
   go_enter Tryz.func86,Tryz.ntmps86
   go_wp2_with fail
   go_quiet ((go_at_call 107;exact Calls.quiet_of_same (isRest_any _ _)))
   go_wp2_with fail
   go_ret
   rw [E1.out];exact⟨rfl,_,rfl⟩
  have b7:(k != 7)=true:=by simp [h7]
  have HV3:Hid (v=(na==0&&decide (ng≤16))):=by show _=_;rw [HV2.out,if_neg h7]
  clear h7
  by_cases n0:na=0
  ·by_cases n1:ng≤16
   ·have c1:((na:Int)==0)=true:=by simp [n0]
    have c2:decide ((ng:Int)≤16)=true:=by simp;omega
    have E1:Hid (v=true):=by show _=_;rw [HV3.out];simp [n0,n1]
    clear n0 n1
    go_enter Tryz.func86,Tryz.ntmps86
    go_wp2_with fail
    go_quiet ((go_at_call 107;exact Calls.quiet_of_same (isRest_any _ _)))
    go_wp2_with fail
    go_ret
    rw [E1.out];exact⟨rfl,_,rfl⟩
   have c1:((na:Int)==0)=true:=by simp [n0]
   have c2:decide ((ng:Int)≤16)=false:=by simp;omega
   have E1:Hid (v=false):=by show _=_;rw [HV3.out];simp [n0,n1]
   clear n0 n1
   go_enter Tryz.func86,Tryz.ntmps86
   go_wp2_with fail
   go_quiet ((go_at_call 107;exact Calls.quiet_of_same (isRest_any _ _)))
   go_wp2_with fail
   go_ret
   rw [E1.out];exact⟨rfl,_,rfl⟩
  have c1:((na:Int)==0)=false:=by simp;omega
  have E1:Hid (v=false):=by show _=_;rw [HV3.out];simp [n0]
  clear n0
  go_enter Tryz.func86,Tryz.ntmps86
  go_wp2_with fail
  go_quiet ((go_at_call 107;exact Calls.quiet_of_same (isRest_any _ _)))
  go_wp2_with fail
  go_ret
  rw [E1.out];exact⟨rfl,_,rfl⟩
 have b2:(r==((nb:Int)==1))=false:=by rw [hnb1];revert hq;cases r<;>cases (nb==1)<;>simp
 have E1:Hid (v=false):=by show _=_;rw [HV.out,← hr,show (r==(nb==1))=false by simpa using hq];simp
 rw [hr] at b2;clear hq hr hnb1
 go_enter Tryz.func86,Tryz.ntmps86
 go_wp2_with fail
 go_quiet ((go_at_call 107;exact Calls.quiet_of_same (isRest_any _ _)))
 go_wp2_with fail
 go_ret
 rw [E1.out];exact⟨rfl,_,rfl⟩
end
section
open Go.RowKit RG
def BkRd (ib:Nat) (ad:Option Addr) (c g o m:Nat) (lb:Nat→Nat) (W:World):Prop:=W.cell? ⟨ib,0,none⟩=some (.slice ad m c)∧∀ k,k<m→W.cell? ⟨g,o+k,none⟩=some (.pointer (some ⟨lb k,0,none⟩))
def bkEnc (m:Nat) (lb:Nat→Nat) (j:Nat):Array Value := #[.int .i64 ((m - 1 - j:Nat):Int),.pointer (some ⟨lb (m - 1 - j),0,none⟩)]
theorem backward_any (v:Value) (h1:v.oneCell'=true) (w:World) (a:Option Addr) (n c:Nat) (hv:v = .slice a n c):Calls Tryz.prog 89 #[v] w fun e w'=>e = .returned (.func (.func 112) #[] #[.pointer (some ⟨w.heap.size,0,none⟩)])∧w'=w.alloc (.cells #[v] 106):=by
 subst hv
 go_enter Tryz.func89,Tryz.ntmps89
 go_wp2_with fail
 go_ret
 exact⟨rfl,rfl⟩
theorem backwardN_any (w:World) (a:Option Addr) (n c:Nat):Calls Tryz.prog 113 #[.slice a n c] w fun e w'=>e = .returned (.func (.func 118) #[] #[.pointer (some ⟨w.heap.size,0,none⟩)])∧w'=w.alloc (.cells #[.slice a n c] 115):=by
 go_enter Tryz.func113,Tryz.ntmps113
 go_wp2_with fail
 go_ret
 exact⟨rfl,rfl⟩
theorem back_iter (ib:Nat) (ad:Option Addr) (c g o m:Nat) (lb:Nat→Nat) (had:0<m→ad=some ⟨g,o,none⟩) (hm:m≤1000000):IterLaw Tryz.prog 112 #[.pointer (some ⟨ib,0,none⟩)] m (bkEnc m lb) (BkRd ib ad c g o m lb):=by
 intro n l J Jx W hJb hRd hY h0;have HJB:=zh hJb;have HRD:=zh hRd
 have HY:=zh hY;have H0:=zh h0
 have HAD:=zh had;have c0:=(hRd _ _ h0).1
 have hmz:(m:Int)≤1000000:=by omega
 have HM:=zh hm;clear hJb hRd hY h0 had hm
 go_enter Tryz.func112,Tryz.ntmps112
 go_wp2_with fail
 go_loopg [3] m (fun gk v wr=>∃ j:Nat,j≤m∧gk=m - j∧v = .int .i64 ((m:Int) - j - 1)∧J j wr)
 case atStart=>exact⟨0,zv3 _,rfl,by simp,H0.out⟩
 obtain⟨j,hj,hgk,rfl,hJ⟩:=hrel;have HJ:=zh hJ;have HGK:=zh hgk
 have HJL:=zh hj;have e0:=(HRD.out _ _ hJ).1
 clear hJ hgk c0
 by_cases hlt:j<m
 ·obtain⟨k,hk⟩:∃ k:Nat,k=m - 1 - j:=⟨_,rfl⟩
  have ek:((m:Int) - j - 1)=(k:Int):=by omega
  obtain rfl:=HAD.out (by omega)
  have e1:=(HRD.out _ _ HJ.out).2 k (by omega)
  obtain⟨fn,tmps,assign,body,hy,hR⟩:=HY.out j wr HJ.out hlt;unfold bkEnc at hy;rw [← hk] at hy;rw [ek];have HR:=zh hR;have HLT:=zh hlt
  have HK:=zh hk;have hkz:(k:Int)<m:=by omega
  clear hR hlt hk ek hj
  go_upto_region 3 with (fail)
  refine(wpIn_wide (n:=n+1)).1 ?_
  gi_wp2
  refine HR.out.mono ?_;clear hy e0 e1;rintro e W' (⟨rfl,hJ'⟩|⟨rfl,hX'⟩)
  ·have HJ':=zh hJ'
   clear hJ'
   gi_wp2
   go_wp2_with fail
   go_roundg (m - (j+1))
   case measure=>have:=HGK.out;have:=HLT.out;omega
   case rel=>exact⟨j+1,HLT.out,rfl,by have:=HK.out;have:=HLT.out;congr 1;omega,HJ'.out⟩
  have HX':=zh hX';clear hX'
  gi_wp2
  go_wp2_with fail
  (try simp only [Exit.inBlock,Exit.then])
  refine bodyPost_ret (results_none rfl _ _ _) rfl ?_;exact⟨⟨_,rfl⟩,.inr HX'.out⟩
 have e:((m:Int) - j - 1) = -1:=by omega
 rw [e];have HE:Hid (j=m):=by have:=HJL.out;show _=_;omega
 clear hlt hj e
 go_wp2_with fail
 refine bodyPost_end (results_none rfl _ _ _) rfl ?_;exact⟨⟨_,rfl⟩,.inl (by rw [← HE.out];exact HJ.out)⟩
theorem backN_iter (ib:Nat) (ad:Option Addr) (c g o m:Nat) (lb:Nat→Nat) (had:0<m→ad=some ⟨g,o,none⟩) (hm:m≤1000000):IterLaw Tryz.prog 118 #[.pointer (some ⟨ib,0,none⟩)] m (bkEnc m lb) (BkRd ib ad c g o m lb):=by
 intro n l J Jx W hJb hRd hY h0;have HJB:=zh hJb;have HRD:=zh hRd
 have HY:=zh hY;have H0:=zh h0
 have HAD:=zh had;have c0:=(hRd _ _ h0).1
 have hmz:(m:Int)≤1000000:=by omega
 have HM:=zh hm;clear hJb hRd hY h0 had hm
 go_enter Tryz.func118,Tryz.ntmps118
 go_wp2_with fail
 go_loopg [3] m (fun gk v wr=>∃ j:Nat,j≤m∧gk=m - j∧v = .int .i64 ((m:Int) - j - 1)∧J j wr)
 case atStart=>exact⟨0,zv3 _,rfl,by simp,H0.out⟩
 obtain⟨j,hj,hgk,rfl,hJ⟩:=hrel;have HJ:=zh hJ;have HGK:=zh hgk
 have HJL:=zh hj;have e0:=(HRD.out _ _ hJ).1
 clear hJ hgk c0
 by_cases hlt:j<m
 ·obtain⟨k,hk⟩:∃ k:Nat,k=m - 1 - j:=⟨_,rfl⟩
  have ek:((m:Int) - j - 1)=(k:Int):=by omega
  obtain rfl:=HAD.out (by omega)
  have e1:=(HRD.out _ _ HJ.out).2 k (by omega)
  obtain⟨fn,tmps,assign,body,hy,hR⟩:=HY.out j wr HJ.out hlt;unfold bkEnc at hy;rw [← hk] at hy;rw [ek];have HR:=zh hR;have HLT:=zh hlt
  have HK:=zh hk;have hkz:(k:Int)<m:=by omega
  clear hR hlt hk ek hj
  go_upto_region 3 with (fail)
  refine(wpIn_wide (n:=n+1)).1 ?_
  gi_wp2
  refine HR.out.mono ?_;clear hy e0 e1;rintro e W' (⟨rfl,hJ'⟩|⟨rfl,hX'⟩)
  ·have HJ':=zh hJ'
   clear hJ'
   gi_wp2
   go_wp2_with fail
   go_roundg (m - (j+1))
   case measure=>have:=HGK.out;have:=HLT.out;omega
   case rel=>exact⟨j+1,HLT.out,rfl,by have:=HK.out;have:=HLT.out;congr 1;omega,HJ'.out⟩
  have HX':=zh hX';clear hX'
  gi_wp2
  go_wp2_with fail
  (try simp only [Exit.inBlock,Exit.then])
  refine bodyPost_ret (results_none rfl _ _ _) rfl ?_;exact⟨⟨_,rfl⟩,.inr HX'.out⟩
 have e:((m:Int) - j - 1) = -1:=by omega
 rw [e];have HE:Hid (j=m):=by have:=HJL.out;show _=_;omega
 clear hlt hj e
 go_wp2_with fail
 refine bodyPost_end (results_none rfl _ _ _) rfl ?_;exact⟨⟨_,rfl⟩,.inl (by rw [← HE.out];exact HJ.out)⟩
def usesL (ns:List Nm):List Nm:=ns.filter fun n=>n.size != 0
theorem usesL_snoc {ns:List Nm}{i:Nat}{x:Nm}(h:ns[i]?=some x):usesL (ns.take (i+1))=if x.size=0 then usesL (ns.take i) else usesL (ns.take i)++[x]:=by
 unfold usesL;rw [List.take_add_one,h,List.filter_append]
 by_cases e:x.size=0<;>simp [e]
theorem usesL_at {ns:List Nm}{i:Nat}{x:Nm}(h:ns[i]?=some x) (hx:x.size≠0):(usesL ns)[(usesL (ns.take i)).length]?=some x:=by
 have hs:ns=ns.take (i+1)++ns.drop (i+1):=(List.take_append_drop _ _).symm;have e:usesL ns=usesL (ns.take i)++[x]++usesL (ns.drop (i+1)):=by
  conv=>lhs;rw [hs]
  have:=usesL_snoc h;rw [if_neg hx] at this;rw [← this];unfold usesL;rw [List.filter_append]
 rw [e,List.append_assoc,List.getElem?_append_right (zr4 _)];simp
structure UsRd (ib nb b o:Nat) (ad:Option Addr) (c g q:Nat) (ns:List Nm) (W:World):Prop where
 c0:W.cell? ⟨ib,0,none⟩=some (.pointer (some ⟨nb,0,none⟩))
 c1:W.cell? ⟨nb,0,none⟩=some (.pointer (some ⟨b,o,none⟩))
 c2:W.cell? ⟨b,o+5,none⟩=some (.slice ad ns.length c)
 c3:∀ i n,ns[i]?=some n→∃ m:Int,W.cell? ⟨g,q+i*2,none⟩=some (.string n)∧W.cell? ⟨g,q+i*2+1,none⟩=some (.int .i64 m)
def usEnc (ns:List Nm) (j:Nat):Array Value := #[.string ((usesL ns).getD j ⟨#[]⟩)]
theorem uses_any (nb:Nat) (w:World):Calls Tryz.prog 67 #[.pointer (some ⟨nb,0,none⟩)] w fun e w'=>e = .returned (.func (.func 95) #[] #[.pointer (some ⟨w.heap.size,0,none⟩)])∧w'=w.alloc (.cells #[.pointer (some ⟨nb,0,none⟩)] 100):=by
 go_enter Tryz.func67,Tryz.ntmps67
 go_wp2_with fail
 go_ret
 exact⟨rfl,rfl⟩
theorem uses_iter (ib nb b o:Nat) (ad:Option Addr) (c g q:Nat) (ns:List Nm) (had:0<ns.length→ad=some ⟨g,q,none⟩) (hm:ns.length≤1000000):IterLaw Tryz.prog 95 #[.pointer (some ⟨ib,0,none⟩)] (usesL ns).length (usEnc ns) (UsRd ib nb b o ad c g q ns):=by
 intro n l J Jx W hJb hRd hY h0;have HJB:=zh hJb;have HRD:=zh hRd
 have HY:=zh hY;have H0:=zh h0
 have HAD:=zh had;have c0:=(hRd _ _ h0).c0
 have c1:=(hRd _ _ h0).c1;have c2:=(hRd _ _ h0).c2
 obtain⟨m,hmm⟩:∃ m,m=ns.length:=⟨_,rfl⟩;rw [← hmm] at c2;have HM:=zh hmm;have hmz:(m:Int)≤1000000:=by omega
 clear hJb hRd hY h0 had hm hmm
 go_enter Tryz.func95,Tryz.ntmps95
 go_wp2_with fail
 go_loopg [13] m (fun gk v wr=>∃ i:Nat,i≤m∧gk=m - i∧v = .int .i64 i∧J (usesL (ns.take i)).length wr)
 case atStart=>exact⟨0,zv3 _,rfl,rfl,H0.out⟩
 obtain⟨i,hi,hgk,rfl,hJ⟩:=hrel;have HJ:=zh hJ;have HGK:=zh hgk
 have HIL:=zh hi;have RD:=zh (HRD.out _ _ hJ)
 clear hJ hgk c0 c1 c2
 by_cases hlt:i<m
 ·obtain⟨x,hx⟩:∃ x,ns[i]?=some x:=⟨_,zq9 (by rw [← HM.out];exact hlt)⟩
  obtain⟨num,e1,e2⟩:=RD.out.c3 i x hx;obtain rfl:=HAD.out (by rw [← HM.out];omega)
  have HX:=zh hx;have HLT:=zh hlt
  have hiz:(i:Int)<m:=by omega
  clear hlt hx hi
  go_upto_region 3 with (fail)
  clear e1 e2;obtain⟨z,hz⟩:∃ z,z=wr.heap.size:=⟨_,rfl⟩;obtain⟨V,hV⟩:∃ V,V=wr.alloc (.cells #[.string x,.int .i64 num] 146):=⟨_,rfl⟩;rw [← hV,← hz];have HJV:Hid (J (usesL (ns.take i)).length V):=HJB.out _ _ _ HJ.out (by rw [hV];exact(zs9 _ _).alloc (zr4 _) _)
  have z0:V.cell? ⟨z,0,none⟩=some (.string x):=by rw [hV,hz,zb _ _ 0 _ _ _ (zs2 wr _)];rfl
  clear hV hz
  by_cases s0:x.size=0
  ·have c2:x.toList.isEmpty=true:=toList_empty s0
   have NX:Hid (usesL (ns.take (i+1))=usesL (ns.take i)):=by show _=_;rw [usesL_snoc HX.out,if_pos s0]
   clear s0
   go_wp2_with fail
   go_roundg (m - (i+1))
   case measure=>have:=HGK.out;have:=HLT.out;omega
   case rel=>exact⟨i+1,HLT.out,rfl,by go_num,by rw [NX.out];exact HJV.out⟩
  have c2:x.toList.isEmpty=false:=toList_full s0;have NX:Hid (usesL (ns.take (i+1))=usesL (ns.take i)++[x]):=by show _=_;rw [usesL_snoc HX.out,if_neg s0]
  have AT:=usesL_at HX.out s0;obtain⟨fn,tmps,assign,body,hy,hR⟩:=HY.out _ V HJV.out (zq8.1 AT).1;unfold usEnc at hy;rw [zt4,AT,Option.getD_some] at hy;have HR:=zh hR
  clear hR AT s0;refine(wpIn_wide (n:=n+1)).1 ?_
  gi_wp2
  refine HR.out.mono ?_;clear hy z0;rintro e W' (⟨rfl,hJ'⟩|⟨rfl,hX'⟩)
  ·have HJ':=zh hJ'
   clear hJ'
   gi_wp2
   go_wp2_with fail
   go_roundg (m - (i+1))
   case measure=>have:=HGK.out;have:=HLT.out;omega
   case rel=>exact⟨i+1,HLT.out,rfl,by go_num,by rw [NX.out,zr2];exact HJ'.out⟩
  have HX':=zh hX';clear hX'
  gi_wp2
  go_wp2_with fail
  (try simp only [Exit.inBlock,Exit.then])
  refine bodyPost_ret (results_none rfl _ _ _) rfl ?_;exact⟨⟨_,rfl⟩,.inr HX'.out⟩
 have hlz:(m:Int)≤i:=by omega
 have HE:Hid (i=m):=by have:=HIL.out;show _=_;omega
 clear hlt hi
 go_wp2_with fail
 refine bodyPost_end (results_none rfl _ _ _) rfl ?_;have:=HJ.out;rw [HE.out,HM.out,List.take_length] at this;exact⟨⟨_,rfl⟩,.inl this⟩
end
section
open Go.RowKit RG Go.Maps
open Go.WideMaps (keyOf_string_mk)
structure FlatC (w:World) (A:Ad) (f:Nat) (F:List Nd):Prop where
 flat:∃ sl sn sv,w.heap[f]?=some (.cells #[.pointer (some ⟨A.lb 0,0,none⟩),sl,sn,sv,.map (some A.pl)] 118 (0,0)) ∧
  SlAt w sl F.length (ptrs ((List.range F.length).map A.lb))∧SlAt w sn F.length (ptrs ((List.range F.length).map A.nb))∧StrsAt w sv (vars F)
 link:∀ i,i<F.length→∃ sv xv,w.heap[A.lb i]?=some (.cells #[sv,xv,.pointer (some ⟨A.nb i,0,none⟩)] 120 (0,0))∧StrsAt w sv (nd F i).binds
 node:∀ i,i<F.length→∃ sx,w.heap[A.nb i]?=some (.cells #[.pointer (some ⟨A.xb i,A.xo i,none⟩),sx,.map (some (A.mb i))] 110 (0,0))∧SlAt w sx (nd F i).next.length (ptrs ((nd F i).next.map A.lb))
 exp:∀ i,i<F.length→TEAt w (nd F i).e (A.xb i) (A.xo i)
 pmap:PMap w A.pl (vars F)
theorem FlatC.full {w:World}{A:Ad}{f:Nat}{F:List Nd}(h:FlatC w A f F) (hl:∀ i,i<F.length→SetAt w (A.mb i) F (lv F i)):FlatAt w A f F:=⟨h.flat,h.link,h.node,hl,h.exp,h.pmap⟩
structure Fq (S:Nat→Prop) (w W:World):Prop where
 os:W.os=w.os
 tape:W.tape=w.tape
 output:W.output=w.output
 size:w.heap.size≤W.heap.size
 block:∀ q,q<w.heap.size→¬ S q→W.heap[q]?=w.heap[q]?
theorem Fq.refl (S:Nat→Prop) (w:World):Fq S w w:=⟨rfl,rfl,rfl,zr4 _,fun _ _ _=>rfl⟩
theorem Fq.trans {S:Nat→Prop}{w w1 w2:World}(h:Fq S w w1) (k:Fq S w1 w2):Fq S w w2 :=
 ⟨k.os.trans h.os,k.tape.trans h.tape,k.output.trans h.output,zr5 h.size k.size,fun q hq hs=>(k.block q (zt5 hq h.size) hs).trans (h.block q hq hs)⟩
theorem Fq.of_below {S:Nat→Prop}{w W:World}{B:Nat}(h:Below B w W) (hB:w.heap.size≤B):Fq S w W:=⟨h.os,h.tape,h.output,h.size,fun q hq _=>h.block q (by omega)⟩
theorem Fq.grown {S:Nat→Prop}{w w1 w2:World}{row:Option Nat}(h:Fq S w w1) (g:w1.grownBy w2 row) (hr:∀ q,row=some q→q<w.heap.size→S q):Fq S w w2 :=
 ⟨g.os.trans h.os,g.tape.trans h.tape,g.output.trans h.output,zr5 h.size g.size,fun q hq hs=>(g.block q (zt5 hq h.size) (fun e=>hs (hr q e.symm hq))).trans (h.block q hq hs)⟩
theorem Fq.below {S:Nat→Prop}{w W:World}{B:Nat}(h:Fq S w W) (hB:B≤w.heap.size) (hS:∀ q,S q→B≤q):Below B w W :=
 ⟨h.os,h.tape,h.output,h.size,fun q hq=>h.block q (by omega) (fun hs=>by have:=hS q hs;omega)⟩
theorem Fq.kept {S:Nat→Prop}{w W:World}(h:Fq S w W) (hS:∀ q,S q→∃ es c,w.heap[q]?=some (.map es c)):Kept w W:=fun a x hx=>by
 have hb:=zs3 w _ hx;rw [World.cell?_of_block (h.block a.block hb (fun hs=>by
  obtain⟨es,c,hm⟩:=hS _ hs;unfold World.cell? at hx;rw [hm] at hx;cases hx))]
 exact hx
theorem Fq.obj {S:Nat→Prop}{w W:World}(h:Fq S w W) (hS:∀ q,S q→∃ es c,w.heap[q]?=some (.map es c)) {q:Nat}{cs:Array Value}{T:TypeId}{r:Nat×Nat}(hq:w.heap[q]?=some (.cells cs T r)):W.heap[q]?=some (.cells cs T r):=by
 rw [h.block q (zq7.1 hq).1 (fun hs=>by obtain⟨es,c,hm⟩:=hS _ hs;rw [hm] at hq;cases hq)]
 exact hq
theorem FlatC.fq {S:Nat→Prop}{w W:World}{A:Ad}{f:Nat}{F:List Nd}(h:FlatC w A f F) (q:Fq S w W) (hS:∀ q,S q→∃ es c,w.heap[q]?=some (.map es c)) (hp:¬ S A.pl):FlatC W A f F:=by
 have hk:=q.kept hS;obtain⟨⟨sl,sn,sv,f0,f1,f2,f3⟩,h2,h3,h5,h6⟩:=h;refine⟨⟨sl,sn,sv,q.obj hS f0,f1.kept hk,f2.kept hk,f3.kept hk⟩,fun i hi=>?_,fun i hi=>?_,fun i hi=>TEAt.kept hk _ _ _ (h5 i hi),h6.keep (q.block _ h6.lt hp)⟩
 ·obtain⟨sv,xv,a,b⟩:=h2 i hi;exact⟨sv,xv,q.obj hS a,b.kept hk⟩
 obtain⟨sx,a,b⟩:=h3 i hi;exact⟨sx,q.obj hS a,b.kept hk⟩
theorem FlatC.below {w W:World}{A:Ad}{f:Nat}{F:List Nd}(h:FlatC w A f F) (hb:Below w.heap.size w W):FlatC W A f F :=
 h.fq (S:=fun _=>False) (Fq.of_below hb (zr4 _)) (fun _ h=>h.elim) (fun h=>h)
section
variable {F:Fence} {n:Nat} {w:World} {ops:Array Oper} {rest:List Oper} {o:Oper} {a:Act} {Q:Exit→Act→World→Prop}
theorem wpListIn_pis (hg:o.guard=none) (m x:Operand) (hop:o.op=Op.lookup 116 m x true) (b:Nat) (ns:List Nm)
  (hm:a.eval m = .map (some b)) (h:PMap w b ns) (s:Nm) (hs:s.size≤maxLen) (hx:a.eval x = .string s)
  (hK:∀ c:Int,(∀ i:Nat,ns[i]?=some s→c=i)→wpListIn F n Tryz.prog ops Q rest (a.put o.dst (.tuple #[.int .i64 c,.bool (RG.has ns s)])) w):wpListIn F n Tryz.prog ops Q (o :: rest) a w:=by
 obtain⟨D,h1,h2,h3,h4⟩:=h;refine wpListIn_lookup_own_ok_int w hg m x 116 hop 9 3 .i64 keyed9 Tryz.underlying116 Tryz.underlying3 (zero3 w) b (Maps.size D) D hm h1 _ _ hx (keyOf_string_mk Tryz.underlying9 hs) fun c hat _=>?_
 have e:Maps.has D (.string s.data.toList)=RG.has ns s:=by
  rw [Bool.eq_iff_iff,zx];constructor
  ·exact h4 s
  intro hm;obtain⟨i,hi⟩:=List.getElem?_of_mem hm;exact(h3 i s hi).2.1
 rw [e];refine hK c fun i hi=>?_
 rw [(h3 i s hi).2.2] at hat;simp at hat;exact hat.symm
theorem wpListIn_iput (hg:o.guard=none) (m x v:Operand) (t:TypeId) (hop:o.op=Op.mapUpdate t m x v) (ht:Tryz.prog.underlying t=some (.map 3 3)) (b:Nat) (l:List (Int×Int))
  (hm:a.eval m = .map (some b)) (h:IMap Tryz.prog w b l) (hl:l.length<4000000000) (k c:Int) (hx:a.eval x = .int .i64 k) (hv:a.eval v = .int .i64 c) (hk:(Lit.int .i64 k).wf=true) (hc:(Lit.int .i64 c).wf=true)
  (hK:∀ w',IMap Tryz.prog w' b (iput l k c)→w.grownBy w' (some b)→wpListIn F n Tryz.prog ops Q rest (a.put o.dst undef) w'):wpListIn F n Tryz.prog ops Q (o :: rest) a w:=by
 obtain⟨D,h1,h2,h3,h4,h5⟩:=h;refine wpListIn_mapUpdate_own w hg m x v t hop 3 3 keyed3 ht (plainElem Tryz.prog 3) b (Maps.size D) D hm h1 (by rw [h2];unfold maxLen;omega) _ _ (.int .i64 k) hx hv (key_wf Tryz.underlying3 hk) _ [] (plainElem_int Tryz.underlying3 hc) fun w' ho hgr=>?_
 exact hK w' (IMap.put keyed3 hk h1 h2 h3 h4 h5 ho) hgr
end
end
section
open Go.RowKit RG
theorem cka {w:World}{a:Addr}{x:Value}(o:Obj) (h:w.cell? a=some x):(w.alloc o).cell? a=some x:=zd ((zs9 _ w).alloc (zr4 _) o) a x h
theorem ckd {w:World}{a:Addr}{x:Value}(h:w.cell? a=some x):w.drew.cell? a=some x:=h
theorem new3 (w:World) (o1 o2 o3:Obj):(((w.alloc o1).alloc o2).alloc o3).heap[w.heap.size]?=some o1∧(((w.alloc o1).alloc o2).alloc o3).heap[w.heap.size+1]?=some o2∧(((w.alloc o1).alloc o2).alloc o3).heap[w.heap.size+2]?=some o3∧Below w.heap.size w (((w.alloc o1).alloc o2).alloc o3):=by
 refine⟨?_,?_,?_,(((zs9 _ _).alloc (zr4 _) _).alloc (by simp) _).alloc (by simp;omega) _⟩
 ·rw [zt2 _ _ _ (by simp;omega),zt2 _ _ _ (by simp)];exact zs2 w _
 ·rw [zt2 _ _ _ (by simp)]
  have:=zs2 (w.alloc o1) o2
  rwa [World.size_alloc] at this
 have:=zs2 ((w.alloc o1).alloc o2) o3
 rwa [World.size_alloc,World.size_alloc] at this
def NamesAt (w0 w:World) (B:Nat) (sv:Value) (bs:List Nm):Prop :=
 StrsAt w0 sv bs∨∃ g,sv = .slice (some ⟨g,0,none⟩) bs.length bs.length∧B≤g∧∀ (i:Nat) x,bs[i]?=some x→w.cell? ⟨g,i,none⟩=some (.string x)
structure KidAt (w0 w:World) (B lb xb xo:Nat) (p:List Nm×TE):Prop where
 blk:∃ sv,w.heap[lb]?=some (.cells #[sv,.pointer (some ⟨xb,xo,none⟩),.pointer none] 120 (0,0))∧NamesAt w0 w B sv p.1
 exp:TEAt w0 p.2 xb xo
 new:B≤lb
theorem NamesAt.keep {w0 w w':World}{B:Nat}{sv:Value}{bs:List Nm}(h:NamesAt w0 w B sv bs) (hk:Kept w w'):NamesAt w0 w' B sv bs:=by
 rcases h with h | ⟨g,h1,h2,h3⟩
 ·exact .inl h
 exact .inr ⟨g,h1,h2,fun i x hx=>hk _ _ (h3 i x hx)⟩
theorem KidAt.keep {w0 w w':World}{B lb xb xo:Nat}{p:List Nm×TE}(h:KidAt w0 w B lb xb xo p) (hb:Below w.heap.size w w'):KidAt w0 w' B lb xb xo p:=by
 obtain⟨⟨sv,a,b⟩,c,d⟩:=h;exact⟨⟨sv,zm hb a,b.keep (zd hb)⟩,c,d⟩
structure KsAt (w0 w w':World) (ks:List (List Nm×TE)) (a:Option Addr) (L:List (Nat×Nat×Nat)):Prop where
 len:L.length=ks.length
 row:0<ks.length→∃ g,a=some ⟨g,0,none⟩∧w.heap.size≤g∧∀ (j:Nat) t,L[j]?=some t→w'.cell? ⟨g,j,none⟩=some (.pointer (some ⟨t.1,0,none⟩))
 kid:∀ (j:Nat) p t,ks[j]?=some p→L[j]?=some t→KidAt w0 w' w.heap.size t.1 t.2.1 t.2.2 p
 nodup:(L.map (·.1)).Nodup
def LkP (w0 w:World) (ks:List (List Nm×TE)) (e:Ending) (w':World):Prop:=∃ a c L,e = .returned (.slice a ks.length c)∧KsAt w0 w w' ks a L∧Below w.heap.size w w'
theorem rest_any {w0 w:World}{e:TE}{nb b o:Nat}{p:List Nm×TE}(hx:TEAt w0 e b o) (hk:Kept w0 w) (hn:w.cell? ⟨nb,0,none⟩=some (.pointer (some ⟨b,o,none⟩))) (he:e.kids=[p]) (hb1:e.body.length=1) (hp:p.1=[e.name]) :
  Calls Tryz.prog 109 #[.pointer (some ⟨nb,0,none⟩)] w (LkP w0 w [p]):=by
 obtain⟨va,aa,ab,ca,cb,hc⟩:=hx.open;obtain⟨gb,ob,rfl,hbody⟩:=hc.body (by omega)
 have c1:=hk _ _ hc.c1;have c7:=hk _ _ hc.c7
 rw [hb1] at c7;obtain⟨nm,hnm⟩:∃ nm,nm=e.name:=⟨_,rfl⟩;rw [← hnm] at c1;have HN:=zh hnm;have HB:=zh hbody
 have HP:=zh hp;have HK:Hid (TEAt w0 p.2 gb ob):=by
  obtain⟨k,n,xs,arms,body⟩:=e;simp only [TE.body] at hbody hb1;cases body with
  | nil=>simp [TB.length] at hb1
  | cons e2 r =>
   rw [TBAt] at hbody;unfold TE.kids at he;simp only [TE.body,TE.name,TE.arms,TB.kids] at he;rw [List.cons_append] at he;simp only [List.cons.injEq] at he;rw [← he.1];exact hbody.1
 have b1:nb<w.heap.size:=zs3 w _ hn;have b2:b<w.heap.size:=zs3 w _ c1
 clear hx hk hc hbody hb1 hnm hp he HB
 go_enter Tryz.func109,Tryz.ntmps109
 go_wp2_with fail
 go_region_held3 (fun w'=>w'.cell? ⟨nb,0,none⟩=some (.pointer (some ⟨b,o,none⟩))∧w'.cell? ⟨b,o+1,none⟩=some (.string nm)∧w'.cell? ⟨b,o+7,none⟩=some (.slice (some ⟨gb,ob,none⟩) 1 cb)) ((go_split_ands;(refine⟨?_,?_,?_⟩<;>(repeat (first | assumption | with_reducible apply ckd | with_reducible apply cka))))) (fail)
 go_wp2_with fail
 go_ret
 obtain⟨W,hW⟩:∃ W,W=(((w.alloc (.cells #[.string nm] 9)).alloc (.cells #[.slice (some ⟨w.heap.size,0,none⟩) 1 1,.pointer (some ⟨gb,ob,none⟩),.pointer none] 120)).alloc (.cells #[.pointer (some ⟨w.heap.size+1,0,none⟩)] 114)).drew:=⟨_,rfl⟩;rw [← hW];obtain⟨h0,h1,h2,hb⟩:=new3 w (.cells #[.string nm] 9) (.cells #[.slice (some ⟨w.heap.size,0,none⟩) 1 1,.pointer (some ⟨gb,ob,none⟩),.pointer none] 120) (.cells #[.pointer (some ⟨w.heap.size+1,0,none⟩)] 114);have hWW:W=((((w.alloc (.cells #[.string nm] 9)).alloc (.cells #[.slice (some ⟨w.heap.size,0,none⟩) 1 1,.pointer (some ⟨gb,ob,none⟩),.pointer none] 120)).alloc (.cells #[.pointer (some ⟨w.heap.size+1,0,none⟩)] 114))).drew:=hW;have g0:W.heap[w.heap.size]?=some (.cells #[.string nm] 9 (0,0)):=by rw [hWW];exact h0
 have g1:W.heap[w.heap.size+1]?=some (.cells #[.slice (some ⟨w.heap.size,0,none⟩) 1 1,.pointer (some ⟨gb,ob,none⟩),.pointer none] 120 (0,0)):=by rw [hWW];exact h1
 have g2:W.heap[w.heap.size+2]?=some (.cells #[.pointer (some ⟨w.heap.size+1,0,none⟩)] 114 (0,0)):=by rw [hWW];exact h2
 have hB:Below w.heap.size w W:=by rw [hWW];exact hb.drew
 refine⟨some ⟨w.heap.size+2,0,none⟩,1,[(w.heap.size+1,gb,ob)],rfl,⟨rfl,fun _=>⟨_,rfl,by omega,fun j t ht=>?_⟩,fun j q t hq ht=>?_,by simp⟩,hB⟩
 ·match j,ht with
  | 0,ht=>simp at ht;subst ht;rw [zb _ _ _ _ _ _ g2];rfl
  | j+1,ht=>simp at ht
 match j,hq,ht with
 | 0,hq,ht =>
  simp at hq ht;subst hq ht;refine⟨⟨_,g1,?_⟩,?_,by simp⟩
  ·rw [HP.out]
   refine .inr ⟨w.heap.size,rfl,zr4 _,fun i x hx=>?_⟩
   match i,hx with
   | 0,hx=>simp at hx;subst hx;rw [zb _ _ _ _ _ _ g0,← HN.out];rfl
   | i+1,hx=>simp at hx
  exact HK.out
 | j+1,hq,ht=>simp at hq
theorem grown_far {w w1:World}{v:Value}(hg:w.grownBy w1 v.ownBlock) {B:Nat}(hb:∀ q,v.ownBlock=some q→B≤q) {a:Addr}{x:Value}(ha:a.block<B) (h:w.cell? a=some x):w1.cell? a=some x:=by
 rw [World.cell?_of_block (hg.block a.block (zs3 w _ h) (fun e=>by have:=hb _ e.symm;omega))]
 exact h
theorem Tryz.info114:(Tryz.prog.info? 114).map (fun i=>(i.zero,i.size,i.bytes))=some (some (.pointer none),1,8):=by kernel_rfl
theorem ptrs_append (a b:List Nat):ptrs (a++b)=ptrs a++ptrs b:=List.map_append
structure ArAt (w0 w wr:World) (arms:TA) (k:Nat) (v:Value) (L:List (Nat×Nat×Nat)):Prop where
 len:L.length=k
 row:wr.ownsRow w.heap.size 114 1 v k (ptrs (L.map (·.1)))
 kid:∀ (j:Nat) p t,arms.kids[j]?=some p→L[j]?=some t→(∃ sv,wr.heap[t.1]?=some (.cells #[sv,.pointer (some ⟨t.2.1,t.2.2,none⟩),.pointer none] 120 (0,0))∧StrsAt w0 sv p.1)∧TEAt w0 p.2 t.2.1 t.2.2∧w.heap.size≤t.1
 lt:∀ t∈L,t.1<wr.heap.size
 nodup:(L.map (·.1)).Nodup
 below:Below w.heap.size w wr
theorem ArAt.step {w0 w wr w1:World}{arms:TA}{k:Nat}{v v':Value}{L:List (Nat×Nat×Nat)}(h:ArAt w0 w wr arms k v L) {vs:List Nm}{e2:TE}{sv:Value}{xb xo:Nat}{o2:Obj}(hp:arms.kids[k]?=some (vs,e2)) (hvs:StrsAt w0 sv vs)
  (he:TEAt w0 e2 xb xo) (hg:((((wr.alloc (.cells #[sv,.pointer (some ⟨xb,xo,none⟩),.pointer none] 120)).alloc o2)).drew).grownBy w1 v.ownBlock)
  (hown:w1.ownsRow w.heap.size 114 1 v' (k+1) (ptrs (L.map (·.1))++[.pointer (some ⟨wr.heap.size,0,none⟩)])):ArAt w0 w w1 arms (k+1) v' (L++[(wr.heap.size,xb,xo)]):=by
 have hB:w.heap.size≤wr.heap.size:=h.below.size;have hsz:wr.heap.size+2≤w1.heap.size:=by have:=hg.size;simpa using this
 -- blocks of another kind than the row's stay
 have keep:∀ (q:Nat) (cs:Array Value),q<wr.heap.size→wr.heap[q]?=some (.cells cs 120 (0,0))→w1.heap[q]?=some (.cells cs 120 (0,0)):=fun q cs hq hc=>by
  refine(hg.block q (by simp;omega) (fun e=>?_)).trans ?_
  ·rcases h.row.2 with ⟨rfl,_⟩|⟨g,cap,cur,rfl,_,hg2,_⟩
   ·simp [Value.ownBlock] at e
   simp [Value.ownBlock] at e;subst e;rw [hc] at hg2;simp at hg2
  show ((wr.alloc _).alloc _).heap[q]?=_;rw [zt2 _ _ _ (by simp;omega),zt2 _ _ _ hq]
  exact hc
 refine⟨by rw [zr2,h.len];rfl,?_,fun j p t hj ht=>?_,fun t ht=>?_,?_,?_⟩
 ·rw [List.map_append,ptrs_append];exact hown
 ·by_cases hjk:j<k
  ·rw [List.getElem?_append_left (by rw [h.len];exact hjk)] at ht
   obtain⟨⟨sv',a,b⟩,c,d⟩:=h.kid j p t hj ht;exact⟨⟨sv',keep _ _ (h.lt t (zr1 ht)) a,b⟩,c,d⟩
  have hl:=(zq8.1 ht).1;rw [zr2,h.len] at hl;simp at hl;have e:j=k:=by omega
  subst e;rw [List.getElem?_append_right (by rw [h.len];exact zr4 _),h.len] at ht
  simp at ht;subst ht;rw [hp] at hj;simp only [zt3] at hj;subst hj;refine⟨⟨sv,?_,hvs⟩,he,hB⟩;refine(hg.block wr.heap.size (by simp;omega) (fun e=>?_)).trans ?_
  ·have:=(h.row.lt _ e.symm).2;omega
  show ((wr.alloc _).alloc _).heap[_]?=_;rw [zt2 _ _ _ (by simp)]
  exact zs2 wr _
 ·rcases List.mem_append.1 ht with ht | ht
  ·have:=h.lt t ht;omega
  simp at ht;subst ht;show wr.heap.size<_;omega
 ·rw [List.map_append,List.nodup_append]
  refine⟨h.nodup,by simp,fun a ha b hb=>?_⟩
  obtain⟨t,ht,rfl⟩:=List.mem_map.1 ha;simp at hb;subst hb;have:=h.lt t ht;omega
 exact(((h.below.alloc hB _).alloc (by simp;omega) _).drew).grown hg (by simp;omega) (fun q e=>(h.row.lt q e).1)
theorem ArAt.ks {w0 w wr:World}{arms:TA}{k:Nat}{a:Option Addr}{c:Nat}{L:List (Nat×Nat×Nat)}(h:ArAt w0 w wr arms k (.slice a k c) L) (hk:arms.length=k):KsAt w0 w wr arms.kids a L:=by
 refine⟨by rw [h.len,TA.kids_length,hk],fun h0=>?_,fun j p t hj ht=>?_,h.nodup⟩
 ·rw [TA.kids_length,hk] at h0
  rcases h.row.2 with ⟨e,h1⟩|⟨g,cap,cur,e,hb,hg,k1,k2,k3,k4⟩
  ·omega
  simp only [Value.slice.injEq,true_and] at e;refine⟨g,e.1,hb,fun j t ht=>?_⟩
  have hj:j<k:=by rw [← h.len];exact(zq8.1 ht).1
  rw [zb _ _ _ _ _ _ hg,← Array.getElem?_toList,← List.getElem?_take_of_lt (show j<k*1 by omega),k4]
  exact ptrs_at (by rw [List.getElem?_map,ht];rfl)
 obtain⟨⟨sv,a,b⟩,c,d⟩:=h.kid j p t hj ht;exact⟨⟨sv,a,.inl b⟩,c,d⟩
theorem news2 (w:World) (o1:Obj) (x:Value) (T:TypeId):∀ (j:Nat) u,[x][j]?=some u→(((w.alloc o1).alloc (.cells #[x] T)).drew).cell? ((⟨w.heap.size+1,0,none⟩:Addr).add j)=some u:=fun j u hu=>by
 match j,hu with
 | 0,hu =>
  simp at hu;subst hu;rw [Addr.add_lit];exact cell_new2 w o1 x T
 | j+1,hu=>simp at hu
theorem arms_any {w0 w:World}{e:TE}{nb b o:Nat}(hx:TEAt w0 e b o) (hk:Kept w0 w) (hn:w.cell? ⟨nb,0,none⟩=some (.pointer (some ⟨b,o,none⟩))) (he:e.kids=e.arms.kids) (hl:e.arms.length≤16) :
  Calls Tryz.prog 110 #[.pointer (some ⟨nb,0,none⟩)] w (LkP w0 w e.kids):=by
 obtain⟨va,aa,ab,ca,cb,hc⟩:=hx.open;have c6:=hk _ _ hc.c6;have HA:=zh hc.arms
 have HE:=zh he;have HK:=zh hk
 obtain⟨n,hnn⟩:∃ n,n=e.arms.length:=⟨_,rfl⟩;rw [← hnn] at c6 hl;have HN:=zh hnn;have HL:=zh hl
 have hnz:(n:Int)≤16:=by omega
 have b1:nb<w.heap.size:=zs3 w _ hn;have b2:b<w.heap.size:=zs3 w _ c6
 have C0:=zh hn;have C6:=zh c6
 obtain⟨i0,hi0,hz0,hz1,hz2⟩:=info_parts Tryz.info114;have HI:=zh (And.intro hi0 (And.intro hz0 (And.intro hz1 hz2)));clear hx hk hc he hnn hl hi0 hz0 hz1 hz2
 go_enter Tryz.func110,Tryz.ntmps110
 go_wp2_with fail
 go_loopw [3,13] (fun v iv wr=>∃ (k:Nat) (L:List (Nat×Nat×Nat)),k≤n∧iv = .int .i64 k∧ArAt w0 w wr e.arms k v L) (fun _ iv _=>n - (intOf iv).toNat)
 case atStart=>exact⟨0,[],zv3 _,rfl,rfl,World.ownsRow_nil _ _ _ _,fun j p t h1 h2=>by simp at h2,fun t ht=>absurd ht (by simp),by simp,zs9 _ _⟩
 obtain⟨k,L,hkn,rfl,har⟩:=hrel;have KL:=zh hkn;have AR:=zh har
 clear hkn har
 by_cases hlt:k<n
 ·obtain⟨ga,oa,rfl,hat⟩:=HA.out (by rw [← HN.out];omega)
  obtain⟨p,hp⟩:∃ p,e.arms.kids[k]?=some p:=⟨_,zq9 (by rw [TA.kids_length,← HN.out];exact hlt)⟩
  obtain⟨vs,e2⟩:=p;obtain⟨⟨con,vv,d0,d1,hvs⟩,he2⟩:=TAAt.nth e.arms ga oa k vs e2 hat (by rw [← TA.nth_kids];exact hp)
  have HVS:=zh hvs;obtain⟨-,sa,sc,rfl,-⟩:=hvs;obtain⟨sn,hsn⟩:∃ sn,sn=vs.length:=⟨_,rfl⟩;rw [← hsn] at d1 HVS;have HSN:=zh hsn
  have KK:Kept w0 wr:=HK.out.trans (zd AR.out.below);have e0:=zd AR.out.below _ _ C0.out
  have e6:=zd AR.out.below _ _ C6.out;have e1:=KK _ _ d1
  have g1:ga<w.heap.size:=zs3 w _ (HK.out _ _ d1);have HP:=zh hp
  have HE2:=zh he2;have hlz:(k:Int)<n:=by omega
  have HLT:=zh hlt;obtain⟨va',vc',hvv⟩:∃ a c,u3 = .slice a k c:=by
   rcases AR.out.row.2 with ⟨rfl,h0⟩|⟨g,cap,cur,rfl,_⟩
   ·rw [h0];exact⟨_,_,rfl⟩
   exact⟨_,_,rfl⟩
  subst hvv;have HRO:=zh ((AR.out.row.alloc (.cells #[.slice sa sn sc,.pointer (some ⟨ga,oa+k*10+2,none⟩),.pointer none] 120)).alloc (.cells #[.pointer (some ⟨wr.heap.size,0,none⟩)] 114));have HROD:Hid (World.ownsRow ((((wr.alloc (.cells #[.slice sa sn sc,.pointer (some ⟨ga,oa+k*10+2,none⟩),.pointer none] 120)).alloc (.cells #[.pointer (some ⟨wr.heap.size,0,none⟩)] 114))).drew) w.heap.size 114 1 (.slice va' k vc') k (ptrs (L.map (·.1)))):=HRO.out
  have NEWS:=zh (news2 wr (.cells #[.slice sa sn sc,.pointer (some ⟨ga,oa+k*10+2,none⟩),.pointer none] 120) (.pointer (some ⟨wr.heap.size,0,none⟩)) 114);have SZ:Hid (w.heap.size≤wr.heap.size):=AR.out.below.size
  have OB:Hid (∀ q,(Value.slice va' k vc').ownBlock=some q→w.heap.size≤q):=fun q hq=>(AR.out.row.lt q hq).1
  clear hat hp d0 d1 he2 KK hlt hsn
  go_wp2_with fail
  go_region_held3 (fun w'=>w'.cell? ⟨nb,0,none⟩=some (.pointer (some ⟨b,o,none⟩))∧w'.cell? ⟨b,o+6,none⟩=some (.slice (some ⟨ga,oa,none⟩) n ca)∧w'.cell? ⟨ga,oa+k*10+1,none⟩=some (.slice sa sn sc))
   (first
    | ((go_split_ands;refine⟨?_,?_,?_⟩<;>exact grown_far hgrow OB.out (by assumption) (by assumption)))
    | ((go_split_ands;(refine⟨?_,?_,?_⟩<;>(repeat (first | assumption | with_reducible apply ckd | with_reducible apply cka))))))
   ((refine step_append_lies _ (by rfl) _ _ _ (by rfl) w.heap.size 114 i0 _ 1 8 Tryz.underlying106 HI.out.1 HI.out.2.1 HI.out.2.2.1 HI.out.2.2.2 rfl (by decide) (.slice va' k vc') k (ptrs (L.map (·.1))) (by rfl) HROD.out ⟨wr.heap.size+1,0,none⟩ 1 1 [.pointer (some ⟨wr.heap.size,0,none⟩)] (by rfl) (by rfl) NEWS.out (by intro u hu;simp at hu;subst hu;rfl) (by decide) (by have:=HL.out;have:=HLT.out;unfold maxLen;omega) (by have:=HL.out;have:=HLT.out;omega) (by have:=SZ.out;simp;omega) (wr.heap.size+2) (by simp) ?_;intro gg cap w1 hown1 hgrow hat hlt))
  have HAR:=zh (AR.out.step HP.out HVS.out HE2.out hgrow hown1);clear hown1 hgrow hat hlt
  go_wp2_with fail
  go_roundw
  case rel=>exact⟨k+1,_,HLT.out,by go_num,HAR.out⟩
  case measure=>have:=HLT.out;simp [intOf];omega
 have hlz:(n:Int)≤k:=by omega
 have HKN:Hid (k=n):=by have:=KL.out;show _=_;omega
 obtain⟨va',vc',hvv⟩:∃ a c,u3 = .slice a k c:=by
  rcases AR.out.row.2 with ⟨rfl,h0⟩|⟨g,cap,cur,rfl,_⟩
  ·rw [h0];exact⟨_,_,rfl⟩
  exact⟨_,_,rfl⟩
 subst hvv;clear hlt
 go_wp2_with fail
 go_ret
 have e:k=e.kids.length:=by rw [HE.out,TA.kids_length,← HN.out];exact HKN.out
 refine⟨va',vc',L,?_,?_,AR.out.below⟩
 ·show Ending.returned (.slice va' k vc')=_
  rw [e]
 rw [HE.out];exact AR.out.ks (by rw [HKN.out];exact HN.out.symm)
end
theorem rowsIn_wide' {n l:Nat}{P:Program}{row:String}{args:Array Value}{w:World}{R:Value→World→Prop}(h:Rows P row args w R):RowsIn (Fence.wide.inRound l) n P row args w R :=
 fun c cs _=>by obtain⟨v,w',r,s⟩:=h c cs;exact⟨v,w',r,stepsIn_wide.2 s⟩
theorem wpOpIn_round {P:Program}{ops:Array Oper}{Q:Exit→Act→World→Prop}{i n l:Nat}{K:Act→World→Prop}{a:Act}{w:World}
  (hd:∀ (j:Nat) (o:Oper) c,ops[j]?=some o→o.op ≠ .defer c) (hQ:¬ LetsOut Q) (h:wpOp P ops Q i K a w):wpOpIn (Fence.wide.inRound l) n P ops Q i K a w:=by
 unfold wpOp at h;unfold wpOpIn;cases ho:ops[i]? with
 | none=>rw [ho] at h;exact h
 | some o =>
  rw [ho] at h
  dsimp only at h ⊢
  split
  ·rename_i hw
   rw [if_pos hw] at h;rcases h with h | ⟨-,h⟩
   case inr=>exact(hQ h).elim
   unfold Oper.wp at h;unfold Oper.wpIn;rw [Oper.semAt_eq _ _ _ (fun c=>hd i o c ho)]
   refine⟨fun _ _=>trivial,?_⟩
   generalize (execOp a.eval o).run P w=r at h ⊢
   cases r with
   | ok x w' =>
    cases x<;>first | exact h | exact(h:False).elim | exact⟨(fun k=>by cases k),CallsIn.inRound l (callsIn_wide.2 h)⟩ | exact⟨(fun k=>by cases k),rowsIn_wide' h⟩
   | halt x w'=>cases x<;>first | exact h | exact(h:False).elim
  rename_i hw;rw [if_neg hw] at h;exact⟨fun _ _=>trivial,h⟩
theorem wpAnyIn_round {P:Program}{ops:Array Oper}{Q:Exit→Act→World→Prop}{md:Region.Mode}{S:World→Prop}{n l:Nat}
  (hd:∀ (j:Nat) (o:Oper) c,ops[j]?=some o→o.op ≠ .defer c) (hQ:¬ LetsOut Q):∀ (fuel:Nat) (listed:Array Bool) (a:Act) (w:World),
   wpAnyH P md ops Q S fuel listed a w→wpAnyIn (Fence.wide.inRound l) n P md ops Q fuel listed a w
 | 0,_,_,_,h=>h
 | f+1,_,_,_,h=>⟨h.1,fun i hi=>wpOpIn_mono (fun _ _ k=>wpAnyIn_round hd hQ f _ _ _ k.2) (wpOpIn_round hd hQ (h.2 i hi))⟩
def OnlyN (Q:Exit→Act→World→Prop):Exit→Act→World→Prop
 | .normal,a,w=>Q .normal a w
 | .ret,_,_=>False
 | .exit _,_,_=>False
 | .goto _,_,_=>False
 | .panic _,_,_=>False
 | .outgrown,_,_=>False
theorem OnlyN.done {Q:Exit→Act→World→Prop}{a:Act}{w:World}(h:Q .normal a w):OnlyN Q .normal a w:=h
theorem wpIn_region_round {P:Program}{ops:Array Oper}{Q:Exit→Act→World→Prop}{id n l:Nat}{a:Act}{w:World}(S:World→Prop)
  (hm:P.follows .mixedOrders=true) (hd:∀ (j:Nat) (o:Oper) c,ops[j]?=some o→o.op ≠ .defer c) (hS:S w.drew)
  (h:S w.drew→wpAnyH P .any ops (OnlyN Q) S ops.size (Array.replicate ops.size false) a w.drew):(Code.region id ops true).wpIn (Fence.wide.inRound l) n P Q a w :=
 wpIn_mono (wpIn_region_any hm (wpAnyIn_round hd (fun ⟨_,_,h⟩=>h) _ _ _ _ (h hS))) fun e _ _ h=>by
  cases e<;>first | exact h | exact(h:False).elim
def noDefers (ops:List Oper):Bool:=ops.all fun o=>match o.op with | .defer _=>false | _=>true
theorem no_defers {l:List Oper}(h:noDefers l=true):∀ (j:Nat) (o:Oper) c,l.toArray[j]?=some o→o.op ≠ .defer c:=fun j o c ho e=>by
 have hm:o∈l:=by
  rw [List.getElem?_toArray] at ho;exact zr1 ho
 have:=List.all_eq_true.1 h o hm;rw [e] at this;cases this
section
open Go.RowKit RG
theorem form_cases {e:TE}(h:e.form=true):(1≤e.kind∧e.kind≤6∧e.body.length=1∧e.arms.length=0∧e.args.length≤16)∨(e.kind=7∧e.body.length=0∧1≤e.arms.length∧e.arms.length≤16∧e.args.length=1∧(e.args.headD ⟨#[]⟩).size≠0) ∨
  (8≤e.kind∧e.kind≤10∧e.body.length=0∧e.arms.length=0∧e.args.length≤16):=by
 unfold TE.form at h;simp only [Bool.and_eq_true,decide_eq_true_eq,beq_iff_eq] at h;obtain⟨⟨⟨⟨h1,h2⟩,h3⟩,h4⟩,h5⟩:=h;unfold isRest at h3
 by_cases h7:e.kind=7
 ·rw [if_pos h7] at h5
  simp only [Bool.and_eq_true,decide_eq_true_eq,beq_iff_eq,bne_iff_ne] at h5;rw [h7] at h3;simp at h3;have hb:e.body.length=0:=by omega
  exact .inr (.inl ⟨h7,hb,h5.1.2,h5.2,h5.1.1.1,h5.1.1.2⟩)
 rw [if_neg h7] at h5;simp only [Bool.and_eq_true,decide_eq_true_eq,beq_iff_eq] at h5
 by_cases h6:e.kind≤6
 ·have:(decide (1≤e.kind)&&decide (e.kind≤6))=true:=by simp;omega
  rw [this] at h3;have hb:e.body.length=1:=by simpa using h3.symm
  exact .inl ⟨h1,h6,hb,h5.1,h5.2⟩
 have:(decide (1≤e.kind)&&decide (e.kind≤6))=false:=by simp;omega
 rw [this] at h3;have hb:e.body.length≠1:=by simpa using h3.symm
 exact .inr (.inr ⟨by omega,h2,by omega,h5.1,h5.2⟩)
theorem kids_rest {e:TE}(hb:e.body.length=1) (ha:e.arms.length=0):∃ p,e.kids=[p]∧p.1=[e.name]:=by
 obtain⟨k,n,xs,arms,body⟩:=e;simp only [TE.body,TE.arms] at hb ha;unfold TE.kids;simp only [TE.body,TE.arms,TE.name];cases arms with
 | cons vs e2 r=>simp [TA.length] at ha
 | nil =>
  cases body with
  | nil=>simp [TB.length] at hb
  | cons e2 r =>
   cases r with
   | cons e3 r=>simp [TB.length] at hb
   | nil=>exact⟨([n],e2),rfl,rfl⟩
theorem kids_arms {e:TE}(hb:e.body.length=0):e.kids=e.arms.kids:=by
 obtain⟨k,n,xs,arms,body⟩:=e;simp only [TE.body] at hb;unfold TE.kids;simp only [TE.body,TE.arms,TE.name];cases body with
 | nil=>rfl
 | cons e2 r=>simp [TB.length] at hb
theorem kids_end {e:TE}(hb:e.body.length=0) (ha:e.arms.length=0):e.kids=[]:=by
 rw [kids_arms hb];exact List.eq_nil_of_length_eq_zero (by rw [TA.kids_length];exact ha)
theorem end_any (p:Option Addr) (w:World):Calls Tryz.prog 111 #[.pointer p] w fun e w'=>e = .returned (.slice none 0 0)∧w'=w:=by
 go_enter Tryz.func111,Tryz.ntmps111
 go_wp2_with fail
 go_ret
 exact⟨rfl,rfl⟩
theorem LkP.shift {w0 w w1:World}{ks:List (List Nm×TE)}{e:Ending}{w':World}(h:LkP w0 w1 ks e w') (hb:Below w.heap.size w w1):LkP w0 w ks e w':=by
 obtain⟨a,c,L,h1,⟨k1,k2,k3,k4⟩,h3⟩:=h;have hs:=hb.size;refine⟨a,c,L,h1,⟨k1,fun h0=>?_,fun j p t hj ht=>?_,k4⟩,hb.trans (h3.mono hs)⟩
 ·obtain⟨g,e1,e2,e3⟩:=k2 h0;exact⟨g,e1,by omega,e3⟩
 obtain⟨⟨sv,a1,a2⟩,b,c⟩:=k3 j p t hj ht;refine⟨⟨sv,a1,?_⟩,b,by omega⟩
 rcases a2 with a2 | ⟨g,q1,q2,q3⟩
 ·exact .inl a2
 exact .inr ⟨g,q1,by omega,q3⟩
theorem bindings_any {w0 w:World}{e:TE}{nb b o:Nat}(hx:TEAt w0 e b o) (hk:Kept w0 w) (hn:w.cell? ⟨nb,0,none⟩=some (.pointer (some ⟨b,o,none⟩))) (hf:e.form=true) :
  Calls Tryz.prog 88 #[.pointer (some ⟨nb,0,none⟩)] w (LkP w0 w e.kids):=by
 obtain⟨va,aa,ab,ca,cb,hc⟩:=hx.open;have c0:=hk _ _ hc.c0;have b1:nb<w.heap.size:=zs3 w _ hn
 have b2:b<w.heap.size:=zs3 w _ c0;have HF:=form_cases hf
 have BW:∀ o,Hid (Below w.heap.size w (w.alloc o)):=fun o=>(zs9 _ _).alloc (zr4 _) _
 rcases HF with ⟨h1,h6,hb,ha,_⟩|⟨h7,hb,_,ha,_⟩|⟨h8,h10,hb,ha,_⟩
 ·obtain⟨p,he,hp⟩:=kids_rest hb ha
  rw [he];have RS:Hid (∀ o,Calls Tryz.prog 109 #[.pointer (some ⟨nb,0,none⟩)] (w.alloc o) (LkP w0 w [p])):=fun ob =>
   (rest_any hx (hk.trans (zd (BW ob).out)) (cka ob hn) he hb hp).mono fun _ _ h=>h.shift (BW ob).out
  obtain⟨k,hkk⟩:∃ k,k=e.kind:=⟨_,rfl⟩;rw [← hkk] at c0 h1 h6;clear hx hk hf hc hb ha he hp hkk;have hk:k=1∨k=2∨k=3∨k=4∨k=5∨k=6:=by omega
  rcases hk with rfl | rfl | rfl | rfl | rfl | rfl
  all_goals
   clear h1 h6
   go_enter Tryz.func88,Tryz.ntmps88
   go_wp2_with fail
   refine(RS.out _).mono ?_;rintro e w1 ⟨a,c,L,rfl,hks,hbw⟩;have HKS:=zh hks;have HBW:=zh hbw
   clear hks hbw
   go_wp2_with fail
   go_ret
   exact⟨a,c,L,rfl,HKS.out,HBW.out⟩
 ·have AS:Hid (∀ o,Calls Tryz.prog 110 #[.pointer (some ⟨nb,0,none⟩)] (w.alloc o) (LkP w0 w e.kids)):=fun ob =>
   (arms_any hx (hk.trans (zd (BW ob).out)) (cka ob hn) (kids_arms hb) ha).mono fun _ _ h=>h.shift (BW ob).out
  rw [h7] at c0;obtain⟨ks,hks⟩:∃ ks,ks=e.kids:=⟨_,rfl⟩;rw [← hks] at AS ⊢;clear hx hk hf hc hb ha h7 hks
  go_enter Tryz.func88,Tryz.ntmps88
  go_wp2_with fail
  refine(AS.out _).mono ?_;rintro e w1 ⟨a,c,L,rfl,hks,hbw⟩;have HKS:=zh hks;have HBW:=zh hbw
  clear hks hbw
  go_wp2_with fail
  go_ret
  exact⟨a,c,L,rfl,HKS.out,HBW.out⟩
 have he:=kids_end hb ha;rw [he];obtain⟨k,hkk⟩:∃ k,k=e.kind:=⟨_,rfl⟩;rw [← hkk] at c0 h8 h10;clear hx hk hf hc hb ha he hkk;have hk:k=8∨k=9∨k=10:=by omega
 rcases hk with rfl | rfl | rfl
 all_goals
  clear h8 h10
  go_enter Tryz.func88,Tryz.ntmps88
  go_wp2_with fail
  refine(end_any _ _).mono ?_;rintro e w1 ⟨rfl,rfl⟩
  go_wp2_with fail
  go_ret
  exact⟨none,0,[],rfl,⟨rfl,fun h=>absurd h (by simp),fun j p t hj=>by simp at hj,by simp⟩,(BW _).out⟩
end
section
open Go.RowKit RG Go.Maps
open Go.WideMaps (keyOf_string_mk)
structure NLaw (Env:World→Prop) (isName:Nm→Bool):Prop where
 call:∀ (W:World) (s:Nm),Env W→s.size≤maxLen→Calls Tryz.prog 108 #[.string s] W fun e w'=>e = .returned (.bool (isName s))∧Below W.heap.size W w'
 keep:∀ (B:Nat) (W W':World),10≤B→Env W→Below B W W'→Env W'
 size:∀ W,Env W→10≤W.heap.size
theorem PMap.made (w:World):PMap (w.alloc (.map #[] 0)) w.heap.size [] :=
 ⟨.map [],World.ownsMap_made w Tryz.prog 9 _,rfl,fun i n h=>absurd h (by simp),fun n h=>by simp [Maps.has] at h⟩
theorem PMap.put {w w':World}{b n:Nat}{D:DataW Unit}{ns:List Nm}{x:Nm}(hs:x.size≤maxLen) (hx:x∉ns)
  (h1:w.ownsMap Tryz.prog 9 (plainElem Tryz.prog 3) b (Maps.size D) D) (h2:Maps.size D=ns.length)
  (h3:∀ (i:Nat) n,ns[i]?=some n→n.size≤maxLen∧Maps.has D (.string n.data.toList)=true∧∀ z,D.atKey (.string n.data.toList) z = .lit (.int .i64 i))
  (h4:∀ n:Nm,Maps.has D (.string n.data.toList)=true→n∈ns) (hown:w'.ownsMap Tryz.prog 9 (plainElem Tryz.prog 3) b n (D.put (.string x.data.toList) (.lit (.int .i64 ns.length)))):PMap w' b (ns++[x]):=by
 have hKl:WideAt.IsKeyLit (.string x.data.toList):=trivial;have hT:=h1.tidy keyed9
 have hI:=h1.isMap;have hno:Maps.has D (.string x.data.toList)=false:=by
  cases hq:Maps.has D (.string x.data.toList) with
  | false=>rfl
  | true=>exact absurd (h4 x hq) hx
 have inj:∀ {a b:Nm},(Lit.string a.data.toList)=Lit.string b.data.toList→a=b:=fun {a b} e=>by
  simp only [Lit.string.injEq] at e;exact WideShapes.bytes_inj e
 refine⟨D.put (.string x.data.toList) (.lit (.int .i64 ns.length)),?_,?_,fun i n hn=>?_,fun n hn=>?_⟩
 ·obtain⟨es,clock,g1,g2,g3,g4⟩:=hown
  exact⟨es,clock,g1,g2,by rw [g4,Maps.size_eq,length_read];exact zr4 _,g4⟩
 ·rw [Maps.size_put hT,hno,h2,zr2];simp
 ·by_cases hi:i<ns.length
  ·rw [List.getElem?_append_left hi] at hn
   obtain⟨a,b,c⟩:=h3 i n hn;have hne:(Lit.string n.data.toList)≠Lit.string x.data.toList:=fun e=>hx (inj e ▸ zr1 hn)
   exact⟨a,by rw [Maps.has_put_other hne];exact b,fun z=>by rw [Maps.atKey_put_other hne];exact c z⟩
  rw [List.getElem?_append_right (by omega)] at hn
  have hl:=(zq8.1 hn).1;simp at hl;have e:i=ns.length:=by omega
  subst e;simp at hn;subst hn;exact⟨hs,Maps.has_put_same hI hKl _,fun z=>Maps.atKey_put_same hI hKl _ z⟩
 by_cases e:n=x
 ·subst e;simp
 have hne:(Lit.string n.data.toList)≠Lit.string x.data.toList:=fun e2=>e (inj e2)
 rw [Maps.has_put_other hne] at hn;exact zr6 _ (h4 n hn)
theorem wpList_pput {w:World}{ops:Array Oper}{rest:List Oper}{o:Oper}{a:Act}{Q:Exit→Act→World→Prop}(hg:o.guard=none) (m x v:Operand) (hop:o.op=Op.mapUpdate 116 m x v) (b:Nat) (ns:List Nm)
  (hm:a.eval m = .map (some b)) (h:PMap w b ns) (n:Nm) (hs:n.size≤maxLen) (hn:n∉ns) (hl:ns.length≤1000000) (hx:a.eval x = .string n) (hv:a.eval v = .int .i64 ns.length)
  (hK:∀ w',PMap w' b (ns++[n])→w.grownBy w' (some b)→wpList Tryz.prog ops Q rest (a.put o.dst undef) w'):wpList Tryz.prog ops Q (o :: rest) a w:=by
 obtain⟨D,h1,h2,h3,h4⟩:=h;refine wpList_mapUpdate_own w hg m x v 116 hop 9 3 keyed9 Tryz.underlying116 (plainElem Tryz.prog 3) b (Maps.size D) D hm h1 (by rw [h2];unfold maxLen;omega) _ _ (.string n.data.toList) hx hv (keyOf_string_mk Tryz.underlying9 hs) _ [] (plainElem_int Tryz.underlying3 (wf_nat (by omega))) fun w' ho hgr=>?_
 exact hK w' (PMap.put hs hn h1 h2 h3 h4 ho) hgr
structure Nms (w:World) (ρ:Nat→Nat) (f pl:Nat) (ent sl sn sv:Value) (names:List Nm):Prop where
 fb:w.heap[f]?=some (.cells #[ent,sl,sn,sv,.map (some pl)] 118 (0,0))
 row:RR w ρ 4 9 1 sv names.length (strs names)
 pm:PMap w pl names
 rf:ρ f=1
 rp:ρ pl=5
 rho:∀ k,w.heap.size≤k→ρ k=0
def MB:Nat→Prop:=fun r=>r=1∨r=4∨r=5
theorem Nms.below {w w':World} {ρ:Nat→Nat}{f pl:Nat}{ent sl sn sv:Value}{names:List Nm}(h:Nms w ρ f pl ent sl sn sv names) (hb:Below w.heap.size w w'):Nms w' ρ f pl ent sl sn sv names :=
 ⟨zm hb h.fb,h.row.keep (Ch.of_below (M:=fun _=>False) hb h.rho) (fun x=>x),h.pm.keep (hb.block _ h.pm.lt),h.rf,h.rp,fun k hk=>h.rho k (zr5 hb.size hk)⟩
def BdP (isName:Nm→Bool) (w:World) (ρ:Nat→Nat) (f pl:Nat) (ent sl sn:Value) (names bs:List Nm) (e:Ending) (w':World):Prop :=
 match bindOk isName names bs with
 | none=>e = .returned (.bool false)∧∃ ρ',Ch MB ρ ρ' w w'
 | some ns=>e = .returned (.bool true)∧∃ ρ' sv',Nms w' ρ' f pl ent sl sn sv' ns∧Ch MB ρ ρ' w w'∧∀ k,w.heap.size≤k→ρ' k=0∨ρ' k=4
theorem bindOk_step {isName:Nm→Bool}{names bs:List Nm}{k:Nat}{x:Nm}(hx:bs[k]?=some x) (h:RG.has names x=false) (hn:isName x=true):bindOk isName names (bs.drop k)=bindOk isName (names++[x]) (bs.drop (k+1)):=by
 have hk:=(zq8.1 hx).1;rw [List.drop_eq_getElem_cons hk,bindOk];have e:bs[k]=x:=by rw [zq9 hk] at hx;simpa using hx
 rw [e,h,hn];simp
theorem bindOk_stop {isName:Nm→Bool}{names bs:List Nm}{k:Nat}{x:Nm}(hx:bs[k]?=some x) (h:RG.has names x=true∨isName x=false):bindOk isName names (bs.drop k)=none:=by
 have hk:=(zq8.1 hx).1;rw [List.drop_eq_getElem_cons hk,bindOk];have e:bs[k]=x:=by rw [zq9 hk] at hx;simpa using hx
 rw [e];rcases h with h | h
 ·rw [h];simp
 rw [h];simp
theorem Tryz.info9:(Tryz.prog.info? 9).map (fun i=>(i.zero,i.size,i.bytes))=some (some (.string ⟨#[]⟩),1,16):=by kernel_rfl
theorem MB_or {r:Nat}(h:r=4):MB r := .inr (.inl h)
theorem strs_append (a b:List Nm):strs (a++b)=strs a++strs b:=List.map_append
theorem bind_any {Env:World→Prop}{isName:Nm→Bool}(NL:NLaw Env isName) {w:World} {ρ:Nat→Nat}{f pl:Nat}{ent sl sn sv v:Value}{names bs:List Nm}(henv:Env w) (h10:∀ k,k<10→ρ k=0)
  (h:Nms w ρ f pl ent sl sn sv names) (hbs:∀ w' ρ',Ch MB ρ ρ' w w'→StrsAt w' v bs) (hsz:∀ x∈bs,x.size≤maxLen) (hl:names.length+bs.length≤900000) :
  Calls Tryz.prog 87 #[.pointer (some ⟨f,0,none⟩),v] w (BdP isName w ρ f pl ent sl sn names bs):=by
 obtain⟨-,va,vc,rfl,-⟩:=hbs w ρ (Ch.refl h.rho);obtain⟨n,hn⟩:∃ n,n=bs.length:=⟨_,rfl⟩;rw [← hn] at hl ⊢;have HNL:=zh NL;have HE:=zh henv
 have H10:=zh h10;have H:=zh h
 have HBS:=zh hbs;have HSZ:=zh hsz
 have HL:=zh hl;have HN:=zh hn
 have hnz:(n:Int)≤900000:=by omega
 obtain⟨i0,hi0,hz0,hz1,hz2⟩:=info_parts Tryz.info9;have HI:=zh (And.intro hi0 (And.intro hz0 (And.intro hz1 hz2)));clear NL henv h10 h hbs hsz hl hn hi0 hz0 hz1 hz2
 go_enter Tryz.func87,Tryz.ntmps87
 go_wp2_with fail
 go_loopw [11] (fun iv wr=>∃ (k:Nat) (ρk:Nat→Nat) (svk:Value),k≤n∧iv = .int .i64 k∧Nms wr ρk f pl ent sl sn svk (names++bs.take k)∧Ch MB ρ ρk w wr∧(∀ q,w.heap.size≤q→ρk q=0∨ρk q=4)∧bindOk isName names bs=bindOk isName (names++bs.take k) (bs.drop k)) (fun iv _=>n - (intOf iv).toNat)
 case atStart=>exact⟨0,ρ,sv,zv3 _,rfl,by rw [List.take_zero,List.append_nil];exact H.out,Ch.refl H.out.rho,fun q hq => .inl (H.out.rho q hq),by rw [List.take_zero,List.append_nil,List.drop_zero]⟩
 obtain⟨k,ρk,svk,hk,rfl,hnm,hch,hfr,hok⟩:=hrel;have KN:=zh hnm;have KC:=zh hch
 have KF:=zh hfr;have KO:=zh hok
 have KL:=zh hk;clear hnm hch hfr hok hk
 by_cases hlt:k<n
 ·obtain⟨-,va',vc',ev,hat0⟩:=HBS.out wr ρk KC.out
  simp only [Value.slice.injEq,true_and] at ev;obtain⟨rfl,e2,rfl⟩:=ev;obtain⟨g,o,rfl,hat⟩:=hat0 (by have:=HN.out;omega)
  clear hat0;obtain⟨x,hx⟩:∃ x,bs[k]?=some x:=⟨_,zq9 (by rw [← HN.out];exact hlt)⟩
  have hcx:=hat k _ (strs_at hx);have f4:wr.cell? ⟨f,4,none⟩=some (.map (some pl)):=by rw [zb _ _ 4 _ _ _ KN.out.fb];rfl
  have HX:=zh hx;have HXS:=zh (HSZ.out x (zr1 hx))
  have hlz:(k:Int)<n:=by omega
  have HLT:=zh hlt;have ENV:=zh (HNL.out.keep 10 w wr (zr4 _) HE.out (KC.out.below (HNL.out.size _ HE.out) (fun q hq=>by rw [H10.out q hq];simp [MB])))
  have NMX:=zh (fun q (hq:q<10)=>show ρk q=0 by rw [KC.out.role q (by have:=HNL.out.size _ HE.out;omega)];exact H10.out q hq)
  clear hat hx hlt
  by_cases hh:RG.has (names++bs.take k) x=true
  ·have HH:=zh hh
   have FIN:Hid (BdP isName w ρ f pl ent sl sn names bs (.returned (.bool false)) wr):=by
    show BdP _ _ _ _ _ _ _ _ _ _ _ _;unfold BdP;rw [KO.out,bindOk_stop HX.out (.inl HH.out)];exact⟨rfl,ρk,KC.out⟩
   go_wp2_with (at_lookup;refine wpList_pis rfl _ _ rfl pl (names++bs.take k) rfl KN.out.pm x HXS.out rfl ?_;intro c _;rw [hh])
   go_ret
   exact FIN.out
  have hh':RG.has (names++bs.take k) x=false:=by simpa using hh
  have HH:=zh hh';clear hh
  go_wp2_with (at_lookup;refine wpList_pis rfl _ _ rfl pl (names++bs.take k) rfl KN.out.pm x HXS.out rfl ?_;intro c _;rw [hh'])
  refine(HNL.out.call wr x ENV.out HXS.out).mono ?_;rintro e w1 ⟨rfl,hb1⟩;have B1:=zh hb1;clear hb1 f4 hh' hcx
  by_cases hnx:isName x=true
  ·have HNX:=zh hnx
   have N1:=zh (KN.out.below B1.out);have f4:w1.cell? ⟨f,4,none⟩=some (.map (some pl)):=by rw [zb _ _ 4 _ _ _ N1.out.fb];rfl
   obtain⟨na,nc,hsv⟩:=N1.out.row.shape;obtain⟨m,hm⟩:∃ m,m=(names++bs.take k).length:=⟨_,rfl⟩;rw [← hm] at hsv;subst hsv;have f3:w1.cell? ⟨f,3,none⟩=some (.slice na m nc):=by rw [zb _ _ 3 _ _ _ N1.out.fb];rfl
   have HM:=zh hm;have HML:Hid (m≤900000):=by have:=HL.out;have:=KL.out;rw [zr2,List.length_take] at hm;show _≤_;omega
   clear hm
   go_wp2_with fail
   refine wp_region_still_tail 10 (by kernel_rfl) (by kernel_rfl) ?_
   simp only [List.take_succ_cons,List.take_zero,List.drop_succ_cons,List.drop_zero,World.drew_eq]
   iterate 10 still_step
   refine wpStill_nil ?_
   go_wp2_with (at_mapUpdate;refine wpList_pput rfl _ _ _ rfl pl (names++bs.take k) rfl N1.out.pm x HXS.out (fun hm=>by have:=zx.2 hm;rw [HH.out] at this;cases this) ?_ rfl (by rw [HM.out];rfl) ?_)
   ·have:=HL.out;have:=List.length_take_le k bs;have:=KL.out;rw [zr2,List.length_take];omega
   intro w2 hp2 hg2;have C2:Hid (Ch MB ρk ρk wr w2):=((Ch.of_below B1.out KN.out.rho).drew).grown hg2 (fun q e _=>by simp at e;rw [← e,KN.out.rp];exact .inr (.inr rfl))
   have C2b:Hid (Ch (· = 5) ρk ρk w1 w2):=((Ch.refl N1.out.rho).drew).grown hg2 (fun q e _=>by simp at e;rw [← e,KN.out.rp])
   have PM2:=zh hp2;have fb2:=C2b.out.keep N1.out.fb (by rw [N1.out.rf];decide)
   have FB2:=zh fb2;have RW2:=zh (N1.out.row.keep C2b.out (by decide))
   have f3':w2.cell? ⟨f,3,none⟩=some (.slice na m nc):=by rw [zb _ _ 3 _ _ _ fb2];rfl
   have flt:f<w2.heap.size:=(zq7.1 fb2).1;clear hp2 hg2 fb2 f3 f4;have RW3:=zh (RW2.out.keep ((Ch.refl (M:=fun _=>False) C2b.out.fresh).alloc (.cells #[.string x] 9)) (fun h=>h))
   have HXA:=zh (zs2 w2 (.cells #[.string x] 9));rw [← HM.out] at RW3
   go_wp2_with (at_builtin;refine wpList_append_rr rfl _ _ 35 rfl 9 i0 (.string ⟨#[]⟩) 1 16 Tryz.underlying35 HI.out.1 HI.out.2.1 HI.out.2.2.1 HI.out.2.2.2 rfl (by decide) ρk 4 (.slice na m nc) m (strs (names++bs.take k)) rfl RW3.out ?_ ⟨w2.heap.size,0,none⟩ 1 1 [.string x] rfl rfl ?_ ?_ ?_ ?_ ?_)
   ·exact fun q hq=>C2b.out.fresh q (by simp at hq;omega)
   ·intro j u hu
    rw [Addr.add_lit,zb _ _ _ _ _ _ HXA.out]
    match j,hu with
    | 0,hu=>simpa using hu
    | j+1,hu=>simp at hu
   ·intro u hu;simp at hu;subst hu;rfl
   ·have:=HML.out;simp only [maxLen];omega
   ·have:=HML.out;omega
   intro a4 c4 w4 ρ4 hr4 hc4 hf4;have hcA:Ch (· = 4) ρk ρ4 w2 w4:=((Ch.refl (M:=(· = 4)) C2b.out.fresh).alloc (.cells #[.string x] 9)).trans hc4;have fb4:=hcA.keep FB2.out (by rw [N1.out.rf];decide)
   have rf4:ρ4 f=1:=(hcA.keepRole FB2.out).trans N1.out.rf;have pl2:=PM2.out.lt
   have rp4:ρ4 pl=5:=(hcA.role pl pl2).trans N1.out.rp;have hne:pl≠f:=fun e=>by rw [e,rf4] at rp4;cases rp4
   have PM4:=zh (PM2.out.keep (hcA.block pl pl2 (by rw [N1.out.rp];decide)))
   have FZ:w4.frozen? ⟨f,3,none⟩=false:=zs1 w4 f 3 _ _ fb4;have CC:w4.cell? ⟨f,3,none⟩=some (.slice na m nc):=by rw [zb _ _ 3 _ _ _ fb4];rfl
   have FIN:Hid (Nms (w4.setCell ⟨f,3,none⟩ (.slice a4 (m+1) c4)) ρ4 f pl ent sl sn (.slice a4 (m+1) c4) (names++bs.take (k+1))∧Ch MB ρ ρ4 w (w4.setCell ⟨f,3,none⟩ (.slice a4 (m+1) c4))∧∀ q,w.heap.size≤q→ρ4 q=0∨ρ4 q=4):=by
    have e1:names++bs.take (k+1)=(names++bs.take k)++[x]:=by rw [List.take_add_one,HX.out,List.append_assoc];rfl
    have e2:(names++bs.take (k+1)).length=m+1:=by rw [e1,zr2,← HM.out];rfl
    have hs:=Ch.setCell (Ch.refl (M:=(· = 1)) (ρ:=ρ4) (w:=w4) hc4.fresh) ⟨f,3,none⟩ (.slice a4 (m+1) c4) (fun _=>rf4)
    refine⟨⟨heap_setCell_same w4 f 3 _ _ _ fb4,?_,?_,rf4,rp4,hs.fresh⟩,?_,fun q hq=>?_⟩
    ·rw [e2,e1,strs_append]
     exact hr4.keep hs (by decide)
    ·rw [e1,List.append_assoc]
     exact PM4.out.keep (zt1 w4 ⟨f,3,none⟩ _ pl hne)
    ·exact((KC.out.trans C2.out).trans (hcA.mono fun _ h=>MB_or h)).trans (hs.mono fun _ h => .inl h)
    by_cases hq2:q<w2.heap.size
    ·rw [hcA.role q hq2];exact KF.out q hq
    by_cases e:q=w2.heap.size
    ·rw [hc4.role q (by rw [World.size_alloc];omega)];exact .inl (C2b.out.fresh q (by omega))
    exact hf4 q (by omega)
   have HOK:Hid (bindOk isName names bs=bindOk isName (names++bs.take (k+1)) (bs.drop (k+1))):=by
    show _=_;rw [KO.out,bindOk_step HX.out HH.out HNX.out,List.append_assoc,List.take_add_one,HX.out];rfl
   clear hr4 hc4 hf4 hcA fb4 rf4 pl2 rp4 hne f3' flt
   go_wp2_with fail
   go_roundw
   case rel=>exact⟨k+1,ρ4,_,HLT.out,by go_num,FIN.out.1,FIN.out.2.1,FIN.out.2.2,HOK.out⟩
   case measure=>have:=HLT.out;simp [intOf];omega
  have hnx':isName x=false:=by simpa using hnx
  have FIN:Hid (BdP isName w ρ f pl ent sl sn names bs (.returned (.bool false)) w1):=by
   show BdP _ _ _ _ _ _ _ _ _ _ _ _;unfold BdP;rw [KO.out,bindOk_stop HX.out (.inr hnx')];exact⟨rfl,ρk,KC.out.trans (Ch.of_below B1.out KN.out.rho)⟩
  clear hnx
  go_wp2_with fail
  go_ret
  exact FIN.out
 have hlz:(n:Int)≤k:=by omega
 have e:Hid (k=bs.length):=by have:=KL.out;have:=HN.out;show _=_;omega
 clear hlt;have FIN:Hid (BdP isName w ρ f pl ent sl sn names bs (.returned (.bool true)) wr):=by
  have h1:=KO.out;have h2:=KN.out
  rw [e.out,List.drop_length,List.take_length] at h1;rw [e.out,List.take_length] at h2;show BdP _ _ _ _ _ _ _ _ _ _ _ _;unfold BdP;rw [h1];exact⟨rfl,ρk,svk,h2,KC.out,KF.out⟩
 go_wp2_with fail
 go_ret
 exact FIN.out
end
section
open Go.RowKit RG Go.Maps
attribute [local go_sem] Oper.semAt_some
structure FlIn (w:World) (A:Ad) (f:Nat) (F:List Nd):Prop where
 c:FlatC w A f F
 live:∀ i,i<F.length→IMap Tryz.prog w (A.mb i) []
 inj:∀ i k,i<F.length→k<F.length→A.mb i=A.mb k→i=k
 ne:∀ i,i<F.length→A.mb i≠A.pl
 pos:0<F.length
 once:(vars F).Nodup
 nxt:∀ i,i<F.length→∀ k∈(nd F i).next,i<k∧k<F.length
 lvs:∀ i x,i<F.length→lv F i x=(RG.has (nd F i).uses x||(nd F i).next.any fun k=>lv F k x && !(RG.has (nd F k).binds x))
 few:(vars F).length≤1000000
 len:F.length≤20000
 kids:∀ i,i<F.length→(nd F i).next.length≤20000
 args:∀ i,i<F.length→(nd F i).e.args.length≤1000000∧∀ x∈(nd F i).e.args,x.size≤maxLen
def SL (A:Ad) (F:List Nd):Nat→Prop:=fun q=>∃ i,i<F.length∧q=A.mb i
structure FI (w:World) (A:Ad) (f:Nat) (F:List Nd) (j:Nat) (W:World):Prop where
 fq:Fq (SL A F) w W
 done:∀ i,i<F.length→F.length - j≤i→SetAt W (A.mb i) F (lv F i)
 todo:∀ i,i<F.length→i<F.length - j→IMap Tryz.prog W (A.mb i) []
 uses:∀ i,i<F.length→F.length - j≤i→∀ x∈(nd F i).uses,x∈vars F
 box:W.heap[w.heap.size]?=some (.cells #[.pointer (some ⟨f,0,none⟩)] 99 (0,0))
 res:W.heap[w.heap.size+1]?=some (.cells #[.bool false] 4 (0,0))
 it:∃ v,w.cell? ⟨f,2,none⟩=some v∧W.heap[w.heap.size+2]?=some (.cells #[v] 115 (0,0))
structure FX (w:World) (A:Ad) (f:Nat) (F:List Nd) (W:World):Prop where
 fq:Fq (SL A F) w W
 res:W.heap[w.heap.size+1]?=some (.cells #[.bool false] 4 (0,0))
 no:flowB F=false
def FA (w:World) (A:Ad) (F:List Nd) (tm:Nat→Nat→Value→Array Value) (j:Nat) (a:Act) (W:World):Prop :=
 ∃ bx,a={ tmps:=tm j bx (.int .i64 ((F.length - 1 - j:Nat):Int)),defers:=[] }∧W.heap[bx]?=some (.cells #[.pointer (some ⟨A.nb (F.length - 1 - j),0,none⟩)] 100 (0,0))∧w.heap.size+3≤bx
def FlP (w:World) (A:Ad) (f:Nat) (F:List Nd) (e:Ending) (w':World):Prop :=
 Fq (SL A F) w w'∧e = .returned (.bool (flowB F))∧(flowB F=true→FlatAt w' A f F)
theorem map_bk {B:Nat}{W W':World}(h:Bk B W W') {b:Nat}{l:List (Int×Int)}(hm:IMap Tryz.prog W b l):IMap Tryz.prog W' b l:=by
 obtain⟨es,c,ho⟩:=hm.obj;exact hm.keep ((heap_bk h ho (.inr rfl)).trans ho.symm)
theorem cells_bk {B:Nat}{W W':World}(h:Bk B W W') {q:Nat}{cs:Array Value}{T:TypeId}{r:Nat×Nat}(ho:W.heap[q]?=some (.cells cs T r)):W'.heap[q]?=some (.cells cs T r):=heap_bk h ho (.inl rfl)
theorem Fq.bk {S:Nat→Prop}{w W W':World}{B:Nat}(h:Fq S w W) (b:Bk B W W') (hB:w.heap.size≤B):Fq S w W':=by
 have hb:=below_bk b;exact⟨hb.os.trans h.os,hb.tape.trans h.tape,hb.output.trans h.output,zr5 h.size hb.size,fun q hq hs=>(hb.block q (by omega)).trans (h.block q hq hs)⟩
theorem Fq.then {S:Nat→Prop}{w W W':World}(h:Fq S w W) (b:Below W.heap.size W W'):Fq S w W' :=
 ⟨b.os.trans h.os,b.tape.trans h.tape,b.output.trans h.output,zr5 h.size b.size,fun q hq hs=>(b.block q (zt5 hq h.size)).trans (h.block q hq hs)⟩
theorem FI.bk {w:World}{A:Ad}{f:Nat}{F:List Nd}{j:Nat}{W W':World}(h:FI w A f F j W) (b:Bk (w.heap.size+3) W W'):FI w A f F j W':=by
 obtain⟨v,i1,i2⟩:=h.it;exact⟨h.fq.bk b (by omega),fun i hi hj=>map_bk b (h.done i hi hj),fun i hi hj=>map_bk b (h.todo i hi hj),h.uses,cells_bk b h.box,cells_bk b h.res,v,i1,cells_bk b i2⟩
theorem map_below {W W':World}(h:Below W.heap.size W W') {b:Nat}{l:List (Int×Int)}(hm:IMap Tryz.prog W b l):IMap Tryz.prog W' b l:=hm.keep (h.block _ hm.lt)
theorem FI.below {w:World}{A:Ad}{f:Nat}{F:List Nd}{j:Nat}{W W':World}(h:FI w A f F j W) (b:Below W.heap.size W W'):FI w A f F j W':=by
 obtain⟨v,i1,i2⟩:=h.it;exact⟨h.fq.then b,fun i hi hj=>map_below b (h.done i hi hj),fun i hi hj=>map_below b (h.todo i hi hj),h.uses,zm b h.box,zm b h.res,v,i1,zm b i2⟩
theorem FX.bk {w:World}{A:Ad}{f:Nat}{F:List Nd}{W W':World}(h:FX w A f F W) (b:Bk (w.heap.size+3) W W'):FX w A f F W':=⟨h.fq.bk b (by omega),cells_bk b h.res,h.no⟩
theorem FA.bk {w:World}{A:Ad}{F:List Nd}{tm:Nat→Nat→Value→Array Value}{j:Nat}{a:Act}{W W':World}{B:Nat}(h:FA w A F tm j a W) (b:Bk B W W'):FA w A F tm j a W':=by
 obtain⟨bx,h1,h2,h3⟩:=h;exact⟨bx,h1,cells_bk b h2,h3⟩
theorem FlIn.sets {w:World}{A:Ad}{f:Nat}{F:List Nd}(h:FlIn w A f F):∀ q,SL A F q→∃ es c,w.heap[q]?=some (.map es c):=by
 rintro q ⟨i,hi,rfl⟩;exact(h.live i hi).obj
theorem FlIn.at {w W:World}{A:Ad}{f:Nat}{F:List Nd}(h:FlIn w A f F) (q:Fq (SL A F) w W):FlatC W A f F :=
 h.c.fq q h.sets (fun ⟨i,hi,e⟩=>h.ne i hi e.symm)
theorem FlIn.nodes {w:World}{A:Ad}{f:Nat}{F:List Nd}(h:FlIn w A f F):∃ c g o,w.cell? ⟨f,2,none⟩=some (.slice (some ⟨g,o,none⟩) F.length c)∧∀ i,i<F.length→w.cell? ⟨g,o+i,none⟩=some (.pointer (some ⟨A.nb i,0,none⟩)):=by
 obtain⟨sl,sn,sv,f0,f1,⟨-,ad,c,rfl,f2⟩,f3⟩:=h.c.flat;obtain⟨g,o,rfl,hat⟩:=f2 h.pos;exact⟨c,g,o,by rw [zb _ _ 2 _ _ _ f0];rfl,fun i hi=>hat i _ (ptrs_at (by rw [List.getElem?_map,List.getElem?_range hi];rfl))⟩
structure FJ (W2:World) (A:Ad) (F:List Nd) (i j:Nat) (W:World):Prop where
 fq:Fq (fun q=>q=A.mb i) W2 W
 set:SetAt W (A.mb i) F (RG.has ((nd F i).uses.take j))
 us:∀ x∈(nd F i).uses.take j,x∈vars F
structure FJX (W2:World) (A:Ad) (F:List Nd) (i rb:Nat) (W:World):Prop where
 fq:Fq (fun q=>q=A.mb i∨q=rb) W2 W
 res:W.heap[rb]?=some (.cells #[.bool false] 4 (0,0))
 no:flowB F=false
theorem vset_nil (F:List Nd):VSet F (RG.has [])=[]:=by
 unfold VSet named;rw [List.filter_eq_nil_iff.2 (fun x _=>by simp [RG.has])]
 rfl
theorem flow_no {F:List Nd}{i:Nat}{x:Nm}(hi:i<F.length) (hx:x∈(nd F i).uses) (h:RG.has (vars F) x=false):flowB F=false:=by
 unfold flowB;have:(F.all fun d=>d.uses.all (RG.has (vars F)))=false:=by
  cases hq:(F.all fun d=>d.uses.all (RG.has (vars F))) with
  | false=>rfl
  | true =>
   rw [List.all_eq_true] at hq;have:=hq _ (nd_mem hi);rw [List.all_eq_true] at this;rw [this x hx] at h;cases h
 rw [this];rfl
theorem Fq.mono {S S':Nat→Prop}{w W:World}(h:Fq S w W) (hS:∀ q,S q→S' q):Fq S' w W:=⟨h.os,h.tape,h.output,h.size,fun q hq hs=>h.block q hq (fun x=>hs (hS q x))⟩
theorem Fq.setCell {S:Nat→Prop}{w W:World}(h:Fq S w W) (a:Addr) (v:Value) (ha:S a.block∨w.heap.size≤a.block):Fq S w (W.setCell a v) :=
 ⟨h.os,h.tape,h.output,by have:=h.size;simpa using this,fun q hq hs=>(zt1 W a v q (by rintro rfl;rcases ha with ha | ha;exact hs ha;omega)).trans (h.block q hq hs)⟩
theorem Kb.setCell {w W:World}(h:Kb w W) {b o:Nat}{cs:Array Value}{T:TypeId}{r:Nat×Nat}(hb:W.heap[b]?=some (.cells cs T r)) (v:Value):Kb w (W.setCell ⟨b,o,none⟩ v) :=
 ⟨by have:=h.1;simpa using this,fun q ob ho hc hw=>by
  have h1:=h.2 q ob ho hc hw;refine(zt1 W ⟨b,o,none⟩ v q (fun e=>?_)).trans h1
  have e':q=b:=e;subst e';rw [hb] at h1;simp only [zt3] at h1;subst h1;cases hc⟩
theorem Fq.kb {S:Nat→Prop}{w W:World}(h:Fq S w W) (hS:∀ q,S q→∃ es c,w.heap[q]?=some (.map es c)):Kb w W :=
 ⟨h.size,fun q o ho hc hw=>(h.block q (zq7.1 ho).1 (fun hs=>by
  obtain⟨es,c,hm⟩:=hS q hs;rw [hm] at ho;simp only [zt3] at ho;subst ho;cases hw)).trans ho⟩
structure FK (W2:World) (A:Ad) (F:List Nd) (i k:Nat) (W:World):Prop where
 fq:Fq (fun q=>q=A.mb i) W2 W
 set:SetAt W (A.mb i) F (fun x=>RG.has (nd F i).uses x||((nd F i).next.take k).any fun m=>lv F m x && !(RG.has (nd F m).binds x))
theorem FK.link {w W2 W:World}{A:Ad}{f:Nat}{F:List Nd}{j i k m:Nat}(h:FlIn w A f F) (hi:FI w A f F j W2) (hk:FK W2 A F i k W) (h2:FlatC W2 A f F) (hmm:m<F.length) (hj:F.length - j≤m) (hne:m≠i) (hiN:i<F.length) (hm:∃ es c,W2.heap[A.mb i]?=some (.map es c)):LinkAt W A f F m:=by
 have h3:=h2.fq hk.fq (fun q e=>by rw [e];exact hm) (fun e=>h.ne i hiN e.symm)
 obtain⟨sl,sn,sv,f0,f1,f2,f3⟩:=h3.flat;obtain⟨lv',xv,l0,l1⟩:=h3.link m hmm;obtain⟨sx,n0,n1⟩:=h3.node m hmm;have hs:=hi.done m hmm hj;refine⟨by rw [zb _ _ 4 _ _ _ f0];rfl,h3.pmap,⟨lv',by rw [zb _ _ 0 _ _ _ l0];rfl,l1⟩,by rw [zb _ _ 2 _ _ _ l0];rfl,by rw [zb _ _ 2 _ _ _ n0];rfl,?_,h.once,
  fun x hx=>binds_vars hmm hx,h.few,zr5 (binds_le hmm) h.few⟩
 exact hs.keep (hk.fq.block _ hs.lt (fun e=>hne (h.inj m i hmm hiN e)))
theorem FK.fin {w W2 wr:World}{A:Ad}{f:Nat}{F:List Nd}{i j:Nat}(H:FlIn w A f F) (I2:FI w A f F j W2) (hi:i=F.length - 1 - j) (hj:j<F.length) (us:∀ x∈(nd F i).uses,x∈vars F) (hk:FK W2 A F i (nd F i).next.length wr):FI w A f F (j+1) wr:=by
 have hiN:i<F.length:=by omega
 have hm:∀ q,q=A.mb i→∃ es c,W2.heap[q]?=some (.map es c):=fun q e=>by rw [e];exact(I2.todo i hiN (by omega)).obj
 have hset:=hk.set;rw [List.take_length] at hset;obtain⟨v,i1,i2⟩:=I2.it;refine⟨I2.fq.trans ?_,fun i' hi' hj'=>?_,fun i' hi' hj'=>?_,fun i' hi' hj'=>?_,hk.fq.obj hm I2.box,hk.fq.obj hm I2.res,v,i1,hk.fq.obj hm i2⟩
 ·exact hk.fq.mono fun q e=>⟨i,hiN,e⟩
 ·by_cases e:i'=i
  ·subst e
   exact hset.congr fun x _=>(H.lvs i' x hi').symm
  have h1:=I2.done i' hi' (by omega)
  exact h1.keep (hk.fq.block _ h1.lt (fun e2=>e (H.inj i' i hi' hiN e2)))
 ·have h1:=I2.todo i' hi' (by omega)
  exact h1.keep (hk.fq.block _ h1.lt (fun e2=>by have:=H.inj i' i hi' hiN e2;omega))
 by_cases e:i'=i
 ·subst e;exact us
 exact I2.uses i' hi' (by omega)
theorem FI.flowB {w W:World}{A:Ad}{f:Nat}{F:List Nd}(H:FlIn w A f F) (h:FI w A f F F.length W):flowB F=(vars F).all fun x => !(cross F 0 x):=by
 have:(F.all fun d=>d.uses.all (RG.has (vars F)))=true:=by
  rw [List.all_eq_true];intro d hd;obtain⟨i,hi⟩:=List.getElem?_of_mem hd;have hl:=(zq8.1 hi).1;have e:=nd_some hl
  rw [hi,zt3] at e;rw [List.all_eq_true];intro x hx;rw [e] at hx;exact zx.2 (h.uses i hl (by omega) x hx)
 unfold RG.flowB;rw [this,Bool.true_and]
theorem FI.link0 {w W:World}{A:Ad}{f:Nat}{F:List Nd}(H:FlIn w A f F) (h:FI w A f F F.length W):LinkAt W A f F 0:=by
 have h3:=H.at h.fq;obtain⟨sl,sn,sv,f0,f1,f2,f3⟩:=h3.flat;obtain⟨lv',xv,l0,l1⟩:=h3.link 0 H.pos;obtain⟨sx,n0,n1⟩:=h3.node 0 H.pos;exact⟨by rw [zb _ _ 4 _ _ _ f0];rfl,h3.pmap,⟨lv',by rw [zb _ _ 0 _ _ _ l0];rfl,l1⟩,by rw [zb _ _ 2 _ _ _ l0];rfl,by rw [zb _ _ 2 _ _ _ n0];rfl,h.done 0 H.pos (by omega),H.once,
  fun x hx=>binds_vars H.pos hx,H.few,zr5 (binds_le H.pos) H.few⟩
theorem vset_zero {F:List Nd}{q:Nm→Bool}{n:Nat}(h:n=(VSet F q).length):((n:Int)==0)=(vars F).all fun x => !q x:=by
 rw [h,vset_length,Bool.eq_iff_iff];simp only [beq_iff_eq,List.all_eq_true,Bool.not_eq_true',Int.natCast_eq_zero,List.length_eq_zero_iff];unfold named;rw [List.filter_eq_nil_iff];simp
theorem Fq.trans' {S S':Nat→Prop}{w W W':World}(h:Fq S w W) (k:Fq S' W W') (hs:∀ q,q<w.heap.size→S' q→S q):Fq S w W' :=
 ⟨k.os.trans h.os,k.tape.trans h.tape,k.output.trans h.output,zr5 h.size k.size,fun q hq hn=>(k.block q (zt5 hq h.size) (fun x=>hn (hs q hq x))).trans (h.block q hq hn)⟩
theorem Fq.putObj {S:Nat→Prop}{w W:World}(h:Fq S w W) (D:Nat) (o:Obj) (hD:w.heap.size≤D):Fq S w (W.putObj D o) :=
 ⟨h.os,h.tape,h.output,by have:=h.size;simpa using this,fun q hq hn=>(World.putObj_heap_other (by omega)).trans (h.block q hq hn)⟩
theorem Fq.kb' {S:Nat→Prop}{w W:World}(h:Fq S w W) (hS:∀ q,S q→∃ o,w.heap[q]?=some o∧(o.isCells=true∨o.isWalk=true)):Kb w W :=
 ⟨h.size,fun q o ho hc hw=>(h.block q (zq7.1 ho).1 (fun hs=>by
  obtain⟨o2,hm,h2⟩:=hS q hs;rw [hm] at ho;simp only [zt3] at ho;subst ho;rcases h2 with h2 | h2
  ·rw [h2] at hc;cases hc
  rw [h2] at hw;cases hw)).trans ho⟩
theorem flow_end {w W V:World}{A:Ad}{f D:Nat}{F:List Nd}{b:Bool}(H:FlIn w A f F) (hI:FI w A f F F.length W) (hb:Below W.heap.size W V) (hD:w.heap.size+1<D) (e:b=flowB F) (hq:V.heap[w.heap.size+1]?=some (.cells #[.bool false] 4 (0,0))) :
  FlP w A f F (.returned (.bool b)) ((V.setCell ⟨w.heap.size+1,0,none⟩ (.bool b)).putObj D (.deferred none)):=by
 have hfq:Fq (SL A F) w ((V.setCell ⟨w.heap.size+1,0,none⟩ (.bool b)).putObj D (.deferred none)):=((hI.fq.then hb).setCell _ _ (.inr (by show w.heap.size≤w.heap.size+1;omega))).putObj _ _ (by omega)
 refine⟨hfq,by rw [e],fun _=>(H.at hfq).full fun i hi=>?_⟩
 have h1:=hI.done i hi (by omega)
 have h0:A.mb i<w.heap.size:=(H.live i hi).lt;refine h1.keep ?_;rw [World.putObj_heap_other (by omega),zt1 _ _ _ _ (by show A.mb i≠w.heap.size+1;omega)]
 exact hb.block _ h1.lt
theorem link_drew {W:World}{A:Ad}{f:Nat}{F:List Nd}{i:Nat}(h:LinkAt W A f F i):LinkAt W.drew A f F i:=h.keep (Below.drew (zs9 _ _))
def flowTm2 (w:World) (A:Ad) (f n i bx ib:Nat) (v:Value) (s:Nm):Array Value := #[.pointer (some ⟨f,0,none⟩),.pointer (some ⟨w.heap.size,0,none⟩),.pointer (some ⟨w.heap.size+1,0,none⟩),undef,.pointer (some ⟨bx,0,none⟩),.string s,undef,undef,undef,undef,.pointer (some ⟨f,0,none⟩),.pointer (some ⟨f,0,none⟩),.pointer (some ⟨f,2,none⟩),v,.func (.func 118) #[] #[.pointer (some ⟨w.heap.size+1+1,0,none⟩)],.int .i64 i,.pointer (some ⟨A.nb i,0,none⟩),.pointer (some ⟨A.nb i,0,none⟩),.func (.func 95) #[] #[.pointer (some ⟨ib,0,none⟩)],.string s,undef,undef,undef,undef,undef,undef,undef,undef,undef,undef,undef,undef,undef,undef,undef,undef,undef,undef,undef,undef,undef,undef,undef,undef,undef,undef,undef,undef,undef,undef,undef,undef,undef,undef,undef,undef,undef,undef,undef,undef,undef,undef,undef]
def flowTm (w:World) (A:Ad) (f n:Nat) (v:Value) (j bx:Nat) (iv:Value):Array Value := #[.pointer (some ⟨f,0,none⟩),.pointer (some ⟨w.heap.size,0,none⟩),.pointer (some ⟨w.heap.size+1,0,none⟩),undef,.pointer (some ⟨bx,0,none⟩),undef,undef,undef,undef,undef,.pointer (some ⟨f,0,none⟩),.pointer (some ⟨f,0,none⟩),.pointer (some ⟨f,2,none⟩),v,.func (.func 118) #[] #[.pointer (some ⟨w.heap.size+1+1,0,none⟩)],iv,.pointer (some ⟨A.nb (n - 1 - j),0,none⟩),undef,undef,undef,undef,undef,undef,undef,undef,undef,undef,undef,undef,undef,undef,undef,undef,undef,undef,undef,undef,undef,undef,undef,undef,undef,undef,undef,undef,undef,undef,undef,undef,undef,undef,undef,undef,undef,undef,undef,undef,undef,undef,undef,undef,undef,undef]
theorem flow_any {w:World}{A:Ad}{f:Nat}{F:List Nd}(h:FlIn w A f F):Calls Tryz.prog 90 #[.pointer (some ⟨f,0,none⟩)] w (FlP w A f F):=by
 obtain⟨c,g,o,c2,hat⟩:=h.nodes;have H:=zh h;have HAT:=zh hat
 have C2:=zh c2;obtain⟨n,hn⟩:∃ n,n=F.length:=⟨_,rfl⟩;rw [← hn] at c2;have HN:=zh hn
 have b1:f<w.heap.size:=zs3 w _ c2;clear h hat hn;refine(callsIn_wide (n:=3)).1 (callsIn_of_wp_marks Tryz.func90 rfl trivial ?_ rfl);refine wpIn_wide.2 ?_;simp only [Tryz.ntmps90,List.size_toArray,zv2,List.length_nil,Nat.reduceAdd,Nat.reduceSub,Array.replicate_succ,Array.replicate_zero,List.push_toArray,List.append_toArray,List.nil_append,List.cons_append]
 go_wp2_with fail
 refine(backwardN_any _ _ _ _).mono ?_;rintro e w1 ⟨rfl,rfl⟩
 go_wp2_with fail
 obtain⟨W0,hW0⟩:∃ W,W=((w.alloc (.cells #[.pointer (some ⟨f,0,none⟩)] 99)).alloc (.cells #[.bool false] 4)).alloc (.cells #[.slice (some ⟨g,o,none⟩) n c] 115):=⟨_,rfl⟩;obtain⟨n0,n1,n2,nb⟩:=new3 w (.cells #[.pointer (some ⟨f,0,none⟩)] 99) (.cells #[.bool false] 4) (.cells #[.slice (some ⟨g,o,none⟩) n c] 115);rw [← hW0] at n0 n1 n2 nb ⊢;have hZ:W0.heap.size=w.heap.size+3:=by rw [hW0];simp
 have I0:Hid (FI w A f F 0 W0):=⟨Fq.of_below nb (zr4 _),fun i hi hj=>by omega,fun i hi _=>map_below nb (H.out.live i hi),fun i hi hj=>by omega,n0,n1,_,C2.out,by rw [← HN.out];exact n2⟩
 have HZ:=zh hZ;clear n0 n1 n2 nb hW0 hZ c2 b1;refine range_outer (P:=Tryz.prog) (n:=1) (B:=w.heap.size+3) (m:=n) (encs:=bkEnc n A.nb) (I:=FI w A f F) (X:=FX w A f F)
  (A:=FA w A F (flowTm w A f n (.slice (some ⟨g,o,none⟩) n c)))
  (Rd:=BkRd (w.heap.size+1+1) (some ⟨g,o,none⟩) c g o n A.nb) rfl (enters_of Tryz.func118 (by kernel_rfl) rfl) (backN_iter _ _ _ _ _ _ _ (fun _=>rfl) (by have:=H.out.len;have:=HN.out;omega)) (by rw [HZ.out];exact zr4 _) ?rd (fun j W W' h b=>h.bk b) (fun W W' h b=>h.bk b) (fun j a W W' h b=>h.bk b) (fun j W W' h b=>h.below b) (fun _=>rfl) I0.out ?assign ?body ?done ?stop
 case rd =>
  intro j W hI;obtain⟨v,i1,i2⟩:=hI.it;rw [C2.out] at i1;simp only [zt3] at i1;subst i1;exact⟨by rw [zb _ _ 0 _ _ _ i2,← HN.out];rfl,fun k hk=>hI.fq.kept H.out.sets _ _ (HAT.out k (by rw [← HN.out];exact hk))⟩
 case assign =>
  intro l j W hI hj;have HI:=zh hI;clear hI;unfold bkEnc;simp only [List.zip_toArray,List.zip_cons_cons,List.zip_nil_left,List.foldl_toArray',List.foldl_cons,List.foldl_nil,zq4,zq6,zq5]
  gi_wp2
  refine⟨(zs9 _ _).alloc (zr4 _) _,W.heap.size,?_,?_,?_⟩
  ·rw [← HN.out];rfl
  ·rw [← HN.out];exact zs2 W _
  have h1:=HI.out.it;obtain⟨v,_,i2⟩:=h1;have:=(zq7.1 i2).1
  omega
 case body =>
  rintro l j a₁ W hl ⟨r,hr⟩ hI ⟨bx,rfl,hbx,hbl⟩ hj;obtain⟨i,hi⟩:∃ i,i=n - 1 - j:=⟨_,rfl⟩;rw [← HN.out,← hi] at hbx;unfold flowTm;rw [← HN.out,← hi];have hiN:i<F.length:=by rw [← HN.out];omega
  have HI:=zh hI;have FC:=zh (H.out.at hI.fq)
  have HR:=zh hr;have HBX:=zh hbx
  have HBL:=zh hbl;have HII:=zh (And.intro hi (And.intro hj hiN))
  have x0:W.cell? ⟨bx,0,none⟩=some (.pointer (some ⟨A.nb i,0,none⟩)):=by rw [zb _ _ 0 _ _ _ hbx];rfl
  have bb:bx<W.heap.size:=(zq7.1 hbx).1;clear hI hr hbx hbl hl hi hj hiN
  gi_wp2
  refine⟨trivial,(CallsIn.inRound l (callsIn_wide.2 (uses_any (A.nb i) W))).mono ?_⟩;rintro e W1 ⟨rfl,rfl⟩
  gi_wp2
  obtain⟨ib,hib⟩:∃ ib,ib=W.heap.size:=⟨_,rfl⟩;obtain⟨W2,hW2⟩:∃ W2,W2=W.alloc (.cells #[.pointer (some ⟨A.nb i,0,none⟩)] 100):=⟨_,rfl⟩;rw [← hW2,← hib];have B2:Hid (Below W.heap.size W W2):=by rw [hW2];exact(zs9 _ _).alloc (zr4 _) _
  have IB:Hid (W2.heap[ib]?=some (.cells #[.pointer (some ⟨A.nb i,0,none⟩)] 100 (0,0))):=by rw [hW2,hib];exact zs2 W _
  have FC2:=zh (FC.out.below B2.out);have HR2:=zh (zm B2.out HR.out)
  have BX2:=zh (zm B2.out HBX.out);have IBL:Hid (w.heap.size+3≤ib):=by have:=HBL.out;rw [hib];show _≤_;omega
  clear x0 bb hW2 hib;obtain⟨sx,nd1,nd2⟩:=FC2.out.node i HII.out.2.2;obtain⟨va,aa,ab,ca,cb,hxc⟩:=(FC2.out.exp i HII.out.2.2).open;obtain⟨ad2,c2,hva,hargs⟩:=hxc.args.at';have HXC:=zh hxc;have ND1:=zh nd1
  have ND2:=zh nd2;have HVA:=zh hva
  have HAR:=zh hargs;clear nd1 nd2 hxc hva hargs;obtain⟨na,hna⟩:∃ na,na=(nd F i).e.args.length:=⟨_,rfl⟩;have HNA:=zh hna
  have AL:=zh (H.out.args i HII.out.2.2);have I2:Hid (FI w A f F j W2):=HI.out.below B2.out
  have EMP:Hid (IMap Tryz.prog W2 (A.mb i) []):=I2.out.todo i HII.out.2.2 (by have:=HII.out;have:=HN.out;omega)
  have SM:Hid (∀ q,q=A.mb i→∃ es c,W2.heap[q]?=some (.map es c)):=fun q e=>by rw [e];exact EMP.out.obj
  have HG:Hid (0<(nd F i).e.args.length→∃ g2 o2,ad2=some ⟨g2,o2,none⟩∧∀ (k:Nat) x,(nd F i).e.args[k]?=some x→∃ m:Int,W2.cell? ⟨g2,o2+k*2,none⟩=some (.string x)∧W2.cell? ⟨g2,o2+k*2+1,none⟩=some (.int .i64 m)):=HAR.out;obtain⟨g2,o2,hg2,hat2⟩:∃ g2 o2,(0<(nd F i).e.args.length→ad2=some ⟨g2,o2,none⟩)∧∀ (k:Nat) x,(nd F i).e.args[k]?=some x→∃ m:Int,W2.cell? ⟨g2,o2+k*2,none⟩=some (.string x)∧W2.cell? ⟨g2,o2+k*2+1,none⟩=some (.int .i64 m):=by
   by_cases h0:0<(nd F i).e.args.length
   ·obtain⟨g2,o2,e1,e2⟩:=HG.out h0
    exact⟨g2,o2,fun _=>e1,e2⟩
   exact⟨0,0,fun h=>absurd h h0,fun k x hx=>by have:=(zq8.1 hx).1;omega⟩
  have HG2:=zh hg2;have HAT2:=zh hat2
  clear hna hg2 hat2 HG HAR;refine range_inner (P:=Tryz.prog) (n:=1) (k:=1) (B:=W2.heap.size) (m:=(nd F i).uses.length) (encs:=usEnc (nd F i).e.args) (I:=FJ W2 A F i) (X:=FJX W2 A F i (w.heap.size+1))
   (A:=fun j2 a W'=>a={ tmps:=flowTm2 w A f n i bx ib (.slice (some ⟨g,o,none⟩) n c) ((nd F i).uses.getD j2 ⟨#[]⟩),defers:=[] })
   (Rd:=UsRd ib (A.nb i) (A.xb i) (A.xo i) ad2 c2 g2 o2 (nd F i).e.args) HR2.out rfl (enters_of Tryz.func95 (by kernel_rfl) rfl) (uses_iter _ _ _ _ _ _ _ _ _ HG2.out AL.out.1) (zr4 _) ?rd2
   (fun j W W' h b=>⟨h.fq.bk b (zr4 _),map_bk b h.set,h.us⟩) (fun W W' h b=>⟨h.fq.bk b (zr4 _),cells_bk b h.res,h.no⟩) (fun _ _ _ _ h _=>h) (fun j W W' h b=>⟨h.fq.then b,map_below b h.set,h.us⟩) (fun _=>rfl)
   ⟨Fq.refl _ _,by unfold SetAt;rw [List.take_zero,vset_nil];exact EMP.out,fun x hx=>absurd hx (by simp)⟩ ?assign2 ?body2 ?done2 ?stop2
  case rd2 =>
   intro j2 W' h;have hk:=h.fq.kept SM.out;have hc5:=HXC.out.c5
   rw [HVA.out] at hc5;exact⟨by rw [zb _ _ 0 _ _ _ (h.fq.obj SM.out IB.out)];rfl,by rw [zb _ _ 0 _ _ _ (h.fq.obj SM.out ND1.out)];rfl,hk _ _ hc5,fun k x hx=>by obtain⟨m,e1,e2⟩:=HAT2.out k x hx;exact⟨m,hk _ _ e1,hk _ _ e2⟩⟩
  case assign2 =>
   intro l2 j2 W' hI2 hj2;unfold usEnc;simp only [List.zip_toArray,List.zip_cons_cons,List.zip_nil_left,List.foldl_toArray',List.foldl_cons,List.foldl_nil,zq4,zq6,zq5]
   gi_wp2
   exact⟨zs9 _ _,rfl⟩
  case body2 =>
   rintro l2 j2 a2 W' hl2 ⟨r2,hr2⟩ hJ rfl hj2;obtain⟨x,hx⟩:∃ x,(nd F i).uses[j2]?=some x:=⟨_,zq9 hj2⟩;have hs:(nd F i).uses.getD j2 ⟨#[]⟩=x:=by rw [zt4,hx];rfl
   unfold flowTm2;rw [hs];have hxu:x∈(nd F i).uses:=zr1 hx;have hxa:x∈(nd F i).e.args:=by unfold Nd.uses at hxu;exact(List.mem_filter.1 hxu).1
   have HJ:=zh hJ;have HX:=zh hx
   have HXU:=zh hxu;have HXS:=zh (AL.out.2 x hxa)
   have FC3:Hid (FlatC W' A f F):=FC2.out.fq hJ.fq SM.out (fun e=>H.out.ne i HII.out.2.2 e.symm)
   obtain⟨sl,sn,sv,f0,-,-,-⟩:=FC3.out.flat;have f1:W'.cell? ⟨w.heap.size,0,none⟩=some (.pointer (some ⟨f,0,none⟩)):=by rw [zb _ _ 0 _ _ _ (hJ.fq.obj SM.out I2.out.box)];rfl
   have f4:W'.cell? ⟨f,4,none⟩=some (.map (some A.pl)):=by rw [zb _ _ 4 _ _ _ f0];rfl
   have RES:=zh (hJ.fq.obj SM.out I2.out.res);have BX3:=zh (hJ.fq.obj SM.out BX2.out)
   have ND3:=zh (hJ.fq.obj SM.out ND1.out);have KB:=zh (hJ.fq.kb SM.out)
   clear hx hs hxu hxa hJ hr2 hl2 f0 hj2
   by_cases hv:RG.has (vars F) x=true
   ·have HV:=zh hv
    have HXV:=zh (zx.1 hv);have x0:W'.cell? ⟨bx,0,none⟩=some (.pointer (some ⟨A.nb i,0,none⟩)):=by rw [zb _ _ 0 _ _ _ BX3.out];rfl
    have x2:W'.cell? ⟨A.nb i,2,none⟩=some (.map (some (A.mb i))):=by rw [zb _ _ 2 _ _ _ ND3.out];rfl
    have HPL:=zh (place_lt HXV.out)
    gi_wp2_with (first | (gi_at_lookup;refine wpListIn_pis rfl _ _ rfl A.pl (vars F) rfl FC3.out.pmap x HXS.out rfl ?_;intro c0 hc0;have HC0:=zh (hc0 _ (place_at HXV.out));clear hc0;rw [hv]) | (gi_at_mapUpdate;refine wpListIn_iput rfl _ _ _ 108 rfl Tryz.underlying108 (A.mb i) _ rfl HJ.out.set (by have:=vset_le (F:=F) (RG.has ((nd F i).uses.take j2));have:=H.out.few;omega) (place F x) 1 (by rw [← HC0.out];rfl) rfl (wf_nat (by have:=H.out.few;have:=HPL.out;omega)) (by decide) ?_))
    intro W3 hm3 hg3
    gi_wp2
    have hf3:Fq (fun q=>q=A.mb i) W' W3:=(Fq.refl _ W').grown hg3 (fun q e _=>by simp at e;exact e.symm)
    have hmap:∀ q,q=A.mb i→∃ es c,W'.heap[q]?=some (.map es c):=fun q e=>by rw [e];exact IMap.obj HJ.out.set
    refine⟨hf3.kb hmap,HJ.out.fq.trans ?_,(SetAt.put H.out.once HXV.out hm3).congr fun y _=>?_,fun y hy=>?_⟩
    ·exact⟨hf3.os,hf3.tape,hf3.output,hf3.size,hf3.block⟩
    ·rw [List.take_add_one,HX.out]
     simp only [Option.toList_some,has_append]
     congr 1
     simp [RG.has,eq_comm]
    rw [List.take_add_one,HX.out] at hy;rcases List.mem_append.1 hy with hy | hy
    ·exact HJ.out.us y hy
    simp at hy;subst hy;exact HXV.out
   have hv':RG.has (vars F) x=false:=by simpa using hv
   have HNO:=zh (flow_no HII.out.2.2 HXU.out hv');have q0:W'.cell? ⟨w.heap.size+1,0,none⟩=some (.bool false):=by rw [zb _ _ 0 _ _ _ RES.out];rfl
   have qf:W'.frozen? ⟨w.heap.size+1,0,none⟩=false:=zs1 W' _ 0 _ _ RES.out;clear hv
   gi_wp2_with (gi_at_lookup;refine wpListIn_pis rfl _ _ rfl A.pl (vars F) rfl FC3.out.pmap x HXS.out rfl ?_;intro c0 _;rw [hv'])
   exact⟨(Kb.refl W').setCell RES.out _,(HJ.out.fq.mono fun q e => .inl e).setCell _ _ (.inl (.inr rfl)),heap_setCell_same W' _ 0 _ _ _ RES.out,HNO.out⟩
  case done2 =>
   intro W3 hJ;have HJ:=zh hJ;have KK:=zh (hJ.fq.kept SM.out)
   have FC3:Hid (FlatC W3 A f F):=FC2.out.fq hJ.fq SM.out (fun e=>H.out.ne i HII.out.2.2 e.symm)
   have BX3:=zh (hJ.fq.obj SM.out BX2.out);have ND3:=zh (hJ.fq.obj SM.out ND1.out)
   have x0:W3.cell? ⟨bx,0,none⟩=some (.pointer (some ⟨A.nb i,0,none⟩)):=by rw [zb _ _ 0 _ _ _ BX3.out];rfl
   obtain⟨-,adx,cx,hsx,hatx⟩:=ND2.out;have HAX:=zh hatx;obtain⟨nx,hnx⟩:∃ nx,nx=(nd F i).next.length:=⟨_,rfl⟩;have HNX:=zh hnx
   have x1:W3.cell? ⟨A.nb i,1,none⟩=some (.slice adx nx cx):=by rw [zb _ _ 1 _ _ _ ND3.out,hsx,← hnx];rfl
   have hnz:(nx:Int)≤1000000000:=by have:=H.out.kids i HII.out.2.2;omega
   clear hJ hatx hsx hnx
   gi_wp2
   gi_loopw [41] (fun iv wr=>∃ k:Nat,k≤nx∧iv = .int .i64 k∧FK W2 A F i k wr) (fun iv _=>nx - (intOf iv).toNat)
   case atStart=>exact⟨0,zv3 _,rfl,HJ.out.fq,by have:=HJ.out.set;rw [List.take_length] at this;exact this.congr fun x _=>by simp⟩
   obtain⟨k,hk,rfl,hfk⟩:=hrel;have FKK:=zh hfk;have KL:=zh hk
   clear hk hfk x0 x1
   by_cases hlt:k<nx
   ·obtain⟨m,hm⟩:∃ m,(nd F i).next[k]?=some m:=⟨_,zq9 (by rw [← HNX.out];exact hlt)⟩
    obtain⟨hmi,hmF⟩:=H.out.nxt i HII.out.2.2 m (zr1 hm);obtain⟨gx,ox,rfl,hax⟩:=HAX.out (by rw [← HNX.out];omega)
    have hkk:=FKK.out.fq.kept SM.out;have x1:=hkk _ _ (hax k _ (ptrs_at (by rw [List.getElem?_map,hm];rfl)))
    have x0:wr.cell? ⟨bx,0,none⟩=some (.pointer (some ⟨A.nb i,0,none⟩)):=by rw [zb _ _ 0 _ _ _ (FKK.out.fq.obj SM.out BX2.out)];rfl
    have x2:wr.cell? ⟨A.nb i,2,none⟩=some (.map (some (A.mb i))):=by rw [zb _ _ 2 _ _ _ (FKK.out.fq.obj SM.out ND1.out)];rfl
    have x3:wr.cell? ⟨w.heap.size,0,none⟩=some (.pointer (some ⟨f,0,none⟩)):=by rw [zb _ _ 0 _ _ _ (FKK.out.fq.obj SM.out I2.out.box)];rfl
    have LK:=zh (FKK.out.link H.out I2.out FC2.out hmF (by have:=HII.out;have:=HN.out;omega) (by omega) HII.out.2.2 (SM.out _ rfl))
    have hmx:Tryz.prog.follows .mixedOrders=true:=by kernel_rfl
    have HM:=zh hm;have HLT:=zh hlt
    have BND:Hid ((vars F).length≤1000000):=zh H.out.few;clear hm hmi hmF hax hkk hlt
    gi_wp2
    have UN:∀ (w1:World) (b1:Nat),Below wr.heap.size wr w1→wr.heap.size≤b1→SetAt w1 b1 F (cross F m) →
      CallsIn (Fence.wide.inRound l) 0 Tryz.prog 77 #[.map (some (A.mb i)),.slice (some ⟨w1.heap.size,0,none⟩) 1 1] (w1.alloc (.cells #[.map (some b1)] 107)) fun e w5=>e = .returned (.tuple #[])∧FK W2 A F i (k+1) w5:=by
     intro w1 b1 h1 h2 h3;obtain⟨W4,hW4⟩:∃ W4,W4=w1.alloc (.cells #[.map (some b1)] 107):=⟨_,rfl⟩;have a1:Below wr.heap.size wr W4:=by rw [hW4];exact h1.alloc h1.size _
     have a2:Below w1.heap.size w1 W4:=by rw [hW4];exact(zs9 _ _).alloc (zr4 _) _
     have a3:W4.cell? ⟨w1.heap.size,0,none⟩=some (.map (some b1)):=by rw [hW4,zb _ _ 0 _ _ _ (zs2 w1 _)];rfl
     rw [← hW4];refine(CallsIn.inRound l (callsIn_wide.2 (union_any (c:=1) (map_below a1 FKK.out.set) (map_below a2 h3) (by have:A.mb i<wr.heap.size:=FKK.out.set.lt;omega) a3 (Nat.lt_of_le_of_lt (Nat.add_le_add (vset_le _) (vset_le _)) (by have:=BND.out;omega))))).mono ?_
     rintro e w5 ⟨rfl,hg5,hm5⟩;refine⟨rfl,(FKK.out.fq.then a1).grown hg5 (fun q e _=>by simp at e;exact e.symm),(unionL_sets H.out.once hm5).congr fun x _=>?_⟩
     rw [List.take_add_one,HM.out,List.any_append];simp [cross,Bool.or_assoc]
    refine wpIn_region_round (fun w'=>w'.cell? ⟨bx,0,none⟩=some (.pointer (some ⟨A.nb i,0,none⟩))∧w'.cell? ⟨A.nb i,2,none⟩=some (.map (some (A.mb i)))∧w'.cell? ⟨w.heap.size,0,none⟩=some (.pointer (some ⟨f,0,none⟩))) hmx (no_defers rfl) ⟨x0,x2,x3⟩ ?_
    intro hHeld;refine zs5 (i:=0) (v := .pointer (some ⟨A.nb i,0,none⟩)) rfl (by kernel_rfl) (by kernel_rfl) (by kernel_rfl) (fun _ _ _ h=>h) (Or.inl ⟨by rfl,?_⟩) (by assumption) ?_
    ·(intro w hSw;(try dsimp only at hSw);go_simp)
    simp only [Act.put,zq4,zq5,zq6];refine zs5 (i:=1) (v := .pointer (some ⟨A.nb i,0,none⟩)) rfl (by kernel_rfl) (by kernel_rfl) (by kernel_rfl) (fun _ _ _ h=>h) (Or.inl ⟨by rfl,?_⟩) (by assumption) ?_
    ·(intro w hSw;(try dsimp only at hSw);go_simp)
    simp only [Act.put,zq4,zq5,zq6];refine zs5 (i:=2) (v := .pointer (some ⟨A.nb i,2,none⟩)) rfl (by kernel_rfl) (by kernel_rfl) (by kernel_rfl) (fun _ _ _ h=>h) (Or.inl ⟨by rfl,?_⟩) (by assumption) ?_
    ·(intro w hSw;(try dsimp only at hSw);go_simp)
    simp only [Act.put,zq4,zq5,zq6];refine zs5 (i:=3) (v := .map (some (A.mb i))) rfl (by kernel_rfl) (by kernel_rfl) (by kernel_rfl) (fun _ _ _ h=>h) (Or.inl ⟨by rfl,?_⟩) (by assumption) ?_
    ·(intro w hSw;(try dsimp only at hSw);go_simp)
    simp only [Act.put,zq4,zq5,zq6];refine zs5 (i:=4) (v := .pointer (some ⟨f,0,none⟩)) rfl (by kernel_rfl) (by kernel_rfl) (by kernel_rfl) (fun _ _ _ h=>h) (Or.inl ⟨by rfl,?_⟩) (by assumption) ?_
    ·(intro w hSw;(try dsimp only at hSw);go_simp)
    simp only [Act.put,zq4,zq5,zq6];refine zs5 (i:=5) (v := .pointer (some ⟨A.lb m,0,none⟩)) rfl (by kernel_rfl) (by kernel_rfl) (by kernel_rfl) (fun _ _ _ h=>h) (Or.inl ⟨by rfl,?_⟩) (by assumption) ?_
    ·(intro w hSw;(try dsimp only at hSw);go_simp)
    simp only [Act.put,zq4,zq5,zq6];refine zs6 (rs:=[6]) (by kernel_rfl) (by simp) ?_
    refine zs7 rfl (fun K hK=>?_) zs8
    go_simp
    refine(crossing_any (link_drew LK.out)).mono ?_;rintro e w1 ⟨b1,rfl,hb1,hs1,hw1⟩;have HB1:Hid (wr.heap.size≤b1):=hb1;have HS1:=zh hs1
    have HW1:Hid (Below wr.heap.size wr w1):=((zs9 _ _).drew).trans hw1;clear hb1 hs1 hw1
    dsimp only
    refine hK.out _ _ ⟨zd HW1.out _ _ x0,zd HW1.out _ _ x2,zd HW1.out _ _ x3⟩ (fun hHeld2=>?_)
    clear hK K hHeld;refine zs6 (rs:=[7]) (by kernel_rfl) (by simp) ?_
    refine zs7 rfl (fun K hK=>?_) zs8
    go_simp
    refine hK.out _ _ (by have B4:=zd ((zs9 w1.heap.size w1).alloc (zr4 _) (.cells #[.map (some b1)] 107));exact⟨B4 _ _ hHeld2.1,B4 _ _ hHeld2.2.1,B4 _ _ hHeld2.2.2⟩) (fun hHeld3=>?_)
    clear hK K hHeld2;refine zs6 (rs:=[8]) (by kernel_rfl) (by simp) ?_
    refine zs7 rfl (fun K hK=>?_) zs8
    go_simp
    refine(callsIn_wide.1 (CallsIn.outOfRound (UN w1 b1 HW1.out HB1.out HS1.out))).mono ?_;rintro e w5 ⟨rfl,hu5⟩;have HU5:=zh hu5;clear hu5
    dsimp only
    refine hK.out _ _ ⟨HU5.out.fq.kept SM.out _ _ ?_,HU5.out.fq.kept SM.out _ _ ?_,HU5.out.fq.kept SM.out _ _ ?_⟩ (fun hHeld4=>?_)
    ·rw [zb _ _ 0 _ _ _ BX2.out];rfl
    ·rw [zb _ _ 2 _ _ _ ND1.out];rfl
    ·rw [zb _ _ 0 _ _ _ I2.out.box];rfl
    clear hK K hHeld3;refine wpAnyH_done (by kernel_rfl) ?_ _
    refine OnlyN.done ?_;clear hHeld4 UN x0 x1 x2 x3
    gi_wp2
    go_roundw
    case rel=>exact⟨k+1,HLT.out,by go_num,HU5.out⟩
    case measure=>have:=HLT.out;simp [intOf];omega
   have HK:=zh (show k=nx by have:=KL.out;omega)
   have hlz:(nx:Int)≤k:=by have:=HK.out;omega
   have FIN:Hid (Kb W wr∧FI w A f F (j+1) wr):=by
    refine⟨(Kb.of_below B2.out).trans (FKK.out.fq.kb SM.out),FK.fin (i:=i) (j:=j) H.out I2.out (by rw [← HN.out];exact HII.out.1) (by rw [← HN.out];exact HII.out.2.1) ?_ ?_⟩
    ·have:=HJ.out.us
     rw [List.take_length] at this;exact this
    have:=FKK.out;rw [HK.out,HNX.out] at this;exact this
   clear hlt
   gi_wp2
   exact FIN.out
  intro W3 hJ;have HJ:=zh hJ;clear hJ
  gi_wp2
  refine⟨(Kb.of_below B2.out).trans (HJ.out.fq.kb' fun q hq=>?_),⟨I2.out.fq.trans' HJ.out.fq fun q hq hs=>?_,HJ.out.res,HJ.out.no⟩⟩
  ·rcases hq with rfl | rfl
   ·obtain⟨es,cl,h⟩:=EMP.out.obj
    exact⟨_,h,.inr rfl⟩
   exact⟨_,I2.out.res,.inl rfl⟩
  rcases hs with rfl | rfl
  ·exact⟨i,HII.out.2.2,rfl⟩
  omega
 case done =>
  intro D W hD hI hd;have HI:=zh hI;have HD:=zh hd
  have HDL:=zh hD;rw [HN.out] at hI;have LK:=zh (FI.link0 H.out hI)
  have FB:=zh (FI.flowB H.out hI);have z0:W.cell? ⟨w.heap.size,0,none⟩=some (.pointer (some ⟨f,0,none⟩)):=by rw [zb _ _ 0 _ _ _ hI.box];rfl
  have z1:W.cell? ⟨f,0,none⟩=some (.pointer (some ⟨A.lb 0,0,none⟩)):=by
   obtain⟨sl,sn,sv,f0,f1,f2,f3⟩:=(H.out.at hI.fq).flat;rw [zb _ _ 0 _ _ _ f0];rfl
  have HI:=zh hI;have RES:=zh hI.res
  have hff:f<w.heap.size:=zs3 w _ C2.out;have keep2:∀ (V:World) (v:Value),w.heap.size+1≠f→V.cell? ⟨w.heap.size,0,none⟩=some (.pointer (some ⟨f,0,none⟩))∧V.cell? ⟨f,0,none⟩=some (.pointer (some ⟨A.lb 0,0,none⟩))→(V.setCell ⟨w.heap.size+1,0,none⟩ v).cell? ⟨w.heap.size,0,none⟩=some (.pointer (some ⟨f,0,none⟩))∧(V.setCell ⟨w.heap.size+1,0,none⟩ v).cell? ⟨f,0,none⟩=some (.pointer (some ⟨A.lb 0,0,none⟩)):=fun V v hne h=>⟨by rw [World.cell?_setCell_far _ _ _ _ (by simp)];exact h.1,by rw [World.cell?_setCell_far _ _ _ _ (by simpa using hne)];exact h.2⟩
  have KP2:=zh keep2;clear keep2 hI hd hD;have hne:w.heap.size+1≠f:=by omega
  go_wp2_with fail
  refine wp_region_noPanic ?_;refine wp_region_held_drew (S:=(fun w'=>w'.cell? ⟨w.heap.size,0,none⟩=some (.pointer (some ⟨f,0,none⟩))∧w'.cell? ⟨f,0,none⟩=some (.pointer (some ⟨A.lb 0,0,none⟩)))) (by kernel_rfl) ⟨z0,z1⟩ (fun hHeld=>?_)
  obtain⟨k0,k1⟩:=hHeld;refine zs5 (i:=0) (v:=?_) rfl (by kernel_rfl) (by kernel_rfl) (by kernel_rfl) (fun _ _ _ h=>h) (Or.inl ⟨by rfl,?_⟩) ⟨k0,k1⟩ ?_
  rotate_left
  ·intro wz hSw
   obtain⟨zk0,zk1⟩:=hSw
   try simp only [zq1,zq2,zq3]
   go_simp
   try with_reducible rfl
  try simp only [Act.put,zq1,zq2,zq3,zq4,zq5,zq6]
  refine zs5 (i:=1) (v:=?_) rfl (by kernel_rfl) (by kernel_rfl) (by kernel_rfl) (fun _ _ _ h=>h) (Or.inl ⟨by rfl,?_⟩) ⟨k0,k1⟩ ?_
  rotate_left
  ·intro wz hSw
   obtain⟨zk0,zk1⟩:=hSw
   try simp only [zq1,zq2,zq3]
   go_simp
   try with_reducible rfl
  try simp only [Act.put,zq1,zq2,zq3,zq4,zq5,zq6]
  refine zs5 (i:=2) (v:=?_) rfl (by kernel_rfl) (by kernel_rfl) (by kernel_rfl) (fun _ _ _ h=>h) (Or.inl ⟨by rfl,?_⟩) ⟨k0,k1⟩ ?_
  rotate_left
  ·intro wz hSw
   obtain⟨zk0,zk1⟩:=hSw
   try simp only [zq1,zq2,zq3]
   go_simp
   try with_reducible rfl
  try simp only [Act.put,zq1,zq2,zq3,zq4,zq5,zq6]
  refine zs5 (i:=3) (v:=?_) rfl (by kernel_rfl) (by kernel_rfl) (by kernel_rfl) (fun _ _ _ h=>h) (Or.inl ⟨by rfl,?_⟩) ⟨k0,k1⟩ ?_
  rotate_left
  ·intro wz hSw
   obtain⟨zk0,zk1⟩:=hSw
   try simp only [zq1,zq2,zq3]
   go_simp
   try with_reducible rfl
  try simp only [Act.put,zq1,zq2,zq3,zq4,zq5,zq6]
  refine zs5 (i:=4) (v:=?_) rfl (by kernel_rfl) (by kernel_rfl) (by kernel_rfl) (fun _ _ _ h=>h) (Or.inl ⟨by rfl,?_⟩) ⟨k0,k1⟩ ?_
  rotate_left
  ·intro wz hSw
   obtain⟨zk0,zk1⟩:=hSw
   try simp only [zq1,zq2,zq3]
   go_simp
   try with_reducible rfl
  try simp only [Act.put,zq1,zq2,zq3,zq4,zq5,zq6]
  refine zs6 (rs:=[5]) (by kernel_rfl) (by simp) ?_
  refine zs7 rfl (fun K hK=>?_) zs8
  try simp only [zq1,zq2,zq3]
  go_simp
  go_at_call 60
  (refine(crossing_any (link_drew LK.out)).mono ?_)
  (rintro e w1 ⟨b1,rfl,hb1,hs1,hw1⟩)
  (obtain⟨n1,hn1⟩:∃ n1,n1=(VSet F (cross F 0)).length:=⟨_,rfl⟩)
  (have e1:(Builtin.len_ #[108] 3 #[.map (some b1)]).run Tryz.prog w1 = .ok (.int .i64 n1) w1:=by (obtain⟨DD,h1,h2,_⟩:=hs1;have:=h1.len Tryz.underlying108 3;rw [h2,← hn1] at this;exact this))
  (have HN1:=zh hn1)
  (have HW1:Hid (Below W.heap.size W w1):=((zs9 _ _).drew).trans hw1)
  (clear hn1 hb1 hs1 hw1)
  (have y0:=zd HW1.out _ _ z0)
  (have y1:=zd HW1.out _ _ z1)
  (have y2:=zm HW1.out RES.out)
  (have y3:w1.cell? ⟨w.heap.size+1,0,none⟩=some (.bool false):=by (rw [zb _ _ 0 _ _ _ y2];rfl))
  (have y4:w1.frozen? ⟨w.heap.size+1,0,none⟩=false:=zs1 _ _ 0 _ _ y2)
  (have Y2:=zh y2)
  (clear y2)
  (try simp only [])
  refine hK.out _ _ ?hs (fun hHeld=>?_)
  case hs=>exact⟨y0,y1⟩
  clear hK K k0 k1;obtain⟨k0,k1⟩:=hHeld
  try simp only [Act.put,zq1,zq2,zq3,zq4,zq5,zq6]
  refine zs6 (rs:=[6]) (by kernel_rfl) (by simp) ?_
  refine zs7 rfl (fun K hK=>?_) zs8
  try simp only [zq1,zq2,zq3]
  go_simp
  refine hK.out _ _ ?hs (fun hHeld=>?_)
  case hs=>exact⟨k0,k1⟩
  clear hK K k0 k1;obtain⟨k0,k1⟩:=hHeld
  try simp only [Act.put,zq1,zq2,zq3,zq4,zq5,zq6]
  refine zs5 (i:=7) (v:=?_) rfl (by kernel_rfl) (by kernel_rfl) (by kernel_rfl) (fun _ _ _ h=>h) (Or.inl ⟨by rfl,?_⟩) ⟨k0,k1⟩ ?_
  rotate_left
  ·intro wz hSw
   obtain⟨zk0,zk1⟩:=hSw
   try simp only [zq1,zq2,zq3]
   go_simp
   try with_reducible rfl
  try simp only [Act.put,zq1,zq2,zq3,zq4,zq5,zq6]
  refine zs6 (rs:=[8]) (by kernel_rfl) (by simp) ?_
  refine zs7 rfl (fun K hK=>?_) zs8
  try simp only [zq1,zq2,zq3]
  go_simp
  refine hK.out _ _ ?hs (fun hHeld=>?_)
  case hs=>exact KP2.out _ _ hne ⟨k0,k1⟩
  clear hK K k0 k1 hHeld;refine wpAnyH_done (by kernel_rfl) ?_ _
  refine NoPanic.normal ?_
  go_wp2_with fail
  have HZ0:=HZ.out;have DL:w.heap.size+3≤D:=by have:=HDL.out;omega
  obtain⟨bv,hbv⟩:∃ bv,bv=((n1:Int)==0):=⟨_,rfl⟩;rw [← hbv];have hq2:(w1.setCell ⟨w.heap.size+1,0,none⟩ (.bool bv)).heap[w.heap.size+1]?=some (.cells #[.bool bv] 4 (0,0)):=heap_setCell_same w1 _ 0 _ _ _ Y2.out;have hd2:(w1.setCell ⟨w.heap.size+1,0,none⟩ (.bool bv)).heap[D]?=some (.deferred (some [])):=(zt1 _ _ _ _ (by show D≠w.heap.size+1;omega)).trans (zm HW1.out HD.out)
  refine⟨by simp,.inl ⟨_,_,rfl,run_takeDeferred hd2,?_⟩⟩
  have FIN:=flow_end (b:=bv) (D:=D) H.out HI.out HW1.out (by omega) (by rw [hbv,vset_zero HN1.out,FB.out]) Y2.out
  have u0:((w1.setCell ⟨w.heap.size+1,0,none⟩ (.bool bv)).putObj D (.deferred none)).cell? ⟨w.heap.size+1,0,none⟩=some (.bool bv):=by
   rw [zb _ _ 0 _ _ _ ((World.putObj_heap_other (by omega)).trans hq2)];rfl
  exact⟨.bool bv,by simp [results,Tryz.results90,go_sem,u0],FIN⟩
 intro D W hD hX hd;have HX:=zh hX;have HD:=zh hd
 have HDL:=zh hD;clear hX hd hD
 go_wp2_with fail
 have HZ0:=HZ.out;have DL:w.heap.size+3≤D:=by have:=HDL.out;omega
 refine⟨by simp,.inl ⟨_,_,rfl,run_takeDeferred HD.out,?_⟩⟩
 have u0:(W.putObj D (.deferred none)).cell? ⟨w.heap.size+1,0,none⟩=some (.bool false):=by
  rw [zb _ _ 0 _ _ _ ((World.putObj_heap_other (by omega)).trans HX.out.res)];rfl
 refine⟨.bool false,by simp [results,Tryz.results90,go_sem,u0],HX.out.fq.putObj _ _ (by omega),by rw [HX.out.no],fun h=>?_⟩
 rw [HX.out.no] at h;cases h
end
end Go.Proofs.YtnkahlloahgifaaGreatDoor
