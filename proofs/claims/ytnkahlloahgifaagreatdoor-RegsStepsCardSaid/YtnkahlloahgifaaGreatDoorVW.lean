/- Part. -/
import Derived.WalkKit
import Derived.Laws.AppendOwn
import Derived.Laws.Append
import Derived.Maps.Own
import Derived.Maps.OwnOps
import Derived.Maps.OwnSet
import Derived.Maps.RangeWalk
import Derived.Test.YtnkahlloahgifaaGreatDoorVPl
import Derived.Below
import Derived.Lib.Hide
import Derived.Deep.QuietTactic
import Derived.Test.YtnkahlloahgifaaGreatDoorProg
import Derived.Test.YtnkahlloahgifaaGreatDoorChecked
import Derived.BigQuiet
import Derived.Outline
import Derived.WalkSpells
set_option linter.unusedSimpArgs false
set_option linter.unusedVariables false
namespace Go.Proofs.YtnkahlloahgifaaGreatDoor
open Go.RowKit
structure Ch (M:Nat→Prop) (ρ ρ':Nat→Nat) (w w':World):Prop where
 os:w'.os=w.os
 tape:w'.tape=w.tape
 output:w'.output=w.output
 size:w.heap.size≤w'.heap.size
 block:∀ k,k<w.heap.size→¬ M (ρ k)→w'.heap[k]?=w.heap[k]?
 role:∀ k,k<w.heap.size→ρ' k=ρ k
 fresh:∀ k,w'.heap.size≤k→ρ' k=0
theorem Ch.refl {M:Nat→Prop} {ρ:Nat→Nat}{w:World}(h:∀ k,w.heap.size≤k→ρ k=0):Ch M ρ ρ w w :=
 ⟨rfl,rfl,rfl,Nat.le_refl _,fun _ _ _=>rfl,fun _ _=>rfl,h⟩
theorem Ch.trans {M : Nat → Prop} {ρ ρ1 ρ2 : Nat → Nat} {w w1 w2 : World} (h : Ch M ρ ρ1 w w1) (k : Ch M ρ1 ρ2 w1 w2) : Ch M ρ ρ2 w w2 :=
  ⟨k.os.trans h.os, k.tape.trans h.tape, k.output.trans h.output, Nat.le_trans h.size k.size,
   fun i hi hm => (k.block i (Nat.lt_of_lt_of_le hi h.size) (by rw [h.role i hi]; exact hm)).trans (h.block i hi hm),
   fun i hi => (k.role i (Nat.lt_of_lt_of_le hi h.size)).trans (h.role i hi), k.fresh⟩
theorem Ch.mono {M M':Nat→Prop} {ρ ρ':Nat→Nat}{w w':World}(h:Ch M ρ ρ' w w') (hm:∀ r,M r→M' r):Ch M' ρ ρ' w w' :=
 ⟨h.os,h.tape,h.output,h.size,fun k hk hn=>h.block k hk (fun x=>hn (hm _ x)),h.role,h.fresh⟩
theorem Ch.drew {M:Nat→Prop} {ρ ρ':Nat→Nat}{w w':World}(h:Ch M ρ ρ' w w'):Ch M ρ ρ' w w'.drew :=
 ⟨h.os,h.tape,h.output,h.size,h.block,h.role,h.fresh⟩
theorem Ch.alloc {M : Nat → Prop} {ρ ρ' : Nat → Nat} {w w' : World} (h : Ch M ρ ρ' w w') (o : Obj) : Ch M ρ ρ' w (w'.alloc o) :=
  ⟨h.os, h.tape, h.output, by have := h.size; simp; omega, fun k hk hm => (Below.heap_alloc w' o k (Nat.lt_of_lt_of_le hk h.size)).trans (h.block k hk hm), h.role,
   fun k hk => h.fresh k (by simp at hk; omega)⟩
theorem Ch.setCell {M : Nat → Prop} {ρ ρ' : Nat → Nat} {w w' : World} (h : Ch M ρ ρ' w w') (a : Addr) (v : Value) (hm : a.block < w.heap.size → M (ρ a.block)) : Ch M ρ ρ' w (w'.setCell a v) :=
  ⟨h.os, h.tape, h.output, by simpa using h.size, fun k hk hn => (Below.heap_setCell w' a v k (by rintro rfl; exact hn (hm hk))).trans (h.block k hk hn), h.role,
   fun k hk => h.fresh k (by simpa using hk)⟩
theorem Ch.below {M:Nat→Prop} {ρ ρ':Nat→Nat}{w w':World}{B:Nat}(h:Ch M ρ ρ' w w') (hB:B≤w.heap.size) (hr:∀ k,k<B→¬ M (ρ k)):Below B w w' :=
 ⟨h.os,h.tape,h.output,h.size,fun k hk=>h.block k (by omega) (hr k hk)⟩
theorem Ch.keep {M:Nat→Prop} {ρ ρ':Nat→Nat}{w w':World}(h:Ch M ρ ρ' w w') {k:Nat}{o:Obj}(ho:w.heap[k]?=some o) (hn:¬ M (ρ k)):w'.heap[k]?=some o:=by
 rw [h.block k (Array.getElem?_eq_some_iff.1 ho).1 hn];exact ho
theorem Ch.keepRole {M:Nat→Prop} {ρ ρ':Nat→Nat}{w w':World}(h:Ch M ρ ρ' w w') {k:Nat}{o:Obj}(ho:w.heap[k]?=some o):ρ' k=ρ k :=
 h.role k (Array.getElem?_eq_some_iff.1 ho).1
def roleAt (ρ:Nat→Nat) (b r:Nat):Nat→Nat:=fun k=>if k=b then r else ρ k
theorem roleAt_same (ρ:Nat→Nat) (b r:Nat):roleAt ρ b r b=r:=by simp [roleAt]
theorem roleAt_other (ρ:Nat→Nat) (b r:Nat) {k:Nat}(h:k≠b):roleAt ρ b r k=ρ k:=by simp [roleAt,h]
theorem Ch.named {M : Nat → Prop} {ρ ρ' : Nat → Nat} {w w' : World} (h : Ch M ρ ρ' w w') (b r : Nat) (h1 : w.heap.size ≤ b) (h2 : b < w'.heap.size) : Ch M ρ (roleAt ρ' b r) w w' :=
  ⟨h.os, h.tape, h.output, h.size, h.block, fun k hk => by rw [roleAt_other _ _ _ (by omega)]; exact h.role k hk,
   fun k hk => by rw [roleAt_other _ _ _ (by omega)]; exact h.fresh k hk⟩
theorem Ch.grown {M : Nat → Prop} {ρ ρ' : Nat → Nat} {w w1 w2 : World} (h : Ch M ρ ρ' w w1) {row : Option Nat} (g : w1.grownBy w2 row) (hr : ∀ k, row = some k → k < w.heap.size → M (ρ k)) : Ch M ρ ρ' w w2 :=
  ⟨g.os.trans h.os, g.tape.trans h.tape, g.output.trans h.output, Nat.le_trans h.size g.size,
   fun k hk hn => (g.block k (Nat.lt_of_lt_of_le hk h.size) (fun e => hn (hr k e.symm hk))).trans (h.block k hk hn), h.role, fun k hk => h.fresh k (Nat.le_trans g.size hk)⟩
theorem Ch.of_below {M:Nat→Prop} {ρ:Nat→Nat}{w w':World}(h:Below w.heap.size w w') (hρ:∀ k,w.heap.size≤k→ρ k=0):Ch M ρ ρ w w' :=
 ⟨h.os,h.tape,h.output,h.size,fun k hk _=>h.block k hk,fun _ _=>rfl,fun k hk=>hρ k (Nat.le_trans h.size hk)⟩
theorem below_drewN (w:World) (B n:Nat):Below B w (w.drewN n):=⟨rfl,rfl,rfl,Nat.le_refl _,fun _ _=>rfl⟩
theorem append_where {P:Program}{w:World}{base n size bytes:Nat}{v:Value}{xs:List Value}{t e:TypeId}{i:TypeInfo}{z:Value}(ht:P.underlying t=some (.slice e)) (hi:P.info? e=some i) (hz:i.zero=some z) (hsize:i.size=size) (hby:i.bytes=bytes)
  (hsz:0<size) (hown:w.ownsRow base e size v n xs) (ty:TypeId) (ad:Addr) (m c:Nat) (news:List Value) (hl:news.length=m*size) (hnews:∀ j u,news[j]?=some u→w.cell? (ad.add j)=some u)
  (h1:∀ u∈news,u.oneCell'=true) (h63:n+m≤maxLen) (hbytes:(n+m)*bytes≤140737488355328) {v':Value} {w':World} (hr:(Builtin.append_ #[t,t] ty #[v,.slice (some ad) m c]).run P w = .ok v' w') (hn:v = .slice none 0 0→m=0→v' = .slice none 0 0) :
  v'.ownBlock=v.ownBlock∨v'.ownBlock=some w.heap.size:=by
 subst hsize
 subst hby
 have hsmall:n+m≤9223372036854775807:=by simp only [maxLen] at h63;omega
 rcases hown.2 with ⟨rfl,rfl⟩|⟨g,cap,cur,rfl,hbg,hg,hnc,hcm,hcs,htake⟩
 ·by_cases hm:m=0
  ·rw [hn rfl hm];exact .inl rfl
  ·rw [Nat.zero_add] at hbytes
   have e:=run_append_nil (P:=P) w t ty e i _ ht hi hz ad m c news hl hnews (by omega) (by omega) (by omega)
   rw [e] at hr
   simp only [Result.ok.injEq] at hr
   rw [← hr.1]
   exact .inr rfl
 ·have hxl:=hown.1
  by_cases hroom:n+m≤cap
  ·have e:=run_append_room (P:=P) w t ty e i ht hi g n cap cur hg ad m c news hl hnews h1 hroom (by rw [hl,hcs,← Nat.add_mul];exact Nat.mul_le_mul_right _ hroom)
   rw [e] at hr
   simp only [Result.ok.injEq] at hr
   rw [← hr.1]
   exact .inl rfl
  ·have holds:∀ j u,xs[j]?=some u→w.cell? ((⟨g,0,none⟩:Addr).add j)=some u:=hown.cells (g:=g) rfl
   have e:=run_append_grow (P:=P) w t ty e i _ ht hi hz ⟨g,0,none⟩ n cap xs hxl holds ad m c news hl hnews (by omega) (by omega) (growslice_fits (by omega) hbytes)
   rw [e] at hr
   simp only [Result.ok.injEq] at hr
   rw [← hr.1]
   exact .inr rfl
structure RR (w:World) (ρ:Nat→Nat) (r:Nat) (e:TypeId) (size:Nat) (v:Value) (n:Nat) (xs:List Value):Prop where
 row:w.ownsRow 0 e size v n xs
 role:∀ q,v.ownBlock=some q→ρ q=r
theorem RR.nil (w:World) (ρ:Nat→Nat) (r:Nat) (e:TypeId) (size:Nat):RR w ρ r e size (.slice none 0 0) 0 []:=⟨World.ownsRow_nil _ _ _ _,fun q hq=>by simp [Value.ownBlock] at hq⟩
theorem RR.keep {M:Nat→Prop}{w w':World} {ρ ρ':Nat→Nat}{r e size n:Nat}{v:Value}{xs:List Value}(h:RR w ρ r e size v n xs) (c:Ch M ρ ρ' w w') (hn:¬ M r):RR w' ρ' r e size v n xs:=by
 obtain⟨⟨h1,h2⟩,h3⟩:=h
 rcases h2 with h2 | ⟨g,cap,cur,rfl,hb,hg,rest⟩
 ·refine⟨⟨h1,.inl h2⟩,fun q hq=>?_⟩
  rw [h2.1] at hq;simp [Value.ownBlock] at hq
 ·have r0:=h3 g (by simp [Value.ownBlock])
  refine⟨⟨h1,.inr ⟨g,cap,cur,rfl,hb,c.keep hg (by rw [r0];exact hn),rest⟩⟩,fun q hq=>?_⟩
  simp [Value.ownBlock] at hq
  subst hq
  exact(c.keepRole hg).trans r0
theorem RR.shape {w:World} {ρ:Nat→Nat}{r e size n:Nat}{v:Value}{xs:List Value}(h:RR w ρ r e size v n xs):∃ a c,v = .slice a n c:=by
 rcases h.row.2 with ⟨rfl,rfl⟩|⟨g,cap,cur,rfl,_⟩
 ·exact⟨_,_,rfl⟩
 ·exact⟨_,_,rfl⟩
theorem run_append_rr {P:Program}(w:World) (t ty e:TypeId) (i:TypeInfo) (z:Value) (size bytes:Nat) (ht:P.underlying t=some (.slice e)) (hi:P.info? e=some i) (hz:i.zero=some z)
  (hsize:i.size=size) (hby:i.bytes=bytes) (hzs:z.cells.size=size) (hsz:0<size) (ρ:Nat→Nat) (r:Nat) (v:Value) (n:Nat) (xs:List Value) (hrow:RR w ρ r e size v n xs) (hρ:∀ k,w.heap.size≤k→ρ k=0)
  (ad:Addr) (m c:Nat) (news:List Value) (hl:news.length=m*size) (hnews:∀ j u,news[j]?=some u→w.cell? (ad.add j)=some u) (h1:∀ u∈news,u.oneCell'=true)
  (h63:n+m≤maxLen) (hbytes:(n+m)*bytes≤140737488355328) :
  ∃ a' c' w' ρ',(Builtin.append_ #[t,t] ty #[v,.slice (some ad) m c]).run P w = .ok (.slice a' (n+m) c') w'∧RR w' ρ' r e size (.slice a' (n+m) c') (n+m) (xs++news)∧Ch (· = r) ρ ρ' w w'∧(∀ k,w.heap.size≤k→ρ' k=0∨ρ' k=r):=by
 obtain⟨v',w',hr,h2,h3,h4⟩:=run_append_own (P:=P) w 0 t ty e i z size bytes ht hi hz hsize hby hzs hsz v n xs hrow.row ad m c news hl hnews h1 h63 hbytes (Nat.zero_le _)
 have hwh:=append_where ht hi hz hsize hby hsz hrow.row ty ad m c news hl hnews h1 h63 hbytes hr (fun e1 e2=>h4.2 ⟨e1,e2⟩)
 have hold:∀ q,v.ownBlock=some q→q<w.heap.size:=fun q hq=>(hrow.row.lt q hq).2
 have hch:Ch (· = r) ρ ρ w w':=(Ch.refl hρ).grown h3 fun k hk _=>hrow.role k hk
 have hsh:∃ a' c',v' = .slice a' (n+m) c':=by
  rcases h2.2 with ⟨rfl,h0⟩|⟨g,cap,cur,rfl,_⟩
  ·rw [h0];exact⟨_,_,rfl⟩
  ·exact⟨_,_,rfl⟩
 obtain⟨a',c',rfl⟩:=hsh
 by_cases hnew:(Value.slice a' (n+m) c').ownBlock=some w.heap.size
 ·have hlt:=(h2.lt _ hnew).2
  refine⟨a',c',w',roleAt ρ w.heap.size r,hr,⟨h2,fun q hq=>?_⟩,hch.named _ _ (Nat.le_refl _) hlt,fun k hk=>?_⟩
  ·rw [hnew] at hq
   simp only [Option.some.injEq] at hq
   subst hq
   exact roleAt_same _ _ _
  ·by_cases e:k=w.heap.size
   ·subst e;exact .inr (roleAt_same _ _ _)
   ·rw [roleAt_other _ _ _ e];exact .inl (hρ k hk)
 ·refine⟨a',c',w',ρ,hr,⟨h2,fun q hq=>?_⟩,hch,fun k hk => .inl (hρ k hk)⟩
  rcases hwh with e | e
  ·exact hrow.role q (by rw [← e];exact hq)
  ·exact absurd e hnew
theorem wpList_append_run {P:Program}{w w':World}{ops:Array Oper}{rest:List Oper}{o:Oper}{a:Act}{Q:Exit→Act→World→Prop}(hgd:o.guard=none) (s x:Operand) (t:TypeId)
  (ho:o.op = .call { callee := .builtin .append,args := #[s,x],argTypes := #[t,t] }) {v v' xv:Value} (hs:a.eval s=v) (hx:a.eval x=xv)
  (hr:(Builtin.append_ #[t,t] o.type #[v,xv]).run P w = .ok v' w') (h:wpList P ops Q rest (a.put o.dst v') w'):wpList P ops Q (o :: rest) a w :=
 wpList_plain hgd fun K hK=>by
  unfold Oper.wp execOp
  simp only [ho,resolve,invoke,builtin,Sem.run_bind,Sem.run_pure,Result.andThen_ok,List.map_toArray,List.map_cons,List.map_nil,hs,hx,hr]
  exact hK _ _ h
theorem wpList_append_rr {P:Program}{w:World}{ops:Array Oper}{rest:List Oper}{o:Oper}{a:Act}{Q:Exit→Act→World→Prop}(hgd:o.guard=none) (s x:Operand) (t:TypeId)
  (ho:o.op = .call { callee := .builtin .append,args := #[s,x],argTypes := #[t,t] })
  (e:TypeId) (i:TypeInfo) (z:Value) (size bytes:Nat) (ht:P.underlying t=some (.slice e)) (hi:P.info? e=some i) (hz:i.zero=some z)
  (hsize:i.size=size) (hby:i.bytes=bytes) (hzs:z.cells.size=size) (hsz:0<size) (ρ:Nat→Nat) (r:Nat) (v:Value) (n:Nat) (xs:List Value) (hs:a.eval s=v) (hrow:RR w ρ r e size v n xs) (hρ:∀ k,w.heap.size≤k→ρ k=0)
  (ad:Addr) (m c:Nat) (news:List Value) (hx:a.eval x = .slice (some ad) m c) (hl:news.length=m*size) (hnews:∀ j u,news[j]?=some u→w.cell? (ad.add j)=some u) (h1:∀ u∈news,u.oneCell'=true)
  (h63:n+m≤maxLen) (hbytes:(n+m)*bytes≤140737488355328)
  (h:∀ a' c' w' ρ',RR w' ρ' r e size (.slice a' (n+m) c') (n+m) (xs++news)→Ch (· = r) ρ ρ' w w'→(∀ k,w.heap.size≤k→ρ' k=0∨ρ' k=r)→wpList P ops Q rest (a.put o.dst (.slice a' (n+m) c')) w'):wpList P ops Q (o :: rest) a w:=by
 obtain⟨a',c',w',ρ',hr,h2,h3,h4⟩:=run_append_rr (P:=P) w t o.type e i z size bytes ht hi hz hsize hby hzs hsz ρ r v n xs hrow hρ ad m c news hl hnews h1 h63 hbytes
 exact wpList_append_run hgd s x t ho hs hx hr (h a' c' w' ρ' h2 h3 h4)
open Go.Maps
def IMap (P:Program) (w:World) (b:Nat) (l:List (Int×Int)):Prop :=
 ∃ D:DataW Unit,w.ownsMap P 3 (plainElem P 3) b (Maps.size D) D∧Maps.size D=l.length∧(l.map (·.1)).Nodup∧(∀ k v:Int,(k,v)∈l→(Lit.int .i64 k).wf=true∧Maps.has D (.int .i64 k)=true∧∀ z,D.atKey (.int .i64 k) z = .lit (.int .i64 v)) ∧
  ∀ k:Int,Maps.has D (.int .i64 k)=true→∃ v,(k,v)∈l
theorem IMap.keep {P:Program}{w w':World}{b:Nat}{l:List (Int×Int)}(h:IMap P w b l) (hb:w'.heap[b]?=w.heap[b]?):IMap P w' b l:=by
 obtain⟨D,⟨es,clock,g1,g2,g3,g4⟩,rest⟩:=h
 exact⟨D,⟨es,clock,by rw [hb];exact g1,g2,g3,g4⟩,rest⟩
theorem IMap.lt {P:Program}{w:World}{b:Nat}{l:List (Int×Int)}(h:IMap P w b l):b<w.heap.size:=by
 obtain⟨D,⟨es,clock,g1,_⟩,_⟩:=h
 exact(Array.getElem?_eq_some_iff.1 g1).1
theorem IMap.obj {P:Program}{w:World}{b:Nat}{l:List (Int×Int)}(h:IMap P w b l):∃ es clock,w.heap[b]?=some (.map es clock):=by
 obtain⟨D,⟨es,clock,g1,_⟩,_⟩:=h
 exact⟨_,_,g1⟩
theorem IMap.made (P:Program) (w:World):IMap P (w.alloc (.map #[] 0)) w.heap.size [] :=
 ⟨.map [],World.ownsMap_made w P 3 _,rfl,List.nodup_nil,fun k v h=>absurd h (by simp),fun k h=>by simp [Maps.has] at h⟩
def ikey (l:List (Int×Int)) (k:Int):Bool:=l.any fun p=>decide (p.1=k)
def iat (l:List (Int×Int)) (k:Int):Int:=((l.find? fun p=>decide (p.1=k)).map (·.2)).getD 0
def iput (l:List (Int×Int)) (k v:Int):List (Int×Int):=l.filter (fun p => !decide (p.1=k))++[(k,v)]
def idel (l:List (Int×Int)) (k:Int):List (Int×Int):=l.filter fun p => !decide (p.1=k)
theorem ikey_iff {l:List (Int×Int)}{k:Int}:ikey l k=true↔∃ v,(k,v)∈l:=by
 unfold ikey
 rw [List.any_eq_true]
 constructor
 ·rintro ⟨⟨a,v⟩,h,e⟩;simp only [decide_eq_true_eq] at e;subst e;exact⟨v,h⟩
 ·rintro ⟨v,h⟩;exact⟨_,h,by simp⟩
theorem nodup_val {l:List (Int×Int)}(hn:(l.map (·.1)).Nodup) {k u v:Int}(h1:(k,u)∈l) (h2:(k,v)∈l):u=v:=by
 have:=RG.nodup_of_map hn (k,u) h1 (k,v) h2 rfl
 simpa using this
theorem iat_mem {l:List (Int×Int)}(hn:(l.map (·.1)).Nodup) {k v:Int}(h:(k,v)∈l):iat l k=v:=by
 unfold iat
 cases hq:l.find? (fun p=>decide (p.1=k)) with
 | none =>
  rw [List.find?_eq_none] at hq
  exact absurd (hq _ h) (by simp)
 | some p =>
  have h1:=List.mem_of_find?_eq_some hq
  have h2:p.1=k:=by have:=List.find?_some hq;simpa using this
  obtain⟨a,b⟩:=p
  simp only at h2
  subst h2
  show b=v
  exact nodup_val hn h1 h
theorem iat_none {l:List (Int×Int)}{k:Int}(h:ikey l k=false):iat l k=0:=by
 unfold iat
 have:l.find? (fun p=>decide (p.1=k))=none:=by
  rw [List.find?_eq_none]
  intro p hp
  unfold ikey at h
  rw [List.any_eq_false] at h
  exact h p hp
 rw [this];rfl
theorem filter_ne_length {l:List (Int×Int)}(hn:(l.map (·.1)).Nodup) (k:Int):(l.filter fun p => !decide (p.1=k)).length=if ikey l k then l.length - 1 else l.length:=by
 induction l with
 | nil=>rfl
 | cons p r ih =>
  rw [List.map_cons,List.nodup_cons] at hn
  have ih:=ih hn.2
  by_cases e:p.1=k
  ·have hk:ikey r k=false:=by
    cases hq:ikey r k with
    | false=>rfl
    | true =>
     obtain⟨v,hv⟩:=ikey_iff.1 hq
     exact absurd (List.mem_map.2 ⟨_,hv,e.symm⟩) hn.1
   have h1:ikey (p :: r) k=true:=by unfold ikey;rw [List.any_cons];simp [e]
   rw [hk] at ih
   rw [List.filter_cons,h1]
   simp [e,ih]
  ·have h1:ikey (p :: r) k=ikey r k:=by unfold ikey;rw [List.any_cons];simp [e]
   rw [List.filter_cons,h1]
   simp only [e,decide_false,Bool.not_false,if_true,List.length_cons,ih]
   cases hq:ikey r k with
   | false=>simp
   | true =>
    obtain⟨v,hv⟩:=ikey_iff.1 hq
    have:=List.length_pos_of_mem hv
    simp;omega
theorem mem_iput {l:List (Int×Int)}{k v a b:Int}:(a,b)∈iput l k v↔(a≠k∧(a,b)∈l)∨(a=k∧b=v):=by
 unfold iput
 rw [List.mem_append,List.mem_filter,List.mem_singleton]
 simp only [Bool.not_eq_true',decide_eq_false_iff_not,Prod.mk.injEq]
 constructor
 ·rintro (⟨h1,h2⟩ | h);exact .inl ⟨h2,h1⟩;exact .inr h
 ·rintro (⟨h1,h2⟩ | h);exact .inl ⟨h2,h1⟩;exact .inr h
theorem nodup_iput {l:List (Int×Int)}(hn:(l.map (·.1)).Nodup) (k v:Int):((iput l k v).map (·.1)).Nodup:=by
 unfold iput
 rw [List.map_append,List.nodup_append]
 refine⟨hn.sublist (List.filter_sublist.map _),by simp,fun a ha b hb=>?_⟩
 obtain⟨p,hp,rfl⟩:=List.mem_map.1 ha
 simp only [List.map_cons,List.map_nil,List.mem_singleton] at hb
 subst hb
 have:=(List.mem_filter.1 hp).2
 simpa using this
theorem mem_idel {l:List (Int×Int)}{k a b:Int}:(a,b)∈idel l k↔a≠k∧(a,b)∈l:=by
 unfold idel
 rw [List.mem_filter]
 simp only [Bool.not_eq_true',decide_eq_false_iff_not]
 exact⟨fun h=>⟨h.2,h.1⟩,fun h=>⟨h.2,h.1⟩⟩
theorem IMap.congr {P:Program}{w:World}{b:Nat}{l l':List (Int×Int)}(h:IMap P w b l) (hn:(l'.map (·.1)).Nodup) (hm:∀ p,p∈l'↔p∈l):IMap P w b l':=by
 obtain⟨D,h1,h2,h3,h4,h5⟩:=h
 have nod:∀ {l:List (Int×Int)},(l.map (·.1)).Nodup→l.Nodup:=fun {l} h=>by
  unfold List.Nodup at h ⊢
  rw [List.pairwise_map] at h
  exact h.imp fun hne e=>hne (by rw [e])
 have hp:l'.Perm l:=(List.perm_ext_iff_of_nodup (nod hn) (nod h3)).2 hm
 exact⟨D,h1,by rw [h2];exact hp.length_eq.symm,hn,fun k v hk=>h4 k v ((hm _).1 hk),fun k hk=>by obtain⟨v,hv⟩:=h5 k hk;exact⟨v,(hm _).2 hv⟩⟩
variable {P:Program}
theorem key_wf {k:Int}(hu:P.underlying 3=some (.int .i64)) (hw:(Lit.int .i64 k).wf=true):keyOf P 3 (.int .i64 k)=some (.int .i64 k):=keyOf_int_mk hu hw
theorem IMap.put {w w':World}{b n:Nat}{D:DataW Unit}{l:List (Int×Int)}(hK:Keyed P 3) {k v:Int}(hw:(Lit.int .i64 k).wf=true)
  (hown0:w.ownsMap P 3 (plainElem P 3) b (Maps.size D) D) (h2:Maps.size D=l.length) (h3:(l.map (·.1)).Nodup) (h4:∀ k v:Int,(k,v)∈l→(Lit.int .i64 k).wf=true∧Maps.has D (.int .i64 k)=true∧∀ z,D.atKey (.int .i64 k) z = .lit (.int .i64 v))
  (h5:∀ k:Int,Maps.has D (.int .i64 k)=true→∃ v,(k,v)∈l) (hown:w'.ownsMap P 3 (plainElem P 3) b n (D.put (.int .i64 k) (.lit (.int .i64 v)))):IMap P w' b (iput l k v):=by
 have hKl:WideAt.IsKeyLit (.int .i64 k):=trivial
 have hT:=hown0.tidy hK
 have hI:=hown0.isMap
 have hh:Maps.has D (.int .i64 k)=ikey l k:=by
  cases hq:ikey l k with
  | true=>obtain⟨v,hv⟩:=ikey_iff.1 hq;exact(h4 k v hv).2.1
  | false =>
   cases hq2:Maps.has D (.int .i64 k) with
   | false=>rfl
   | true=>rw [ikey_iff.2 (h5 k hq2)] at hq;cases hq
 refine⟨D.put (.int .i64 k) (.lit (.int .i64 v)),?_,?_,nodup_iput h3 k v,fun a c hm=>?_,fun a ha=>?_⟩
 ·obtain⟨es,clock,g1,g2,g3,g4⟩:=hown
  exact⟨es,clock,g1,g2,by rw [g4,Maps.size_eq,length_read];exact Nat.le_refl _,g4⟩
 ·rw [Maps.size_put hT,hh,h2]
  unfold iput
  rw [List.length_append,filter_ne_length h3]
  cases hq:ikey l k with
  | false=>simp
  | true =>
   obtain⟨v,hv⟩:=ikey_iff.1 hq
   have:=List.length_pos_of_mem hv
   simp;omega
 ·rcases mem_iput.1 hm with ⟨hne,hm⟩|⟨rfl,rfl⟩
  ·obtain⟨g1,g2,g3⟩:=h4 a c hm
   have hne':(Lit.int .i64 a)≠Lit.int .i64 k:=by simp;exact hne
   exact⟨g1,by rw [Maps.has_put_other hne'];exact g2,fun z=>by rw [Maps.atKey_put_other hne'];exact g3 z⟩
  ·exact⟨hw,Maps.has_put_same hI hKl _,fun z=>Maps.atKey_put_same hI hKl _ z⟩
 ·by_cases e:a=k
  ·subst e;exact⟨v,mem_iput.2 (.inr ⟨rfl,rfl⟩)⟩
  ·rw [Maps.has_put_other (by simp;exact e)] at ha
   obtain⟨c,hc⟩:=h5 a ha
   exact⟨c,mem_iput.2 (.inl ⟨e,hc⟩)⟩
theorem IMap.del {w w':World}{b n:Nat}{D:DataW Unit}{l:List (Int×Int)}(hK:Keyed P 3) {k:Int}
  (hown0:w.ownsMap P 3 (plainElem P 3) b (Maps.size D) D) (h2:Maps.size D=l.length) (h3:(l.map (·.1)).Nodup) (h4:∀ k v:Int,(k,v)∈l→(Lit.int .i64 k).wf=true∧Maps.has D (.int .i64 k)=true∧∀ z,D.atKey (.int .i64 k) z = .lit (.int .i64 v))
  (h5:∀ k:Int,Maps.has D (.int .i64 k)=true→∃ v,(k,v)∈l) (hown:w'.ownsMap P 3 (plainElem P 3) b n (D.del (.int .i64 k))):IMap P w' b (idel l k):=by
 have hT:=hown0.tidy hK
 have hh:Maps.has D (.int .i64 k)=ikey l k:=by
  cases hq:ikey l k with
  | true=>obtain⟨v,hv⟩:=ikey_iff.1 hq;exact(h4 k v hv).2.1
  | false =>
   cases hq2:Maps.has D (.int .i64 k) with
   | false=>rfl
   | true=>rw [ikey_iff.2 (h5 k hq2)] at hq;cases hq
 refine⟨D.del (.int .i64 k),?_,?_,h3.sublist (List.filter_sublist.map _),fun a c hm=>?_,fun a ha=>?_⟩
 ·obtain⟨es,clock,g1,g2,g3,g4⟩:=hown
  exact⟨es,clock,g1,g2,by rw [g4,Maps.size_eq,length_read];exact Nat.le_refl _,g4⟩
 ·have:=Maps.size_del hT (k := .int .i64 k)
  rw [hh] at this
  unfold idel
  rw [filter_ne_length h3]
  cases hq:ikey l k with
  | false=>rw [hq] at this;simp at this;simp;omega
  | true=>rw [hq] at this;simp at this;simp;omega
 ·obtain⟨hne,hm⟩:=mem_idel.1 hm
  obtain⟨g1,g2,g3⟩:=h4 a c hm
  have hne':(Lit.int .i64 a)≠Lit.int .i64 k:=by simp;exact hne
  exact⟨g1,by rw [Maps.has_del_other hne'];exact g2,fun z=>by rw [Maps.atKey_del_other hne'];exact g3 z⟩
 ·by_cases e:a=k
  ·subst e;rw [Maps.has_del_same] at ha;simp at ha
  ·rw [Maps.has_del_other (by simp;exact e)] at ha
   obtain⟨c,hc⟩:=h5 a ha
   exact⟨c,mem_idel.2 ⟨e,hc⟩⟩
section
variable {w:World} {ops:Array Oper} {rest:List Oper} {o:Oper} {a:Act} {Q:Exit→Act→World→Prop}
theorem wpList_iput (hu:P.underlying 3=some (.int .i64)) (hg:o.guard=none) (m x v:Operand) (t:TypeId) (hop:o.op=Op.mapUpdate t m x v) (ht:P.underlying t=some (.map 3 3)) (b:Nat) (l:List (Int×Int))
  (hm:a.eval m = .map (some b)) (h:IMap P w b l) (hl:l.length<4000000000) (k c:Int) (hx:a.eval x = .int .i64 k) (hv:a.eval v = .int .i64 c) (hk:(Lit.int .i64 k).wf=true) (hc:(Lit.int .i64 c).wf=true)
  (hK:∀ w',IMap P w' b (iput l k c)→w.grownBy w' (some b)→wpList P ops Q rest (a.put o.dst undef) w'):wpList P ops Q (o :: rest) a w:=by
 obtain⟨D,h1,h2,h3,h4,h5⟩:=h
 refine wpList_mapUpdate_own w hg m x v t hop 3 3 (int_keyed hu) ht (plainElem P 3) b (Maps.size D) D hm h1 (by rw [h2];unfold maxLen;omega) _ _ (.int .i64 k) hx hv (key_wf hu hk) _ [] (plainElem_int hu hc) fun w' ho hgr=>?_
 exact hK w' (IMap.put (int_keyed hu) hk h1 h2 h3 h4 h5 ho) hgr
theorem wpList_iat (hu:P.underlying 3=some (.int .i64)) (hz0:∀ w,(zeroValue 3).run P w = .ok (.int .i64 0) w) (hg:o.guard=none) (m x:Operand) (t:TypeId) (hop:o.op=Op.lookup t m x false) (ht:P.underlying t=some (.map 3 3)) (b:Nat) (l:List (Int×Int))
  (hm:a.eval m = .map (some b)) (h:IMap P w b l) (k:Int) (hx:a.eval x = .int .i64 k) (hk:(Lit.int .i64 k).wf=true)
  (hK:wpList P ops Q rest (a.put o.dst (.int .i64 (iat l k))) w):wpList P ops Q (o :: rest) a w:=by
 obtain⟨D,h1,h2,h3,h4,h5⟩:=h
 refine wpList_lookup_own_int w hg m x t hop 3 3 .i64 (int_keyed hu) ht hu (hz0 w) b (Maps.size D) D hm h1 _ (.int .i64 k) hx (key_wf hu hk) fun c hat _=>?_
 have:c=iat l k:=by
  cases hq:ikey l k with
  | true =>
   obtain⟨v,hv⟩:=ikey_iff.1 hq
   rw [(h4 k v hv).2.2] at hat
   simp at hat
   rw [← hat,iat_mem h3 hv]
  | false =>
   have hno:Maps.has D (.int .i64 k)=false:=by
    cases hq2:Maps.has D (.int .i64 k) with
    | false=>rfl
    | true=>rw [ikey_iff.2 (h5 k hq2)] at hq;cases hq
   rw [Maps.atKey_of_not_has hno] at hat
   simp at hat
   rw [← hat,iat_none hq]
 rw [this]
 exact hK
theorem wpList_idel (hu:P.underlying 3=some (.int .i64)) (hg:o.guard=none) (m x:Operand) (t:TypeId) (hop:o.op=Op.call { callee:=Callee.builtin Builtin.delete,args := #[m,x],argTypes := #[t,3] }) (ht:P.underlying t=some (.map 3 3)) (b:Nat) (l:List (Int×Int))
  (hm:a.eval m = .map (some b)) (h:IMap P w b l) (k:Int) (hx:a.eval x = .int .i64 k) (hk:(Lit.int .i64 k).wf=true)
  (hK:∀ w',IMap P w' b (idel l k)→w.grownBy w' (some b)→wpList P ops Q rest (a.put o.dst (.tuple #[])) w'):wpList P ops Q (o :: rest) a w:=by
 obtain⟨D,h1,h2,h3,h4,h5⟩:=h
 exact wpList_delete_own w hg m x t 3 hop 3 (int_keyed hu) ht (plainElem P 3) b (Maps.size D) D hm h1 _ (.int .i64 k) hx (key_wf hu hk) fun w' ho ht=>hK w' (IMap.del (int_keyed hu) h1 h2 h3 h4 h5 ho) ht.grown
end
end Go.Proofs.YtnkahlloahgifaaGreatDoor
namespace Go.Proofs.YtnkahlloahgifaaGreatDoor
open Go.RowKit RG
structure SlAt (w:World) (v:Value) (n:Nat) (xs:List Value):Prop where
 len:xs.length=n
 at':∃ (ad:Option Addr) (c:Nat),v = .slice ad n c∧(0<n→∃ g o,ad=some ⟨g,o,none⟩∧∀ (i:Nat) x,xs[i]?=some x→w.cell? ⟨g,o+i,none⟩=some x)
def strs (ns:List Nm):List Value:=ns.map Value.string
def ptrs (l:List Nat):List Value:=l.map fun b=>Value.pointer (some ⟨b,0,none⟩)
theorem strs_length (ns:List Nm):(strs ns).length=ns.length:=List.length_map _
theorem ptrs_length (l:List Nat):(ptrs l).length=l.length:=List.length_map _
theorem strs_at {ns:List Nm}{i:Nat}{n:Nm}(h:ns[i]?=some n):(strs ns)[i]?=some (.string n):=by unfold strs;rw [List.getElem?_map,h];rfl
theorem ptrs_at {l:List Nat}{i b:Nat}(h:l[i]?=some b):(ptrs l)[i]?=some (.pointer (some ⟨b,0,none⟩)):=by unfold ptrs;rw [List.getElem?_map,h];rfl
def StrsAt (w:World) (v:Value) (ns:List Nm):Prop:=SlAt w v ns.length (strs ns)
structure AtomsAt (w:World) (v:Value) (ns:List Nm):Prop where
 at':∃ (ad:Option Addr) (c:Nat),v = .slice ad ns.length c∧(0<ns.length→∃ g o,ad=some ⟨g,o,none⟩∧∀ i n,ns[i]?=some n→∃ m:Int,w.cell? ⟨g,o+i*2,none⟩=some (.string n)∧w.cell? ⟨g,o+i*2+1,none⟩=some (.int .i64 m))
mutual
def TEAt (w:World):TE→Nat→Nat→Prop
 | .mk kind name args arms body,b,o=>∃ (op:ByteArray) (num site:Int) (va:Value) (aa ab:Option Addr) (ca cb ga oa gb ob:Nat),
   (w.cell? ⟨b,o,none⟩=some (.int .i64 kind)∧w.cell? ⟨b,o+1,none⟩=some (.string name)∧w.cell? ⟨b,o+2,none⟩=some (.string op)∧w.cell? ⟨b,o+3,none⟩=some (.int .i64 num)) ∧
   (w.cell? ⟨b,o+4,none⟩=some (.int .i64 site)∧w.cell? ⟨b,o+5,none⟩=some va∧w.cell? ⟨b,o+6,none⟩=some (.slice aa arms.length ca)∧w.cell? ⟨b,o+7,none⟩=some (.slice ab body.length cb)) ∧
   AtomsAt w va args∧(0<arms.length→aa=some ⟨ga,oa,none⟩)∧TAAt w arms ga oa∧(0<body.length→ab=some ⟨gb,ob,none⟩)∧TBAt w body gb ob
def TAAt (w:World):TA→Nat→Nat→Prop
 | .nil,_,_=>True
 | .cons vs e r,g,o=>(∃ (con:ByteArray) (vv:Value),w.cell? ⟨g,o,none⟩=some (.string con)∧w.cell? ⟨g,o+1,none⟩=some vv∧StrsAt w vv vs)∧TEAt w e g (o+2)∧TAAt w r g (o+10)
def TBAt (w:World):TB→Nat→Nat→Prop
 | .nil,_,_=>True
 | .cons e r,g,o=>TEAt w e g o∧TBAt w r g (o+8)
end
def Kept (w w':World):Prop:=∀ (a:Addr) (x:Value),w.cell? a=some x→w'.cell? a=some x
theorem Kept.trans {w w1 w2:World}(h:Kept w w1) (k:Kept w1 w2):Kept w w2:=fun a x hx=>k a x (h a x hx)
theorem kept_below {w w':World}(hb:Below w.heap.size w w'):Kept w w':=fun a x hx=>(hb.cell (p:=a) (World.block_lt_of_cell? w _ hx)).trans hx
theorem SlAt.keep {w w':World}{v:Value}{n:Nat}{xs:List Value}(h:SlAt w v n xs) (hb:∀ (a:Addr) (x:Value),x∈xs→w.cell? a=some x→w'.cell? a=some x):SlAt w' v n xs:=by
 obtain⟨hl,ad,c,h1,h2⟩:=h
 exact⟨hl,ad,c,h1,fun h0=>by obtain⟨g,o,e,h3⟩:=h2 h0;exact⟨g,o,e,fun i x hi=>hb _ _ (List.mem_of_getElem? hi) (h3 i x hi)⟩⟩
theorem SlAt.kept {w w':World}{v:Value}{n:Nat}{xs:List Value}(h:SlAt w v n xs) (hb:Kept w w'):SlAt w' v n xs:=h.keep fun a x _ hx=>hb a x hx
theorem StrsAt.kept {w w':World}{v:Value}{ns:List Nm}(h:StrsAt w v ns) (hb:Kept w w'):StrsAt w' v ns:=SlAt.kept h hb
theorem AtomsAt.kept {w w':World}{v:Value}{ns:List Nm}(h:AtomsAt w v ns) (hb:Kept w w'):AtomsAt w' v ns:=by
 obtain⟨ad,c,h1,h2⟩:=h
 refine⟨ad,c,h1,fun h0=>?_⟩
 obtain⟨g,o,e,h3⟩:=h2 h0
 refine⟨g,o,e,fun i n hi=>?_⟩
 obtain⟨m,a,b⟩:=h3 i n hi
 exact⟨m,hb _ _ a,hb _ _ b⟩
mutual
theorem TEAt.kept {w w':World}(hb:Kept w w'):∀ (e:TE) (b o:Nat),TEAt w e b o→TEAt w' e b o
 | .mk kind name args arms body,b,o,h=>by
  rw [TEAt] at h ⊢
  obtain⟨op,num,site,va,aa,ab,ca,cb,ga,oa,gb,ob,⟨c0,c1,c2,c3⟩,⟨c4,c5,c6,c7⟩,h1,h2,h3,h4,h5⟩:=h
  exact⟨op,num,site,va,aa,ab,ca,cb,ga,oa,gb,ob,⟨hb _ _ c0,hb _ _ c1,hb _ _ c2,hb _ _ c3⟩,⟨hb _ _ c4,hb _ _ c5,hb _ _ c6,hb _ _ c7⟩,h1.kept hb,h2,TAAt.kept hb arms ga oa h3,h4,TBAt.kept hb body gb ob h5⟩
theorem TAAt.kept {w w':World}(hb:Kept w w'):∀ (a:TA) (g o:Nat),TAAt w a g o→TAAt w' a g o
 | .nil,g,o,h=>by rw [TAAt];trivial
 | .cons vs e r,g,o,h=>by
  rw [TAAt] at h ⊢
  obtain⟨⟨con,vv,c0,c1,h1⟩,h2,h3⟩:=h
  exact⟨⟨con,vv,hb _ _ c0,hb _ _ c1,h1.kept hb⟩,TEAt.kept hb e g (o+2) h2,TAAt.kept hb r g (o+10) h3⟩
theorem TBAt.kept {w w':World}(hb:Kept w w'):∀ (a:TB) (g o:Nat),TBAt w a g o→TBAt w' a g o
 | .nil,g,o,h=>by rw [TBAt];trivial
 | .cons e r,g,o,h=>by
  rw [TBAt] at h ⊢
  exact⟨TEAt.kept hb e g o h.1,TBAt.kept hb r g (o+8) h.2⟩
end
def TA.nth:TA→Nat→Option (List Nm×TE)
 | .nil,_=>none
 | .cons vs e _,0=>some (vs,e)
 | .cons _ _ r,k+1=>TA.nth r k
theorem TA.nth_kids:∀ (a:TA) (k:Nat),a.kids[k]?=TA.nth a k
 | .nil,k=>by simp [TA.kids,TA.nth]
 | .cons vs e r,0=>by simp [TA.kids,TA.nth]
 | .cons vs e r,k+1=>by simp [TA.kids,TA.nth,TA.nth_kids r k]
theorem TA.kids_length:∀ a:TA,a.kids.length=a.length
 | .nil=>rfl
 | .cons vs e r=>by rw [TA.kids,List.length_cons,TA.kids_length r,TA.length]
theorem TB.kids_length (n:Nm):∀ a:TB,(a.kids n).length=a.length
 | .nil=>rfl
 | .cons e r=>by rw [TB.kids,List.length_cons,TB.kids_length n r,TB.length]
theorem TAAt.nth {w:World}:∀ (a:TA) (g o k:Nat) (vs:List Nm) (e:TE),TAAt w a g o→TA.nth a k=some (vs,e) →
  (∃ (con:ByteArray) (vv:Value),w.cell? ⟨g,o+k*10,none⟩=some (.string con)∧w.cell? ⟨g,o+k*10+1,none⟩=some vv∧StrsAt w vv vs)∧TEAt w e g (o+k*10+2)
 | .nil,g,o,k,vs,e,_,h=>by simp [TA.nth] at h
 | .cons vs' e' r,g,o,0,vs,e,h,hk=>by
  simp only [TA.nth,Option.some.injEq,Prod.mk.injEq] at hk
  obtain⟨rfl,rfl⟩:=hk
  rw [TAAt] at h
  rw [Nat.zero_mul,Nat.add_zero]
  exact⟨h.1,h.2.1⟩
 | .cons vs' e' r,g,o,k+1,vs,e,h,hk=>by
  simp only [TA.nth] at hk
  rw [TAAt] at h
  have:=TAAt.nth r g (o+10) k vs e h.2.2 hk
  rw [show o+10+k*10=o+(k+1)*10 from by omega] at this
  exact this
structure Ad where
 lb:Nat→Nat
 nb:Nat→Nat
 mb:Nat→Nat
 xb:Nat→Nat
 xo:Nat→Nat
 pl:Nat
def PMap (w:World) (b:Nat) (ns:List Nm):Prop :=
 ∃ D:DataW Unit,w.ownsMap Tryz.prog 9 (plainElem Tryz.prog 3) b (Maps.size D) D∧Maps.size D=ns.length ∧
  (∀ (i:Nat) n,ns[i]?=some n→n.size≤maxLen∧Maps.has D (.string n.data.toList)=true∧∀ z,D.atKey (.string n.data.toList) z = .lit (.int .i64 i)) ∧
  ∀ n:Nm,Maps.has D (.string n.data.toList)=true→n∈ns
theorem PMap.keep {w w':World}{b:Nat}{ns:List Nm}(h:PMap w b ns) (hb:w'.heap[b]?=w.heap[b]?):PMap w' b ns:=by
 obtain⟨D,⟨es,clock,g1,g2,g3,g4⟩,rest⟩:=h
 exact⟨D,⟨es,clock,by rw [hb];exact g1,g2,g3,g4⟩,rest⟩
theorem PMap.lt {w:World}{b:Nat}{ns:List Nm}(h:PMap w b ns):b<w.heap.size:=by
 obtain⟨D,⟨es,clock,g1,_⟩,_⟩:=h
 exact(Array.getElem?_eq_some_iff.1 g1).1
def VSet (F:List Nd) (q:Nm→Bool):List (Int×Int):=(named F q).map fun x=>((place F x:Int),1)
def SetAt (w:World) (b:Nat) (F:List Nd) (q:Nm→Bool):Prop:=IMap Tryz.prog w b (VSet F q)
structure FlatAt (w:World) (A:Ad) (f:Nat) (F:List Nd):Prop where
 flat:∃ sl sn sv,w.heap[f]?=some (.cells #[.pointer (some ⟨A.lb 0,0,none⟩),sl,sn,sv,.map (some A.pl)] 118 (0,0)) ∧
  SlAt w sl F.length (ptrs ((List.range F.length).map A.lb))∧SlAt w sn F.length (ptrs ((List.range F.length).map A.nb))∧StrsAt w sv (vars F)
 link:∀ i,i<F.length→∃ sv xv,w.heap[A.lb i]?=some (.cells #[sv,xv,.pointer (some ⟨A.nb i,0,none⟩)] 120 (0,0))∧StrsAt w sv (nd F i).binds
 node:∀ i,i<F.length→∃ sx,w.heap[A.nb i]?=some (.cells #[.pointer (some ⟨A.xb i,A.xo i,none⟩),sx,.map (some (A.mb i))] 110 (0,0))∧SlAt w sx (nd F i).next.length (ptrs ((nd F i).next.map A.lb))
 live:∀ i,i<F.length→SetAt w (A.mb i) F (lv F i)
 exp:∀ i,i<F.length→TEAt w (nd F i).e (A.xb i) (A.xo i)
 pmap:PMap w A.pl (vars F)
theorem heap_below {w w':World}(hb:Below w.heap.size w w') {k:Nat}{o:Obj}(h:w.heap[k]?=some o):w'.heap[k]?=some o:=(hb.block k (Array.getElem?_eq_some_iff.1 h).1).trans h
theorem FlatAt.keep {w w':World}{A:Ad}{f:Nat}{F:List Nd}(h:FlatAt w A f F) (hb:Below w.heap.size w w'):FlatAt w' A f F:=by
 have hk:=kept_below hb
 obtain⟨⟨sl,sn,sv,f0,f1,f2,f3⟩,h2,h3,h4,h5,h6⟩:=h
 refine⟨⟨sl,sn,sv,heap_below hb f0,f1.kept hk,f2.kept hk,f3.kept hk⟩,fun i hi=>?_,fun i hi=>?_,fun i hi=>(h4 i hi).keep (hb.block _ (h4 i hi).lt),fun i hi=>TEAt.kept hk _ _ _ (h5 i hi),h6.keep (hb.block _ h6.lt)⟩
 ·obtain⟨sv,xv,a,b⟩:=h2 i hi;exact⟨sv,xv,heap_below hb a,b.kept hk⟩
 ·obtain⟨sx,a,b⟩:=h3 i hi;exact⟨sx,heap_below hb a,b.kept hk⟩
end Go.Proofs.YtnkahlloahgifaaGreatDoor
namespace Go.Proofs.YtnkahlloahgifaaGreatDoor
open Go.RowKit RG Go.Maps
def IRg (P:Program) (w:World) (b r:Nat) (l:List (Int×Int)) (todo:Int→Bool) (cnt:Nat):Prop :=
 ∃ (D:DataW Unit) (left:Lit→Bool),w.ranges P 3 (plainElem P 3) b r (Maps.size D) D left cnt∧Maps.size D=l.length∧(l.map (·.1)).Nodup ∧
  (∀ k v:Int,(k,v)∈l→(Lit.int .i64 k).wf=true∧Maps.has D (.int .i64 k)=true∧∀ z,D.atKey (.int .i64 k) z = .lit (.int .i64 v)) ∧
  (∀ k:Int,Maps.has D (.int .i64 k)=true→∃ v,(k,v)∈l)∧∀ k:Int,left (.int .i64 k)=todo k
theorem IRg.kept {P:Program}{w w':World}{b r:Nat}{l:List (Int×Int)}{todo:Int→Bool}{cnt:Nat}{row:Option Nat}(h:IRg P w b r l todo cnt) (hg:w.grownBy w' row) (hb:some b≠row) (hr:some r≠row):IRg P w' b r l todo cnt:=by
 obtain⟨D,left,h1,rest⟩:=h
 exact⟨D,left,h1.kept hg hb hr,rest⟩
theorem IRg.left_eq {P:Program}{w:World}{b r:Nat}{l:List (Int×Int)}{todo:Int→Bool}{cnt:Nat}(h:IRg P w b r l todo cnt):w.rangeLeft b r=cnt:=by
 obtain⟨D,left,h1,rest⟩:=h
 exact h1.left_eq
section
variable {P:Program} {w:World} {ops:Array Oper} {rest:List Oper} {o:Oper} {a:Act} {Q:Exit→Act→World→Prop}
theorem wpList_irange (hu:P.underlying 3=some (.int .i64)) (hg:o.guard=none) (m:Operand) (t:TypeId) (hop:o.op=Op.range t m) (ht:P.underlying t=some (.map 3 3)) (b:Nat) (l:List (Int×Int))
  (hm:a.eval m = .map (some b)) (h:IMap P w b l)
  (hK:∀ w',IRg P w' b w.heap.size l (ikey l) l.length→w.grownBy w' none→w'.heap.size=w.heap.size+1→wpList P ops Q rest (a.put o.dst (.pointer (some ⟨w.heap.size,0,none⟩))) w') :
  wpList P ops Q (o :: rest) a w:=by
 obtain⟨D,h1,h2,h3,h4,h5⟩:=h
 refine wpList_range_own w hg m t hop 3 3 (int_keyed hu) ht (plainElem P 3) b (Maps.size D) D hm h1 fun w' hr hg' hs=>hK w' ⟨D,Maps.has D,?_,h2,h3,h4,h5,fun k=>?_⟩ hg' hs
 ·rw [← h2];exact hr
 ·cases hq:ikey l k with
  | true=>obtain⟨v,hv⟩:=ikey_iff.1 hq;exact(h4 k v hv).2.1
  | false =>
   cases hq2:Maps.has D (.int .i64 k) with
   | false=>rfl
   | true=>rw [ikey_iff.2 (h5 k hq2)] at hq;cases hq
theorem wpList_inext (hu:P.underlying 3=some (.int .i64)) (hg:o.guard=none) (it:Operand) (hop:o.op=Op.next it false) (b r:Nat) (l:List (Int×Int)) (todo:Int→Bool) (cnt:Nat)
  (hit:a.eval it = .pointer (some ⟨r,0,none⟩)) (h:IRg P w b r l todo cnt)
  (hDone:(∀ k,todo k=false)→wpList P ops Q rest (a.put o.dst (.tuple #[.bool false])) w)
  (hMore:∀ (x v:Int) (w':World) (cnt':Nat),(Lit.int .i64 x).wf=true→(x,v)∈l→todo x=true→IRg P w' b r l (fun k=>todo k && !decide (k=x)) cnt'→cnt'<cnt →
   w.grownBy w' (some r)→w'.heap.size=w.heap.size→(Instr.entry (.pointer (some ⟨r,0,none⟩))).run P w' = .ok (.tuple #[.int .i64 x,.int .i64 v]) w'→wpList P ops Q rest (a.put o.dst (.tuple #[.bool true,.int .i64 x,.int .i64 v])) w') :
  wpList P ops Q (o :: rest) a w:=by
 obtain⟨D,left,h1,h2,h3,h4,h5,h6⟩:=h
 refine wpList_next_ranges_ii w hg it hop 3 3 .i64 .i64 (int_keyed hu) hu hu b r (Maps.size D) D left cnt hit h1 (fun _ hl=>hDone fun k=>by rw [← h6];exact hl _) fun x c w' cnt' hwx hwc hl hat hr hlt hgr hsz hen=>?_
 obtain⟨v,hv⟩:=h5 x (Maps.has_true_of_atKey hat)
 have hc:c=v:=by
  have e1:=(h4 x v hv).2.2 (.lit (.int .i64 0))
  rw [hat] at e1
  simpa using e1
 subst hc
 refine hMore x c w' cnt' hwx hv (by rw [← h6];exact hl) ⟨D,_,hr,h2,h3,h4,h5,fun k=>?_⟩ hlt hgr hsz hen
 simp only [h6]
 congr 1
 unfold Lit.sameKey
 by_cases e:k=x<;>simp [e]
end
def unionL (lt ls:List (Int×Int)):List (Int×Int):=lt.filter (fun p => !ikey ls p.1)++ls.map fun p=>(p.1,1)
def unionP (lt ls:List (Int×Int)) (todo:Int→Bool):List (Int×Int):=lt.filter (fun p => !(ikey ls p.1 && !todo p.1))++(ls.filter fun p => !todo p.1).map fun p=>(p.1,1)
theorem mem_unionP {lt ls:List (Int×Int)}{todo:Int→Bool}{a b:Int}:(a,b)∈unionP lt ls todo↔((a,b)∈lt∧(ikey ls a=false∨todo a=true))∨(ikey ls a=true∧todo a=false∧b=1):=by
 unfold unionP
 rw [List.mem_append,List.mem_filter,List.mem_map]
 refine or_congr ⟨fun h=>⟨h.1,?_⟩,fun h=>⟨h.1,?_⟩⟩ ⟨?_,?_⟩
 ·have:=h.2
  cases hq:ikey ls a
  ·exact .inl rfl
  ·rw [hq] at this;simp at this;exact .inr this
 ·rcases h.2 with h2 | h2
  ·rw [h2];rfl
  ·rw [h2];simp
 ·rintro ⟨⟨x,y⟩,hm,e⟩
  obtain⟨h1,h2⟩:=List.mem_filter.1 hm
  simp only [Prod.mk.injEq] at e
  obtain⟨rfl,rfl⟩:=e
  exact⟨ikey_iff.2 ⟨y,h1⟩,by simpa using h2,rfl⟩
 ·rintro ⟨h1,h2,rfl⟩
  obtain⟨y,hy⟩:=ikey_iff.1 h1
  exact⟨(a,y),List.mem_filter.2 ⟨hy,by simp [h2]⟩,rfl⟩
theorem nodup_unionP {lt ls:List (Int×Int)}{todo:Int→Bool}(h1:(lt.map (·.1)).Nodup) (h2:(ls.map (·.1)).Nodup) (ht:∀ k,todo k=true→ikey ls k=true):((unionP lt ls todo).map (·.1)).Nodup:=by
 unfold unionP
 rw [List.map_append,List.nodup_append]
 refine⟨h1.sublist (List.filter_sublist.map _),?_,fun a ha b hb=>?_⟩
 ·rw [List.map_map]
  exact h2.sublist (List.filter_sublist.map _)
 ·obtain⟨p,hp,rfl⟩:=List.mem_map.1 ha
  obtain⟨q,hq,rfl⟩:=List.mem_map.1 hb
  obtain⟨z,hz,rfl⟩:=List.mem_map.1 hq
  obtain⟨p1,p2⟩:=List.mem_filter.1 hp
  obtain⟨z1,z2⟩:=List.mem_filter.1 hz
  intro e
  have hk:ikey ls p.1=true:=ikey_iff.2 ⟨z.2,by rw [e];exact z1⟩
  rw [hk,e] at p2
  simp at p2 z2
  rw [p2] at z2
  cases z2
theorem keyed3:Keyed Tryz.prog 3:=int_keyed Tryz.underlying3
theorem zero3 (w:World):(zeroValue 3).run Tryz.prog w = .ok (.int .i64 0) w:=by kernel_rfl
theorem unionP_start {lt ls:List (Int×Int)}{P:Program}{w:World}{b:Nat}(h:IMap P w b lt):IMap P w b (unionP lt ls (ikey ls)):=by
 obtain⟨D,h1,h2,h3,h4,h5⟩:=h
 refine IMap.congr ⟨D,h1,h2,h3,h4,h5⟩ ?_ fun p=>?_
 ·have e:unionP lt ls (ikey ls)=lt:=by
   unfold unionP
   rw [List.filter_eq_self.2 (fun p _=>by simp),List.filter_eq_nil_iff.2 (fun p hp=>by simp;exact ikey_iff.2 ⟨p.2,hp⟩)]
   simp
  rw [e];exact h3
 ·obtain⟨a,c⟩:=p
  rw [mem_unionP]
  constructor
  ·rintro (⟨h,_⟩|⟨h1,h2,_⟩)
   ·exact h
   ·rw [h1] at h2;cases h2
  ·intro h
   refine .inl ⟨h,?_⟩
   cases ikey ls a
   ·exact .inl rfl
   ·exact .inr rfl
theorem unionP_step {lt ls:List (Int×Int)}{todo:Int→Bool}{x v:Int}{P:Program}{w:World}{b:Nat}(n1:(lt.map (·.1)).Nodup) (n2:(ls.map (·.1)).Nodup) (ht:∀ k,todo k=true→ikey ls k=true) (hx:(x,v)∈ls) (htx:todo x=true)
  (h:IMap P w b (iput (unionP lt ls todo) x 1)):IMap P w b (unionP lt ls fun k=>todo k && !decide (k=x)):=by
 refine h.congr (nodup_unionP n1 n2 fun k hk=>ht k (by simp at hk;exact hk.1)) fun p=>?_
 obtain⟨a,c⟩:=p
 rw [mem_unionP,mem_iput,mem_unionP]
 have hkx:=ikey_iff.2 ⟨v,hx⟩
 by_cases e:a=x
 ·subst e
  simp [hkx]
 ·simp [e]
theorem unionP_end {lt ls:List (Int×Int)}{todo:Int→Bool}(hl:∀ k,todo k=false):unionP lt ls todo=unionL lt ls:=by
 unfold unionP unionL
 congr 1
 ·apply List.filter_congr
  intro p _
  rw [hl];simp
 ·rw [List.filter_eq_self.2 (fun p _=>by rw [hl];rfl)]
theorem IMap.nodup {P:Program}{w:World}{b:Nat}{l:List (Int×Int)}(h:IMap P w b l):(l.map (·.1)).Nodup:=by obtain⟨_,_,_,h3,_⟩:=h;exact h3
theorem grown_trans {w w1 w2:World}{b:Nat}{row:Option Nat}(h:w.grownBy w1 (some b)) (k:w1.grownBy w2 row) (hr:∀ r,row=some r→r=b∨w.heap.size≤r):w.grownBy w2 (some b) :=
 ⟨k.os.trans h.os,k.tape.trans h.tape,k.output.trans h.output,Nat.le_trans h.size k.size,fun q hq hne=>(k.block q (Nat.lt_of_lt_of_le hq h.size) (fun e=>by
  rcases hr q e.symm with e2 | e2
  ·exact hne (by rw [e2])
  ·omega)).trans (h.block q hq hne)⟩
theorem unionP_len {lt ls:List (Int×Int)}{todo:Int→Bool}:(unionP lt ls todo).length≤lt.length+ls.length:=by
 unfold unionP
 rw [List.length_append,List.length_map]
 have:=List.length_filter_le (fun p:Int×Int => !(ikey ls p.1 && !todo p.1)) lt
 have:=List.length_filter_le (fun p:Int×Int => !todo p.1) ls
 omega
def UnP (w:World) (tb:Nat) (lt ls:List (Int×Int)) (w':World):Prop:=w.grownBy w' (some tb)∧IMap Tryz.prog w' tb (unionL lt ls)
set_option maxHeartbeats 1000000 in
set_option maxRecDepth 20000 in
theorem union_any {w:World}{tb sb g c:Nat}{lt ls:List (Int×Int)}(ht:IMap Tryz.prog w tb lt) (hs:IMap Tryz.prog w sb ls) (hne:tb≠sb) (hc:w.cell? ⟨g,0,none⟩=some (.map (some sb))) (hl:lt.length+ls.length<4000000000) :
  Calls Tryz.prog 77 #[.map (some tb),.slice (some ⟨g,0,none⟩) 1 c] w fun e w'=>e = .returned (.tuple #[])∧UnP w tb lt ls w':=by
 have HT:=zh ht
 have HS:=zh hs
 have HN:=zh hne
 have HL:=zh hl
 have hlt:=ht.lt
 have HTB:=zh hlt
 have HSB:=zh hs.lt
 clear ht hs hne hl hlt
 go_enter Tryz.func77,Tryz.ntmps77
 go_wp2_with fail
 go_loopw [9] (fun i wr=>(i = .int .i64 0∧w=wr)∨(i = .int .i64 1∧UnP w tb lt ls wr)) (fun i _=>(1 - intOf i).toNat)
 case atStart=>exact .inl ⟨rfl,rfl⟩
 case round =>
  rcases hrel with ⟨rfl,rfl⟩|⟨rfl,hu⟩
  ·go_wp2_with (at_range;refine wpList_irange Tryz.underlying3 rfl _ 107 rfl Tryz.underlying107 sb ls rfl HS.out ?_;intro w0 hrg0 hg0 hs0)
   go_frame
   have R0:=zh hrg0
   have G0:=zh hg0
   have S0:=zh hs0
   clear hrg0 hg0 hs0
   go_loopw [6] (fun _ wr=>∃ (todo:Int→Bool) (cnt:Nat),IRg Tryz.prog wr sb w.heap.size ls todo cnt∧(∀ k,todo k=true→ikey ls k=true)∧IMap Tryz.prog wr tb (unionP lt ls todo)∧w.grownBy wr (some tb)∧w.heap.size<wr.heap.size)
    (fun _ wr=>wr.rangeLeft sb w.heap.size)
   case atStart=>exact⟨_,_,R0.out,fun k h=>h,unionP_start (HT.out.keep (G0.out.block _ HTB.out (by simp))),G0.out.but _,by rw [S0.out];exact Nat.lt_succ_self _⟩
   case round =>
    obtain⟨todo,cnt,hrg,htd,hm,hg,hsz⟩:=hrel
    have RG1:=zh hrg
    have TD:=zh htd
    have HM:=zh hm
    have HG:=zh hg
    have HSZ:=zh hsz
    clear hrg htd hm hg hsz
    go_wp2_with (at_next;refine wpList_inext Tryz.underlying3 rfl _ rfl sb w.heap.size ls todo cnt rfl RG1.out ?_ ?_)
    ·intro hl0
     have FIN:Hid (UnP w tb lt ls wr):=⟨HG.out,by rw [← unionP_end hl0];exact HM.out⟩
     clear hl0
     go_wp2_with fail
     go_roundw
     case rel=>exact .inr ⟨rfl,FIN.out⟩
     case measure=>simp [intOf]
    ·intro x v w1 cnt1 hwx hx htx hrg1 hlt1 hg1 hs1 hen
     have K1:=zh hwx
     have K2:=zh hx
     have K3:=zh htx
     have K4:=zh hrg1
     have K5:=zh hlt1
     have K6:=zh hg1
     have HM1:=zh (HM.out.keep (hg1.block tb HM.out.lt (by intro e;simp at e;have:=HTB.out;omega)))
     clear hwx hx htx hrg1 hlt1 hg1 hs1
     go_wp2_with (at_mapUpdate;refine wpList_iput Tryz.underlying3 rfl _ _ _ 107 rfl Tryz.underlying107 tb _ rfl HM1.out ?_ x 1 rfl rfl K1.out (by decide) ?_)
     ·have:=unionP_len (lt:=lt) (ls:=ls) (todo:=todo);have:=HL.out;omega
     ·intro w2 hm2 hg2
      have HM2:=zh (unionP_step HT.out.nodup HS.out.nodup TD.out K2.out K3.out hm2)
      have RG2:=zh (K4.out.kept hg2 (by intro e;simp at e;exact HN.out e.symm) (by intro e;simp at e;have:=HTB.out;omega))
      have HG2:=zh (grown_trans (grown_trans HG.out K6.out (fun r e=>by simp at e;omega)) hg2 (fun r e=>by simp at e;omega))
      have HSZ2:Hid (w.heap.size<w2.heap.size):=Nat.lt_of_lt_of_le HSZ.out (Nat.le_trans K6.out.size hg2.size)
      clear hm2 hg2 hen
      go_wp2_with fail
      go_roundw
      case rel=>exact⟨_,cnt1,RG2.out,fun k hk=>TD.out k (by simp at hk;exact hk.1),HM2.out,HG2.out,HSZ2.out⟩
      case measure=>rw [RG2.out.left_eq,RG1.out.left_eq];exact K5.out
  ·have HU:=zh hu
   clear hu
   go_wp2_with fail
   refine bodyPost_end (results_none rfl _ _ _) rfl ?_
   exact⟨rfl,HU.out⟩
end Go.Proofs.YtnkahlloahgifaaGreatDoor
namespace Go.Proofs.YtnkahlloahgifaaGreatDoor
open Go.RowKit RG Go.Maps
open Go.WideMaps (keyOf_string_mk)
theorem IMap.alloc {P:Program}{w:World}{b:Nat}{l:List (Int×Int)}(h:IMap P w b l) (o:Obj):IMap P (w.alloc o) b l:=h.keep (Below.heap_alloc w o b h.lt)
theorem cell_new1 (w:World) (x:Value) (T:TypeId):(w.alloc (.cells #[x] T)).cell? ⟨w.heap.size,0,none⟩=some x:=by rw [cell_of_row _ _ 0 _ _ _ (heap_alloc_new w _)];rfl
theorem cell_new2 (w:World) (o:Obj) (x:Value) (T:TypeId):((w.alloc o).alloc (.cells #[x] T)).cell? ⟨w.heap.size+1,0,none⟩=some x:=by
 have:=cell_new1 (w.alloc o) x T
 rw [World.size_alloc] at this
 exact this
theorem vset_mem {F:List Nd}{q:Nm→Bool}{a b:Int}:(a,b)∈VSet F q↔∃ x∈vars F,q x=true∧a=place F x∧b=1:=by
 unfold VSet
 rw [List.mem_map]
 constructor
 ·rintro ⟨x,hx,e⟩
  obtain⟨h1,h2⟩:=mem_named.1 hx
  simp only [Prod.mk.injEq] at e
  exact⟨x,h1,h2,e.1.symm,e.2.symm⟩
 ·rintro ⟨x,h1,h2,rfl,rfl⟩
  exact⟨x,mem_named.2 ⟨h1,h2⟩,rfl⟩
theorem vset_nodup {F:List Nd}(hn:(vars F).Nodup) (q:Nm→Bool):((VSet F q).map (·.1)).Nodup:=by
 unfold VSet
 rw [List.map_map]
 refine nodup_map_inj (hn.filter _) fun x hx y hy e=>?_
 have hx':=(mem_named.1 hx).1
 have hy':=(mem_named.1 hy).1
 simp only [Function.comp] at e
 exact place_inj hx' hy' (by exact_mod_cast e)
theorem vset_length {F:List Nd}(q:Nm→Bool):(VSet F q).length=(named F q).length:=List.length_map _
theorem vset_le {F:List Nd}(q:Nm→Bool):(VSet F q).length≤(vars F).length:=by rw [vset_length];exact List.length_filter_le _ _
theorem named_congr {F:List Nd}{p q:Nm→Bool}(h:∀ x∈vars F,p x=q x):named F p=named F q:=List.filter_congr h
theorem vset_congr {F:List Nd}{p q:Nm→Bool}(h:∀ x∈vars F,p x=q x):VSet F p=VSet F q:=by unfold VSet;rw [named_congr h]
theorem vset_key {F:List Nd}{q:Nm→Bool}{x:Nm}(hx:x∈vars F):ikey (VSet F q) (place F x)=q x:=by
 rw [Bool.eq_iff_iff,ikey_iff]
 constructor
 ·rintro ⟨v,hv⟩
  obtain⟨y,h1,h2,h3,_⟩:=vset_mem.1 hv
  rw [place_inj hx h1 (by exact_mod_cast h3)];exact h2
 ·intro h
  exact⟨1,vset_mem.2 ⟨x,hx,h,rfl,rfl⟩⟩
theorem vset_at {F:List Nd}(hn:(vars F).Nodup) {q:Nm→Bool}{x:Nm}(hx:x∈vars F):iat (VSet F q) (place F x)=if q x=true then 1 else 0:=by
 by_cases h:q x=true
 ·rw [if_pos h,iat_mem (vset_nodup hn q) (vset_mem.2 ⟨x,hx,h,rfl,rfl⟩)]
 ·rw [if_neg h,iat_none (by rw [vset_key hx];simpa using h)]
theorem SetAt.del {F:List Nd}(hn:(vars F).Nodup) {w:World}{b:Nat}{q:Nm→Bool}{x:Nm}(hx:x∈vars F) (h:IMap Tryz.prog w b (idel (VSet F q) (place F x))):SetAt w b F (fun y=>q y && !decide (y=x)):=by
 refine h.congr (vset_nodup hn _) fun p=>?_
 obtain⟨a,c⟩:=p
 rw [mem_idel,vset_mem,vset_mem]
 constructor
 ·rintro ⟨y,h1,h2,rfl,rfl⟩
  simp at h2
  exact⟨fun e=>h2.2 (place_inj h1 hx (by exact_mod_cast e)),y,h1,h2.1,rfl,rfl⟩
 ·rintro ⟨hne,y,h1,h2,rfl,rfl⟩
  exact⟨y,h1,by simp [h2];rintro rfl;exact hne rfl,rfl,rfl⟩
theorem SetAt.put {F:List Nd}(hn:(vars F).Nodup) {w:World}{b:Nat}{q:Nm→Bool}{x:Nm}(hx:x∈vars F) (h:IMap Tryz.prog w b (iput (VSet F q) (place F x) 1)):SetAt w b F (fun y=>q y||decide (y=x)):=by
 refine h.congr (vset_nodup hn _) fun p=>?_
 obtain⟨a,c⟩:=p
 rw [mem_iput,vset_mem,vset_mem]
 constructor
 ·rintro ⟨y,h1,h2,rfl,rfl⟩
  by_cases e:y=x
  ·subst e;exact .inr ⟨rfl,rfl⟩
  ·simp [e] at h2
   exact .inl ⟨fun e2=>e (place_inj h1 hx (by exact_mod_cast e2)),y,h1,h2,rfl,rfl⟩
 ·rintro (⟨hne,y,h1,h2,rfl,rfl⟩|⟨rfl,rfl⟩)
  ·exact⟨y,h1,by simp [h2],rfl,rfl⟩
  ·exact⟨x,hx,by simp,rfl,rfl⟩
theorem SetAt.congr {F:List Nd}{w:World}{b:Nat}{p q:Nm→Bool}(h:SetAt w b F p) (hpq:∀ x∈vars F,p x=q x):SetAt w b F q:=by
 unfold SetAt at h ⊢
 rw [← vset_congr hpq];exact h
theorem unionL_sets {F:List Nd}(hn:(vars F).Nodup) {w:World}{b:Nat}{p q:Nm→Bool}(h:IMap Tryz.prog w b (unionL (VSet F p) (VSet F q))):SetAt w b F (fun x=>p x||q x):=by
 refine h.congr (vset_nodup hn _) fun z=>?_
 obtain⟨a,c⟩:=z
 rw [← unionP_end (todo:=fun _=>false) (fun _=>rfl),mem_unionP,vset_mem,vset_mem]
 constructor
 ·rintro ⟨y,h1,h2,rfl,rfl⟩
  rw [vset_key h1]
  cases hq:q y with
  | true=>exact .inr ⟨rfl,rfl,rfl⟩
  | false=>simp [hq] at h2;exact .inl ⟨⟨y,h1,h2,rfl,rfl⟩,.inl rfl⟩
 ·rintro (⟨⟨y,h1,h2,rfl,rfl⟩,_⟩|⟨hk,_,rfl⟩)
  ·exact⟨y,h1,by simp [h2],rfl,rfl⟩
  ·obtain⟨v,hv⟩:=ikey_iff.1 hk
   obtain⟨y,h1,h2,rfl,rfl⟩:=vset_mem.1 hv
   exact⟨y,h1,by simp [h2],rfl,rfl⟩
theorem unionL_nil {F:List Nd}{w:World}{b:Nat}{q:Nm→Bool}(hn:(vars F).Nodup) (h:IMap Tryz.prog w b (unionL [] (VSet F q))):SetAt w b F q:=by
 have:unionL [] (VSet F q)=unionL (VSet F fun _=>false) (VSet F q):=by
  have:VSet F (fun _=>false)=[]:=by unfold VSet named;simp
  rw [this]
 rw [this] at h
 exact(unionL_sets hn h).congr fun x _=>by simp
theorem keyed9:Keyed Tryz.prog 9:=string_keyed Tryz.underlying9
section
variable {w:World} {ops:Array Oper} {rest:List Oper} {o:Oper} {a:Act} {Q:Exit→Act→World→Prop}
theorem wpList_pat (hg:o.guard=none) (m x:Operand) (hop:o.op=Op.lookup 116 m x false) (b:Nat) (F:List Nd)
  (hm:a.eval m = .map (some b)) (h:PMap w b (vars F)) (n:Nm) (hn:n∈vars F) (hx:a.eval x = .string n)
  (hK:wpList Tryz.prog ops Q rest (a.put o.dst (.int .i64 (place F n))) w):wpList Tryz.prog ops Q (o :: rest) a w:=by
 obtain⟨D,h1,h2,h3,h4⟩:=h
 obtain⟨g1,g2,g3⟩:=h3 _ _ (place_at hn)
 refine wpList_lookup_own_int w hg m x 116 hop 9 3 .i64 keyed9 Tryz.underlying116 Tryz.underlying3 (zero3 w) b (Maps.size D) D hm h1 _ _ hx (keyOf_string_mk Tryz.underlying9 g1) fun c hat _=>?_
 rw [g3] at hat
 simp at hat
 rw [← hat]
 exact hK
theorem wpList_pis (hg:o.guard=none) (m x:Operand) (hop:o.op=Op.lookup 116 m x true) (b:Nat) (F:List Nm)
  (hm:a.eval m = .map (some b)) (h:PMap w b F) (n:Nm) (hs:n.size≤maxLen) (hx:a.eval x = .string n)
  (hK:∀ c:Int,(∀ i:Nat,F[i]?=some n→c=i)→wpList Tryz.prog ops Q rest (a.put o.dst (.tuple #[.int .i64 c,.bool (has F n)])) w):wpList Tryz.prog ops Q (o :: rest) a w:=by
 obtain⟨D,h1,h2,h3,h4⟩:=h
 refine wpList_lookup_own_ok_int w hg m x 116 hop 9 3 .i64 keyed9 Tryz.underlying116 Tryz.underlying3 (zero3 w) b (Maps.size D) D hm h1 _ _ hx (keyOf_string_mk Tryz.underlying9 hs) fun c hat _=>?_
 have e:Maps.has D (.string n.data.toList)=has F n:=by
  rw [Bool.eq_iff_iff,has_iff]
  constructor
  ·exact h4 n
  ·intro hm
   obtain⟨i,hi⟩:=List.getElem?_of_mem hm
   exact(h3 i n hi).2.1
 rw [e]
 refine hK c fun i hi=>?_
 rw [(h3 i n hi).2.2] at hat
 simp at hat
 exact hat.symm
end
structure LinkAt (w:World) (A:Ad) (f:Nat) (F:List Nd) (i:Nat):Prop where
 f4:w.cell? ⟨f,4,none⟩=some (.map (some A.pl))
 pm:PMap w A.pl (vars F)
 l0:∃ sv,w.cell? ⟨A.lb i,0,none⟩=some sv∧StrsAt w sv (nd F i).binds
 l2:w.cell? ⟨A.lb i,2,none⟩=some (.pointer (some ⟨A.nb i,0,none⟩))
 n2:w.cell? ⟨A.nb i,2,none⟩=some (.map (some (A.mb i)))
 set:SetAt w (A.mb i) F (lv F i)
 once:(vars F).Nodup
 sub:∀ x∈(nd F i).binds,x∈vars F
 few:(vars F).length≤1000000
 nb:(nd F i).binds.length≤1000000
theorem LinkAt.keep {w w':World}{A:Ad}{f:Nat}{F:List Nd}{i:Nat}(h:LinkAt w A f F i) (hb:Below w.heap.size w w'):LinkAt w' A f F i:=by
 have hk:=kept_below hb
 obtain⟨sv,c,s⟩:=h.l0
 exact⟨hk _ _ h.f4,h.pm.keep (hb.block _ h.pm.lt),⟨sv,hk _ _ c,s.kept hk⟩,hk _ _ h.l2,hk _ _ h.n2,IMap.keep h.set (hb.block _ (IMap.lt h.set)),h.once,h.sub,h.few,h.nb⟩
def SetP (w:World) (F:List Nd) (q:Nm→Bool) (e:Ending) (w':World):Prop:=∃ b,e = .returned (.map (some b))∧w.heap.size≤b∧SetAt w' b F q∧Below w.heap.size w w'
theorem wf_nat {n:Nat}(h:n≤1000000000):(Lit.int .i64 (n:Int)).wf=true:=WalkArith.wf_i64 (by omega)
set_option maxHeartbeats 1000000 in
set_option maxRecDepth 20000 in
theorem crossing_any {w:World}{A:Ad}{f:Nat}{F:List Nd}{i:Nat}(h:LinkAt w A f F i):Calls Tryz.prog 60 #[.pointer (some ⟨f,0,none⟩),.pointer (some ⟨A.lb i,0,none⟩)] w (SetP w F (cross F i)):=by
 obtain⟨sv,hsv,hst⟩:=h.l0
 obtain⟨-,sa,sc,rfl,hsl⟩:=hst
 have H:=zh h
 have HSL:=zh hsl
 have l2:=h.l2
 have n2:=h.n2
 have b1:A.lb i<w.heap.size:=World.block_lt_of_cell? w _ l2
 have b2:A.nb i<w.heap.size:=World.block_lt_of_cell? w _ n2
 obtain⟨n,hn⟩:∃ n,n=(nd F i).binds.length:=⟨_,rfl⟩
 rw [← hn] at hsv hsl
 have HN:=zh hn
 have HC:=zh hsv
 have hmm := @run_makeMap Tryz.prog
 have hnz:(n:Int)≤1000000:=by have:=h.nb;omega
 clear h hsl hn
 go_enter Tryz.func60,Tryz.ntmps60
 go_wp2_with fail
 have hmb:=H.out.set.lt
 refine(union_any ((IMap.made Tryz.prog w).alloc _) ((IMap.alloc H.out.set _).alloc _) (by omega) (cell_new2 w _ _ _) (by have:=vset_le (F:=F) (lv F i);have:=H.out.few;simp;omega)).mono ?_
 rintro e w1 ⟨rfl,hg1,hm1⟩
 have HM1:=zh (unionL_nil H.out.once hm1)
 have HB1:Hid (Below w.heap.size w w1):=((((Below.refl _ w).alloc (Nat.le_refl _) _).alloc (by simp) _).grown hg1 (by simp;omega) (fun r e=>by simp at e;omega))
 have H1:=zh (H.out.keep HB1.out)
 have S1:=zh HB1.out.size
 clear hsv l2 n2 hmb hg1 hm1 b1 b2
 obtain⟨sv,hsv,hst⟩:=H1.out.l0
 have hsv1:w1.cell? ⟨A.lb i,0,none⟩=some (.slice sa n sc):=HB1.out.cell (p:=⟨A.lb i,0,none⟩) (by obtain⟨_,h,_⟩:=H.out.l0;exact World.block_lt_of_cell? w _ h) |>.trans HC.out
 clear hsv hst
 go_wp2_with fail
 go_loopw [24] (fun iv wr=>∃ k:Nat,k≤n∧iv = .int .i64 k∧SetAt wr w.heap.size F (fun x=>lv F i x && !(has ((nd F i).binds.take k) x))∧Below w.heap.size w wr) (fun iv _=>n - (intOf iv).toNat)
 case atStart=>exact⟨0,Nat.zero_le _,rfl,HM1.out.congr fun x _=>by simp [RG.has],HB1.out⟩
 case round =>
  obtain⟨k,hk,rfl,hset,hb⟩:=hrel
  have KS:=zh hset
  have KB:=zh hb
  have KL:=zh hk
  clear hset hb hk hsv1
  by_cases hlt:k<n
  ·obtain⟨g,o,rfl,hat⟩:=HSL.out (by rw [← HN.out];omega)
   obtain⟨x,hx⟩:∃ x,(nd F i).binds[k]?=some x:=⟨_,List.getElem?_eq_getElem (by rw [← HN.out];exact hlt)⟩
   have hcx:=kept_below KB.out _ _ (hat k _ (strs_at hx))
   have H2:=zh (H.out.keep KB.out)
   have f4:=H2.out.f4
   have HX:=zh hx
   have HXV:=zh (H.out.sub x (List.mem_of_getElem? hx))
   have hlz:(k:Int)<n:=by omega
   have HLT:=zh hlt
   clear hat hx hlt
   go_wp2_with (first | (at_lookup;refine wpList_pat rfl _ _ rfl A.pl F rfl H2.out.pm x HXV.out rfl ?_) | (at_delete;(refine wpList_idel Tryz.underlying3 rfl _ _ 108 rfl Tryz.underlying108 w.heap.size _ rfl KS.out (place F x) rfl (wf_nat (by have:=place_lt HXV.out;have:=H.out.few;omega)) ?_);intro w2 hm2 hg2))
   have KS2:=zh (SetAt.del H.out.once HXV.out hm2)
   have KB2:=zh (KB.out.grown hg2 KB.out.size (fun r e=>by simp at e;omega))
   clear hm2 hg2
   go_wp2_with fail
   go_roundw
   case rel =>
    refine⟨k+1,HLT.out,by go_num,KS2.out.congr fun y _=>?_,KB2.out⟩
    rw [List.take_add_one,HX.out]
    simp only [Option.toList_some,has_append]
    rw [Bool.not_or,← Bool.and_assoc]
    congr 1
    simp [RG.has,eq_comm]
   case measure=>have:=HLT.out;simp [intOf];omega
  ·have hlz:(n:Int)≤k:=by omega
   have HE:Hid (k=n):=by have:=KL.out;show _=_;omega
   clear hlt
   go_wp2_with fail
   go_ret
   refine⟨_,rfl,Nat.le_refl _,KS.out.congr fun x _=>?_,KB.out⟩
   rw [HE.out,HN.out,List.take_length]
   rfl
end Go.Proofs.YtnkahlloahgifaaGreatDoor
namespace Go.Proofs.YtnkahlloahgifaaGreatDoor
open Go.RowKit RG Go.Maps
theorem binds_le {F:List Nd}{i:Nat}(hi:i<F.length):(nd F i).binds.length≤(vars F).length:=by
 have:∀ (F:List Nd) (i:Nat) (d:Nd),F[i]?=some d→d.binds.length≤(vars F).length:=by
  intro F
  induction F with
  | nil=>intro i d h;simp at h
  | cons c F ih =>
   intro i d h
   rw [vars_cons,List.length_append]
   cases i with
   | zero=>simp at h;subst h;omega
   | succ i=>have:=ih i d (by simpa using h);omega
 exact this F i _ (nd_some hi)
structure Fl (w:World) (A:Ad) (f:Nat) (F:List Nd):Prop where
 at':FlatAt w A f F
 fo:Fo F
 few:(vars F).length≤1000000
 len:F.length≤20000
theorem Fl.keep {w w':World}{A:Ad}{f:Nat}{F:List Nd}(h:Fl w A f F) (hb:Below w.heap.size w w'):Fl w' A f F:=⟨h.at'.keep hb,h.fo,h.few,h.len⟩
theorem Fl.link {w:World}{A:Ad}{f:Nat}{F:List Nd}(h:Fl w A f F) {i:Nat}(hi:i<F.length):LinkAt w A f F i:=by
 obtain⟨sl,sn,sv,f0,f1,f2,f3⟩:=h.at'.flat
 obtain⟨lv',xv,l0,l1⟩:=h.at'.link i hi
 obtain⟨sx,n0,n1⟩:=h.at'.node i hi
 exact⟨by rw [cell_of_row _ _ 4 _ _ _ f0];rfl,h.at'.pmap,⟨lv',by rw [cell_of_row _ _ 0 _ _ _ l0];rfl,l1⟩,by rw [cell_of_row _ _ 2 _ _ _ l0];rfl,by rw [cell_of_row _ _ 2 _ _ _ n0];rfl,h.at'.live i hi,h.fo.once,
  fun x hx=>binds_vars hi hx,h.few,Nat.le_trans (binds_le hi) h.few⟩
theorem Fl.links {w:World}{A:Ad}{f:Nat}{F:List Nd}(h:Fl w A f F):∃ c g o,w.cell? ⟨f,1,none⟩=some (.slice (some ⟨g,o,none⟩) F.length c)∧∀ i,i<F.length→w.cell? ⟨g,o+i,none⟩=some (.pointer (some ⟨A.lb i,0,none⟩)):=by
 obtain⟨sl,sn,sv,f0,⟨-,ad,c,rfl,f1⟩,f2,f3⟩:=h.at'.flat
 obtain⟨g,o,rfl,hat⟩:=f1 h.fo.pos
 exact⟨c,g,o,by rw [cell_of_row _ _ 1 _ _ _ f0];rfl,fun i hi=>hat i _ (ptrs_at (by rw [List.getElem?_map,List.getElem?_range hi];rfl))⟩
set_option maxHeartbeats 1000000 in
set_option maxRecDepth 20000 in
theorem around_any {w:World}{A:Ad}{f:Nat}{F:List Nd}{i:Nat}(h:LinkAt w A f F i):Calls Tryz.prog 94 #[.pointer (some ⟨f,0,none⟩),.pointer (some ⟨A.lb i,0,none⟩)] w (SetP w F fun x=>cross F i x||RG.has (nd F i).binds x):=by
 obtain⟨sv,hsv,hst⟩:=h.l0
 obtain⟨-,sa,sc,rfl,hsl⟩:=hst
 have H:=zh h
 have HSL:=zh hsl
 obtain⟨n,hn⟩:∃ n,n=(nd F i).binds.length:=⟨_,rfl⟩
 rw [← hn] at hsv hsl
 have HN:=zh hn
 have HC:=zh hsv
 have hnz:(n:Int)≤1000000:=by have:=h.nb;omega
 clear h hsl hn hsv
 go_enter Tryz.func94,Tryz.ntmps94
 go_wp2_with fail
 refine(crossing_any H.out).mono ?_
 rintro e w1 ⟨b,rfl,hb1,hs1,hw1⟩
 have HBB:=zh hb1
 have HS1:=zh hs1
 have HW1:=zh hw1
 have hsv1:=kept_below HW1.out _ _ HC.out
 clear hb1 hs1 hw1
 go_wp2_with fail
 go_loopw [16] (fun iv wr=>∃ k:Nat,k≤n∧iv = .int .i64 k∧SetAt wr b F (fun x=>cross F i x||RG.has ((nd F i).binds.take k) x)∧Below w.heap.size w wr) (fun iv _=>n - (intOf iv).toNat)
 case atStart=>exact⟨0,Nat.zero_le _,rfl,HS1.out.congr fun x _=>by simp [RG.has],HW1.out⟩
 case round =>
  obtain⟨k,hk,rfl,hset,hb⟩:=hrel
  have KS:=zh hset
  have KB:=zh hb
  have KL:=zh hk
  clear hset hb hk hsv1
  by_cases hlt:k<n
  ·obtain⟨g,o,rfl,hat⟩:=HSL.out (by rw [← HN.out];omega)
   obtain⟨x,hx⟩:∃ x,(nd F i).binds[k]?=some x:=⟨_,List.getElem?_eq_getElem (by rw [← HN.out];exact hlt)⟩
   have hcx:=kept_below KB.out _ _ (hat k _ (strs_at hx))
   have H2:=zh (H.out.keep KB.out)
   have f4:=H2.out.f4
   have HX:=zh hx
   have HXV:=zh (H.out.sub x (List.mem_of_getElem? hx))
   have hlz:(k:Int)<n:=by omega
   have HLT:=zh hlt
   clear hat hx hlt
   go_wp2_with (first | (at_lookup;refine wpList_pat rfl _ _ rfl A.pl F rfl H2.out.pm x HXV.out rfl ?_) | (at_mapUpdate;refine wpList_iput Tryz.underlying3 rfl _ _ _ 108 rfl Tryz.underlying108 b _ rfl KS.out ?_ (place F x) 1 rfl rfl (wf_nat (by have:=place_lt HXV.out;have:=H.out.few;omega)) (by decide) ?_))
   ·have:=vset_le (F:=F) (fun x=>cross F i x||RG.has ((nd F i).binds.take k) x);have:=H.out.few;omega
   intro w2 hm2 hg2
   have KS2:=zh (SetAt.put H.out.once HXV.out hm2)
   have KB2:=zh (KB.out.grown hg2 KB.out.size (fun r e=>by simp at e;have:=HBB.out;omega))
   clear hm2 hg2
   go_wp2_with fail
   go_roundw
   case rel =>
    refine⟨k+1,HLT.out,by go_num,KS2.out.congr fun y _=>?_,KB2.out⟩
    rw [List.take_add_one,HX.out]
    simp only [Option.toList_some,has_append]
    rw [← Bool.or_assoc]
    congr 1
    simp [RG.has,eq_comm]
   case measure=>have:=HLT.out;simp [intOf];omega
  ·have hlz:(n:Int)≤k:=by omega
   have HE:Hid (k=n):=by have:=KL.out;show _=_;omega
   clear hlt
   go_wp2_with fail
   go_ret
   refine⟨_,rfl,HBB.out,KS.out.congr fun x _=>?_,KB.out⟩
   rw [HE.out,HN.out,List.take_length]
theorem crowdOf_snoc (F : List Nd) : ∀ (l : List Nat) (o : Option (List Nm)) (i : Nat), crowdOf F (l ++ [i]) o = some (match crowdOf F l o with
      | none => around F i
      | some c => if c.length < (around F i).length then around F i else c)
  | [], none, i => rfl
  | [], some c, i => by
    simp only [List.nil_append, crowdOf]
    split <;> rfl
  | j :: r, none, i => by rw [List.cons_append, crowdOf, crowdOf_snoc F r, crowdOf]
  | j :: r, some c, i => by rw [List.cons_append, crowdOf, crowdOf_snoc F r, crowdOf]
def CrAt (w wr:World) (F:List Nd) (k:Nat) (v:Value):Prop :=
 (k=0∧v = .map none)∨(0<k∧∃ b q,v = .map (some b)∧w.heap.size≤b∧SetAt wr b F q∧crowdOf F (List.range k) none=some (named F q))
def CrP (w:World) (F:List Nd) (e:Ending) (w':World):Prop:=∃ b q,e = .returned (.map (some b))∧SetAt w' b F q∧crowd F=named F q∧Below w.heap.size w w'
set_option maxHeartbeats 2000000 in
set_option maxRecDepth 20000 in
theorem crowd_any {w:World}{A:Ad}{f:Nat}{F:List Nd}(h:Fl w A f F):Calls Tryz.prog 65 #[.pointer (some ⟨f,0,none⟩)] w (CrP w F):=by
 obtain⟨sc,g,o,c1,hat⟩:=h.links
 have H:=zh h
 have HAT:=zh hat
 obtain⟨n,hn⟩:∃ n,n=F.length:=⟨_,rfl⟩
 rw [← hn] at c1
 have HN:=zh hn
 have hnz:(n:Int)≤20000:=by have:=h.len;omega
 have HP:Hid (0<n):=by have:=h.fo.pos;show _<_;omega
 clear h hat hn
 go_enter Tryz.func65,Tryz.ntmps65
 go_wp2_with fail
 go_loopw [3,12] (fun v iv wr=>∃ k:Nat,k≤n∧iv = .int .i64 k∧CrAt w wr F k v∧Below w.heap.size w wr) (fun _ iv _=>n - (intOf iv).toNat)
 case atStart=>exact⟨0,Nat.zero_le _,rfl,.inl ⟨rfl,rfl⟩,Below.refl _ _⟩
 case round =>
  obtain⟨k,hk,rfl,hcr,hb⟩:=hrel
  have KC:=zh hcr
  have KB:=zh hb
  have KL:=zh hk
  clear hcr hb hk c1
  by_cases hlt:k<n
  ·have hcx:=kept_below KB.out _ _ (HAT.out k (by have:=HN.out;omega))
   have hlz:(k:Int)<n:=by omega
   have HLT:=zh hlt
   have AR:=around_any ((H.out.link (i:=k) (by have:=HN.out;omega)).keep KB.out)
   have HAR:=zh AR
   clear AR hlt
   have qT:=fun (w:World) (r:Option Nat)=>run_eql_map_nil (P:=Tryz.prog) w 108 _ _ r Tryz.underlying108
   rcases KC.out with ⟨h0,rfl⟩|⟨h0,b,q,rfl,hb0,hs,hc⟩
   ·have HK0:=zh h0
    clear h0
    go_wp2_with fail
    refine HAR.out.mono ?_
    rintro e w1 ⟨b1,rfl,hb1,hs1,hw1⟩
    have HS1:=zh hs1
    have HB1:=zh hb1
    have HW1:Hid (Below w.heap.size w w1):=KB.out.trans (hw1.mono KB.out.size)
    clear hs1 hb1 hw1
    go_wp2_with fail
    go_roundw
    case rel=>exact⟨k+1,HLT.out,by go_num,.inr ⟨Nat.succ_pos k,b1,_,rfl,Nat.le_trans KB.out.size HB1.out,HS1.out,by rw [HK0.out];rfl⟩,HW1.out⟩
    case measure=>have:=HLT.out;simp [intOf];omega
   ·have HS:=zh hs
    have HC:=zh hc
    have HB0:=zh hb0
    have H0:=zh h0
    clear hs hc hb0 h0
    go_wp2_with fail
    refine HAR.out.mono ?_
    rintro e w1 ⟨b1,rfl,hb1,hs1,hw1⟩
    have HS1:=zh hs1
    have HB1:=zh hb1
    have HW1:Hid (Below w.heap.size w w1):=KB.out.trans (hw1.mono KB.out.size)
    have HS2:Hid (SetAt w1 b F q):=IMap.keep HS.out (hw1.block _ (IMap.lt HS.out))
    clear hs1 hb1 hw1
    have hlen:(VSet F (fun x=>cross F k x||RG.has (nd F k).binds x)).length=(around F k).length:=vset_length _
    have hleq:(VSet F q).length=(named F q).length:=vset_length _
    obtain⟨n1,hn1⟩:∃ n1,n1=(VSet F (fun x=>cross F k x||RG.has (nd F k).binds x)).length:=⟨_,rfl⟩
    obtain⟨n2,hn2⟩:∃ n2,n2=(VSet F q).length:=⟨_,rfl⟩
    rw [← hn1] at hlen
    rw [← hn2] at hleq
    have e1:(Builtin.len_ #[108] 3 #[.map (some b1)]).run Tryz.prog w1 = .ok (.int .i64 n1) w1:=by obtain⟨D,h1,h2,_⟩:=HS1.out;have:=h1.len Tryz.underlying108 3;rw [h2,← hn1] at this;exact this
    have e2:(Builtin.len_ #[108] 3 #[.map (some b)]).run Tryz.prog w1 = .ok (.int .i64 n2) w1:=by obtain⟨D,h1,h2,_⟩:=HS2.out;have:=h1.len Tryz.underlying108 3;rw [h2,← hn2] at this;exact this
    have REL:Hid (∀ v,(v = .map (some b)∧n1≤n2∨v = .map (some b1)∧n2<n1)→CrAt w w1 F (k+1) v):=fun v hv=>by
     refine .inr ⟨Nat.succ_pos _,?_⟩
     rw [List.range_succ,crowdOf_snoc,HC.out]
     rcases hv with ⟨rfl,hle⟩|⟨rfl,hlt⟩
     ·exact⟨b,q,rfl,HB0.out,HS2.out,by simp only [];rw [if_neg (by omega)]⟩
     ·exact⟨b1,_,rfl,Nat.le_trans KB.out.size HB1.out,HS1.out,by simp only [];rw [if_pos (by omega)];rfl⟩
    clear hlen hleq hn1 hn2
    by_cases hgt:n2<n1
    ·have hgz:(n2:Int)<n1:=by omega
     have HGT:=zh hgt
     clear hgt
     go_wp2_with fail
     go_roundw
     case rel=>exact⟨k+1,HLT.out,by go_num,REL.out _ (.inr ⟨rfl,HGT.out⟩),HW1.out⟩
     case measure=>have:=HLT.out;simp [intOf];omega
    ·have hgz:(n1:Int)≤n2:=by omega
     have HGT:Hid (n1≤n2):=by show _≤_;omega
     clear hgt
     go_wp2_with fail
     go_roundw
     case rel=>exact⟨k+1,HLT.out,by go_num,REL.out _ (.inl ⟨rfl,HGT.out⟩),HW1.out⟩
     case measure=>have:=HLT.out;simp [intOf];omega
  ·have hlz:(n:Int)≤k:=by omega
   have HE:Hid (k=n):=by have:=KL.out;show _=_;omega
   clear hlt
   rcases KC.out with ⟨h0,rfl⟩|⟨h0,b,q,rfl,hb0,hs,hc⟩
   ·have:=HP.out;have:=HE.out;omega
   ·have HS:=zh hs
    have HC:=zh hc
    clear h0 hb0 hs hc
    go_wp2_with fail
    go_ret
    refine⟨b,q,rfl,HS.out,?_,KB.out⟩
    have:=HC.out
    rw [HE.out,HN.out] at this
    unfold crowd
    rw [this]
    rfl
end Go.Proofs.YtnkahlloahgifaaGreatDoor
