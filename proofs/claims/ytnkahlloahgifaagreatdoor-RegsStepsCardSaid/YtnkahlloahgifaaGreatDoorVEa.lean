/- Part. -/
import Derived.Test.YtnkahlloahgifaaGreatDoorVDa
import Derived.Test.YtnkahlloahgifaaGreatDoorVPf
import Derived.Test.YtnkahlloahgifaaGreatDoorVRv
import Derived.Laws.Cover1
import Derived.Test.YtnkahlloahgifaaGreatDoorVCb
set_option linter.unusedSimpArgs false
set_option linter.unusedVariables false
namespace Go.Proofs.YtnkahlloahgifaaGreatDoor
open Go.RowKit RG Go.Maps RF
theorem Ch.cell {M:Nat→Prop} {ρ ρ':Nat→Nat}{w w':World}(c:Ch M ρ ρ' w w') {a:Addr}{x:Value}(h:w.cell? a=some x) (hn:¬ M (ρ a.block)):w'.cell? a=some x :=
 (World.cell?_of_block (c.block _ (World.block_lt_of_cell? w _ h) hn)).trans h
structure ZA (w:World) (ρ:Nat→Nat) (v:Value) (n:Nat) (xs:List Value):Prop where
 len:xs.length=n
 at':∃ (ad:Option Addr) (c:Nat),v = .slice ad n c∧(0<n→∃ g o,ad=some ⟨g,o,none⟩∧ρ g=0∧∀ (i:Nat) x,xs[i]?=some x→w.cell? ⟨g,o+i,none⟩=some x)
theorem ZA.keep {M:Nat→Prop} {ρ ρ':Nat→Nat}{w w':World}{v:Value}{n:Nat}{xs:List Value}(h:ZA w ρ v n xs) (c:Ch M ρ ρ' w w') (hn:¬ M 0):ZA w' ρ' v n xs:=by
 obtain⟨hl,ad,cc,e,hat⟩:=h
 refine⟨hl,ad,cc,e,fun h0=>?_⟩
 obtain⟨g,o,e2,hr,hc⟩:=hat h0
 obtain⟨x,hx⟩:∃ x,xs[0]?=some x:=⟨_,List.getElem?_eq_getElem (by omega)⟩
 have hlt:=World.block_lt_of_cell? w _ (hc 0 x hx)
 exact⟨g,o,e2,(c.role g hlt).trans hr,fun i x hi=>c.cell (hc i x hi) (by show ¬ M (ρ g);rw [hr];exact hn)⟩
theorem ZA.sl {ρ:Nat→Nat}{w:World}{v:Value}{n:Nat}{xs:List Value}(h:ZA w ρ v n xs):SlAt w v n xs:=by
 obtain⟨hl,ad,c,e,hat⟩:=h
 exact⟨hl,ad,c,e,fun h0=>by obtain⟨g,o,e2,_,hc⟩:=hat h0;exact⟨g,o,e2,hc⟩⟩
theorem ZA.of_sl {ρ:Nat→Nat}{W w:World}{v:Value}{n:Nat}{xs:List Value}(h:SlAt W v n xs) (hb:Below W.heap.size W w) (hρ:∀ k,k<W.heap.size→ρ k=0):ZA w ρ v n xs:=by
 obtain⟨hl,ad,c,e,hat⟩:=h
 refine⟨hl,ad,c,e,fun h0=>?_⟩
 obtain⟨g,o,e2,hc⟩:=hat h0
 obtain⟨x,hx⟩:∃ x,xs[0]?=some x:=⟨_,List.getElem?_eq_getElem (by omega)⟩
 exact⟨g,o,e2,hρ g (World.block_lt_of_cell? W _ (hc 0 x hx)),fun i x hi=>kept_below hb _ _ (hc i x hi)⟩
theorem ZA.lit {ρ:Nat→Nat}(w:World) (x:Value) (T:TypeId) (hρ:ρ w.heap.size=0):ZA (w.alloc (.cells #[x] T)) ρ (.slice (some ⟨w.heap.size,0,none⟩) 1 1) 1 [x] :=
 ⟨rfl,_,1,rfl,fun _=>⟨_,0,rfl,hρ,fun i y hi=>by
  rw [cell_of_row _ _ _ _ _ _ (heap_alloc_new w _),Nat.zero_add]
  match i,hi with
  | 0,hi=>exact hi
  | i+1,hi=>simp at hi⟩⟩
def nats (l:List Nat):List Value:=ints (l.map fun (n:Nat)=>(n:Int))
theorem nats_at {l:List Nat}{i n:Nat}(h:l[i]?=some n):(nats l)[i]?=some (.int .i64 (n:Int)):=by unfold nats;exact ints_at (by rw [List.getElem?_map,h];rfl)
theorem nats_append (a b:List Nat):nats (a++b)=nats a++nats b:=by unfold nats;rw [List.map_append,ints_append]
def ScR (w:World) (ρ:Nat→Nat):List (Nm×Nat)→Value→Prop
 | [],v=>v = .pointer none
 | p :: r,v=>∃ b vp,v = .pointer (some ⟨b,0,none⟩)∧w.heap[b]?=some (.cells #[.string p.1,.int .i64 (p.2:Int),vp] 150 (0,0))∧ρ b=0∧ScR w ρ r vp
theorem ScR.keep {M:Nat→Prop} {ρ ρ':Nat→Nat}{w w':World}(c:Ch M ρ ρ' w w') (hn:¬ M 0):∀ {sc:List (Nm×Nat)}{v:Value},ScR w ρ sc v→ScR w' ρ' sc v
 | [],_,h=>h
 | p :: r,v,h=>by
  obtain⟨b,vp,e,h1,h2,h3⟩:=h
  exact⟨b,vp,e,c.keep h1 (by rw [h2];exact hn),(c.keepRole h1).trans h2,ScR.keep c hn h3⟩
theorem ScR.ptr {w:World} {ρ:Nat→Nat}{sc:List (Nm×Nat)}{v:Value}(h:ScR w ρ sc v):∃ a,v = .pointer a:=by
 cases sc with
 | nil=>exact⟨none,h⟩
 | cons p r=>obtain⟨b,vp,e,_⟩:=h;exact⟨_,e⟩
theorem RR.stored {w:World} {ρ:Nat→Nat}{r e g n c:Nat}{xs:List Value}(h:RR w ρ r e 1 (.slice (some ⟨g,0,none⟩) n c) n xs) (i:Nat) (u:Value):RR (w.setCell ⟨g,i,none⟩ u) ρ r e 1 (.slice (some ⟨g,0,none⟩) n c) n (xs.set i u) :=
 ⟨(World.ownsRow.stored h.row i u).1,h.role⟩
theorem RR.full {w:World} {ρ:Nat→Nat}{r e n:Nat}{v:Value}{xs:List Value}(h:RR w ρ r e 1 v n xs) (h0:0<n) :
  ∃ g c,v = .slice (some ⟨g,0,none⟩) n c∧ρ g=r∧g<w.heap.size∧(∀ i x,xs[i]?=some x→w.cell? ⟨g,i,none⟩=some x)∧∀ i,w.frozen? ⟨g,i,none⟩=false:=by
 obtain⟨h1,h2⟩:=h.row
 rcases h2 with ⟨rfl,h0'⟩|⟨g,cap,cur,rfl,hb,hg,k1,k2,k3,k4⟩
 ·omega
 ·refine⟨g,cap,rfl,h.role g rfl,(Array.getElem?_eq_some_iff.1 hg).1,fun i x hi=>?_,fun i=>frozen_of_row _ _ _ _ _ hg⟩
  have hl:=(List.getElem?_eq_some_iff.1 hi).1
  rw [World.ownsRow.cellAt h.row i (by omega)];exact hi
theorem RR.sl {w:World} {ρ:Nat→Nat}{r e n:Nat}{v:Value}{xs:List Value}(h:RR w ρ r e 1 v n xs):SlAt w v n xs:=by
 have hl:xs.length=n:=by have:=h.row.1;omega
 obtain⟨a,c,hv⟩:=h.shape
 refine⟨hl,a,c,hv,fun h0=>?_⟩
 obtain⟨g,c',e,_,_,hc,_⟩:=h.full h0
 rw [hv] at e
 simp only [Value.slice.injEq] at e
 exact⟨g,0,e.1,fun i x hi=>by rw [Nat.zero_add];exact hc i x hi⟩
structure FlV (w:World) (ρ:Nat→Nat) (fb:Nat) (st:St) (sv su sn sb sa so:Value) (us ns bs os:List Value) (na no:Nat):Prop where
 obj:w.heap[fb]?=some (.cells #[sv,su,sn,sb,sa,so,.bool false] 42 (0,0))
 role:ρ fb=2
 vars:RR w ρ 3 9 1 sv st.vars.length (strs st.vars)
 uses:RR w ρ 4 40 1 su st.uses.length us
 next:RR w ρ 5 40 1 sn st.next.length ns
 binds:RR w ρ 6 40 1 sb st.binds.length bs
 after:RR w ρ 7 3 1 sa na (nats (List.range na))
 of:RR w ρ 8 3 1 so no os
 usesAt:∀ (i:Nat) (l:List Nat),st.uses[i]?=some l→∃ v,us[i]?=some v∧ZA w ρ v l.length (nats l)
 nextAt:∀ (i:Nat) (l:List Nat),st.next[i]?=some l→∃ v,ns[i]?=some v∧RR w ρ (10+i) 3 1 v l.length (nats l)
 bindsAt:∀ (i:Nat) (l:List Nat),st.binds[i]?=some l→∃ v,bs[i]?=some v∧ZA w ρ v l.length (nats l)
def FlR (w:World) (ρ:Nat→Nat) (fb:Nat) (st:St):Prop:=∃ sv su sn sb sa so us ns bs os,FlV w ρ fb st sv su sn sb sa so us ns bs os st.binds.length st.binds.length
section
variable {w w':World} {ρ ρ':Nat→Nat} {fb:Nat} {st:St} {sv su sn sb sa so:Value} {us ns bs os:List Value} {na no:Nat}
theorem FlV.keep (h:FlV w ρ fb st sv su sn sb sa so us ns bs os na no) {M:Nat→Prop}(c:Ch M ρ ρ' w w') (hM:∀ r,M r→r=1):FlV w' ρ' fb st sv su sn sb sa so us ns bs os na no:=by
 have n0:∀ r,r≠1→¬ M r:=fun r hr hm=>hr (hM r hm)
 exact⟨c.keep h.obj (by rw [h.role];exact n0 _ (by decide)),(c.keepRole h.obj).trans h.role,h.vars.keep c (n0 _ (by decide)),h.uses.keep c (n0 _ (by decide)),h.next.keep c (n0 _ (by decide)),h.binds.keep c (n0 _ (by decide)),h.after.keep c (n0 _ (by decide)),h.of.keep c (n0 _ (by decide)),
  fun i l hi=>by obtain⟨v,a,b⟩:=h.usesAt i l hi;exact⟨v,a,b.keep c (n0 _ (by decide))⟩,
  fun i l hi=>by obtain⟨v,a,b⟩:=h.nextAt i l hi;exact⟨v,a,b.keep c (n0 _ (by omega))⟩,
  fun i l hi=>by obtain⟨v,a,b⟩:=h.bindsAt i l hi;exact⟨v,a,b.keep c (n0 _ (by decide))⟩⟩
theorem FlV.below (h:FlV w ρ fb st sv su sn sb sa so us ns bs os na no) (hb:Below w.heap.size w w') (hρ:∀ k,w.heap.size≤k→ρ k=0):FlV w' ρ fb st sv su sn sb sa so us ns bs os na no :=
 h.keep (Ch.of_below (M:=fun _=>False) hb hρ) fun _ h=>h.elim
theorem FlV.lt (h:FlV w ρ fb st sv su sn sb sa so us ns bs os na no):fb<w.heap.size:=(Array.getElem?_eq_some_iff.1 h.obj).1
theorem FlV.cell (h:FlV w ρ fb st sv su sn sb sa so us ns bs os na no):∀ i x,#[sv,su,sn,sb,sa,so,Value.bool false][i]?=some x→w.cell? ⟨fb,i,none⟩=some x:=fun i x hx=>by rw [cell_of_row _ _ _ _ _ _ h.obj];exact hx
theorem FlV.froz (h:FlV w ρ fb st sv su sn sb sa so us ns bs os na no) (i:Nat):w.frozen? ⟨fb,i,none⟩=false:=frozen_of_row _ _ _ _ _ h.obj
theorem ch_put {r:Nat}{a:Addr}{v:Value}(c:Ch (· = r) ρ ρ' w w') (ha:a.block<w.heap.size) (hr:ρ a.block=2):Ch (fun q=>q=r∨q=2) ρ ρ' w (w'.setCell a v) :=
 (c.mono fun _ h => .inl h).setCell a v fun _ => .inr hr
theorem FlV.putVars (h:FlV w ρ fb st sv su sn sb sa so us ns bs os na no) {v':Value}{x:Nm}(c:Ch (· = 3) ρ ρ' w w') (hr:RR w' ρ' 3 9 1 v' (st.vars.length+1) (strs st.vars++[.string x])) :
  FlV (w'.setCell ⟨fb,0,none⟩ v') ρ' fb { st with vars:=st.vars++[x] } v' su sn sb sa so us ns bs os na no:=by
 have c2:Ch (fun q=>q=3∨q=2) ρ ρ' w (w'.setCell ⟨fb,0,none⟩ v'):=ch_put c h.lt h.role
 have o1:=c.keep h.obj (by rw [h.role];decide)
 have r1:ρ' fb=2:=(c.keepRole h.obj).trans h.role
 have c3:Ch (· = 2) ρ' ρ' w' (w'.setCell ⟨fb,0,none⟩ v'):=(Ch.refl c.fresh).setCell _ _ fun _=>r1
 refine⟨heap_setCell_same _ _ _ _ _ _ o1,r1,?_,h.uses.keep c2 (by decide),h.next.keep c2 (by decide),h.binds.keep c2 (by decide),h.after.keep c2 (by decide),h.of.keep c2 (by decide),
  fun i l hi=>by obtain⟨v,a,b⟩:=h.usesAt i l hi;exact⟨v,a,b.keep c2 (by decide)⟩,
  fun i l hi=>by obtain⟨v,a,b⟩:=h.nextAt i l hi;exact⟨v,a,b.keep c2 (by omega)⟩,
  fun i l hi=>by obtain⟨v,a,b⟩:=h.bindsAt i l hi;exact⟨v,a,b.keep c2 (by decide)⟩⟩
 show RR _ _ 3 9 1 v' (st.vars++[x]).length (strs (st.vars++[x]))
 rw [List.length_append,List.length_singleton]
 have:=hr.keep c3 (by decide)
 unfold strs at this ⊢
 rw [List.map_append];exact this
theorem FlV.putUses (h:FlV w ρ fb st sv su sn sb sa so us ns bs os na no) {v' x:Value}{l:List Nat}(c:Ch (· = 4) ρ ρ' w w') (hr:RR w' ρ' 4 40 1 v' (st.uses.length+1) (us++[x])) (hx:ZA w ρ x l.length (nats l)) :
  FlV (w'.setCell ⟨fb,1,none⟩ v') ρ' fb { st with uses:=st.uses++[l] } sv v' sn sb sa so (us++[x]) ns bs os na no:=by
 have c2:Ch (fun q=>q=4∨q=2) ρ ρ' w (w'.setCell ⟨fb,1,none⟩ v'):=ch_put c h.lt h.role
 have o1:=c.keep h.obj (by rw [h.role];decide)
 have r1:ρ' fb=2:=(c.keepRole h.obj).trans h.role
 have c3:Ch (· = 2) ρ' ρ' w' (w'.setCell ⟨fb,1,none⟩ v'):=(Ch.refl c.fresh).setCell _ _ fun _=>r1
 have hul:us.length=st.uses.length:=by have:=h.uses.row.1;omega
 refine⟨heap_setCell_same _ _ _ _ _ _ o1,r1,h.vars.keep c2 (by decide),?_,h.next.keep c2 (by decide),h.binds.keep c2 (by decide),h.after.keep c2 (by decide),h.of.keep c2 (by decide),
  fun i k hi=>?_,
  fun i l hi=>by obtain⟨v,a,b⟩:=h.nextAt i l hi;exact⟨v,a,b.keep c2 (by omega)⟩,
  fun i l hi=>by obtain⟨v,a,b⟩:=h.bindsAt i l hi;exact⟨v,a,b.keep c2 (by decide)⟩⟩
 ·show RR _ _ 4 40 1 v' (st.uses++[l]).length _
  rw [List.length_append,List.length_singleton]
  exact hr.keep c3 (by decide)
 ·replace hi:(st.uses++[l])[i]?=some k:=hi
  rcases Nat.lt_trichotomy i st.uses.length with hlt | rfl | hgt
  ·rw [List.getElem?_append_left hlt] at hi
   obtain⟨v,a,b⟩:=h.usesAt i k hi
   exact⟨v,by rw [List.getElem?_append_left (by omega)];exact a,b.keep c2 (by decide)⟩
  ·rw [List.getElem?_append_right (Nat.le_refl _),Nat.sub_self] at hi
   simp at hi
   subst hi
   exact⟨x,by rw [← hul,List.getElem?_append_right (Nat.le_refl _),Nat.sub_self];rfl,hx.keep c2 (by decide)⟩
  ·rw [List.getElem?_eq_none (by simp;omega)] at hi;cases hi
theorem FlV.putNext (h:FlV w ρ fb st sv su sn sb sa so us ns bs os na no) {v':Value}(c:Ch (· = 5) ρ ρ' w w') (hr:RR w' ρ' 5 40 1 v' (st.next.length+1) (ns++[.slice none 0 0])) :
  FlV (w'.setCell ⟨fb,2,none⟩ v') ρ' fb { st with next:=st.next++[[]] } sv su v' sb sa so us (ns++[.slice none 0 0]) bs os na no:=by
 have c2:Ch (fun q=>q=5∨q=2) ρ ρ' w (w'.setCell ⟨fb,2,none⟩ v'):=ch_put c h.lt h.role
 have o1:=c.keep h.obj (by rw [h.role];decide)
 have r1:ρ' fb=2:=(c.keepRole h.obj).trans h.role
 have c3:Ch (· = 2) ρ' ρ' w' (w'.setCell ⟨fb,2,none⟩ v'):=(Ch.refl c.fresh).setCell _ _ fun _=>r1
 have hul:ns.length=st.next.length:=by have:=h.next.row.1;omega
 refine⟨heap_setCell_same _ _ _ _ _ _ o1,r1,h.vars.keep c2 (by decide),h.uses.keep c2 (by decide),?_,h.binds.keep c2 (by decide),h.after.keep c2 (by decide),h.of.keep c2 (by decide),
  fun i l hi=>by obtain⟨v,a,b⟩:=h.usesAt i l hi;exact⟨v,a,b.keep c2 (by decide)⟩,
  fun i k hi=>?_,
  fun i l hi=>by obtain⟨v,a,b⟩:=h.bindsAt i l hi;exact⟨v,a,b.keep c2 (by decide)⟩⟩
 ·show RR _ _ 5 40 1 v' (st.next++[[]]).length _
  rw [List.length_append,List.length_singleton]
  exact hr.keep c3 (by decide)
 ·replace hi:(st.next++[[]])[i]?=some k:=hi
  rcases Nat.lt_trichotomy i st.next.length with hlt | rfl | hgt
  ·rw [List.getElem?_append_left hlt] at hi
   obtain⟨v,a,b⟩:=h.nextAt i k hi
   exact⟨v,by rw [List.getElem?_append_left (by omega)];exact a,b.keep c2 (by omega)⟩
  ·rw [List.getElem?_append_right (Nat.le_refl _),Nat.sub_self] at hi
   simp at hi
   subst hi
   exact⟨.slice none 0 0,by rw [← hul,List.getElem?_append_right (Nat.le_refl _),Nat.sub_self];rfl,RR.nil _ _ _ _ _⟩
  ·rw [List.getElem?_eq_none (by simp;omega)] at hi;cases hi
theorem FlV.putLink (h:FlV w ρ fb st sv su sn sb sa so us ns bs os na no) {i g n c0:Nat}{v v':Value}{l:List Nat}{x:Nat}(hi:st.next[i]?=some l) (hsn:sn = .slice (some ⟨g,0,none⟩) n c0) (c:Ch (· = 10+i) ρ ρ' w w') (hr:RR w' ρ' (10+i) 3 1 v' (l.length+1) (nats l++[.int .i64 (x:Int)])) :
  FlV (w'.setCell ⟨g,i,none⟩ v') ρ' fb { st with next:=st.next.modify i (· ++ [x]) } sv su sn sb sa so us (ns.set i v') bs os na no∧Ch (fun q=>q=10+i∨q=5) ρ ρ' w (w'.setCell ⟨g,i,none⟩ v'):=by
 subst hsn
 have hn0:0<st.next.length:=by have:=(List.getElem?_eq_some_iff.1 hi).1;omega
 obtain⟨g',c',e,hg5,hglt,_,_⟩:=h.next.full hn0
 simp only [Value.slice.injEq,Option.some.injEq,Addr.mk.injEq,and_true] at e
 obtain⟨rfl,rfl,rfl⟩:=e
 have c2:Ch (fun q=>q=10+i∨q=5) ρ ρ' w (w'.setCell ⟨g,i,none⟩ v'):=(c.mono fun _ h => .inl h).setCell _ _ fun _ => .inr hg5
 have r1:ρ' fb=2:=(c.keepRole h.obj).trans h.role
 have r5:ρ' g=5:=(c.role g hglt).trans hg5
 have c3:Ch (· = 5) ρ' ρ' w' (w'.setCell ⟨g,i,none⟩ v'):=(Ch.refl c.fresh).setCell _ _ fun _=>r5
 have hml:(st.next.modify i (· ++ [x])).length=st.next.length:=List.length_modify ..
 refine⟨⟨c2.keep h.obj (by rw [h.role];omega),r1,h.vars.keep c2 (by omega),h.uses.keep c2 (by omega),?_,h.binds.keep c2 (by omega),h.after.keep c2 (by omega),h.of.keep c2 (by omega),
  fun i l hi=>by obtain⟨v,a,b⟩:=h.usesAt i l hi;exact⟨v,a,b.keep c2 (by omega)⟩,
  fun j k hj=>?_,
  fun i l hi=>by obtain⟨v,a,b⟩:=h.bindsAt i l hi;exact⟨v,a,b.keep c2 (by omega)⟩⟩,c2⟩
 ·show RR _ _ 5 40 1 _ (st.next.modify i (· ++ [x])).length _
  rw [hml]
  exact(h.next.keep c (by omega)).stored i v'
 ·replace hj:(st.next.modify i (· ++ [x]))[j]?=some k:=hj
  have hul:ns.length=st.next.length:=by have:=h.next.row.1;omega
  rw [List.getElem?_modify] at hj
  by_cases e:i=j
  ·subst e
   rw [hi] at hj
   simp at hj
   subst hj
   refine⟨v',by rw [List.getElem?_set_self (by have:=(List.getElem?_eq_some_iff.1 hi).1;omega)],?_⟩
   rw [List.length_append,List.length_singleton,nats_append]
   exact hr.keep c3 (by omega)
  ·have:st.next[j]?=some k:=by
    cases hq:st.next[j]? with
    | none=>rw [hq] at hj;cases hj
    | some q=>rw [hq] at hj;simpa [e] using hj
   obtain⟨v,a,b⟩:=h.nextAt j k this
   exact⟨v,by rw [List.getElem?_set_ne e];exact a,b.keep c2 (by omega)⟩
theorem FlV.putBinds (h:FlV w ρ fb st sv su sn sb sa so us ns bs os na no) {v' x:Value}{l:List Nat}(c:Ch (· = 6) ρ ρ' w w') (hr:RR w' ρ' 6 40 1 v' (st.binds.length+1) (bs++[x])) (hx:ZA w ρ x l.length (nats l)) :
  FlV (w'.setCell ⟨fb,3,none⟩ v') ρ' fb { st with binds:=st.binds++[l] } sv su sn v' sa so us ns (bs++[x]) os na no:=by
 have c2:Ch (fun q=>q=6∨q=2) ρ ρ' w (w'.setCell ⟨fb,3,none⟩ v'):=ch_put c h.lt h.role
 have o1:=c.keep h.obj (by rw [h.role];decide)
 have r1:ρ' fb=2:=(c.keepRole h.obj).trans h.role
 have c3:Ch (· = 2) ρ' ρ' w' (w'.setCell ⟨fb,3,none⟩ v'):=(Ch.refl c.fresh).setCell _ _ fun _=>r1
 have hul:bs.length=st.binds.length:=by have:=h.binds.row.1;omega
 refine⟨heap_setCell_same _ _ _ _ _ _ o1,r1,h.vars.keep c2 (by decide),h.uses.keep c2 (by decide),h.next.keep c2 (by decide),?_,h.after.keep c2 (by decide),h.of.keep c2 (by decide),
  fun i l hi=>by obtain⟨v,a,b⟩:=h.usesAt i l hi;exact⟨v,a,b.keep c2 (by decide)⟩,
  fun i l hi=>by obtain⟨v,a,b⟩:=h.nextAt i l hi;exact⟨v,a,b.keep c2 (by omega)⟩,
  fun i k hi=>?_⟩
 ·show RR _ _ 6 40 1 v' (st.binds++[l]).length _
  rw [List.length_append,List.length_singleton]
  exact hr.keep c3 (by decide)
 ·replace hi:(st.binds++[l])[i]?=some k:=hi
  rcases Nat.lt_trichotomy i st.binds.length with hlt | rfl | hgt
  ·rw [List.getElem?_append_left hlt] at hi
   obtain⟨v,a,b⟩:=h.bindsAt i k hi
   exact⟨v,by rw [List.getElem?_append_left (by omega)];exact a,b.keep c2 (by decide)⟩
  ·rw [List.getElem?_append_right (Nat.le_refl _),Nat.sub_self] at hi
   simp at hi
   subst hi
   exact⟨x,by rw [← hul,List.getElem?_append_right (Nat.le_refl _),Nat.sub_self];rfl,hx.keep c2 (by decide)⟩
  ·rw [List.getElem?_eq_none (by simp;omega)] at hi;cases hi
theorem FlV.putAfter (h:FlV w ρ fb st sv su sn sb sa so us ns bs os na no) {v':Value}(c:Ch (· = 7) ρ ρ' w w') (hr:RR w' ρ' 7 3 1 v' (na+1) (nats (List.range na)++[.int .i64 (na:Int)])) :
  FlV (w'.setCell ⟨fb,4,none⟩ v') ρ' fb st sv su sn sb v' so us ns bs os (na+1) no:=by
 have c2:Ch (fun q=>q=7∨q=2) ρ ρ' w (w'.setCell ⟨fb,4,none⟩ v'):=ch_put c h.lt h.role
 have o1:=c.keep h.obj (by rw [h.role];decide)
 have r1:ρ' fb=2:=(c.keepRole h.obj).trans h.role
 have c3:Ch (· = 2) ρ' ρ' w' (w'.setCell ⟨fb,4,none⟩ v'):=(Ch.refl c.fresh).setCell _ _ fun _=>r1
 refine⟨heap_setCell_same _ _ _ _ _ _ o1,r1,h.vars.keep c2 (by decide),h.uses.keep c2 (by decide),h.next.keep c2 (by decide),h.binds.keep c2 (by decide),?_,h.of.keep c2 (by decide),
  fun i l hi=>by obtain⟨v,a,b⟩:=h.usesAt i l hi;exact⟨v,a,b.keep c2 (by decide)⟩,
  fun i l hi=>by obtain⟨v,a,b⟩:=h.nextAt i l hi;exact⟨v,a,b.keep c2 (by omega)⟩,
  fun i l hi=>by obtain⟨v,a,b⟩:=h.bindsAt i l hi;exact⟨v,a,b.keep c2 (by decide)⟩⟩
 rw [List.range_succ,nats_append]
 exact hr.keep c3 (by decide)
theorem FlV.putOf (h:FlV w ρ fb st sv su sn sb sa so us ns bs os na no) {v' x:Value}(c:Ch (· = 8) ρ ρ' w w') (hr:RR w' ρ' 8 3 1 v' (no+1) (os++[x])) :
  FlV (w'.setCell ⟨fb,5,none⟩ v') ρ' fb st sv su sn sb sa v' us ns bs (os++[x]) na (no+1):=by
 have c2:Ch (fun q=>q=8∨q=2) ρ ρ' w (w'.setCell ⟨fb,5,none⟩ v'):=ch_put c h.lt h.role
 have o1:=c.keep h.obj (by rw [h.role];decide)
 have r1:ρ' fb=2:=(c.keepRole h.obj).trans h.role
 have c3:Ch (· = 2) ρ' ρ' w' (w'.setCell ⟨fb,5,none⟩ v'):=(Ch.refl c.fresh).setCell _ _ fun _=>r1
 refine⟨heap_setCell_same _ _ _ _ _ _ o1,r1,h.vars.keep c2 (by decide),h.uses.keep c2 (by decide),h.next.keep c2 (by decide),h.binds.keep c2 (by decide),h.after.keep c2 (by decide),hr.keep c3 (by decide),
  fun i l hi=>by obtain⟨v,a,b⟩:=h.usesAt i l hi;exact⟨v,a,b.keep c2 (by decide)⟩,
  fun i l hi=>by obtain⟨v,a,b⟩:=h.nextAt i l hi;exact⟨v,a,b.keep c2 (by omega)⟩,
  fun i l hi=>by obtain⟨v,a,b⟩:=h.bindsAt i l hi;exact⟨v,a,b.keep c2 (by decide)⟩⟩
end
end Go.Proofs.YtnkahlloahgifaaGreatDoor

namespace RF
open RG
theorem scope_snoc (x:Nm):∀ (bs:List Nm) (k:Nat) (sc:List (Nm×Nat)),scope k (bs++[x]) sc=(x,k+bs.length) :: scope k bs sc
 | [],k,sc=>rfl
 | b :: bs,k,sc=>by
  rw [List.cons_append,scope,scope_snoc x bs (k+1),scope,List.length_cons]
  rw [show k+1+bs.length=k+(bs.length+1) from by omega]
theorem scope_take (k:Nat) (sc:List (Nm×Nat)) {l:List Nm}{i:Nat}{x:Nm}(h:l[i]?=some x):scope k (l.take (i+1)) sc=(x,k+i) :: scope k (l.take i) sc:=by
 rw [List.take_add_one,h]
 show scope k (l.take i++[x]) sc=_
 rw [scope_snoc,List.length_take,Nat.min_eq_left (Nat.le_of_lt (List.getElem?_eq_some_iff.1 h).1)]
end RF
namespace Go.Proofs.YtnkahlloahgifaaGreatDoor
open Go.RowKit RG Go.Maps RF
def BM (r:Nat):Prop:=r=2∨r=3∨r=6∨r=7∨r=8
def BM9 (r:Nat):Prop:=BM r∨r=9
theorem BM.no0:¬ BM 0:=by unfold BM;omega
def rero (ρ:Nat→Nat):Nat→Nat:=fun k=>if ρ k=9 then 0 else ρ k
theorem re_ne (ρ:Nat→Nat) (k:Nat):rero ρ k≠9:=by unfold rero;split<;>omega
theorem re_of {ρ:Nat→Nat}{k r:Nat}(h:ρ k=r) (hr:r≠9):rero ρ k=r:=by unfold rero;rw [h,if_neg hr]
theorem re_zero {ρ:Nat→Nat}{k:Nat}(h:ρ k=9):rero ρ k=0:=by unfold rero;rw [if_pos h]
theorem Ch.re {ρ ρ':Nat→Nat}{w w':World}{M:Nat→Prop}(c:Ch (fun r=>M r∨r=9) ρ ρ' w w') (h9:∀ k,ρ k≠9):Ch M ρ (rero ρ') w w' :=
 ⟨c.os,c.tape,c.output,c.size,fun k hk hn=>c.block k hk (fun h=>h.elim hn (h9 k)),fun k hk=>by rw [re_of (c.role k hk) (h9 k)],fun k hk=>re_of (c.fresh k hk) (by decide)⟩
theorem RR.re {w:World} {ρ:Nat→Nat}{r e size n:Nat}{v:Value}{xs:List Value}(h:RR w ρ r e size v n xs) (hr:r≠9):RR w (rero ρ) r e size v n xs:=⟨h.row,fun q hq=>re_of (h.role q hq) hr⟩
theorem ZA.re {w:World} {ρ:Nat→Nat}{v:Value}{n:Nat}{xs:List Value}(h:ZA w ρ v n xs):ZA w (rero ρ) v n xs:=by
 obtain⟨hl,ad,c,e,hat⟩:=h
 exact⟨hl,ad,c,e,fun h0=>by obtain⟨g,o,a,b,d⟩:=hat h0;exact⟨g,o,a,re_of b (by decide),d⟩⟩
theorem ZA.of_rr {w:World} {ρ:Nat→Nat}{e n:Nat}{v:Value}{xs:List Value}(h:RR w ρ 9 e 1 v n xs):ZA w (rero ρ) v n xs:=by
 have hl:xs.length=n:=by have:=h.row.1;omega
 obtain⟨a,c,rfl⟩:=h.shape
 refine⟨hl,a,c,rfl,fun h0=>?_⟩
 obtain⟨g,c',e',hr,_,hc,_⟩:=h.full h0
 simp only [Value.slice.injEq] at e'
 exact⟨g,0,e'.1,re_zero hr,fun i x hi=>by rw [Nat.zero_add];exact hc i x hi⟩
theorem ScR.re {w:World} {ρ:Nat→Nat}:∀ {sc:List (Nm×Nat)}{v:Value},ScR w ρ sc v→ScR w (rero ρ) sc v
 | [],_,h=>h
 | p :: r,v,h=>by
  obtain⟨b,vp,e,h1,h2,h3⟩:=h
  exact⟨b,vp,e,h1,re_of h2 (by decide),ScR.re h3⟩
theorem FlV.re {w:World} {ρ:Nat→Nat}{fb:Nat}{st:St}{sv su sn sb sa so:Value}{us ns bs os:List Value}{na no:Nat}(h:FlV w ρ fb st sv su sn sb sa so us ns bs os na no):FlV w (rero ρ) fb st sv su sn sb sa so us ns bs os na no :=
 ⟨h.obj,re_of h.role (by decide),h.vars.re (by decide),h.uses.re (by decide),h.next.re (by decide),h.binds.re (by decide),h.after.re (by decide),h.of.re (by decide),
  fun i l hi=>by obtain⟨v,a,b⟩:=h.usesAt i l hi;exact⟨v,a,b.re⟩,
  fun i l hi=>by obtain⟨v,a,b⟩:=h.nextAt i l hi;exact⟨v,a,b.re (by omega)⟩,
  fun i l hi=>by obtain⟨v,a,b⟩:=h.bindsAt i l hi;exact⟨v,a,b.re⟩⟩
theorem FlV.keep9 {w w':World} {ρ ρ':Nat→Nat}{fb:Nat}{st:St}{sv su sn sb sa so:Value}{us ns bs os:List Value}{na no:Nat}(h:FlV w ρ fb st sv su sn sb sa so us ns bs os na no) (c:Ch (· = 9) ρ ρ' w w'):FlV w' ρ' fb st sv su sn sb sa so us ns bs os na no :=
 ⟨c.keep h.obj (by rw [h.role];decide),(c.keepRole h.obj).trans h.role,h.vars.keep c (by decide),h.uses.keep c (by decide),h.next.keep c (by decide),h.binds.keep c (by decide),h.after.keep c (by decide),h.of.keep c (by decide),
  fun i l hi=>by obtain⟨v,a,b⟩:=h.usesAt i l hi;exact⟨v,a,b.keep c (by decide)⟩,
  fun i l hi=>by obtain⟨v,a,b⟩:=h.nextAt i l hi;exact⟨v,a,b.keep c (by omega)⟩,
  fun i l hi=>by obtain⟨v,a,b⟩:=h.bindsAt i l hi;exact⟨v,a,b.keep c (by decide)⟩⟩
theorem n9_step {M:Nat→Prop} {ρ ρ':Nat→Nat}{w w':World}{r:Nat}(c:Ch M ρ ρ' w w') (h9:∀ k,ρ k≠9) (hf:∀ q,w.heap.size≤q→ρ' q=0∨ρ' q=r) (hr:r≠9):∀ k,ρ' k≠9:=fun k=>by
 by_cases hk:k<w.heap.size
 ·rw [c.role k hk];exact h9 k
 ·rcases hf k (by omega) with e | e<;>omega
structure BdV (w:World) (ρ0:Nat→Nat) (fb:Nat) (st:St) (names:List Nm) (sc:List (Nm×Nat)) (v su sn sb sa so:Value) (us ns bs os:List Value) (na no i j k:Nat) (ρ:Nat→Nat) (sv lv vo:Value) (W:World):Prop where
 fl:FlV W ρ fb { st with vars:=st.vars++names.take i } sv su sn sb sa so us ns bs os na no
 ch:Ch BM9 ρ0 ρ w W
 row:RR W ρ 9 3 1 lv j (nats (List.range' st.vars.length j))
 scp:ScR W ρ (scope st.vars.length (names.take k) sc) vo
 nms:ZA W ρ v names.length (strs names)
 nine:∀ k,ρ k=9→w.heap.size≤k
section
variable {w:World} {ρ0:Nat→Nat} {fb:Nat} {st:St} {names:List Nm} {sc:List (Nm×Nat)} {v su sn sb sa so:Value} {us ns bs os:List Value} {na no i j k:Nat} {ρ:Nat→Nat} {sv lv vo:Value} {W:World}
theorem BdV.rho (h:BdV w ρ0 fb st names sc v su sn sb sa so us ns bs os na no i j k ρ sv lv vo W):∀ q,W.heap.size≤q→ρ q=0:=h.ch.fresh
theorem BdV.below (h:BdV w ρ0 fb st names sc v su sn sb sa so us ns bs os na no i j k ρ sv lv vo W) {V:World}(hb:Below W.heap.size W V):BdV w ρ0 fb st names sc v su sn sb sa so us ns bs os na no i j k ρ sv lv vo V :=
 have c:Ch (fun _=>False) ρ ρ W V:=Ch.of_below hb h.rho
 ⟨h.fl.below hb h.rho,h.ch.trans (c.mono fun _ h=>h.elim),h.row.keep c id,ScR.keep c id h.scp,h.nms.keep c id,h.nine⟩
theorem BdV.growA (h:BdV w ρ0 fb st names sc v su sn sb sa so us ns bs os na no i j k ρ sv lv vo W) {x:Nm}(hx:names[i]?=some x) {V:World} {ρ':Nat→Nat}{v':Value}(c:Ch (· = 3) ρ ρ' W V)
  (hr:RR V ρ' 3 9 1 v' (st.vars.length+i+1) (strs (st.vars++names.take i)++[.string x])) (hf:∀ q,W.heap.size≤q→ρ' q=0∨ρ' q=3) :
  BdV w ρ0 fb st names sc v su sn sb sa so us ns bs os na no (i+1) j k ρ' v' lv vo (V.setCell ⟨fb,0,none⟩ v'):=by
 have hil:=(List.getElem?_eq_some_iff.1 hx).1
 have hl:(st.vars++names.take i).length=st.vars.length+i:=by rw [List.length_append,List.length_take];omega
 have f2:=h.fl.putVars (v':=v') (x:=x) c (by show RR V ρ' 3 9 1 v' ((st.vars++names.take i).length+1) _;rw [hl];exact hr)
 have c2:Ch (fun q=>q=3∨q=2) ρ ρ' W (V.setCell ⟨fb,0,none⟩ v'):=ch_put c h.fl.lt h.fl.role
 refine⟨?_,h.ch.trans (c2.mono fun r hr=>by unfold BM9 BM;omega),h.row.keep c2 (by decide),ScR.keep c2 (by decide) h.scp,h.nms.keep c2 (by decide),fun q hq=>?_⟩
 ·have e:(st.vars++names.take i)++[x]=st.vars++names.take (i+1):=by rw [List.take_add_one,hx,List.append_assoc];rfl
  rw [← e];exact f2
 ·by_cases hlt:q<W.heap.size
  ·exact h.nine q ((c.role q hlt).symm.trans hq)
  ·exact Nat.le_trans h.ch.size (by omega)
theorem BdV.growB (h:BdV w ρ0 fb st names sc v su sn sb sa so us ns bs os na no i j k ρ sv lv vo W) {V:World} {ρ':Nat→Nat}{v':Value}(c:Ch (· = 9) ρ ρ' W V)
  (hr:RR V ρ' 9 3 1 v' (j+1) (nats (List.range' st.vars.length j)++[.int .i64 ((st.vars.length+j:Nat):Int)])) :
  BdV w ρ0 fb st names sc v su sn sb sa so us ns bs os na no i (j+1) k ρ' sv v' vo V:=by
 refine⟨h.fl.keep9 c,h.ch.trans (c.mono fun r hr => .inr hr),?_,ScR.keep c (by decide) h.scp,h.nms.keep c (by decide),fun q hq=>?_⟩
 ·have e:List.range' st.vars.length (j+1)=List.range' st.vars.length j++[st.vars.length+j]:=by rw [List.range'_concat];simp
  rw [e,nats_append];exact hr
 ·by_cases hlt:q<W.heap.size
  ·exact h.nine q ((c.role q hlt).symm.trans hq)
  ·exact Nat.le_trans h.ch.size (by omega)
theorem BdV.growC (h:BdV w ρ0 fb st names sc v su sn sb sa so us ns bs os na no i j k ρ sv lv vo W) {x:Nm}(hx:names[k]?=some x) {V:World}{b:Nat}(hb:Below W.heap.size W V) (ho:V.heap[b]?=some (.cells #[.string x,.int .i64 ((st.vars.length+k:Nat):Int),vo] 150 (0,0))) (hbl:W.heap.size≤b) :
  BdV w ρ0 fb st names sc v su sn sb sa so us ns bs os na no i j (k+1) ρ sv lv (.pointer (some ⟨b,0,none⟩)) V:=by
 obtain⟨h1,h2,h3,h4,h5,h6⟩:=h.below hb
 refine⟨h1,h2,h3,?_,h5,h6⟩
 rw [scope_take _ _ hx]
 exact⟨b,vo,rfl,ho,h.rho b hbl,h4⟩
end
end Go.Proofs.YtnkahlloahgifaaGreatDoor

namespace Go.Proofs.YtnkahlloahgifaaGreatDoor
open Go.RowKit RG Go.Maps RF
theorem bLess_eq:∀ (x y:List UInt8),Op.bytesLess x y=decide (x<y)
 | [],[]=>by simp [Op.bytesLess]
 | _ :: _,[]=>by simp [Op.bytesLess]
 | [],_ :: _=>by simp [Op.bytesLess]
 | a :: x,b :: y=>by
  rw [Op.bytesLess,bLess_eq x y]
  simp only [List.cons_lt_cons_iff]
  by_cases h1:a<b<;>by_cases h2:a=b<;>by_cases h3:x<y<;>simp [h1,h2,h3]
def leN (a b:Nm):Bool:=Op.bytesLess a.toList b.toList||a.toList==b.toList
theorem leN_iff {a b:Nm}:leN a b=true↔a.toList≤b.toList:=by
 unfold leN
 rw [bLess_eq,Bool.or_eq_true,decide_eq_true_eq,beq_iff_eq,List.le_iff_lt_or_eq]
theorem leN_trans (a b c:Nm) (h1:leN a b=true) (h2:leN b c=true):leN a c=true:=leN_iff.2 (List.le_trans (leN_iff.1 h1) (leN_iff.1 h2))
theorem leN_total (a b:Nm):(leN a b||leN b a)=true:=by
 rw [Bool.or_eq_true,leN_iff,leN_iff];exact List.le_total _ _
theorem toList_inj {a b:Nm}(h:a.toList=b.toList):a=b:=by
 rw [Lib.toList_data,Lib.toList_data] at h
 have:a.data=b.data:=Array.toList_inj.1 h
 cases a;cases b;simp at this;rw [this]
theorem leN_anti {a b:Nm}(h1:leN a b=true) (h2:leN b a=true):a=b:=toList_inj (List.le_antisymm (leN_iff.1 h1) (leN_iff.1 h2))
theorem sorted_nodup:∀ {l:List Nm},l.Pairwise (fun a b=>leN a b=true)→(∀ (i:Nat) (a b:Nm),l[i]?=some a→l[i+1]?=some b→b≠a)→l.Nodup
 | [],_,_=>List.nodup_nil
 | x :: l,hp,hn=>by
  rw [List.pairwise_cons] at hp
  rw [List.nodup_cons]
  refine⟨fun hm=>?_,sorted_nodup hp.2 fun i a b h1 h2=>hn (i+1) a b (by rw [List.getElem?_cons_succ];exact h1) (by rw [List.getElem?_cons_succ];exact h2)⟩
  cases l with
  | nil=>cases hm
  | cons y l =>
   have hxy:y≠x:=hn 0 x y rfl rfl
   have h1:=hp.1 y List.mem_cons_self
   rcases List.mem_cons.1 hm with e | hm
   ·exact hxy e.symm
   ·have h2:=(List.pairwise_cons.1 hp.2).1 x hm
    exact hxy (leN_anti h2 h1)
def StC (w:World) (v:Value) (l:List Nm):Prop :=
 ∃ (ad:Option Addr) (c:Nat),v = .slice ad l.length c∧l.length≤c∧c≤maxLen∧(0<l.length→∃ g o,ad=some ⟨g,o,none⟩∧∀ (i:Nat) x,l[i]?=some x→w.cell? ⟨g,o+i,none⟩=some (.string x))
theorem StC.kept {w w':World}{v:Value}{l:List Nm}(h:StC w v l) (hb:Kept w w'):StC w' v l:=by
 obtain⟨ad,c,h1,h2,h3,h4⟩:=h
 exact⟨ad,c,h1,h2,h3,fun h0=>by obtain⟨g,o,e,hat⟩:=h4 h0;exact⟨g,o,e,fun i x hi=>hb _ _ (hat i x hi)⟩⟩
theorem StC.read {w:World}{ad:Option Addr}{n c:Nat}{l:List Nm}(h:StC w (.slice ad n c) l) (hn:n=l.length) {k:Nat}(hk:k<n) :
  ∃ g o x,ad=some ⟨g,o,none⟩∧l[k]?=some x∧w.cell? ⟨g,o+k,none⟩=some (.string x):=by
 obtain⟨ad',c',e,_,_,hat⟩:=h
 simp only [Value.slice.injEq] at e
 obtain⟨g,o,e2,hat⟩:=hat (by omega)
 obtain⟨x,hx⟩:∃ x,l[k]?=some x:=⟨_,List.getElem?_eq_getElem (by omega)⟩
 exact⟨g,o,x,by rw [e.1,e2],hx,hat k _ hx⟩
theorem StC.of_own {w:World}{base:Nat}{v:Value}{l:List Nm}(h:w.ownsRow base 9 1 v l.length (strs l)):StC w v l:=by
 obtain⟨h1,h2⟩:=id h
 rcases h2 with ⟨rfl,h0⟩|⟨g,cap,cur,rfl,hb,hg,k1,k2,k3,k4⟩
 ·exact⟨none,0,by rw [h0],by omega,Nat.zero_le _,fun h=>by omega⟩
 ·refine⟨some ⟨g,0,none⟩,cap,rfl,k1,k2,fun h0=>⟨g,0,rfl,fun i x hi=>?_⟩⟩
  have hl:=(List.getElem?_eq_some_iff.1 hi).1
  rw [Nat.zero_add,World.ownsRow.cellAt h i (by omega)];exact strs_at hi
theorem Tryz.info9v:(Tryz.prog.info? 9).map (fun i=>(i.zero,i.size,i.bytes))=some (some (.string ⟨#[]⟩),1,16):=by kernel_rfl
theorem owns_keep2 {w w':World}{base e size n:Nat}{v:Value}{xs:List Value}(h:w.ownsRow base e size v n xs) (hk:∀ k,v.ownBlock=some k→w'.heap[k]?=w.heap[k]?):w'.ownsRow base e size v n xs:=by
 obtain⟨h1,h2⟩:=h
 rcases h2 with h2 | ⟨g,cap,cur,rfl,hb,hg,rest⟩
 ·exact⟨h1,.inl h2⟩
 ·exact⟨h1,.inr ⟨g,cap,cur,rfl,hb,(hk g rfl).trans hg,rest⟩⟩
def SoP (w:World) (l:List Nm) (e:Ending) (w':World):Prop:=∃ v l',e = .returned v∧StC w' v l'∧l'.Perm l∧l'.Pairwise (fun a b=>leN a b=true)∧Below w.heap.size w w'
theorem merge_nil (a:List Nm):a.merge [] leN=a:=by cases a<;>simp [List.merge]
theorem nil_merge (b:List Nm):([]:List Nm).merge b leN=b:=by cases b<;>simp [List.merge]
theorem mg_left {a b:List Nm}{i k:Nat}{x:Nm}(hx:a[i]?=some x) (h:b.length≤k∨∃ y,b[k]?=some y∧leN x y=true):(a.drop i).merge (b.drop k) leN=x :: (a.drop (i+1)).merge (b.drop k) leN:=by
 have hil:=(List.getElem?_eq_some_iff.1 hx).1
 have e:a.drop i=x :: a.drop (i+1):=by
  rw [List.drop_eq_getElem_cons hil];congr 1;rw [List.getElem?_eq_getElem hil,Option.some.injEq] at hx;exact hx
 rcases h with h | ⟨y,hy,hle⟩
 ·rw [List.drop_of_length_le h,merge_nil,merge_nil,e]
 ·have hkl:=(List.getElem?_eq_some_iff.1 hy).1
  have e2:b.drop k=y :: b.drop (k+1):=by
   rw [List.drop_eq_getElem_cons hkl];congr 1;rw [List.getElem?_eq_getElem hkl,Option.some.injEq] at hy;exact hy
  rw [e,e2,List.cons_merge_cons,if_pos hle]
theorem mg_right {a b:List Nm}{i k:Nat}{y:Nm}(hy:b[k]?=some y) (h:a.length≤i∨∃ x,a[i]?=some x∧leN x y=false):(a.drop i).merge (b.drop k) leN=y :: (a.drop i).merge (b.drop (k+1)) leN:=by
 have hkl:=(List.getElem?_eq_some_iff.1 hy).1
 have e2:b.drop k=y :: b.drop (k+1):=by
  rw [List.drop_eq_getElem_cons hkl];congr 1;rw [List.getElem?_eq_getElem hkl,Option.some.injEq] at hy;exact hy
 rcases h with h | ⟨x,hx,hle⟩
 ·rw [List.drop_of_length_le h,nil_merge,nil_merge,e2]
 ·have hil:=(List.getElem?_eq_some_iff.1 hx).1
  have e:a.drop i=x :: a.drop (i+1):=by
   rw [List.drop_eq_getElem_cons hil];congr 1;rw [List.getElem?_eq_getElem hil,Option.some.injEq] at hx;exact hx
  rw [e,e2,List.cons_merge_cons,if_neg (by rw [hle];simp)]
set_option maxHeartbeats 2000000 in
set_option maxRecDepth 20000 in
theorem sort_any:∀ (N:Nat) (l:List Nm),l.length≤N→l.length≤400000→∀ {w:World}{v:Value},StC w v l→Calls Tryz.prog 53 #[v] w (SoP w l):=by
 intro N
 induction N with
 | zero =>
  intro l hN _ w v h
  have HV:=zh h
  obtain⟨ad,c,rfl,-⟩:=h
  have h0:l.length=0:=by omega
  have HV2:Hid (StC w (.slice ad 0 c) l):=by have:=HV.out;rw [h0] at this;exact this
  have PW:Hid (l.Pairwise (fun a b=>leN a b=true)):=by rw [List.eq_nil_of_length_eq_zero h0];exact List.Pairwise.nil
  rw [h0]
  clear HV hN h0
  go_enter Tryz.func53,Tryz.ntmps53
  go_wp2_with fail
  go_ret
  exact⟨_,l,rfl,HV2.out,List.Perm.refl _,PW.out,Below.refl _ _⟩
 | succ N ih =>
  intro l hN hL w v h
  have IH:=zh ih
  have HV:=zh h
  obtain⟨ad,c,rfl,hc1,hc2,hat⟩:=h
  obtain⟨n,hn⟩:∃ n,n=l.length:=⟨_,rfl⟩
  rw [← hn] at HV hc1 ⊢
  have HN:=zh hn
  have hnz:(n:Int)≤400000:=by omega
  by_cases h2:n<2
  ·have d1:decide ((n:Int)<2)=true:=by simp;omega
   have PW:Hid (l.Pairwise (fun a b=>leN a b=true)):=by
    match l,hn with
    | [],_=>exact List.Pairwise.nil
    | [x],_=>exact List.pairwise_singleton _ _
    | x :: y :: r,hn=>simp at hn;omega
   clear ih hn hN hL hc1 hc2 hat h2
   go_enter Tryz.func53,Tryz.ntmps53
   go_wp2_with fail
   go_ret
   exact⟨_,l,rfl,HV.out,List.Perm.refl _,PW.out,Below.refl _ _⟩
  ·have d1:decide ((n:Int)<2)=false:=by simp;omega
   obtain⟨g,o,rfl,hat2⟩:=hat (by omega)
   have hn0:(0:Int)≤n:=by omega
   have hq:(n:Int).tdiv 2=((n / 2:Nat):Int):=by rw [Int.tdiv_eq_ediv_of_nonneg hn0];omega
   have hm0:(0:Int)≤(n / 2):=by omega
   have hmn:((n / 2:Nat):Int)≤n:=by omega
   have hmc:((n / 2:Nat):Int)≤c:=by omega
   have hnc:(n:Int)≤c:=by omega
   have hcz:(c:Int)≤9223372036854775807:=by simp only [maxLen] at hc2;omega
   have hm1:(n / 2)<n:=by omega
   have hm2:0<(n / 2):=by omega
   have hmn':(n / 2)≤n:=by omega
   have hmc':(n / 2)≤c:=by omega
   have S1:Hid (StC w (.slice (some ⟨g,o,none⟩) (n / 2) c) (l.take (n / 2))):=by
    have e:(l.take (n / 2)).length=(n / 2):=by rw [List.length_take];omega
    exact⟨_,c,by rw [e],by omega,hc2,fun _=>⟨g,o,rfl,fun i x hi=>by
     have hil:=(List.getElem?_eq_some_iff.1 hi).1
     rw [e] at hil
     rw [List.getElem?_take_of_lt hil] at hi
     exact hat2 i x hi⟩⟩
   have S2:Hid (StC w (.slice (some ⟨g,o+(n / 2),none⟩) (n - (n / 2)) (c - (n / 2))) (l.drop (n / 2))):=by
    have e:(l.drop (n / 2)).length=n - (n / 2):=by rw [List.length_drop];omega
    exact⟨_,c - (n / 2),by rw [e],by omega,by omega,fun _=>⟨g,o+(n / 2),rfl,fun i x hi=>by
     rw [List.getElem?_drop] at hi
     rw [Nat.add_assoc]
     exact hat2 ((n / 2)+i) x hi⟩⟩
   have C1:=zh (IH.out (l.take (n / 2)) (by rw [List.length_take];omega) (by rw [List.length_take];omega) S1.out)
   have L2:Hid ((l.drop (n / 2)).length≤N∧(l.drop (n / 2)).length≤400000):=by show _∧_;rw [List.length_drop];omega
   clear ih hn hN hL hc1 hc2 hat hat2 h2
   go_enter Tryz.func53,Tryz.ntmps53
   go_wp2_with fail
   refine C1.out.mono ?_
   rintro en w1 ⟨v1,a,rfl,ha1,ha2,ha3,hb1⟩
   have A1:=zh ha1
   have A2:=zh ha2
   have A3:=zh ha3
   have B1:=zh hb1
   have C2:=zh (IH.out (l.drop (n / 2)) L2.out.1 L2.out.2 (S2.out.kept (kept_below hb1)))
   obtain⟨ada,ca,rfl,-⟩:=ha1
   clear ha2 ha3 hb1 S1 S2 C1
   go_wp2_with fail
   refine C2.out.mono ?_
   rintro en w2 ⟨v2,b,rfl,hb1,hb2,hb3,hbw⟩
   have AA:Hid (StC w2 (.slice ada a.length ca) a):=A1.out.kept (kept_below hbw)
   have BB:=zh hb1
   have PM:Hid ((a.merge b leN).Perm l):=by
    refine(List.merge_perm_append leN).trans ((A2.out.append hb2).trans ?_)
    rw [List.take_append_drop]
   have PW:Hid ((a.merge b leN).Pairwise (fun a b=>leN a b=true)):=List.pairwise_merge leN_trans leN_total _ _ A3.out hb3
   have B2:Hid (Below w.heap.size w w2):=B1.out.trans (hbw.mono B1.out.size)
   have LA:Hid (a.length+b.length=n):=by
    have h1:=A2.out.length_eq
    have h2:=hb2.length_eq
    rw [List.length_take] at h1
    rw [List.length_drop] at h2
    have:=HN.out
    show _=_;omega
   obtain⟨adb,cb,rfl,-⟩:=hb1
   obtain⟨na,hna⟩:∃ n,n=a.length:=⟨_,rfl⟩
   obtain⟨nb,hnb⟩:∃ n,n=b.length:=⟨_,rfl⟩
   rw [← hna] at AA LA ⊢
   rw [← hnb] at BB LA ⊢
   have HNA:=zh hna
   have HNB:=zh hnb
   have hnaz:(na:Int)≤400000:=by have:=LA.out;omega
   have hnbz:(nb:Int)≤400000:=by have:=LA.out;omega
   obtain⟨R,hR⟩:∃ R,R=a.merge b leN:=⟨_,rfl⟩
   rw [← hR] at PM PW
   have HR:=zh hR
   obtain⟨i9,p1,p2,p3,p4⟩:=info_parts Tryz.info9v
   have HI:=zh (And.intro p1 (And.intro p2 (And.intro p3 p4)))
   clear hb2 hb3 hbw A1 A2 A3 B1 C2 hna hnb hR p1 p2 p3 p4 L2 IH
   go_wp2_with fail
   go_loopw [5,6,7] (fun vo iv kv wr=>∃ (i k:Nat) (out:List Nm),i≤na∧k≤nb∧iv = .int .i64 i∧kv = .int .i64 k∧out.length=i+k∧wr.ownsRow w2.heap.size 9 1 vo out.length (strs out)∧out++(a.drop i).merge (b.drop k) leN=R∧Below w2.heap.size w2 wr) (fun _ iv kv _=>na+nb - ((intOf iv).toNat+(intOf kv).toNat))
   case atStart=>exact⟨0,0,[],Nat.zero_le _,Nat.zero_le _,rfl,rfl,rfl,World.ownsRow_nil _ _ _ _,by rw [HR.out];rfl,Below.refl _ _⟩
   case round =>
    rename World=>W
    obtain⟨i,k,out,hi,hk,rfl,rfl,hol,hown,hmg,hbw⟩:=hrel
    have KI:=zh hi
    have KK:=zh hk
    have OL:=zh hol
    have OW:=zh hown
    have MG:=zh hmg
    have BW:=zh hbw
    have hi0:(0:Int)≤i:=by omega
    have hk0:(0:Int)≤k:=by omega
    have hiz:(i:Int)≤400000:=by omega
    have hkz:(k:Int)≤400000:=by omega
    obtain⟨ra,rc,hvo⟩:=own_sliceI hown
    obtain⟨nr,hnr⟩:∃ q,q=out.length:=⟨_,rfl⟩
    rw [← hnr] at hvo
    have HNR:=zh hnr
    subst hvo
    have NB:Hid (nr+1≤maxLen∧(nr+1)*16≤140737488355328):=by show _∧_;simp only [maxLen];omega
    clear hi hk hol hown hmg hbw hnr
    have left:Hid (∀ x,a[i]?=some x→(b.length≤k∨∃ y,b[k]?=some y∧leN x y=true)→(out++[x])++(a.drop (i+1)).merge (b.drop k) leN=R):=fun x hx h=>by
     rw [← MG.out,mg_left hx h];simp
    have right:Hid (∀ y,b[k]?=some y→(a.length≤i∨∃ x,a[i]?=some x∧leN x y=false)→(out++[y])++(a.drop i).merge (b.drop (k+1)) leN=R):=fun y hy h=>by
     rw [← MG.out,mg_right hy h];simp
    have grow:Hid (∀ (T:World) (x:Nm),Below W.heap.size W T→World.ownsRow (T.alloc (.cells #[.string x] 9)) w2.heap.size 9 1 (.slice ra nr rc) nr (strs out)):=fun T x hT=>by
     have h1:=OW.out
     rw [← HNR.out] at h1
     exact owns_keep2 h1 fun q hq=>(Below.heap_alloc _ _ _ (Nat.lt_of_lt_of_le (World.ownsRow.lt h1 q hq).2 hT.size)).trans (hT.block q (World.ownsRow.lt h1 q hq).2)
    by_cases hkn:k<nb
    ·have dk:((k:Int)==nb)=false:=by simp;omega
     have dk2:decide ((k:Int)<nb)=true:=by simp;omega
     have HKN:=zh hkn
     obtain⟨gb,ob,y,hadb,hy,yb⟩:=(BB.out.kept (kept_below BW.out)).read HNB.out hkn
     subst hadb
     have HY:=zh hy
     have hkzn:(k:Int)<nb:=by omega
     by_cases hin:i<na
     ·have di:decide ((i:Int)<na)=true:=by simp;omega
      have hizn:(i:Int)<na:=by omega
      have HIN:=zh hin
      obtain⟨ga,oa,x,hada,hx,xa⟩:=(AA.out.kept (kept_below BW.out)).read HNA.out hin
      subst hada
      have HX:=zh hx
      clear hkn hin hx hy
      cases hle:leN x y with
      | true =>
       have NXT:=zh (left.out x HX.out (.inr ⟨y,HY.out,hle⟩))
       have dl:(Op.bytesLess x.toList y.toList||x.toList==y.toList)=true:=hle
       clear hle
       go_wp2_with fail
       go_quiet (fail)
       obtain⟨WQ,hWQ⟩:∃ X,X=W.drewN nq:=⟨_,rfl⟩
       have BQ:Hid (Below W.heap.size W WQ):=by rw [hWQ];exact below_drewN _ _ _
       have xc:WQ.cell? ⟨ga,oa+i,none⟩=some (.string x):=by rw [hWQ];exact xa
       try rw [← hWQ]
       have O5:=zh (grow.out WQ x BQ.out)
       have BA:Hid (Below w2.heap.size w2 (WQ.alloc (.cells #[.string x] 9))):=(BW.out.trans (BQ.out.mono BW.out.size)).alloc (BW.out.trans (BQ.out.mono BW.out.size)).size _
       clear hWQ xa
       go_wp2_with (at_builtin;refine wpList_append_own _ rfl _ _ 35 rfl w2.heap.size 9 i9 (.string ⟨#[]⟩) 1 16 Tryz.underlying35 HI.out.1 HI.out.2.1 HI.out.2.2.1 HI.out.2.2.2 rfl (by decide) (.slice ra nr rc) nr (strs out) rfl O5.out ⟨WQ.heap.size,0,none⟩ 1 1 [.string x] rfl rfl (news1 _ _ _) (fun u hu=>by simp at hu;rw [hu];rfl) NB.out.1 NB.out.2 BA.out.size ?_)
       intro vo' w6 hown hg6 _
       have B6:Hid (Below w2.heap.size w2 w6):=BA.out.grown hg6 BA.out.size (fun q e=>(O5.out.lt q e).1)
       have O6:Hid (w6.ownsRow w2.heap.size 9 1 vo' (out++[x]).length (strs (out++[x]))):=by
        show World.ownsRow _ _ _ _ _ _ _
        rw [List.length_append,List.length_singleton,← HNR.out]
        unfold strs at hown ⊢
        rw [List.map_append];exact hown
       clear hown hg6 O5 xc
       go_wp2_with fail
       go_roundw
       case rel=>exact⟨i+1,k,out++[x],HIN.out,KK.out,by go_num,by go_num,by rw [List.length_append,OL.out];simp;omega,O6.out,NXT.out,B6.out⟩
       case measure=>have h1:=KI.out;have h2:=KK.out;have h3:=HIN.out;simp [intOf];omega
      | false =>
       have NXT:=zh (right.out y HY.out (.inr ⟨x,HX.out,hle⟩))
       have dl:(Op.bytesLess x.toList y.toList||x.toList==y.toList)=false:=hle
       clear hle
       go_wp2_with fail
       go_quiet (fail)
       obtain⟨WQ,hWQ⟩:∃ X,X=W.drewN nq:=⟨_,rfl⟩
       have BQ:Hid (Below W.heap.size W WQ):=by rw [hWQ];exact below_drewN _ _ _
       have xc:WQ.cell? ⟨gb,ob+k,none⟩=some (.string y):=by rw [hWQ];exact yb
       try rw [← hWQ]
       have O5:=zh (grow.out WQ y BQ.out)
       have BA:Hid (Below w2.heap.size w2 (WQ.alloc (.cells #[.string y] 9))):=(BW.out.trans (BQ.out.mono BW.out.size)).alloc (BW.out.trans (BQ.out.mono BW.out.size)).size _
       clear hWQ yb
       go_wp2_with (at_builtin;refine wpList_append_own _ rfl _ _ 35 rfl w2.heap.size 9 i9 (.string ⟨#[]⟩) 1 16 Tryz.underlying35 HI.out.1 HI.out.2.1 HI.out.2.2.1 HI.out.2.2.2 rfl (by decide) (.slice ra nr rc) nr (strs out) rfl O5.out ⟨WQ.heap.size,0,none⟩ 1 1 [.string y] rfl rfl (news1 _ _ _) (fun u hu=>by simp at hu;rw [hu];rfl) NB.out.1 NB.out.2 BA.out.size ?_)
       intro vo' w6 hown hg6 _
       have B6:Hid (Below w2.heap.size w2 w6):=BA.out.grown hg6 BA.out.size (fun q e=>(O5.out.lt q e).1)
       have O6:Hid (w6.ownsRow w2.heap.size 9 1 vo' (out++[y]).length (strs (out++[y]))):=by
        show World.ownsRow _ _ _ _ _ _ _
        rw [List.length_append,List.length_singleton,← HNR.out]
        unfold strs at hown ⊢
        rw [List.map_append];exact hown
       clear hown hg6 O5 xc
       go_wp2_with fail
       go_roundw
       case rel=>exact⟨i,k+1,out++[y],KI.out,HKN.out,by go_num,by go_num,by rw [List.length_append,OL.out];simp;omega,O6.out,NXT.out,B6.out⟩
       case measure=>have h1:=KI.out;have h2:=KK.out;have h3:=HKN.out;simp [intOf];omega
     ·have di:decide ((i:Int)<na)=false:=by simp;omega
      have di3:(na:Int)≤i:=by omega
      have di4:decide (i<na)=false:=by simp;omega
      have NXT:=zh (right.out y HY.out (.inl (by have:=HNA.out;omega)))
      clear hkn hin hy
      go_wp2_with fail
      go_quiet (fail)
      obtain⟨WQ,hWQ⟩:∃ X,X=W.drewN nq:=⟨_,rfl⟩
      have BQ:Hid (Below W.heap.size W WQ):=by rw [hWQ];exact below_drewN _ _ _
      have xc:WQ.cell? ⟨gb,ob+k,none⟩=some (.string y):=by rw [hWQ];exact yb
      try rw [← hWQ]
      have O5:=zh (grow.out WQ y BQ.out)
      have BA:Hid (Below w2.heap.size w2 (WQ.alloc (.cells #[.string y] 9))):=(BW.out.trans (BQ.out.mono BW.out.size)).alloc (BW.out.trans (BQ.out.mono BW.out.size)).size _
      clear hWQ yb
      go_wp2_with (at_builtin;refine wpList_append_own _ rfl _ _ 35 rfl w2.heap.size 9 i9 (.string ⟨#[]⟩) 1 16 Tryz.underlying35 HI.out.1 HI.out.2.1 HI.out.2.2.1 HI.out.2.2.2 rfl (by decide) (.slice ra nr rc) nr (strs out) rfl O5.out ⟨WQ.heap.size,0,none⟩ 1 1 [.string y] rfl rfl (news1 _ _ _) (fun u hu=>by simp at hu;rw [hu];rfl) NB.out.1 NB.out.2 BA.out.size ?_)
      intro vo' w6 hown hg6 _
      have B6:Hid (Below w2.heap.size w2 w6):=BA.out.grown hg6 BA.out.size (fun q e=>(O5.out.lt q e).1)
      have O6:Hid (w6.ownsRow w2.heap.size 9 1 vo' (out++[y]).length (strs (out++[y]))):=by
       show World.ownsRow _ _ _ _ _ _ _
       rw [List.length_append,List.length_singleton,← HNR.out]
       unfold strs at hown ⊢
       rw [List.map_append];exact hown
      clear hown hg6 O5 xc
      go_wp2_with fail
      go_roundw
      case rel=>exact⟨i,k+1,out++[y],KI.out,HKN.out,by go_num,by go_num,by rw [List.length_append,OL.out];simp;omega,O6.out,NXT.out,B6.out⟩
      case measure=>have h1:=KI.out;have h2:=KK.out;have h3:=HKN.out;simp [intOf];omega
    ·have dk:((k:Int)==nb)=true:=by have:=KK.out;simp;omega
     have dk2:decide ((k:Int)<nb)=false:=by simp;omega
     have dk3:(nb:Int)≤k:=by omega
     have dk4:decide (k<nb)=false:=by simp;omega
     by_cases hin:i<na
     ·have di:decide ((i:Int)<na)=true:=by simp;omega
      have hizn:(i:Int)<na:=by omega
      have HIN:=zh hin
      obtain⟨ga,oa,x,hada,hx,xa⟩:=(AA.out.kept (kept_below BW.out)).read HNA.out hin
      subst hada
      have HX:=zh hx
      have NXT:=zh (left.out x hx (.inl (by have:=HNB.out;omega)))
      clear hkn hin hx
      go_wp2_with fail
      go_quiet (fail)
      obtain⟨WQ,hWQ⟩:∃ X,X=W.drewN nq:=⟨_,rfl⟩
      have BQ:Hid (Below W.heap.size W WQ):=by rw [hWQ];exact below_drewN _ _ _
      have xc:WQ.cell? ⟨ga,oa+i,none⟩=some (.string x):=by rw [hWQ];exact xa
      try rw [← hWQ]
      have O5:=zh (grow.out WQ x BQ.out)
      have BA:Hid (Below w2.heap.size w2 (WQ.alloc (.cells #[.string x] 9))):=(BW.out.trans (BQ.out.mono BW.out.size)).alloc (BW.out.trans (BQ.out.mono BW.out.size)).size _
      clear hWQ xa
      go_wp2_with (at_builtin;refine wpList_append_own _ rfl _ _ 35 rfl w2.heap.size 9 i9 (.string ⟨#[]⟩) 1 16 Tryz.underlying35 HI.out.1 HI.out.2.1 HI.out.2.2.1 HI.out.2.2.2 rfl (by decide) (.slice ra nr rc) nr (strs out) rfl O5.out ⟨WQ.heap.size,0,none⟩ 1 1 [.string x] rfl rfl (news1 _ _ _) (fun u hu=>by simp at hu;rw [hu];rfl) NB.out.1 NB.out.2 BA.out.size ?_)
      intro vo' w6 hown hg6 _
      have B6:Hid (Below w2.heap.size w2 w6):=BA.out.grown hg6 BA.out.size (fun q e=>(O5.out.lt q e).1)
      have O6:Hid (w6.ownsRow w2.heap.size 9 1 vo' (out++[x]).length (strs (out++[x]))):=by
       show World.ownsRow _ _ _ _ _ _ _
       rw [List.length_append,List.length_singleton,← HNR.out]
       unfold strs at hown ⊢
       rw [List.map_append];exact hown
      clear hown hg6 O5 xc
      go_wp2_with fail
      go_roundw
      case rel=>exact⟨i+1,k,out++[x],HIN.out,KK.out,by go_num,by go_num,by rw [List.length_append,OL.out];simp;omega,O6.out,NXT.out,B6.out⟩
      case measure=>have h1:=KI.out;have h2:=KK.out;have h3:=HIN.out;simp [intOf];omega
     ·have di:decide ((i:Int)<na)=false:=by simp;omega
      have di3:(na:Int)≤i:=by omega
      have di4:decide (i<na)=false:=by simp;omega
      have E:Hid (out=R):=by
       show _=_
       rw [← MG.out,List.drop_of_length_le (by have:=HNA.out;omega),List.drop_of_length_le (by have:=HNB.out;omega),merge_nil,List.append_nil]
      clear hkn hin
      go_wp2_with fail
      go_ret
      have h1:=OW.out
      exact⟨_,R,rfl,by rw [← E.out];exact StC.of_own (by rw [← HNR.out];rw [← HNR.out] at h1;exact h1),PM.out,PW.out,B2.out.trans (BW.out.mono B2.out.size)⟩
end Go.Proofs.YtnkahlloahgifaaGreatDoor

namespace Go.Proofs.YtnkahlloahgifaaGreatDoor
open Go.RowKit RG Go.Maps RF
theorem sizes_len2:∀ l:List (List Nm×TE),l.length≤sizes l
 | []=>Nat.zero_le _
 | p :: r=>by rw [sizes_cons,List.length_cons];have:=sizes_len2 r;have:=p.2.size_pos;omega
theorem next_few {ps:List Nm}{e:TE}{i:Nat}(hi:i<(F0 ps e).length):(nd (F0 ps e) i).next.length≤(F0 ps e).length:=by
 obtain⟨l,hs⟩:=stk_at ps e i (by omega)
 obtain⟨bs,e1,r,rfl,hn,hz⟩:=stk_head hs hi
 have h1:=e1.size_kids
 have h2:=sizes_len2 e1.kids
 rw [hn]
 show (nums (i+1) e1.kids).length≤_
 rw [nums_length]
 omega
theorem binds_few {F:List Nd}(hf:∀ k,k<F.length→(nd F k).binds.length≤1000000):∀ l:List Nat,(∀ k∈l,k<F.length)→(l.flatMap fun k=>(nd F k).binds).length≤l.length*1000000
 | [],_=>by simp
 | k :: r,h=>by
  rw [List.flatMap_cons,List.length_append,List.length_cons]
  have h1:=hf k (h k (List.mem_cons_self ..))
  have h2:=binds_few hf r (fun q hq=>h q (List.mem_cons_of_mem _ hq))
  omega
theorem run_append_none' {P:Program}{w:World}(base:Nat) (t ty e:TypeId) (i:TypeInfo) (size:Nat) (ht:P.underlying t=some (.slice e)) (hi:P.info? e=some i)
  (v:Value) (n c:Nat) (xs:List Value) (hown:w.ownsRow base e size v n xs) :
  (Builtin.append_ #[t,t] ty #[v,.slice none 0 c]).run P w = .ok v w:=by
 rcases hown.2 with ⟨rfl,rfl⟩|⟨g,cap,cur,rfl,_,_,hnc,_⟩
 ·simp [Builtin.append_,run_underlying ht,sizeOf,typeInfo,hi,Builtin.lenOf,Builtin.firstCells]
 ·simp [Builtin.append_,run_underlying ht,sizeOf,typeInfo,hi,Builtin.lenOf,Builtin.firstCells,hnc,storeCells]
theorem wpList_append_none' {P:Program}{w:World}{ops:Array Oper}{rest:List Oper}{o:Oper}{a:Act}{Q:Exit→Act→World→Prop}(hgd:o.guard=none) (s x:Operand) (t:TypeId)
  (ho:o.op = .call { callee := .builtin .append,args := #[s,x],argTypes := #[t,t] })
  (base:Nat) (e:TypeId) (i:TypeInfo) (size:Nat) (ht:P.underlying t=some (.slice e)) (hi:P.info? e=some i)
  (v:Value) (n c:Nat) (xs:List Value) (hs:a.eval s=v) (hown:w.ownsRow base e size v n xs) (hx:a.eval x = .slice none 0 c)
  (h:wpList P ops Q rest (a.put o.dst v) w):wpList P ops Q (o :: rest) a w:=by
 refine wpList_plain hgd fun K hK=>?_
 have hrun:=run_append_none' (P:=P) (w:=w) base t o.type e i size ht hi v n c xs hown
 unfold Oper.wp
 simp [execOp,ho,resolve,invoke,builtin,hs,hx,hrun,Result.andThen]
 exact hK _ _ h
theorem strs_one {l:List Nm}{u:Value}(h:u∈strs l):u.oneCell'=true:=by
 unfold strs at h
 obtain⟨x,_,rfl⟩:=List.mem_map.1 h
 rfl
set_option maxHeartbeats 2000000 in
set_option maxRecDepth 20000 in
theorem binds_any {Env:World→Prop}{isName:Nm→Bool}{w:World}{v:Value}{ps:List Nm}{e:TE}(h:FnOk Env isName w v ps e) (at':Int):Calls Tryz.prog 34 #[v,.int .i64 at'] w (LvP isName w ps e at' (bindsAt (F0 ps e))):=by
 have FD:=zh (found_any h at')
 obtain⟨cs,rfl⟩:=h.cells
 obtain⟨i9,p1,p2,p3,p4⟩:=info_parts Tryz.info9v
 have HI9:=zh (And.intro p1 (And.intro p2 (And.intro p3 p4)))
 clear h p1 p2 p3 p4
 go_enter Tryz.func34,Tryz.ntmps34
 go_wp2_with fail
 refine FD.out.mono ?_
 rintro en w1 ⟨hb,⟨hg,A,f,i,rfl,hi,rfl,hfl⟩|⟨hg,ho,rfl⟩|⟨hng,rfl⟩⟩
 ·obtain⟨sx,n0,n1⟩:=hfl.at'.node i hi
  have NF:=zh (next_few hi)
  have NX:=zh n1
  obtain⟨_,xa,xc,rfl,-⟩:=id n1
  have c1:w1.cell? ⟨A.nb i,1,none⟩=some (.slice xa (nd (F0 ps e) i).next.length xc):=by rw [cell_of_row _ _ 1 _ _ _ n0];rfl
  obtain⟨ls,hls⟩:∃ ls,ls=(nd (F0 ps e) i).next:=⟨_,rfl⟩
  have NL:Hid (∀ k∈ls,k<(F0 ps e).length):=fun k hk=>(hfl.fo.nxt i hi k (by rw [← hls];exact hk)).2
  rw [← hls] at c1 NX NF
  obtain⟨n,hn⟩:∃ n,n=ls.length:=⟨_,rfl⟩
  rw [← hn] at c1 NX NF
  have HN:=zh hn
  have HLS:=zh hls
  have HB:=zh hb
  have HG:=zh hg
  have HF:=zh hfl
  have HI:=zh hi
  have HNZ:Hid (n≤20000):=Nat.le_trans NF.out hfl.len
  have hnz:(n:Int)≤20000:=by have:=HNZ.out;omega
  have BF:Hid (∀ l:List Nat,(∀ k∈l,k<(F0 ps e).length)→(l.flatMap fun k=>(nd (F0 ps e) k).binds).length≤l.length*1000000):=binds_few (fun k hk=>Nat.le_trans (binds_le hk) hfl.few)
  clear hb hg hfl hi n0 n1 hn hls FD
  go_wp2_with fail
  go_loopw [9,26] (fun ov iv wr=>∃ j:Nat,j≤n∧iv = .int .i64 j∧World.ownsRow wr w1.heap.size 9 1 ov ((ls.take j).flatMap fun k=>(nd (F0 ps e) k).binds).length (strs ((ls.take j).flatMap fun k=>(nd (F0 ps e) k).binds))∧Below w1.heap.size w1 wr) (fun _ iv _=>n - (intOf iv).toNat)
  case atStart=>exact⟨0,Nat.zero_le _,rfl,World.ownsRow_nil _ _ _ _,Below.refl _ _⟩
  case round =>
   rename World=>V
   obtain⟨j,hj,rfl,hown,hbv⟩:=hrel
   have KJ:=zh hj
   have KO:=zh hown
   have BV:=zh hbv
   obtain⟨oa,oc,hov⟩:=own_sliceI hown
   subst hov
   obtain⟨out,hout⟩:∃ out,out=(ls.take j).flatMap fun k=>(nd (F0 ps e) k).binds:=⟨_,rfl⟩
   have HO:=zh hout
   rw [← hout] at KO ⊢
   clear hj hown hbv hout
   obtain⟨no,hno⟩:∃ no,no=out.length:=⟨_,rfl⟩
   have HNO:=zh hno
   rw [← hno] at KO ⊢
   clear hno
   by_cases hlt:j<n
   ·have hlz:(j:Int)<n:=by omega
    have hj0:(0:Int)≤j:=by omega
    have HLT:=zh hlt
    obtain⟨k,hk⟩:∃ k,ls[j]?=some k:=⟨_,List.getElem?_eq_getElem (by rw [← HN.out];exact hlt)⟩
    have hkl:=NL.out k (List.mem_of_getElem? hk)
    obtain⟨ad,cc,hsl,hat⟩:=NX.out.at'
    simp only [Value.slice.injEq] at hsl
    obtain⟨rfl,-,rfl⟩:=hsl
    obtain⟨g,o,rfl,hat2⟩:=hat (by omega)
    have hcx:=hat2 j _ (ptrs_at (show (ls.map A.lb)[j]?=some (A.lb k) by rw [List.getElem?_map,hk];rfl))
    have yx:=kept_below BV.out _ _ hcx
    obtain⟨sv,xv,l0,l1⟩:=(HF.out.keep BV.out).at'.link k hkl
    obtain⟨-,na,nc,rfl,nat1⟩:=l1
    have q0:V.cell? ⟨A.lb k,0,none⟩=some (.slice na (nd (F0 ps e) k).binds.length nc):=by rw [cell_of_row _ _ 0 _ _ _ l0];rfl
    obtain⟨nw,hnw⟩:∃ nw,nw=(nd (F0 ps e) k).binds:=⟨_,rfl⟩
    rw [← hnw] at q0 nat1
    have TK:Hid ((ls.take (j+1)).flatMap (fun k=>(nd (F0 ps e) k).binds)=out++nw):=by
     show _=_
     rw [List.take_add_one,hk,List.flatMap_append,HO.out,hnw];simp
    have LB:Hid (no+nw.length≤20000000000):=by
     have h1:=BF.out (ls.take (j+1)) (fun q hq=>NL.out q (List.mem_of_mem_take hq))
     rw [TK.out,List.length_append,← HNO.out,List.length_take] at h1
     have h2:=HNZ.out
     show _≤_
     omega
    obtain⟨nn,hnn⟩:∃ nn,nn=nw.length:=⟨_,rfl⟩
    rw [← hnn] at q0 nat1 LB
    have HNN:=zh hnn
    have NA:=zh nat1
    clear hlt hat hat2 hk hcx hnw l0 hkl hnn nat1
    have NB:Hid (no+nn≤maxLen∧(no+nn)*16≤140737488355328):=by have:=LB.out;show _∧_;simp only [maxLen];omega
    cases na with
    | none =>
     have N0:nn=0:=by
      rcases Nat.eq_zero_or_pos nn with h0 | h0
      ·exact h0
      ·obtain⟨g,o,he,_⟩:=NA.out h0;cases he
     subst N0
     have TK2:Hid ((ls.take (j+1)).flatMap (fun k=>(nd (F0 ps e) k).binds)=out):=by
      show _=_
      rw [TK.out,List.eq_nil_of_length_eq_zero HNN.out.symm,List.append_nil]
     go_wp2_with (at_builtin;refine wpList_append_none' rfl _ _ 35 rfl w1.heap.size 9 i9 1 Tryz.underlying35 HI9.out.1 (.slice oa no oc) no nc (strs out) rfl KO.out rfl ?_)
     go_roundw
     case rel=>exact⟨j+1,HLT.out,by go_num,by rw [TK2.out,← HNO.out];exact KO.out,BV.out⟩
     case measure=>have:=HLT.out;simp [intOf];omega
    | some ad =>
     have NW:Hid (∀ (q:Nat) (u:Value),(strs nw)[q]?=some u→V.cell? (ad.add q)=some u):=fun q u hu=>by
      have hq:=(List.getElem?_eq_some_iff.1 hu).1
      rw [strs_length] at hq
      obtain⟨g',o',he,hat3⟩:=NA.out (by rw [HNN.out];omega)
      obtain rfl:=Option.some.inj he
      rw [Addr.add_lit]
      exact hat3 q u hu
     go_wp2_with (at_builtin;refine wpList_append_own _ rfl _ _ 35 rfl w1.heap.size 9 i9 (.string ⟨#[]⟩) 1 16 Tryz.underlying35 HI9.out.1 HI9.out.2.1 HI9.out.2.2.1 HI9.out.2.2.2 rfl (by decide) (.slice oa no oc) no (strs out) rfl KO.out ad nn nc (strs nw) rfl (by rw [strs_length,HNN.out,Nat.mul_one]) NW.out (fun u hu=>strs_one hu) NB.out.1 NB.out.2 BV.out.size ?_)
     intro vo w6 hown hg _
     have B6:Hid (Below w1.heap.size w1 w6):=BV.out.grown hg BV.out.size (fun q e=>(KO.out.lt q e).1)
     have M6:Hid (World.ownsRow w6 w1.heap.size 9 1 vo ((ls.take (j+1)).flatMap fun k=>(nd (F0 ps e) k).binds).length (strs ((ls.take (j+1)).flatMap fun k=>(nd (F0 ps e) k).binds))):=by
      show World.ownsRow _ _ _ _ _ _ _
      rw [TK.out,List.length_append,← HNO.out,← HNN.out]
      unfold strs at hown ⊢
      rw [List.map_append];exact hown
     clear hown hg
     go_wp2_with fail
     go_roundw
     case rel=>exact⟨j+1,HLT.out,by go_num,M6.out,B6.out⟩
     case measure=>have:=HLT.out;simp [intOf];omega
   ·obtain rfl:j=n:=by have:=KJ.out;omega
    have hdi:decide (j<j)=false:=by simp
    have ST:Hid (StrsAt V (.slice oa no oc) (bindsAt (F0 ps e) i)):=by
     have e1:bindsAt (F0 ps e) i=out:=by
      rw [HO.out,List.take_of_length_le (by rw [HN.out];exact Nat.le_refl _),HLS.out];rfl
     show StrsAt _ _ _
     rw [e1]
     refine⟨strs_length _,oa,oc,by rw [HNO.out],fun h0=>?_⟩
     rcases KO.out.2 with ⟨he,h1⟩|⟨g,cap,cur,hv,_,hg,k1,k2,k3,k4⟩
     ·rw [HNO.out] at h1;omega
     ·simp only [Value.slice.injEq,true_and] at hv
      obtain⟨rfl,rfl⟩:=hv
      refine⟨g,0,rfl,fun i x hi=>?_⟩
      have hl:=(List.getElem?_eq_some_iff.1 hi).1
      rw [strs_length] at hl
      rw [Nat.zero_add,cell_of_row _ _ _ _ _ _ hg,← Array.getElem?_toList,← List.getElem?_take_of_lt (show i<no*1 by rw [HNO.out];omega),k4]
      exact hi
    go_wp2_with fail
    go_ret2
    exact⟨HB.out.trans (BV.out.mono HB.out.size),.inl ⟨HG.out,i,_,rfl,HI.out,rfl,ST.out⟩⟩
 ·have HB:=zh hb
  have HG:=zh (And.intro hg ho)
  clear hb hg ho
  go_wp2_with fail
  go_ret2
  exact⟨HB.out,.inr (.inl ⟨HG.out.1,HG.out.2,rfl⟩)⟩
 ·have HB:=zh hb
  have HG:=zh hng
  clear hb hng
  go_wp2_with fail
  go_ret2
  exact⟨HB.out,.inr (.inr ⟨HG.out,rfl⟩)⟩
end Go.Proofs.YtnkahlloahgifaaGreatDoor
