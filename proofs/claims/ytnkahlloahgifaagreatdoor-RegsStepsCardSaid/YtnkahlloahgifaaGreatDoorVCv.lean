/- Part. -/
import Derived.Test.YtnkahlloahgifaaGreatDoorVCb
import Derived.Test.YtnkahlloahgifaaGreatDoorVDa
import Derived.Test.YtnkahlloahgifaaGreatDoorVShelf
import Derived.Deep.OwnRows
import Derived.Deep.RegionHeld3
import Derived.Shelf.RegionOpenPlain
import Derived.Deep.LoopGhost
import Derived.Test.YtnkahlloahgifaaGreatDoorVEc
import Derived.KernelRfl
set_option linter.unusedSimpArgs false
set_option linter.unusedVariables false
namespace RG
theorem lay_few:∀ (f n:Nat) (l:List (List Nm×TE)),sizes l≤f→(∀ d∈layS n l,nodeOk d.e=true)→(∀ p∈l,p.1.length≤16)→(vars (layS n l)).length≤16*sizes l
 | f,n,[],_,_,_=>by rw [layS_nil];simp [vars]
 | 0,n,(bs,e) :: r,hf,_,_=>by rw [sizes_cons] at hf;have:=e.size_pos;simp at hf;omega
 | f+1,n,(bs,e) :: r,hf,hd,hp=>by
  rw [sizes_cons] at hf
  simp only [] at hf
  rw [layS_cons] at hd ⊢
  have hs:=e.size_kids
  have hok:=hd _ List.mem_cons_self
  unfold nodeOk at hok
  simp only [Bool.and_eq_true,List.all_eq_true,decide_eq_true_eq] at hok
  have ih:=lay_few f (n+1) (e.kids++r) (by rw [sizes_append];omega) (fun d h=>hd d (List.mem_cons_of_mem _ h)) (fun p h=>by
   rcases List.mem_append.1 h with h | h
   ·exact hok.2 p h
   ·exact hp p (List.mem_cons_of_mem _ h))
  have h0:=hp _ List.mem_cons_self
  simp only [] at h0
  rw [vars_cons,List.length_append,sizes_cons]
  rw [sizes_append] at ih
  simp only []
  omega
theorem Good.few {isName:Nm→Bool}{ps:List Nm}{e:TE}(h:Good isName ps e):(vars (F0 ps e)).length≤320000:=by
 have hs:sizes [(ps,e)]=e.size:=by rw [sizes_cons,sizes_nil];rfl
 have:=lay_few e.size 0 [(ps,e)] (by rw [hs];exact Nat.le_refl _) h.form (fun p hp=>by simp at hp;rw [hp];exact h.params)
 rw [hs] at this
 have:=h.size
 unfold F0
 omega
theorem nodup_sub_len:∀ {a b:List Int},a.Nodup→(∀ x∈a,x∈b)→a.length≤b.length:=fun {a b} h1 h2=>by
 by_cases h:b.length≤a.length
 ·have:=(RM.perm_of_sub h1 h2 h).length_eq;omega
 ·omega
theorem vars_take_succ {F:List Nd}{i:Nat}(hi:i<F.length):vars (F.take (i+1))=vars (F.take i)++(nd F i).binds:=by
 unfold vars
 rw [List.take_add_one,nd_some hi,List.flatMap_append]
 simp
theorem named_le {F:List Nd}(q:Nm→Bool):(named F q).length≤(vars F).length:=List.length_filter_le _ _
end RG
namespace Go.Proofs.YtnkahlloahgifaaGreatDoor
open Go.RowKit RG Go.Maps
open Go.WideMaps (keyOf_string_mk)
theorem pmap_run {w:World}{b:Nat}{F:List Nd}(h:PMap w b (vars F)) {x:Nm}(hx:x∈vars F):(Instr.lookup 116 (.map (some b)) (.string x) false).run Tryz.prog w = .ok (.int .i64 (place F x:Nat)) w:=by
 obtain⟨D,h1,h2,h3,h4⟩:=h
 obtain⟨g1,g2,g3⟩:=h3 _ _ (place_at hx)
 obtain⟨c,hrun,hat,_⟩:=h1.lookup_int keyed9 Tryz.underlying116 Tryz.underlying3 (zero3 w) (keyOf_string_mk Tryz.underlying9 g1)
 rw [g3] at hat
 simp at hat
 rw [← hat] at hrun
 exact hrun
structure AlS (w:World) (g:Nat) (F:List Nd) (regs:List Nat) (done:List Nm) (f:Nat→Value):Prop where
 row:w.rowIs g 61 ((vars F).length*2) f
 len:regs.length=(vars F).length
 reg:∀ p,p<(vars F).length→f (p*2+1) = .int .i64 ((regs.getD p 0:Nat):Int)
 nam:∀ x∈done,x∈vars F→f (place F x*2) = .string x
 small:∀ r∈regs,r≤1000000
section
variable {w w':World} {g:Nat} {F:List Nd} {regs:List Nat} {done:List Nm} {f:Nat→Value}
theorem AlS.keep (h:AlS w g F regs done f) (hb:w'.heap[g]?=w.heap[g]?):AlS w' g F regs done f:=⟨h.row.of_block hb,h.len,h.reg,h.nam,h.small⟩
theorem getD_small (h:∀ r∈regs,r≤1000000) (p:Nat):regs.getD p 0≤1000000:=by
 rw [List.getD_eq_getElem?_getD]
 cases hq:regs[p]? with
 | none=>simp
 | some r=>exact h r (List.mem_of_getElem? hq)
theorem AlS.put (h:AlS w g F regs done f) {x:Nm}(hx:x∈vars F) {r:Nat}(hr:r≤1000000):∃ f',AlS ((w.setCell ⟨g,place F x*2,none⟩ (.string x)).setCell ⟨g,place F x*2+1,none⟩ (.int .i64 (r:Int))) g F (regs.set (place F x) r) (done++[x]) f':=by
 have hp:=place_lt hx
 refine⟨_,⟨(h.row.set _ _).set _ _,by rw [List.length_set];exact h.len,fun p hpl=>?_,fun y hy hyv=>?_,fun q hq=>?_⟩⟩
 ·show (if p*2+1=place F x*2+1 then _ else if p*2+1=place F x*2 then _ else f (p*2+1))=_
  by_cases e:p=place F x
  ·subst e
   rw [if_pos rfl,List.getD_eq_getElem?_getD,List.getElem?_set_self (by rw [h.len];exact hp)];rfl
  ·rw [if_neg (by omega),if_neg (by omega),h.reg p hpl,List.getD_eq_getElem?_getD,List.getD_eq_getElem?_getD,List.getElem?_set_ne (fun h=>e h.symm)]
 ·show (if place F y*2=place F x*2+1 then _ else if place F y*2=place F x*2 then _ else f (place F y*2))=_
  rw [if_neg (by omega)]
  by_cases e:place F y=place F x
  ·rw [if_pos (by omega),place_inj hyv hx e]
  ·rw [if_neg (by omega)]
   rcases List.mem_append.1 hy with hy | hy
   ·exact h.nam y hy hyv
   ·simp at hy;subst hy;exact absurd rfl e
 ·rcases List.mem_or_eq_of_mem_set hq with hq | rfl
  ·exact h.small q hq
  ·exact hr
theorem AlS.vars (h:AlS w g F regs done f) (hn:(vars F).Nodup) (hd:∀ x∈RG.vars F,x∈done):VarsAt w (.slice (some ⟨g,0,none⟩) (RG.vars F).length (RG.vars F).length) (pairs F regs):=by
 have hl:(pairs F regs).length=(RG.vars F).length:=List.length_map _
 refine⟨some ⟨g,0,none⟩,(RG.vars F).length,by rw [hl],fun h0=>⟨g,0,rfl,fun i m hi=>?_⟩⟩
 obtain⟨x,r⟩:=m
 obtain⟨h1,h2⟩:=pairs_at hi
 have hil:=(List.getElem?_eq_some_iff.1 h1).1
 have hxv:=List.mem_of_getElem? h1
 have hpl:=place_of hn h1
 rw [Nat.zero_add]
 constructor
 ·rw [h.row.cell (by omega)]
  have:=h.nam x (hd x hxv) hxv
  rw [hpl] at this
  rw [this]
 ·rw [h.row.cell (by omega),h.reg i hil,h2]
  unfold regIn
  rw [hpl]
end
def Tx (F:List Nd) (i:Nat) (regs:List Nat) (todo:Int→Bool):List Nat:=((named F (cross F i)).filter fun x => !todo (place F x:Nat)).map fun x=>regs.getD (place F x) 0
theorem Tx_start (F:List Nd) (i:Nat) (regs:List Nat) (todo:Int→Bool) (h:∀ x∈named F (cross F i),todo (place F x:Nat)=true):Tx F i regs todo=[]:=by
 unfold Tx
 rw [List.filter_eq_nil_iff.2 (fun x hx=>by rw [h x hx];decide)];rfl
theorem Tx_end (F:List Nd) (i:Nat) (regs:List Nat) (todo:Int→Bool) (h:∀ k,todo k=false):Tx F i regs todo=(named F (cross F i)).map fun x=>regs.getD (place F x) 0:=by
 unfold Tx
 rw [List.filter_eq_self.2 (fun x hx=>by rw [h];rfl)]
theorem Tx_len (F:List Nd) (i:Nat) (regs:List Nat) (todo:Int→Bool):(Tx F i regs todo).length≤(vars F).length:=by
 unfold Tx
 rw [List.length_map]
 exact Nat.le_trans (List.length_filter_le _ _) (named_le _)
theorem Tx_step {F:List Nd}{i:Nat}{regs:List Nat}{todo:Int→Bool}{y:Nm}(hy:y∈vars F) (hc:cross F i y=true) (ht:todo (place F y:Nat)=true) (t:Int) :
  t∈ofNats (Tx F i regs todo)++[((regs.getD (place F y) 0:Nat):Int)]↔t∈ofNats (Tx F i regs fun k=>todo k && !decide (k=(place F y:Nat))):=by
 unfold ofNats Tx
 simp only [List.mem_append,List.mem_map,List.mem_filter,List.mem_singleton,List.map_map]
 constructor
 ·rintro (⟨x,⟨hx,h1⟩,rfl⟩ | rfl)
  ·exact⟨x,⟨hx,by simp at h1;simp [h1]⟩,rfl⟩
  ·exact⟨y,⟨mem_named.2 ⟨hy,hc⟩,by simp⟩,rfl⟩
 ·rintro ⟨x,⟨hx,h1⟩,rfl⟩
  by_cases e:place F x=place F y
  ·right;simp [e]
  ·left
   have h2:todo (place F x:Nat)=false:=by
    simp at h1
    rcases h1 with h1 | h1
    ·exact h1
    ·exact absurd (by exact_mod_cast h1) e
   exact⟨x,⟨hx,by rw [h2];rfl⟩,rfl⟩
theorem FnOk.boxedAt {Env:World→Prop}{isName:Nm→Bool}{w W:World}{v:Value}{ps:List Nm}{e:TE}(h:FnOk Env isName w v ps e) (hW:Below (w.alloc (.cells v.cells 29)).heap.size (w.alloc (.cells v.cells 29)) W):Calls Tryz.prog 58 #[.pointer (some ⟨w.heap.size,0,none⟩)] W (fun en w'=>ReadP isName W ps e en w'):=by
 have hb:Below w.heap.size w (w.alloc (.cells v.cells 29)):=(Below.refl _ _).alloc (Nat.le_refl _) _
 have hk:Kept w W:=(kept_below hb).trans (kept_below hW)
 obtain⟨nm,op,ch,pv,va,num,site,aa,ab,ca,cb,ga,oa,gb,ob,rfl,h1,h2,h3,h4,h5,h6⟩:=h.val
 have hn:=heap_alloc_new w (.cells (Value.agg #[.string nm,.bool ch,pv,.int .i64 e.kind,.string e.name,.string op,.int .i64 num,.int .i64 site,va,.slice aa e.arms.length ca,.slice ab e.body.length cb]).cells 29)
 have hpv:∃ a n c,pv = .slice a n c:=by obtain⟨ad,c,e,_⟩:=h1.at';exact⟨_,_,_,e⟩
 have hva:∃ a n c,va = .slice a n c:=by obtain⟨ad,c,e,_⟩:=h2.at';exact⟨_,_,_,e⟩
 obtain⟨pa,pn,pc,rfl⟩:=hpv
 obtain⟨xa,xn,xc,rfl⟩:=hva
 have hcs:(Value.agg #[.string nm,.bool ch,.slice pa pn pc,.int .i64 e.kind,.string e.name,.string op,.int .i64 num,.int .i64 site,.slice xa xn xc,.slice aa e.arms.length ca,.slice ab e.body.length cb]).cells = #[.string nm,.bool ch,.slice pa pn pc,.int .i64 e.kind,.string e.name,.string op,.int .i64 num,.int .i64 site,.slice xa xn xc,.slice aa e.arms.length ca,.slice ab e.body.length cb]:=rfl
 refine read_any h.law (h.law.keep _ _ _ (h.law.size _ h.env) h.env (hb.trans (hW.mono hb.size))) ?_ h.sz h.pl
 have hkW:=kept_below hW
 rw [hcs] at hn
 rw [hcs] at hkW
 have c:∀ i x,#[Value.string nm,.bool ch,.slice pa pn pc,.int .i64 e.kind,.string e.name,.string op,.int .i64 num,.int .i64 site,.slice xa xn xc,.slice aa e.arms.length ca,.slice ab e.body.length cb][i]?=some x→W.cell? ⟨w.heap.size,i,none⟩=some x:=fun i x hx=>hkW _ _ (by rw [cell_of_row _ _ _ _ _ _ hn];exact hx)
 refine⟨⟨_,c 2 _ rfl,h1.kept hk⟩,?_⟩
 obtain⟨k,name,args,arms,body⟩:=e
 rw [TEAt]
 exact⟨op,num,site,_,aa,ab,ca,cb,ga,oa,gb,ob,⟨c 3 _ rfl,c 4 _ rfl,c 5 _ rfl,c 6 _ rfl⟩,⟨c 7 _ rfl,c 8 _ rfl,c 9 _ rfl,c 10 _ rfl⟩,h2.kept hk,h3,TAAt.kept hk _ _ _ h4,h5,TBAt.kept hk _ _ _ h6⟩
theorem AlS.made {w:World}{F:List Nd}{n:Nat}(hn:n=(RG.vars F).length):∃ f,AlS (w.alloc (.cells (madeCells #[.string ⟨#[]⟩,.int .i64 0] (n*2)) 61)) w.heap.size F ((RG.vars F).map fun _=>0) [] f:=by
 refine⟨fun i => #[Value.string ⟨#[]⟩,.int .i64 0][i % 2]!,⟨⟨_,heap_alloc_new w _,by rw [size_madeCells,hn],fun i hi=>?_⟩,by rw [List.length_map],fun p hp=>?_,fun x hx=>absurd hx (by simp),fun r hr=>by obtain⟨_,_,rfl⟩:=List.mem_map.1 hr;omega⟩⟩
 ·have hi2:i<n*2:=by omega
  simp [madeCells,hi2]
 ·have e1:(p*2+1) % 2=1:=by omega
  have e2:(((RG.vars F).map fun _=>(0:Nat)).getD p 0)=0:=by rw [List.getD_eq_getElem?_getD,List.getElem?_map];cases (RG.vars F)[p]?<;>rfl
  show #[Value.string ⟨#[]⟩,.int .i64 0][(p*2+1) % 2]! = _
  rw [e1,e2];rfl
def AlP (isName:Nm→Bool) (w:World) (ps:List Nm) (e:TE) (en:Ending) (w':World):Prop :=
 Below w.heap.size w w'∧((RG.Good isName ps e∧∃ v,en = .returned (.tuple #[.agg #[.int .i64 ((alloc (F0 ps e)).2:Nat),v],.int .i64 0])∧VarsAt w' v (pairs (F0 ps e) (alloc (F0 ps e)).1)) ∨
  (¬ RG.Good isName ps e∧en = .returned (.tuple #[.agg #[.int .i64 0,.slice none 0 0],.int .i64 160])))
end Go.Proofs.YtnkahlloahgifaaGreatDoor

namespace Go.Proofs.YtnkahlloahgifaaGreatDoor
open Go.RowKit RG Go.Maps
theorem mvCells_drop:∀ (l:List RM.Mv) (i:Nat),mvCells (l.drop i)=(mvCells l).drop (i*2)
 | [],i=>by simp [mvCells]
 | a :: l,0=>rfl
 | a :: l,i+1=>by
  have e:mvCells (a :: l) = .int .i64 a.1 :: .int .i64 a.2 :: mvCells l:=rfl
  rw [List.drop_succ_cons,mvCells_drop l i,e,show (i+1)*2=i*2+1+1 from by omega,List.drop_succ_cons,List.drop_succ_cons]
theorem eraseIdx_eq (l:List RM.Mv) (i:Nat):l.eraseIdx i=l.take i++l.drop (i+1):=List.eraseIdx_eq_take_drop_succ l i
set_option maxHeartbeats 4000000 in
set_option maxRecDepth 20000 in
theorem delete_any {w:World}{g:Nat}{v:Value}{l:List RM.Mv}{i j:Nat}(hj:j=i+1) (h:RestAt w g v l) (hi:i<l.length) (hl:l.length≤1000000) :
  Calls Tryz.prog 76 #[v,.int .i64 (i:Int),.int .i64 (j:Int)] w (DfP w g (l.eraseIdx i)):=by
 rcases h with ⟨rfl,_⟩|⟨cp,f,rfl,h1,h2,h3,h4⟩
 ·simp at hi
 obtain⟨i1,hi1,hz0,hz1,hz2⟩:=info_parts Tryz.info81
 obtain⟨n,hn⟩:∃ n,n=l.length:=⟨_,rfl⟩
 rw [← hn] at hi hl h1 ⊢
 have HN:=zh hn
 have hiz:(i:Int)<n:=by omega
 have hi1z:(j:Int)≤n:=by omega
 have hij:(i:Int)≤j:=by omega
 have hj0:(0:Int)≤j:=by omega
 have hjcz:(j:Int)≤cp:=by omega
 have hicz:(i:Int)≤cp:=by omega
 have hnz:(n:Int)≤1000000:=by omega
 have hi0:(0:Int)≤i:=by omega
 have hnc:(n:Int)≤cp:=by omega
 have hne:((i:Int)==j)=false:=by rw [beq_eq_false_iff_ne];omega
 obtain⟨news,hnews⟩:∃ news,news=mvCells (l.drop j):=⟨_,rfl⟩
 have hlen:news.length=(n - j)*2:=by rw [hnews,mvCells_length,List.length_drop,hn]
 have hcell:∀ c u,(mvCells l)[c]?=some u→w.cell? ⟨g,c,none⟩=some u:=fun c u hu=>by
  have hc:=(List.getElem?_eq_some_iff.1 hu).1
  rw [mvCells_length] at hc
  rw [h3.cell (by omega),h4 c u hu]
 obtain⟨A,hA,hsrc⟩:∃ A:Addr,(if cp=j then some (⟨g,0,none⟩:Addr) else some ⟨g,j*2,none⟩)=some A∧Hid (∀ t u,news[t]?=some u→w.drew.cell? (A.add t)=some u):=by
  by_cases hc:cp=j
  ·refine⟨_,if_pos hc,fun t u hu=>?_⟩
   have:=(List.getElem?_eq_some_iff.1 hu).1
   omega
  ·refine⟨_,if_neg hc,fun t u hu=>?_⟩
   rw [Addr.add_lit]
   refine hcell _ u ?_
   rw [hnews,mvCells_drop,List.getElem?_drop] at hu
   exact hu
 have s2:Hid (∀ u∈news,u.oneCell'=true):=fun u hu=>by rw [hnews] at hu;exact mvCells_one hu
 have s1:=zh hlen
 have s3:Hid (∀ t,t<news.length→(w.drew.cell? ⟨g,0+i*2+t,none⟩).isSome=true∧w.drew.frozen? ⟨g,0+i*2+t,none⟩=false):=fun t ht=>by
  rw [hlen] at ht
  refine⟨?_,h3.frozen _⟩
  show (w.cell? _).isSome=true
  rw [h3.cell (by omega)];rfl
 obtain⟨W1,hW1⟩:∃ W1,W1=w.drew.setCells g (0+i*2) news:=⟨_,rfl⟩
 obtain⟨f1,hR1,hf1⟩:∃ f1,W1.rowIs g 81 (cp*2) f1∧∀ j,f1 j=if 0+i*2≤j∧j<0+i*2+news.length then news[j - (0+i*2)]?.getD default else f j:=⟨_,by rw [hW1];exact rowIs_setCells news (0+i*2) w.drew f h3.drew,fun j=>rfl⟩
 obtain⟨q,hq⟩:∃ q,i+(n - j)=q:=⟨_,rfl⟩
 have HQ:=zh hq
 have hqn:q<n:=by omega
 have hqj:n - q=j - i:=by omega
 have hcl:∀ ty,(Builtin.clear_ #[74] ty #[.slice (some ⟨g,q*2,none⟩) (n - q) (cp - q)]).run Tryz.prog W1 = .ok (.tuple #[]) (W1.setCells g (q*2) (List.replicate ((n - q)*2) (.int .i64 0))):=fun ty =>
  run_clear2 W1 74 ty Tryz.underlying74 g _ _ _ (by omega) (fun c hc=>by rw [Nat.zero_add] at *;rw [hR1.cell (by omega)];rfl) (fun c hc=>hR1.frozen _)
 have hqc:q<cp:=by omega
 have hqz:(q:Int)≤n:=by omega
 have hq0:(0:Int)≤q:=by omega
 have G1:Hid (w.grownBy W1 (some g)):=by
  show w.grownBy W1 (some g)
  have h:=grown_setCells g news (0+i*2) w.drew
  rw [hW1]
  exact⟨h.os,h.tape,h.output,h.size,h.block⟩
 have hW:Hid (W1=w.drew.setCells g (0+i*2) news):=hW1
 have R1:=zh hR1
 have F1:=zh hf1
 have HNW:=zh hnews
 have HI:=zh (And.intro hi1 (And.intro hz0 (And.intro hz1 hz2)))
 clear hi1 hz0 hz1 hz2 hW1 hR1 hf1 hcell hlen hnews hq hqj
 have H4:=zh h4
 have H3:=zh h3
 have H2:=zh h2
 have H1:Hid (i<j∧j≤n∧n≤cp):=by show _∧_;omega
 have HJ:=zh hj
 have mixed:Tryz.prog.follows .mixedOrders=true:=by kernel_rfl
 clear h2 h3 h4 h1 hj hn
 go_enter Tryz.func76,Tryz.ntmps76
 go_wp2_with fail
 go_region_law_o (refine step_append_room rfl (.tmp 22) (.tmp 25) 74 rfl 81 i1 2 Tryz.underlying74 HI.out.1 HI.out.2.2.1 g 0 i cp (by simp [Act.eval,Act.put]) A (n - j) (cp - j) news (by simp [Act.eval,Act.put]) s1.out hsrc.out s2.out (by have:=H1.out;omega) s3.out ?_;rw [← hW.out,HQ.out])
 go_wp2_with fail
 go_ret
 have hn2:(l.eraseIdx i).length=q:=by
  have h1:=H1.out;have h2:=HN.out;have h3:=HJ.out;have h4:=HQ.out
  rw [List.length_eraseIdx_of_lt (by omega)];omega
 refine⟨_,rfl,.inr ⟨cp,_,by rw [hn2];rfl,by rw [hn2];omega,H2.out,rowIs_setCells _ (q*2) W1 f1 R1.out,fun c u hu=>?_⟩,grown_trans G1.out (grown_setCells g _ (q*2) W1) (fun r e=>by simp at e;exact .inl e.symm)⟩
 have hc:=(List.getElem?_eq_some_iff.1 hu).1
 rw [mvCells_length,hn2] at hc
 show (if q*2≤c∧_ then _ else f1 c)=u
 rw [if_neg (by omega),F1.out]
 rw [eraseIdx_eq,mvCells_append] at hu
 have htl:(mvCells (l.take i)).length=i*2:=by rw [mvCells_length,List.length_take];have:=HN.out;omega
 by_cases hci:c<i*2
 ·rw [if_neg (by omega)]
  rw [List.getElem?_append_left (by omega)] at hu
  refine H4.out c u ?_
  have:mvCells l=mvCells (l.take i)++mvCells (l.drop i):=by rw [← mvCells_append,List.take_append_drop]
  rw [this,List.getElem?_append_left (by omega)]
  exact hu
 ·have hnl:news.length=(n - j)*2:=s1.out
  have:=HQ.out
  rw [if_pos (by omega),Nat.zero_add]
  rw [List.getElem?_append_right (by omega),htl,← HJ.out,← HNW.out] at hu
  rw [hu];rfl
end Go.Proofs.YtnkahlloahgifaaGreatDoor

namespace RM
theorem ord_free {spare:Int}{rest out:List Mv}{i:Nat}{m:Mv}(hF:Fit spare rest) (hi:rest.findIdx (free rest)=i) (hm:rest[i]?=some m) :
  ordN spare (mu rest+1) rest out=ordN spare (mu (rest.eraseIdx i)+1) (rest.eraseIdx i) (out++[m])∧mu (rest.eraseIdx i)<mu rest∧Fit spare (rest.eraseIdx i):=by
 have hl:=(List.getElem?_eq_some_iff.1 hm).1
 have ha:anyFree rest=true:=(findIdx_lt_iff rest).1 (by rw [hi];exact hl)
 have hmu:=mu_erase hl
 refine⟨?_,hmu,hF.erase i⟩
 cases rest with
 | nil=>simp at hl
 | cons x r =>
  rw [ordN_free spare ha,hi]
  have e:(x :: r).getD i (0,0)=m:=by rw [List.getD_eq_getElem?_getD,hm];rfl
  rw [e]
  exact ordN_fuel _ _ _ _ (hF.erase i) hmu (Nat.lt_succ_self _)
theorem ord_turn {spare:Int}{m:Mv}{r out:List Mv}(hF:Fit spare (m :: r)) (h:¬ (m :: r).findIdx (free (m :: r))<(m :: r).length) :
  ordN spare (mu (m :: r)+1) (m :: r) out=ordN spare (mu (turn spare m.1 (m :: r))+1) (turn spare m.1 (m :: r)) (out++[(spare,m.1)])∧mu (turn spare m.1 (m :: r))<mu (m :: r)∧Fit spare (turn spare m.1 (m :: r)):=by
 have ha:anyFree (m :: r)=false:=by
  cases hq:anyFree (m :: r) with
  | false=>rfl
  | true=>exact absurd ((findIdx_lt_iff _).2 hq) h
 have hmu:=mu_turn hF ha
 refine⟨?_,hmu,hF.turn _⟩
 rw [ordN_turn spare ha]
 exact ordN_fuel _ _ _ _ (hF.turn _) hmu (Nat.lt_succ_self _)
def part (spare kept:Int) (k:Nat) (rest:List Mv):List Mv:=(rest.take k).map (fun o=>if o.2=kept then (o.1,spare) else o)++rest.drop k
theorem part_all (spare kept:Int) (rest:List Mv):part spare kept rest.length rest=turn spare kept rest:=by unfold part turn;simp
theorem part_length (spare kept:Int) (k:Nat) (rest:List Mv):(part spare kept k rest).length=rest.length:=by unfold part;simp;omega
theorem part_at {spare kept:Int}{k:Nat}{rest:List Mv}{m:Mv}(h:rest[k]?=some m):(part spare kept k rest)[k]?=some m:=by
 have hk:=(List.getElem?_eq_some_iff.1 h).1
 unfold part
 rw [List.getElem?_append_right (by simp;omega)]
 simp only [List.length_map,List.length_take,List.getElem?_drop]
 rw [show k+(k - min k rest.length)=k from by omega];exact h
theorem part_succ {spare kept:Int}{k:Nat}{rest:List Mv}{m:Mv}(h:rest[k]?=some m):part spare kept (k+1) rest=if m.2=kept then (part spare kept k rest).set k (m.1,spare) else part spare kept k rest:=by
 have hk:=(List.getElem?_eq_some_iff.1 h).1
 have e:rest.drop k=m :: rest.drop (k+1):=by
  rw [List.drop_eq_getElem_cons hk];congr 1;exact(List.getElem?_eq_some_iff.1 h).2
 have hl:((rest.take k).map fun o=>if o.2=kept then (o.1,spare) else o).length=k:=by simp;omega
 unfold part
 rw [List.take_add_one,h,e]
 simp only [Option.toList_some,List.map_append,List.map_cons,List.map_nil,List.append_assoc,List.singleton_append]
 split
 ·rw [List.set_append_right _ _ (by omega),hl,Nat.sub_self];rfl
 ·rfl
end RM
namespace Go.Proofs.YtnkahlloahgifaaGreatDoor
open Go.RowKit RG Go.Maps
theorem mvCells_set:∀ (l:List RM.Mv) (i:Nat) (m:RM.Mv) (c:Int),l[i]?=some m→mvCells (l.set i (m.1,c))=(mvCells l).set (i*2+1) (.int .i64 c)
 | [],i,m,c,h=>by simp at h
 | a :: l,0,m,c,h=>by
  simp at h
  subst h
  rfl
 | a :: l,i+1,m,c,h=>by
  have e:∀ l:List RM.Mv,mvCells (a :: l) = .int .i64 a.1 :: .int .i64 a.2 :: mvCells l:=fun _=>rfl
  rw [zq6,e,e,mvCells_set l i m c (by simpa using h),show (i+1)*2+1=i*2+1+1+1 from by omega,zq6,zq6]
theorem RestAt.setFrom {w:World}{g:Nat}{v:Value}{l:List RM.Mv}{i:Nat}{m:RM.Mv}{c:Int}(h:RestAt w g v l) (hm:l[i]?=some m):RestAt (w.setCell ⟨g,i*2+1,none⟩ (.int .i64 c)) g v (l.set i (m.1,c)):=by
 have hi:=(List.getElem?_eq_some_iff.1 hm).1
 rcases h with ⟨rfl,_⟩|⟨cp,f,rfl,h1,h2,h3,h4⟩
 ·simp at hi
 ·refine .inr ⟨cp,_,by rw [List.length_set],by rw [List.length_set];exact h1,h2,h3.set (i*2+1) _,fun j u hu=>?_⟩
  rw [mvCells_set l i m c hm] at hu
  show (if j=i*2+1 then _ else f j)=u
  by_cases e:j=i*2+1
  ·subst e
   rw [if_pos rfl]
   rw [List.getElem?_set_self (by rw [mvCells_length];omega)] at hu
   exact Option.some.inj hu
  ·rw [if_neg e]
   rw [List.getElem?_set_ne (fun h=>e h.symm)] at hu
   exact h4 j u hu
theorem MvOwn.keep {w w':World}{B:Nat}{v:Value}{l:List RM.Mv}(h:MvOwn w B v l) (hk:∀ k,B≤k→k<w.heap.size→w'.heap[k]?=w.heap[k]?):MvOwn w' B v l:=by
 obtain⟨h1,h2⟩:=h
 refine⟨h1,?_⟩
 rcases h2 with h2 | ⟨g,cap,cur,rfl,hb,hg,rest⟩
 ·exact .inl h2
 ·exact .inr ⟨g,cap,cur,rfl,hb,(hk g hb (Array.getElem?_eq_some_iff.1 hg).1).trans hg,rest⟩
theorem MvOwn.shape {w:World}{B:Nat}{v:Value}{l:List RM.Mv}(h:MvOwn w B v l):∃ a c,v = .slice a l.length c:=by
 rcases h.2 with ⟨rfl,h0⟩|⟨g,cap,cur,rfl,_⟩
 ·exact⟨none,0,by rw [h0]⟩
 ·exact⟨_,_,rfl⟩
theorem RestAt.shape {w:World}{g:Nat}{v:Value}{l:List RM.Mv}(h:RestAt w g v l):∃ a c,v = .slice a l.length c:=by
 rcases h with ⟨rfl,rfl⟩|⟨cp,f,rfl,_⟩
 ·exact⟨none,0,rfl⟩
 ·exact⟨_,_,rfl⟩
theorem RestAt.full {w:World}{g:Nat}{v:Value}{l:List RM.Mv}(h:RestAt w g v l) (h0:0<l.length):∃ cp,v = .slice (some ⟨g,0,none⟩) l.length cp∧(∀ (i:Nat) m,l[i]?=some m→w.cell? ⟨g,i*2,none⟩=some (.int .i64 m.1)∧w.cell? ⟨g,i*2+1,none⟩=some (.int .i64 m.2))∧∀ i,w.frozen? ⟨g,i,none⟩=false:=by
 rcases h with ⟨rfl,rfl⟩|⟨cp,f,rfl,h1,h2,h3,h4⟩
 ·simp at h0
 ·refine⟨cp,rfl,fun i m hm=>?_,fun i=>h3.frozen i⟩
  have hi:=(List.getElem?_eq_some_iff.1 hm).1
  obtain⟨a,b⟩:=mvCells_at l i m hm
  exact⟨by rw [h3.cell (by omega),h4 _ _ a],by rw [h3.cell (by omega),h4 _ _ b]⟩
end Go.Proofs.YtnkahlloahgifaaGreatDoor

namespace Go.Proofs.YtnkahlloahgifaaGreatDoor
open Go.RowKit RG Go.Maps
def OrP (w:World) (l:List RM.Mv) (spare:Int) (e:Ending) (w':World):Prop :=
 Below w.heap.size w w'∧((RM.areMoves l spare=true∧∃ v,MvsAt w' v (RM.order l spare)∧e = .returned (.tuple #[v,.int .i64 0]))∨(RM.areMoves l spare=false∧e = .returned (.tuple #[.slice none 0 0,.int .i64 1])))
structure OrM (w:World) (B rc g:Nat) (rest out:List RM.Mv) (v vo:Value) (wr:World):Prop where
 cell:wr.cell? ⟨rc,0,none⟩=some v
 froz:wr.frozen? ⟨rc,0,none⟩=false
 rst:RestAt wr g v rest
 ot:MvOwn wr B vo out
 below:Below w.heap.size w wr
 size:B≤wr.heap.size
structure OrC (w:World) (B rc g:Nat):Prop where
 gB:g<B
 rcB:rc<B
 ne:g≠rc
 wg:w.heap.size≤g
 wrc:w.heap.size≤rc
structure OrL (l:List RM.Mv) (spare:Int) (rest out:List RM.Mv):Prop where
 fit:RM.Fit spare rest
 ord:RM.ordN spare (RM.mu rest+1) rest out=RM.order l spare
 few:rest.length≤16
 outs:out.length+RM.mu rest≤40
section
variable {w wr W:World} {B rc g:Nat} {l rest out rest' out':List RM.Mv} {spare:Int} {v vo v' vo':Value}
theorem OrL.start (h:RM.areMoves l spare=true):OrL l spare (RM.rest0 l) []:=by
 have hl:(RM.rest0 l).length≤16:=Nat.le_trans (List.length_filter_le _ _) (RM.areMoves_iff.1 h).1
 refine⟨RM.rest0_fit h,rfl,hl,?_⟩
 unfold RM.mu
 split<;>simp<;>omega
theorem OrL.free {i:Nat}{m:RM.Mv}(h:OrL l spare rest out) (hi:rest.findIdx (RM.free rest)=i) (hm:rest[i]?=some m):OrL l spare (rest.eraseIdx i) (out++[m])∧RM.mu (rest.eraseIdx i)<RM.mu rest:=by
 obtain⟨h1,h2,h3⟩:=RM.ord_free (out:=out) h.fit hi hm
 refine⟨⟨h3,h1.symm.trans h.ord,Nat.le_trans (List.length_eraseIdx_le _ _) h.few,?_⟩,h2⟩
 have:=h.outs
 rw [List.length_append,List.length_singleton];omega
theorem OrL.turn {m:RM.Mv}{r:List RM.Mv}(h:OrL l spare (m :: r) out) (hi:¬ (m :: r).findIdx (RM.free (m :: r))<(m :: r).length):OrL l spare (RM.turn spare m.1 (m :: r)) (out++[(spare,m.1)])∧RM.mu (RM.turn spare m.1 (m :: r))<RM.mu (m :: r):=by
 obtain⟨h1,h2,h3⟩:=RM.ord_turn (out:=out) h.fit hi
 refine⟨⟨h3,h1.symm.trans h.ord,by rw [RM.turn_length];exact h.few,?_⟩,h2⟩
 have:=h.outs
 rw [List.length_append,List.length_singleton];omega
theorem own_ge (h:MvOwn wr B vo out) {k:Nat}(hk:vo.ownBlock=some k):B≤k∧k<wr.heap.size:=World.ownsRow.lt h k hk
theorem OrM.keep (h:OrM w B rc g rest out v vo wr) (hC:OrC w B rc g) (hb:Below wr.heap.size wr W):OrM w B rc g rest out v vo W :=
 ⟨kept_below hb _ _ h.cell,(World.frozen?_of_block (a:=⟨rc,0,none⟩) (hb.block rc (World.block_lt_of_cell? _ _ h.cell))).trans h.froz,by
  rcases h.rst with e | ⟨cp,f,e,h1,h2,h3,h4⟩
  ·exact .inl e
  ·exact .inr ⟨cp,f,e,h1,h2,h3.of_block (hb.block _ h3.lt),h4⟩,h.ot.keep fun k _ hk=>hb.block k hk,h.below.trans (hb.mono h.below.size),Nat.le_trans h.size hb.size⟩
theorem OrM.push (h:OrM w B rc g rest out v vo wr) (hC:OrC w B rc g) (hg:wr.grownBy W vo.ownBlock) (ho:MvOwn W B vo' out'):OrM w B rc g rest out' v vo' W:=by
 have hrc:rc<wr.heap.size:=World.block_lt_of_cell? _ _ h.cell
 have brc:=hg.block rc hrc (fun e=>by have:=(own_ge h.ot e.symm).1;have:=hC.rcB;omega)
 refine⟨(World.cell?_of_block (a:=⟨rc,0,none⟩) brc).trans h.cell,(World.frozen?_of_block (a:=⟨rc,0,none⟩) brc).trans h.froz,?_,ho,h.below.grown hg h.below.size (fun r e=>?_),Nat.le_trans h.size hg.size⟩
 ·rcases h.rst with e | ⟨cp,f,e,h1,h2,h3,h4⟩
  ·exact .inl e
  ·exact .inr ⟨cp,f,e,h1,h2,h3.of_block (hg.block _ h3.lt (fun e=>by have:=(own_ge h.ot e.symm).1;have:=hC.gB;omega)),h4⟩
 ·have:=(own_ge h.ot e).1;have:=hC.gB;have:=hC.wg;omega
theorem OrM.put (h:OrM w B rc g rest out v vo wr) (hC:OrC w B rc g) (hg:wr.grownBy W (some g)) (hr:RestAt W g v' rest'):OrM w B rc g rest' out v' vo (W.setCell ⟨rc,0,none⟩ v'):=by
 have hrc:rc<wr.heap.size:=World.block_lt_of_cell? _ _ h.cell
 have brc:=hg.block rc hrc (fun e=>hC.ne (by simpa using e.symm))
 have c1:=(World.cell?_of_block (a:=⟨rc,0,none⟩) brc).trans h.cell
 refine⟨World.cell?_setCell_same _ _ _ c1,?_,hr.keep (Below.heap_setCell _ _ _ _ hC.ne),h.ot.keep fun k hk hk2=>?_,?_,?_⟩
 ·rw [World.frozen?_setCell];exact(World.frozen?_of_block (a:=⟨rc,0,none⟩) brc).trans h.froz
 ·rw [Below.heap_setCell _ _ _ _ (by have:=hC.rcB;show k≠rc;omega)]
  exact hg.block k hk2 (fun e=>by have:=hC.gB;simp at e;omega)
 ·exact(h.below.grown hg h.below.size (fun r e=>by have:=hC.wg;simp at e;omega)).setCell (by exact hC.wrc) _
 ·have h1:=h.size;have h2:=hg.size;simp;omega
theorem OrM.change (h:OrM w B rc g rest out v vo wr) (hC:OrC w B rc g) (hg:wr.grownBy W (some g)) (hr:RestAt W g v rest'):OrM w B rc g rest' out v vo W:=by
 have hrc:rc<wr.heap.size:=World.block_lt_of_cell? _ _ h.cell
 have brc:=hg.block rc hrc (fun e=>hC.ne (by simpa using e.symm))
 refine⟨(World.cell?_of_block (a:=⟨rc,0,none⟩) brc).trans h.cell,(World.frozen?_of_block (a:=⟨rc,0,none⟩) brc).trans h.froz,hr,h.ot.keep fun k hk hk2=>hg.block k hk2 (fun e=>by have:=hC.gB;simp at e;omega),?_,Nat.le_trans h.size hg.size⟩
 exact h.below.grown hg h.below.size (fun r e=>by have:=hC.wg;simp at e;omega)
end
theorem MvOwn.rest' {w:World}{base:Nat}{v:Value}{l:List RM.Mv}(h:MvOwn w base v l):∃ g,base≤g∧RestAt w g v l∧(0<l.length→g<w.heap.size):=by
 obtain⟨h1,h2⟩:=id h
 rcases h2 with ⟨rfl,h0⟩|⟨g,cap,cur,rfl,hb,hg,k1,k2,k3,k4⟩
 ·exact⟨base,Nat.le_refl _,.inl ⟨List.eq_nil_of_length_eq_zero h0,rfl⟩,fun h=>by omega⟩
 ·refine⟨g,hb,.inr ⟨cap,fun i=>cur[i]?.getD default,rfl,k1,k2,⟨cur,hg,k3,fun i hi=>?_⟩,fun j u hu=>?_⟩,fun _=>(Array.getElem?_eq_some_iff.1 hg).1⟩
  ·show cur[i]?=some (cur[i]?.getD default);rw [Array.getElem?_eq_getElem (by omega)];rfl
  ·have hj:=(List.getElem?_eq_some_iff.1 hu).1
   rw [mvCells_length] at hj
   rw [← k4,List.getElem?_take_of_lt hj,Array.getElem?_toList] at hu
   show cur[j]?.getD default=u
   rw [hu];rfl
set_option maxHeartbeats 4000000 in
set_option maxRecDepth 20000 in
theorem order_any {w:World}{v:Value}{l:List RM.Mv}{spare:Int}(h:MvsAt w v l):Calls Tryz.prog 40 #[v,.int .i64 spare] w (OrP w l spare):=by
 have AM:=zh (areMoves_any (spare:=spare) h)
 have HV:=zh h
 obtain⟨ad,c,rfl,-⟩:=id h
 obtain⟨n,hn⟩:∃ n,n=l.length:=⟨_,rfl⟩
 rw [← hn] at AM HV ⊢
 have HN:=zh hn
 clear h hn
 cases ham:RM.areMoves l spare with
 | false =>
  rw [ham] at AM
  have E:=zh ham
  clear ham
  go_enter Tryz.func40,Tryz.ntmps40
  go_wp2_with (go_at_call 68;refine(AM.out).mono ?_;rintro e w1 ⟨rfl,hb⟩)
  go_ret2
  exact⟨hb,.inr ⟨E.out,rfl⟩⟩
 | true =>
  rw [ham] at AM
  have E:=zh ham
  have HL:Hid (l.length≤16):=(RM.areMoves_iff.1 ham).1
  clear ham
  go_enter Tryz.func40,Tryz.ntmps40
  go_wp2_with (go_at_call 68;refine(AM.out).mono ?_;rintro e w1 ⟨rfl,hb⟩)
  have HB1:=zh hb
  clear hb
  have eg:=same_fun.enter
  refine(clone_any (HV.out.kept (kept_below HB1.out)) (by have:=HL.out;omega)).mono ?_
  rintro e w2 ⟨v2,rfl,ho2,hb2⟩
  have HO2:=zh ho2
  have HB2:=zh (HB1.out.trans (hb2.mono HB1.out.size))
  clear ho2 hb2
  obtain⟨g,hgb,hrs,hgl⟩:=HO2.out.rest'
  have HGB:=zh hgb
  have HGL:=zh hgl
  have DF:=zh (deleteFunc_any same_fun hrs (by have:=HL.out;omega))
  obtain⟨va,vc,rfl⟩:=hrs.shape
  clear hgb hgl hrs
  obtain⟨n2,hn2⟩:∃ n,n=l.length:=⟨_,rfl⟩
  rw [← hn2] at DF HO2 ⊢
  have HN2:=zh hn2
  clear hn2
  go_wp2_with fail
  refine DF.out.mono ?_
  rintro e w3 ⟨v3,rfl,hr3,hg3⟩
  have HR3:Hid (RestAt w3 g v3 (RM.rest0 l)):=hr3
  have HG3:=zh hg3
  have HB3:Hid (Below w.heap.size w w3):=HB2.out.grown hg3 HB2.out.size (fun r e=>by simp at e;have:=HGB.out;have:=HB1.out.size;omega)
  obtain⟨va3,vc3,hv3⟩:=hr3.shape
  obtain⟨n3,hn3⟩:∃ n,n=(RM.rest0 l).length:=⟨_,rfl⟩
  rw [show (l.filter fun m => !decide (m.1=m.2))=RM.rest0 l from rfl,← hn3] at hv3
  subst hv3
  have HN3:=zh hn3
  clear hr3 hg3 hn3
  by_cases h0:0<n3
  ·have HC:Hid (OrC w (w3.heap.size+1) w3.heap.size g):=by
    show OrC _ _ _ _
    have hlt:g<w3.heap.size:=HR3.out.lt (by rw [← HN3.out];exact h0)
    have h1:=HGB.out;have h2:=HB1.out.size;have h3:=HB3.out.size
    exact⟨by omega,by omega,by omega,by omega,by omega⟩
   have HM0:Hid (OrM w (w3.heap.size+1) w3.heap.size g (RM.rest0 l) [] (.slice va3 n3 vc3) (.slice none 0 0) (w3.alloc (.cells #[.slice va3 n3 vc3] 74))) :=
    ⟨by rw [cell_of_row _ _ 0 _ _ _ (heap_alloc_new w3 _)];rfl,frozen_of_row _ _ _ _ _ (heap_alloc_new w3 _),HR3.out.keep (Below.heap_alloc _ _ _ (HR3.out.lt (by rw [← HN3.out];exact h0))),World.ownsRow_nil _ _ _ _,HB3.out.alloc HB3.out.size _,by simp⟩
   have HL0:=zh (OrL.start E.out)
   clear h0
   go_wp2_with fail
   go_loopg [6] (RM.mu (RM.rest0 l)) (fun gk vo wr=>∃ rest out v,gk=RM.mu rest∧OrM w (w3.heap.size+1) w3.heap.size g rest out v vo wr∧OrL l spare rest out)
   case atStart=>exact⟨_,_,_,rfl,HM0.out,HL0.out⟩
   case round =>
    obtain⟨rest,out,v,hgk,hm,hl⟩:=hrel
    have KM:=zh hm
    have KL:=zh hl
    have KG:=zh hgk
    obtain⟨nr,hnr⟩:∃ n,n=rest.length:=⟨_,rfl⟩
    have HNR:=zh hnr
    have hnz:(nr:Int)≤16:=by have:=hl.few;omega
    obtain⟨oa,oc,hvo⟩:=hm.ot.shape
    obtain⟨no,hno⟩:∃ n,n=out.length:=⟨_,rfl⟩
    rw [← hno] at hvo
    have HNO:=zh hno
    have hnoz:(no:Int)≤40:=by have:=hl.outs;omega
    by_cases hr0:0<nr
    ·obtain⟨cp,hv,hat,hfr⟩:=hm.rst.full (by omega)
     rw [← hnr] at hv
     subst hv
     have hr0z:(0:Int)<nr:=by omega
     have IX:=zh (indexFunc_any (free_fun w3.heap.size rest (by have:=hl.few;omega)) hm.rst.mvs (by have:=hl.few;omega) ⟨_,hm.cell,hm.rst.mvs⟩)
     have eg73:=(free_fun w3.heap.size rest (by have:=hl.few;omega)).enter
     have c0:=hm.cell
     subst hvo
     by_cases hx:rest.findIdx (RM.free rest)<rest.length
     ·obtain⟨i,hi⟩:∃ i,rest.findIdx (RM.free rest)=i:=⟨_,rfl⟩
      rw [hi] at hx
      obtain⟨⟨a,b⟩,hmv⟩:∃ m,rest[i]?=some m:=⟨_,List.getElem?_eq_getElem hx⟩
      have IX2:Hid (Calls Tryz.prog 72 #[.slice (some ⟨g,0,none⟩) nr cp,.func (.func 73) #[] #[.pointer (some ⟨w3.heap.size,0,none⟩)]] wr fun e w'=>Below wr.heap.size wr w'∧e = .returned (.int .i64 (i:Int))):=by
       refine IX.out.mono ?_
       rintro e w' ⟨hb,he⟩
       rw [hi,if_pos hx] at he
       exact⟨hb,he⟩
      have HIX:=zh hi
      have HMV:=zh hmv
      have HXL:=zh hx
      have hiz:(i:Int)<nr:=by omega
      have hi0:(0:Int)≤i:=by omega
      clear hm hl hgk hnr hno IX hat hfr hi hmv hx
      go_wp2_with fail
      refine IX2.out.mono ?_
      rintro e w4 ⟨hb4,rfl⟩
      have M4:=zh (KM.out.keep HC.out hb4)
      clear hb4 c0
      have c0:=M4.out.cell
      obtain⟨cp',hv,hat,hfr⟩:=M4.out.rst.full (by have:=HNR.out;omega)
      rw [← HNR.out] at hv
      simp only [Value.slice.injEq,true_and] at hv
      subst hv
      obtain⟨y0,y1⟩:=hat i _ HMV.out
      clear hat hfr
      obtain⟨i0,hi1,hz0,hz1,hz2⟩:=info_parts Tryz.info81
      have HI:=zh (And.intro hi1 (And.intro hz0 (And.intro hz1 hz2)))
      have M5:=zh (M4.out.keep HC.out ((Below.refl _ w4).alloc (Nat.le_refl _) (.cells #[.int .i64 a,.int .i64 b] 81)))
      have O5:Hid (World.ownsRow (w4.alloc (.cells #[.int .i64 a,.int .i64 b] 81)) (w3.heap.size+1) 81 2 (.slice oa no oc) no (mvCells out)):=by have:=M5.out.ot;unfold MvOwn at this;rw [← HNO.out] at this;exact this
      have N5:Hid (∀ (j:Nat) (u:Value),[Value.int .i64 a,Value.int .i64 b][j]?=some u→(w4.alloc (.cells #[.int .i64 a,.int .i64 b] 81)).cell? ((⟨w4.heap.size,0,none⟩:Addr).add j)=some u):=fun j u hu=>by
       rw [Addr.add_lit,cell_of_row _ _ _ _ _ _ (heap_alloc_new w4 _),Nat.zero_add]
       match j,hu with
       | 0,hu=>exact hu
       | 1,hu=>exact hu
       | j+2,hu=>simp at hu
      have hno2:no+1≤maxLen∧(no+1)*16≤140737488355328:=by simp only [maxLen];omega
      have HNB:=zh hno2
      clear hi1 hz0 hz1 hz2 hno2
      go_wp2_with (at_builtin;refine wpList_append_own _ rfl _ _ 74 rfl (w3.heap.size+1) 81 i0 (.agg #[.int .i64 0,.int .i64 0]) 2 16 Tryz.underlying74 HI.out.1 HI.out.2.1 HI.out.2.2.1 HI.out.2.2.2 rfl (by decide) (.slice oa no oc) no (mvCells out) rfl O5.out ⟨w4.heap.size,0,none⟩ 1 1 [.int .i64 a,.int .i64 b] rfl rfl N5.out (fun u hu=>by simp at hu;rcases hu with rfl | rfl<;>rfl) HNB.out.1 HNB.out.2 M5.out.size ?_)
      intro vo' w6 hown hg6 _
      have M6:Hid (OrM w (w3.heap.size+1) w3.heap.size g rest (out++[(a,b)]) (.slice (some ⟨g,0,none⟩) nr cp) vo' w6):=M5.out.push HC.out hg6 (by
       show World.ownsRow _ _ _ _ _ _ _
       rw [List.length_append,List.length_singleton,← HNO.out,mvCells_append];exact hown)
      clear hown hg6 y0 y1 c0
      have c0:=M6.out.cell
      have DL:=zh (delete_any (j:=i+1) rfl M6.out.rst HXL.out (by have:=KL.out.few;omega))
      rw [show (((i+1:Nat)):Int)=(i:Int)+1 from by push_cast;rfl] at DL
      go_wp2_with fail
      refine DL.out.mono ?_
      rintro e w7 ⟨v7,rfl,hr7,hg7⟩
      have M7:=zh (M6.out.put HC.out hg7 hr7)
      have LF:=zh (KL.out.free HIX.out HMV.out)
      have brc:=hg7.block w3.heap.size (World.block_lt_of_cell? _ _ c0) (fun e=>HC.out.ne (by simpa using e.symm))
      have c7:=(World.cell?_of_block (a:=⟨w3.heap.size,0,none⟩) brc).trans c0
      have f7:=(World.frozen?_of_block (a:=⟨w3.heap.size,0,none⟩) brc).trans M6.out.froz
      obtain⟨va7,vc7,hv7⟩:=hr7.shape
      obtain⟨n7,hn7⟩:∃ n,n=(rest.eraseIdx i).length:=⟨_,rfl⟩
      rw [← hn7] at hv7
      subst hv7
      clear hr7 hg7 brc c0 hn7
      go_wp2_with fail
      go_roundg (RM.mu (rest.eraseIdx i))
      case measure=>rw [KG.out];exact LF.out.2
      case rel=>exact⟨_,_,_,rfl,M7.out,LF.out.1⟩
     ·obtain⟨m,r,hmr⟩:∃ m r,rest=m :: r:=by
       cases rest with
       | nil=>have:=HNR.out;simp at this;omega
       | cons m r=>exact⟨m,r,rfl⟩
      subst hmr
      have IX2:Hid (Calls Tryz.prog 72 #[.slice (some ⟨g,0,none⟩) nr cp,.func (.func 73) #[] #[.pointer (some ⟨w3.heap.size,0,none⟩)]] wr fun e w'=>Below wr.heap.size wr w'∧e = .returned (.int .i64 (-1))):=by
       refine IX.out.mono ?_
       rintro e w' ⟨hb,he⟩
       rw [if_neg hx] at he
       exact⟨hb,he⟩
      have LF:=zh (KL.out.turn hx)
      clear hm hl hgk hnr hno IX hat hfr hx
      go_wp2_with fail
      refine IX2.out.mono ?_
      rintro e w4 ⟨hb4,rfl⟩
      have M4:=zh (KM.out.keep HC.out hb4)
      clear hb4 c0
      have c0:=M4.out.cell
      obtain⟨cp',hv,hat,hfr⟩:=M4.out.rst.full (by have:=HNR.out;omega)
      rw [← HNR.out] at hv
      simp only [Value.slice.injEq,true_and] at hv
      subst hv
      obtain⟨y0,y1⟩:=hat 0 m rfl
      clear hat hfr
      obtain⟨i0,hi1,hz0,hz1,hz2⟩:=info_parts Tryz.info81
      have HI:=zh (And.intro hi1 (And.intro hz0 (And.intro hz1 hz2)))
      have M5:=zh (M4.out.keep HC.out ((Below.refl _ w4).alloc (Nat.le_refl _) (.cells #[.int .i64 spare,.int .i64 m.1] 81)))
      have O5:Hid (World.ownsRow (w4.alloc (.cells #[.int .i64 spare,.int .i64 m.1] 81)) (w3.heap.size+1) 81 2 (.slice oa no oc) no (mvCells out)):=by have:=M5.out.ot;unfold MvOwn at this;rw [← HNO.out] at this;exact this
      have N5:Hid (∀ (j:Nat) (u:Value),[Value.int .i64 spare,Value.int .i64 m.1][j]?=some u→(w4.alloc (.cells #[.int .i64 spare,.int .i64 m.1] 81)).cell? ((⟨w4.heap.size,0,none⟩:Addr).add j)=some u):=fun j u hu=>by
       rw [Addr.add_lit,cell_of_row _ _ _ _ _ _ (heap_alloc_new w4 _),Nat.zero_add]
       match j,hu with
       | 0,hu=>exact hu
       | 1,hu=>exact hu
       | j+2,hu=>simp at hu
      have hno2:no+1≤maxLen∧(no+1)*16≤140737488355328:=by simp only [maxLen];omega
      have HNB:=zh hno2
      clear hi1 hz0 hz1 hz2 hno2
      go_wp2_with (at_builtin;refine wpList_append_own _ rfl _ _ 74 rfl (w3.heap.size+1) 81 i0 (.agg #[.int .i64 0,.int .i64 0]) 2 16 Tryz.underlying74 HI.out.1 HI.out.2.1 HI.out.2.2.1 HI.out.2.2.2 rfl (by decide) (.slice oa no oc) no (mvCells out) rfl O5.out ⟨w4.heap.size,0,none⟩ 1 1 [.int .i64 spare,.int .i64 m.1] rfl rfl N5.out (fun u hu=>by simp at hu;rcases hu with rfl | rfl<;>rfl) HNB.out.1 HNB.out.2 M5.out.size ?_)
      intro vo' w6 hown hg6 _
      have M6:Hid (OrM w (w3.heap.size+1) w3.heap.size g (m :: r) (out++[(spare,m.1)]) (.slice (some ⟨g,0,none⟩) nr cp) vo' w6):=M5.out.push HC.out hg6 (by
       show World.ownsRow _ _ _ _ _ _ _
       rw [List.length_append,List.length_singleton,← HNO.out,mvCells_append];exact hown)
      clear hown hg6 y0 y1 c0
      have c0:=M6.out.cell
      go_wp2_with fail
      go_loopw [50] (fun iv wl=>∃ k:Nat,k≤nr∧iv = .int .i64 k∧OrM w (w3.heap.size+1) w3.heap.size g (RM.part spare m.1 k (m :: r)) (out++[(spare,m.1)]) (.slice (some ⟨g,0,none⟩) nr cp) vo' wl) (fun iv _=>nr - (intOf iv).toNat)
      case atStart=>exact⟨0,Nat.zero_le _,rfl,M6.out⟩
      case round =>
       obtain⟨k,hk,rfl,hml⟩:=hrel
       have KK:=zh hk
       have ML:=zh hml
       have cl:=hml.cell
       clear hk hml c0
       by_cases hlt:k<nr
       ·have hlz:(k:Int)<nr:=by omega
        have hk0:(0:Int)≤k:=by omega
        obtain⟨⟨a,b⟩,hmv⟩:∃ x,(m :: r)[k]?=some x:=⟨_,List.getElem?_eq_getElem (by have:=HNR.out;omega)⟩
        have hpl:=RM.part_length spare m.1 k (m :: r)
        obtain⟨cp',hv,hat,hfr⟩:=ML.out.rst.full (by have:=HNR.out;omega)
        rw [hpl,← HNR.out] at hv
        simp only [Value.slice.injEq,true_and] at hv
        subst hv
        have HPA:=RM.part_at (spare:=spare) (kept:=m.1) hmv
        obtain⟨y0,y1⟩:=hat k _ HPA
        have f1:=hfr (k*2+1)
        have PS:=RM.part_succ (spare:=spare) (kept:=m.1) hmv
        have HLT:=zh hlt
        have HP:=zh HPA
        simp only [] at y0 y1
        clear hat hfr hpl HPA hmv hlt
        by_cases hbk:b=m.1
        ·have PS2:Hid (RM.part spare m.1 (k+1) (m :: r)=(RM.part spare m.1 k (m :: r)).set k (a,spare)):=by show _=_;rw [PS];exact if_pos hbk
         have db:(b==m.1)=true:=by simp [hbk]
         clear PS hbk
         go_wp2_with fail
         go_roundw
         case rel =>
          refine⟨k+1,HLT.out,by go_num,?_⟩
          rw [PS2.out]
          exact ML.out.change HC.out (grown_setCell wr ⟨g,k*2+1,none⟩ _) (ML.out.rst.setFrom HP.out)
         case measure=>have:=HLT.out;simp [intOf];omega
        ·have PS2:Hid (RM.part spare m.1 (k+1) (m :: r)=RM.part spare m.1 k (m :: r)):=by show _=_;rw [PS];exact if_neg hbk
         have db:(b==m.1)=false:=by simp [hbk]
         clear PS hbk
         go_wp2_with fail
         go_roundw
         case rel =>
          refine⟨k+1,HLT.out,by go_num,?_⟩
          rw [PS2.out]
          exact ML.out
         case measure=>have:=HLT.out;simp [intOf];omega
       ·have hkn:k=(m :: r).length:=by have:=KK.out;have:=HNR.out;omega
        have hlz:(nr:Int)≤k:=by omega
        have MT:Hid (OrM w (w3.heap.size+1) w3.heap.size g (RM.turn spare m.1 (m :: r)) (out++[(spare,m.1)]) (.slice (some ⟨g,0,none⟩) nr cp) vo' wr):=by
         have:=ML.out
         rw [hkn,RM.part_all] at this
         exact this
        clear hkn hlt
        go_wp2_with fail
        go_roundg (RM.mu (RM.turn spare m.1 (m :: r)))
        case measure=>rw [KG.out];exact LF.out.2
        case rel=>exact⟨_,_,_,rfl,MT.out,LF.out.1⟩
    ·have hr1:rest=[]:=List.eq_nil_of_length_eq_zero (by omega)
     obtain⟨va,vc,hv⟩:=hm.rst.shape
     have hn0:nr=0:=by omega
     rw [← hnr,hn0] at hv
     subst hv
     have c0:=hm.cell
     have EO:Hid (out=RM.order l spare):=by have:=hl.ord;rw [hr1] at this;exact this
     have OM:=zh hm.ot.at'
     subst hvo
     clear hm hl hgk hr0
     go_wp2_with fail
     go_ret2
     refine⟨KM.out.below,.inl ⟨E.out,_,?_,rfl⟩⟩
     rw [← EO.out];exact OM.out
  ·have e3:n3=0:=by omega
   subst e3
   clear h0
   go_wp2_with fail
   go_loopw [6] (fun vo wr=>vo = .slice none 0 0∧wr=w3.alloc (.cells #[.slice va3 0 vc3] 74)) (fun _ _=>0)
   case atStart=>exact⟨rfl,rfl⟩
   case round =>
    obtain⟨rfl,rfl⟩:=hrel
    go_wp2_with fail
    go_ret2
    refine⟨HB3.out.alloc HB3.out.size _,.inl ⟨E.out,_,?_,rfl⟩⟩
    have e0:RM.rest0 l=[]:=List.eq_nil_of_length_eq_zero HN3.out.symm
    have:RM.order l spare=[]:=by unfold RM.order;rw [e0];rfl
    rw [this]
    exact⟨none,0,rfl,fun h=>absurd h (by simp)⟩
end Go.Proofs.YtnkahlloahgifaaGreatDoor

namespace Go.Proofs.YtnkahlloahgifaaGreatDoor
open RG
def xEnd:TE := .mk 9 ⟨#[]⟩ [⟨#[107]⟩] .nil .nil
def xAdd:TE := .mk 1 ⟨#[107]⟩ [⟨#[104]⟩,⟨#[115]⟩] .nil (.cons xEnd .nil)
def xRead:TE := .mk 5 ⟨#[115]⟩ [⟨#[114]⟩] .nil (.cons xAdd .nil)
def xMod:TE := .mk 4 ⟨#[114]⟩ [⟨#[116]⟩] .nil (.cons xRead .nil)
def xNil:TE := .mk 9 ⟨#[]⟩ [⟨#[]⟩] .nil .nil
def xSplit:TE := .mk 7 ⟨#[]⟩ [⟨#[99]⟩] (.cons [] xNil (.cons [⟨#[104]⟩,⟨#[116]⟩] xMod .nil)) .nil
def xSum:TE := .mk 5 ⟨#[99]⟩ [⟨#[109]⟩] .nil (.cons xSplit .nil)
def xF:List Nd:=F0 [⟨#[109]⟩] xSum
theorem xsize:xSum.size=7:=by kernel_rfl
theorem xvars:vars xF=[⟨#[109]⟩,⟨#[99]⟩,⟨#[104]⟩,⟨#[116]⟩,⟨#[114]⟩,⟨#[115]⟩,⟨#[107]⟩]:=by kernel_rfl
theorem xlive:liveAt xF 4=[⟨#[104]⟩,⟨#[114]⟩]:=by kernel_rfl
theorem xc1:conflict xF ⟨#[104]⟩ ⟨#[114]⟩=true:=by kernel_rfl
theorem xc2:conflict xF ⟨#[116]⟩ ⟨#[114]⟩=false:=by kernel_rfl
theorem xwidth:width xF=2:=by kernel_rfl
theorem xalloc:alloc xF=([0,0,0,1,1,1,0],2):=by kernel_rfl
theorem xorder:(RM.order [(0,1),(1,0)] 2).length=3:=by kernel_rfl
theorem xmoves:RM.areMoves [(0,1),(1,0)] 2=true:=by kernel_rfl
theorem xnames:(vars xF).all isNm=true:=by kernel_rfl
theorem xform:xF.all (fun d=>nodeOk d.e)=true:=by kernel_rfl
theorem xscope:xSum.inScope [⟨#[109]⟩]=true:=by kernel_rfl
theorem xsmall:xF.all (fun d=>d.binds.all (fun x=>decide (x.size≤1))&&d.e.args.all (fun x=>decide (x.size≤1)))=true:=by kernel_rfl
theorem xnodup:(vars xF).Nodup:=by rw [xvars];decide
theorem xgood:RG.Good isNm [⟨#[109]⟩] xSum where
 params:=by decide
 size:=by rw [xsize];decide
 form:=List.all_eq_true.1 xform
 names:=List.all_eq_true.1 xnames
 nodup:=xnodup
 inScope:=xscope
theorem xreg:regFind (pairs xF (alloc xF).1) ⟨#[115]⟩=some 1:=by kernel_rfl
theorem xpairs:(pairs xF (alloc xF).1).length=7:=by kernel_rfl
end Go.Proofs.YtnkahlloahgifaaGreatDoor
