/- Part. -/
import Derived.Test.YtnkahlloahgifaaGreatDoorVFa
import Derived.Test.YtnkahlloahgifaaGreatDoorVW
import Derived.Deep.RegionHeld3
import Derived.StillTactics
import Derived.OwnWalk
import Derived.Deep.AppendLies
import Derived.OrdersIn
import Derived.Laws.EntriesVeiled
import Derived.StillTailTactics
import Derived.Deep.Cut
import Derived.Deep.CutBlock
set_option linter.unusedSimpArgs false
set_option linter.unusedVariables false
namespace Go.Proofs.YtnkahlloahgifaaGreatDoor
open Go.RowKit RG
theorem cka {w:World}{a:Addr}{x:Value}(o:Obj) (h:w.cell? a=some x):(w.alloc o).cell? a=some x:=kept_below ((Below.refl _ w).alloc (Nat.le_refl _) o) a x h
theorem ckd {w:World}{a:Addr}{x:Value}(h:w.cell? a=some x):w.drew.cell? a=some x:=h
theorem new3 (w:World) (o1 o2 o3:Obj):(((w.alloc o1).alloc o2).alloc o3).heap[w.heap.size]?=some o1∧(((w.alloc o1).alloc o2).alloc o3).heap[w.heap.size+1]?=some o2∧(((w.alloc o1).alloc o2).alloc o3).heap[w.heap.size+2]?=some o3∧Below w.heap.size w (((w.alloc o1).alloc o2).alloc o3):=by
 refine⟨?_,?_,?_,(((Below.refl _ _).alloc (Nat.le_refl _) _).alloc (by simp) _).alloc (by simp;omega) _⟩
 ·rw [Below.heap_alloc _ _ _ (by simp;omega),Below.heap_alloc _ _ _ (by simp)];exact heap_alloc_new w _
 ·rw [Below.heap_alloc _ _ _ (by simp)]
  have:=heap_alloc_new (w.alloc o1) o2
  rwa [World.size_alloc] at this
 ·have:=heap_alloc_new ((w.alloc o1).alloc o2) o3
  rwa [World.size_alloc,World.size_alloc] at this
def NamesAt (w0 w:World) (B:Nat) (sv:Value) (bs:List Nm):Prop :=
 StrsAt w0 sv bs∨∃ g,sv = .slice (some ⟨g,0,none⟩) bs.length bs.length∧B≤g∧∀ (i:Nat) x,bs[i]?=some x→w.cell? ⟨g,i,none⟩=some (.string x)
structure KidAt (w0 w:World) (B lb xb xo:Nat) (p:List Nm×TE):Prop where
 blk:∃ sv,w.heap[lb]?=some (.cells #[sv,.pointer (some ⟨xb,xo,none⟩),.pointer none] 120 (0,0))∧NamesAt w0 w B sv p.1
 exp:TEAt w0 p.2 xb xo
 new:B≤lb
structure KsAt (w0 w w':World) (ks:List (List Nm×TE)) (a:Option Addr) (L:List (Nat×Nat×Nat)):Prop where
 len:L.length=ks.length
 row:0<ks.length→∃ g,a=some ⟨g,0,none⟩∧w.heap.size≤g∧∀ (j:Nat) t,L[j]?=some t→w'.cell? ⟨g,j,none⟩=some (.pointer (some ⟨t.1,0,none⟩))
 kid:∀ (j:Nat) p t,ks[j]?=some p→L[j]?=some t→KidAt w0 w' w.heap.size t.1 t.2.1 t.2.2 p
 nodup:(L.map (·.1)).Nodup
def LkP (w0 w:World) (ks:List (List Nm×TE)) (e:Ending) (w':World):Prop:=∃ a c L,e = .returned (.slice a ks.length c)∧KsAt w0 w w' ks a L∧Below w.heap.size w w'
set_option maxHeartbeats 1000000 in
set_option maxRecDepth 20000 in
theorem rest_any {w0 w:World}{e:TE}{nb b o:Nat}{p:List Nm×TE}(hx:TEAt w0 e b o) (hk:Kept w0 w) (hn:w.cell? ⟨nb,0,none⟩=some (.pointer (some ⟨b,o,none⟩))) (he:e.kids=[p]) (hb1:e.body.length=1) (hp:p.1=[e.name]) :
  Calls Tryz.prog 109 #[.pointer (some ⟨nb,0,none⟩)] w (LkP w0 w [p]):=by
 obtain⟨va,aa,ab,ca,cb,hc⟩:=hx.open
 obtain⟨gb,ob,rfl,hbody⟩:=hc.body (by omega)
 have c1:=hk _ _ hc.c1
 have c7:=hk _ _ hc.c7
 rw [hb1] at c7
 obtain⟨nm,hnm⟩:∃ nm,nm=e.name:=⟨_,rfl⟩
 rw [← hnm] at c1
 have HN:=zh hnm
 have HB:=zh hbody
 have HP:=zh hp
 have HK:Hid (TEAt w0 p.2 gb ob):=by
  obtain⟨k,n,xs,arms,body⟩:=e
  simp only [TE.body] at hbody hb1
  cases body with
  | nil=>simp [TB.length] at hb1
  | cons e2 r =>
   rw [TBAt] at hbody
   unfold TE.kids at he
   simp only [TE.body,TE.name,TE.arms,TB.kids] at he
   rw [List.cons_append] at he
   simp only [List.cons.injEq] at he
   rw [← he.1]
   exact hbody.1
 have b1:nb<w.heap.size:=World.block_lt_of_cell? w _ hn
 have b2:b<w.heap.size:=World.block_lt_of_cell? w _ c1
 clear hx hk hc hbody hb1 hnm hp he HB
 go_enter Tryz.func109,Tryz.ntmps109
 go_wp2_with fail
 go_region_held3 (fun w'=>w'.cell? ⟨nb,0,none⟩=some (.pointer (some ⟨b,o,none⟩))∧w'.cell? ⟨b,o+1,none⟩=some (.string nm)∧w'.cell? ⟨b,o+7,none⟩=some (.slice (some ⟨gb,ob,none⟩) 1 cb)) ((go_split_ands;(refine⟨?_,?_,?_⟩<;>(repeat (first | assumption | with_reducible apply ckd | with_reducible apply cka))))) (fail)
 go_wp2_with fail
 go_ret
 obtain⟨W,hW⟩:∃ W,W=(((w.alloc (.cells #[.string nm] 9)).alloc (.cells #[.slice (some ⟨w.heap.size,0,none⟩) 1 1,.pointer (some ⟨gb,ob,none⟩),.pointer none] 120)).alloc (.cells #[.pointer (some ⟨w.heap.size+1,0,none⟩)] 114)).drew:=⟨_,rfl⟩
 rw [← hW]
 obtain⟨h0,h1,h2,hb⟩:=new3 w (.cells #[.string nm] 9) (.cells #[.slice (some ⟨w.heap.size,0,none⟩) 1 1,.pointer (some ⟨gb,ob,none⟩),.pointer none] 120) (.cells #[.pointer (some ⟨w.heap.size+1,0,none⟩)] 114)
 have hWW:W=((((w.alloc (.cells #[.string nm] 9)).alloc (.cells #[.slice (some ⟨w.heap.size,0,none⟩) 1 1,.pointer (some ⟨gb,ob,none⟩),.pointer none] 120)).alloc (.cells #[.pointer (some ⟨w.heap.size+1,0,none⟩)] 114))).drew:=hW
 have g0:W.heap[w.heap.size]?=some (.cells #[.string nm] 9 (0,0)):=by rw [hWW];exact h0
 have g1:W.heap[w.heap.size+1]?=some (.cells #[.slice (some ⟨w.heap.size,0,none⟩) 1 1,.pointer (some ⟨gb,ob,none⟩),.pointer none] 120 (0,0)):=by rw [hWW];exact h1
 have g2:W.heap[w.heap.size+2]?=some (.cells #[.pointer (some ⟨w.heap.size+1,0,none⟩)] 114 (0,0)):=by rw [hWW];exact h2
 have hB:Below w.heap.size w W:=by rw [hWW];exact hb.drew
 refine⟨some ⟨w.heap.size+2,0,none⟩,1,[(w.heap.size+1,gb,ob)],rfl,⟨rfl,fun _=>⟨_,rfl,by omega,fun j t ht=>?_⟩,fun j q t hq ht=>?_,by simp⟩,hB⟩
 ·match j,ht with
  | 0,ht=>simp at ht;subst ht;rw [cell_of_row _ _ _ _ _ _ g2];rfl
  | j+1,ht=>simp at ht
 ·match j,hq,ht with
  | 0,hq,ht =>
   simp at hq ht
   subst hq ht
   refine⟨⟨_,g1,?_⟩,?_,by simp⟩
   ·rw [HP.out]
    refine .inr ⟨w.heap.size,rfl,Nat.le_refl _,fun i x hx=>?_⟩
    match i,hx with
    | 0,hx=>simp at hx;subst hx;rw [cell_of_row _ _ _ _ _ _ g0,← HN.out];rfl
    | i+1,hx=>simp at hx
   ·exact HK.out
  | j+1,hq,ht=>simp at hq
theorem grown_far {w w1:World}{v:Value}(hg:w.grownBy w1 v.ownBlock) {B:Nat}(hb:∀ q,v.ownBlock=some q→B≤q) {a:Addr}{x:Value}(ha:a.block<B) (h:w.cell? a=some x):w1.cell? a=some x:=by
 rw [World.cell?_of_block (hg.block a.block (World.block_lt_of_cell? w _ h) (fun e=>by have:=hb _ e.symm;omega))]
 exact h
theorem Tryz.info114:(Tryz.prog.info? 114).map (fun i=>(i.zero,i.size,i.bytes))=some (some (.pointer none),1,8):=by kernel_rfl
theorem ptrs_append (a b:List Nat):ptrs (a++b)=ptrs a++ptrs b:=List.map_append
structure ArAt (w0 w wr:World) (arms:TA) (k:Nat) (v:Value) (L:List (Nat×Nat×Nat)):Prop where
 len:L.length=k
 row:wr.ownsRow w.heap.size 114 1 v k (ptrs (L.map (·.1)))
 kid:∀ (j:Nat) p t,arms.kids[j]?=some p→L[j]?=some t→(∃ sv,wr.heap[t.1]?=some (.cells #[sv,.pointer (some ⟨t.2.1,t.2.2,none⟩),.pointer none] 120 (0,0))∧StrsAt w0 sv p.1)∧TEAt w0 p.2 t.2.1 t.2.2∧w.heap.size≤t.1
 lt:∀ t∈L,t.1<wr.heap.size
 nodup:(L.map (·.1)).Nodup
 below:Below w.heap.size w wr
theorem ArAt.step {w0 w wr w1:World}{arms:TA}{k:Nat}{v v':Value}{L:List (Nat×Nat×Nat)}(h:ArAt w0 w wr arms k v L) {vs:List Nm}{e2:TE}{sv:Value}{xb xo:Nat}{o2:Obj}(hp:arms.kids[k]?=some (vs,e2)) (hvs:StrsAt w0 sv vs)
  (he:TEAt w0 e2 xb xo) (hg:((((wr.alloc (.cells #[sv,.pointer (some ⟨xb,xo,none⟩),.pointer none] 120)).alloc o2)).drew).grownBy w1 v.ownBlock)
  (hown:w1.ownsRow w.heap.size 114 1 v' (k+1) (ptrs (L.map (·.1))++[.pointer (some ⟨wr.heap.size,0,none⟩)])):ArAt w0 w w1 arms (k+1) v' (L++[(wr.heap.size,xb,xo)]):=by
 have hB:w.heap.size≤wr.heap.size:=h.below.size
 have hsz:wr.heap.size+2≤w1.heap.size:=by have:=hg.size;simpa using this
 -- blocks of another kind than the row's stay
 have keep:∀ (q:Nat) (cs:Array Value),q<wr.heap.size→wr.heap[q]?=some (.cells cs 120 (0,0))→w1.heap[q]?=some (.cells cs 120 (0,0)):=fun q cs hq hc=>by
  refine(hg.block q (by simp;omega) (fun e=>?_)).trans ?_
  ·rcases h.row.2 with ⟨rfl,_⟩|⟨g,cap,cur,rfl,_,hg2,_⟩
   ·simp [Value.ownBlock] at e
   ·simp [Value.ownBlock] at e
    subst e
    rw [hc] at hg2
    simp at hg2
  ·show ((wr.alloc _).alloc _).heap[q]?=_
   rw [Below.heap_alloc _ _ _ (by simp;omega),Below.heap_alloc _ _ _ hq]
   exact hc
 refine⟨by rw [List.length_append,h.len];rfl,?_,fun j p t hj ht=>?_,fun t ht=>?_,?_,?_⟩
 ·rw [List.map_append,ptrs_append];exact hown
 ·by_cases hjk:j<k
  ·rw [List.getElem?_append_left (by rw [h.len];exact hjk)] at ht
   obtain⟨⟨sv',a,b⟩,c,d⟩:=h.kid j p t hj ht
   exact⟨⟨sv',keep _ _ (h.lt t (List.mem_of_getElem? ht)) a,b⟩,c,d⟩
  ·have hl:=(List.getElem?_eq_some_iff.1 ht).1
   rw [List.length_append,h.len] at hl
   simp at hl
   have e:j=k:=by omega
   subst e
   rw [List.getElem?_append_right (by rw [h.len];exact Nat.le_refl _),h.len] at ht
   simp at ht
   subst ht
   rw [hp] at hj
   simp only [Option.some.injEq] at hj
   subst hj
   refine⟨⟨sv,?_,hvs⟩,he,hB⟩
   refine(hg.block wr.heap.size (by simp;omega) (fun e=>?_)).trans ?_
   ·have:=(h.row.lt _ e.symm).2;omega
   ·show ((wr.alloc _).alloc _).heap[_]?=_
    rw [Below.heap_alloc _ _ _ (by simp)]
    exact heap_alloc_new wr _
 ·rcases List.mem_append.1 ht with ht | ht
  ·have:=h.lt t ht;omega
  ·simp at ht;subst ht;show wr.heap.size<_;omega
 ·rw [List.map_append,List.nodup_append]
  refine⟨h.nodup,by simp,fun a ha b hb=>?_⟩
  obtain⟨t,ht,rfl⟩:=List.mem_map.1 ha
  simp at hb
  subst hb
  have:=h.lt t ht
  omega
 ·exact(((h.below.alloc hB _).alloc (by simp;omega) _).drew).grown hg (by simp;omega) (fun q e=>(h.row.lt q e).1)
theorem ArAt.ks {w0 w wr:World}{arms:TA}{k:Nat}{a:Option Addr}{c:Nat}{L:List (Nat×Nat×Nat)}(h:ArAt w0 w wr arms k (.slice a k c) L) (hk:arms.length=k):KsAt w0 w wr arms.kids a L:=by
 refine⟨by rw [h.len,TA.kids_length,hk],fun h0=>?_,fun j p t hj ht=>?_,h.nodup⟩
 ·rw [TA.kids_length,hk] at h0
  rcases h.row.2 with ⟨e,h1⟩|⟨g,cap,cur,e,hb,hg,k1,k2,k3,k4⟩
  ·omega
  ·simp only [Value.slice.injEq,true_and] at e
   refine⟨g,e.1,hb,fun j t ht=>?_⟩
   have hj:j<k:=by rw [← h.len];exact(List.getElem?_eq_some_iff.1 ht).1
   rw [cell_of_row _ _ _ _ _ _ hg,← Array.getElem?_toList,← List.getElem?_take_of_lt (show j<k*1 by omega),k4]
   exact ptrs_at (by rw [List.getElem?_map,ht];rfl)
 ·obtain⟨⟨sv,a,b⟩,c,d⟩:=h.kid j p t hj ht
  exact⟨⟨sv,a,.inl b⟩,c,d⟩
theorem news2 (w:World) (o1:Obj) (x:Value) (T:TypeId):∀ (j:Nat) u,[x][j]?=some u→(((w.alloc o1).alloc (.cells #[x] T)).drew).cell? ((⟨w.heap.size+1,0,none⟩:Addr).add j)=some u:=fun j u hu=>by
 match j,hu with
 | 0,hu =>
  simp at hu
  subst hu
  rw [Addr.add_lit]
  exact cell_new2 w o1 x T
 | j+1,hu=>simp at hu
set_option maxHeartbeats 2000000 in
set_option maxRecDepth 20000 in
theorem arms_any {w0 w:World}{e:TE}{nb b o:Nat}(hx:TEAt w0 e b o) (hk:Kept w0 w) (hn:w.cell? ⟨nb,0,none⟩=some (.pointer (some ⟨b,o,none⟩))) (he:e.kids=e.arms.kids) (hl:e.arms.length≤16) :
  Calls Tryz.prog 110 #[.pointer (some ⟨nb,0,none⟩)] w (LkP w0 w e.kids):=by
 obtain⟨va,aa,ab,ca,cb,hc⟩:=hx.open
 have c6:=hk _ _ hc.c6
 have HA:=zh hc.arms
 have HE:=zh he
 have HK:=zh hk
 obtain⟨n,hnn⟩:∃ n,n=e.arms.length:=⟨_,rfl⟩
 rw [← hnn] at c6 hl
 have HN:=zh hnn
 have HL:=zh hl
 have hnz:(n:Int)≤16:=by omega
 have b1:nb<w.heap.size:=World.block_lt_of_cell? w _ hn
 have b2:b<w.heap.size:=World.block_lt_of_cell? w _ c6
 have C0:=zh hn
 have C6:=zh c6
 obtain⟨i0,hi0,hz0,hz1,hz2⟩:=info_parts Tryz.info114
 have HI:=zh (And.intro hi0 (And.intro hz0 (And.intro hz1 hz2)))
 clear hx hk hc he hnn hl hi0 hz0 hz1 hz2
 go_enter Tryz.func110,Tryz.ntmps110
 go_wp2_with fail
 go_loopw [3,13] (fun v iv wr=>∃ (k:Nat) (L:List (Nat×Nat×Nat)),k≤n∧iv = .int .i64 k∧ArAt w0 w wr e.arms k v L) (fun _ iv _=>n - (intOf iv).toNat)
 case atStart=>exact⟨0,[],Nat.zero_le _,rfl,rfl,World.ownsRow_nil _ _ _ _,fun j p t h1 h2=>by simp at h2,fun t ht=>absurd ht (by simp),by simp,Below.refl _ _⟩
 case round =>
  obtain⟨k,L,hkn,rfl,har⟩:=hrel
  have KL:=zh hkn
  have AR:=zh har
  clear hkn har
  by_cases hlt:k<n
  ·obtain⟨ga,oa,rfl,hat⟩:=HA.out (by rw [← HN.out];omega)
   obtain⟨p,hp⟩:∃ p,e.arms.kids[k]?=some p:=⟨_,List.getElem?_eq_getElem (by rw [TA.kids_length,← HN.out];exact hlt)⟩
   obtain⟨vs,e2⟩:=p
   obtain⟨⟨con,vv,d0,d1,hvs⟩,he2⟩:=TAAt.nth e.arms ga oa k vs e2 hat (by rw [← TA.nth_kids];exact hp)
   have HVS:=zh hvs
   obtain⟨-,sa,sc,rfl,-⟩:=hvs
   obtain⟨sn,hsn⟩:∃ sn,sn=vs.length:=⟨_,rfl⟩
   rw [← hsn] at d1 HVS
   have HSN:=zh hsn
   have KK:Kept w0 wr:=HK.out.trans (kept_below AR.out.below)
   have e0:=kept_below AR.out.below _ _ C0.out
   have e6:=kept_below AR.out.below _ _ C6.out
   have e1:=KK _ _ d1
   have g1:ga<w.heap.size:=World.block_lt_of_cell? w _ (HK.out _ _ d1)
   have HP:=zh hp
   have HE2:=zh he2
   have hlz:(k:Int)<n:=by omega
   have HLT:=zh hlt
   obtain⟨va',vc',hvv⟩:∃ a c,u3 = .slice a k c:=by
    rcases AR.out.row.2 with ⟨rfl,h0⟩|⟨g,cap,cur,rfl,_⟩
    ·rw [h0];exact⟨_,_,rfl⟩
    ·exact⟨_,_,rfl⟩
   subst hvv
   have HRO:=zh ((AR.out.row.alloc (.cells #[.slice sa sn sc,.pointer (some ⟨ga,oa+k*10+2,none⟩),.pointer none] 120)).alloc (.cells #[.pointer (some ⟨wr.heap.size,0,none⟩)] 114))
   have HROD:Hid (World.ownsRow ((((wr.alloc (.cells #[.slice sa sn sc,.pointer (some ⟨ga,oa+k*10+2,none⟩),.pointer none] 120)).alloc (.cells #[.pointer (some ⟨wr.heap.size,0,none⟩)] 114))).drew) w.heap.size 114 1 (.slice va' k vc') k (ptrs (L.map (·.1)))):=HRO.out
   have NEWS:=zh (news2 wr (.cells #[.slice sa sn sc,.pointer (some ⟨ga,oa+k*10+2,none⟩),.pointer none] 120) (.pointer (some ⟨wr.heap.size,0,none⟩)) 114)
   have SZ:Hid (w.heap.size≤wr.heap.size):=AR.out.below.size
   have OB:Hid (∀ q,(Value.slice va' k vc').ownBlock=some q→w.heap.size≤q):=fun q hq=>(AR.out.row.lt q hq).1
   clear hat hp d0 d1 he2 KK hlt hsn
   go_wp2_with fail
   go_region_held3 (fun w'=>w'.cell? ⟨nb,0,none⟩=some (.pointer (some ⟨b,o,none⟩))∧w'.cell? ⟨b,o+6,none⟩=some (.slice (some ⟨ga,oa,none⟩) n ca)∧w'.cell? ⟨ga,oa+k*10+1,none⟩=some (.slice sa sn sc))
    (first
     | ((go_split_ands;refine⟨?_,?_,?_⟩<;>exact grown_far hgrow OB.out (by assumption) (by assumption)))
     | ((go_split_ands;(refine⟨?_,?_,?_⟩<;>(repeat (first | assumption | with_reducible apply ckd | with_reducible apply cka))))))
    ((refine step_append_lies _ (by rfl) _ _ _ (by rfl) w.heap.size 114 i0 _ 1 8 Tryz.underlying106 HI.out.1 HI.out.2.1 HI.out.2.2.1 HI.out.2.2.2 rfl (by decide) (.slice va' k vc') k (ptrs (L.map (·.1))) (by rfl) HROD.out ⟨wr.heap.size+1,0,none⟩ 1 1 [.pointer (some ⟨wr.heap.size,0,none⟩)] (by rfl) (by rfl) NEWS.out (by intro u hu;simp at hu;subst hu;rfl) (by decide) (by have:=HL.out;have:=HLT.out;unfold maxLen;omega) (by have:=HL.out;have:=HLT.out;omega) (by have:=SZ.out;simp;omega) (wr.heap.size+2) (by simp) ?_;intro gg cap w1 hown1 hgrow hat hlt))
   have HAR:=zh (AR.out.step HP.out HVS.out HE2.out hgrow hown1)
   clear hown1 hgrow hat hlt
   go_wp2_with fail
   go_roundw
   case rel=>exact⟨k+1,_,HLT.out,by go_num,HAR.out⟩
   case measure=>have:=HLT.out;simp [intOf];omega
  ·have hlz:(n:Int)≤k:=by omega
   have HKN:Hid (k=n):=by have:=KL.out;show _=_;omega
   obtain⟨va',vc',hvv⟩:∃ a c,u3 = .slice a k c:=by
    rcases AR.out.row.2 with ⟨rfl,h0⟩|⟨g,cap,cur,rfl,_⟩
    ·rw [h0];exact⟨_,_,rfl⟩
    ·exact⟨_,_,rfl⟩
   subst hvv
   clear hlt
   go_wp2_with fail
   go_ret
   have e:k=e.kids.length:=by rw [HE.out,TA.kids_length,← HN.out];exact HKN.out
   refine⟨va',vc',L,?_,?_,AR.out.below⟩
   ·show Ending.returned (.slice va' k vc')=_
    rw [e]
   ·rw [HE.out]
    exact AR.out.ks (by rw [HKN.out];exact HN.out.symm)
end Go.Proofs.YtnkahlloahgifaaGreatDoor
namespace Go.Proofs.YtnkahlloahgifaaGreatDoor
theorem rowsIn_wide' {n l:Nat}{P:Program}{row:String}{args:Array Value}{w:World}{R:Value→World→Prop}(h:Rows P row args w R):RowsIn (Fence.wide.inRound l) n P row args w R :=
 fun c cs _=>by obtain⟨v,w',r,s⟩:=h c cs;exact⟨v,w',r,stepsIn_wide.2 s⟩
theorem wpOpIn_round {P:Program}{ops:Array Oper}{Q:Exit→Act→World→Prop}{i n l:Nat}{K:Act→World→Prop}{a:Act}{w:World}
  (hd:∀ (j:Nat) (o:Oper) c,ops[j]?=some o→o.op ≠ .defer c) (hQ:¬ LetsOut Q) (h:wpOp P ops Q i K a w):wpOpIn (Fence.wide.inRound l) n P ops Q i K a w:=by
 unfold wpOp at h
 unfold wpOpIn
 cases ho:ops[i]? with
 | none=>rw [ho] at h;exact h
 | some o =>
  rw [ho] at h
  dsimp only at h ⊢
  split
  ·rename_i hw
   rw [if_pos hw] at h
   rcases h with h | ⟨-,h⟩
   case inr=>exact(hQ h).elim
   unfold Oper.wp at h
   unfold Oper.wpIn
   rw [Oper.semAt_eq _ _ _ (fun c=>hd i o c ho)]
   refine⟨fun _ _=>trivial,?_⟩
   generalize (execOp a.eval o).run P w=r at h ⊢
   cases r with
   | ok x w' =>
    cases x<;>first | exact h | exact(h:False).elim | exact⟨(fun k=>by cases k),CallsIn.inRound l (callsIn_wide.2 h)⟩ | exact⟨(fun k=>by cases k),rowsIn_wide' h⟩
   | halt x w'=>cases x<;>first | exact h | exact(h:False).elim
  ·rename_i hw
   rw [if_neg hw] at h
   exact⟨fun _ _=>trivial,h⟩
theorem wpAnyIn_round {P:Program}{ops:Array Oper}{Q:Exit→Act→World→Prop}{md:Region.Mode}{S:World→Prop}{n l:Nat}
  (hd:∀ (j:Nat) (o:Oper) c,ops[j]?=some o→o.op ≠ .defer c) (hQ:¬ LetsOut Q):∀ (fuel:Nat) (listed:Array Bool) (a:Act) (w:World),
   wpAnyH P md ops Q S fuel listed a w→wpAnyIn (Fence.wide.inRound l) n P md ops Q fuel listed a w
 | 0,_,_,_,h=>h
 | f+1,_,_,_,h=>⟨h.1,fun i hi=>wpOpIn_mono (fun _ _ k=>wpAnyIn_round hd hQ f _ _ _ k.2) (wpOpIn_round hd hQ (h.2 i hi))⟩
def OnlyN (Q:Exit→Act→World→Prop):Exit→Act→World→Prop
 | .normal,a,w=>Q .normal a w
 | .ret,_,_=>False
 | .exit _,_,_=>False
 | .goto _,_,_=>False
 | .panic _,_,_=>False
 | .outgrown,_,_=>False
theorem OnlyN.done {Q:Exit→Act→World→Prop}{a:Act}{w:World}(h:Q .normal a w):OnlyN Q .normal a w:=h
theorem wpIn_region_round {P:Program}{ops:Array Oper}{Q:Exit→Act→World→Prop}{id n l:Nat}{a:Act}{w:World}(S:World→Prop)
  (hm:P.follows .mixedOrders=true) (hd:∀ (j:Nat) (o:Oper) c,ops[j]?=some o→o.op ≠ .defer c) (hS:S w.drew)
  (h:S w.drew→wpAnyH P .any ops (OnlyN Q) S ops.size (Array.replicate ops.size false) a w.drew):(Code.region id ops true).wpIn (Fence.wide.inRound l) n P Q a w :=
 wpIn_mono (wpIn_region_any hm (wpAnyIn_round hd (fun ⟨_,_,h⟩=>h) _ _ _ _ (h hS))) fun e _ _ h=>by
  cases e<;>first | exact h | exact(h:False).elim
def noDefers (ops:List Oper):Bool:=ops.all fun o=>match o.op with | .defer _=>false | _=>true
theorem no_defers {l:List Oper}(h:noDefers l=true):∀ (j:Nat) (o:Oper) c,l.toArray[j]?=some o→o.op ≠ .defer c:=fun j o c ho e=>by
 have hm:o∈l:=by
  rw [List.getElem?_toArray] at ho
  exact List.mem_of_getElem? ho
 have:=List.all_eq_true.1 h o hm
 rw [e] at this
 cases this
end Go.Proofs.YtnkahlloahgifaaGreatDoor
namespace Go.Proofs.YtnkahlloahgifaaGreatDoor
open Go.RowKit RG
theorem form_cases {e:TE}(h:e.form=true):(1≤e.kind∧e.kind≤6∧e.body.length=1∧e.arms.length=0∧e.args.length≤16)∨(e.kind=7∧e.body.length=0∧1≤e.arms.length∧e.arms.length≤16∧e.args.length=1∧(e.args.headD ⟨#[]⟩).size≠0) ∨
  (8≤e.kind∧e.kind≤10∧e.body.length=0∧e.arms.length=0∧e.args.length≤16):=by
 unfold TE.form at h
 simp only [Bool.and_eq_true,decide_eq_true_eq,beq_iff_eq] at h
 obtain⟨⟨⟨⟨h1,h2⟩,h3⟩,h4⟩,h5⟩:=h
 unfold isRest at h3
 by_cases h7:e.kind=7
 ·rw [if_pos h7] at h5
  simp only [Bool.and_eq_true,decide_eq_true_eq,beq_iff_eq,bne_iff_ne] at h5
  rw [h7] at h3
  simp at h3
  have hb:e.body.length=0:=by omega
  exact .inr (.inl ⟨h7,hb,h5.1.2,h5.2,h5.1.1.1,h5.1.1.2⟩)
 ·rw [if_neg h7] at h5
  simp only [Bool.and_eq_true,decide_eq_true_eq,beq_iff_eq] at h5
  by_cases h6:e.kind≤6
  ·have:(decide (1≤e.kind)&&decide (e.kind≤6))=true:=by simp;omega
   rw [this] at h3
   have hb:e.body.length=1:=by simpa using h3.symm
   exact .inl ⟨h1,h6,hb,h5.1,h5.2⟩
  ·have:(decide (1≤e.kind)&&decide (e.kind≤6))=false:=by simp;omega
   rw [this] at h3
   have hb:e.body.length≠1:=by simpa using h3.symm
   exact .inr (.inr ⟨by omega,h2,by omega,h5.1,h5.2⟩)
theorem kids_rest {e:TE}(hb:e.body.length=1) (ha:e.arms.length=0):∃ p,e.kids=[p]∧p.1=[e.name]:=by
 obtain⟨k,n,xs,arms,body⟩:=e
 simp only [TE.body,TE.arms] at hb ha
 unfold TE.kids
 simp only [TE.body,TE.arms,TE.name]
 cases arms with
 | cons vs e2 r=>simp [TA.length] at ha
 | nil =>
  cases body with
  | nil=>simp [TB.length] at hb
  | cons e2 r =>
   cases r with
   | cons e3 r=>simp [TB.length] at hb
   | nil=>exact⟨([n],e2),rfl,rfl⟩
theorem kids_arms {e:TE}(hb:e.body.length=0):e.kids=e.arms.kids:=by
 obtain⟨k,n,xs,arms,body⟩:=e
 simp only [TE.body] at hb
 unfold TE.kids
 simp only [TE.body,TE.arms,TE.name]
 cases body with
 | nil=>rfl
 | cons e2 r=>simp [TB.length] at hb
theorem kids_end {e:TE}(hb:e.body.length=0) (ha:e.arms.length=0):e.kids=[]:=by
 rw [kids_arms hb]
 exact List.eq_nil_of_length_eq_zero (by rw [TA.kids_length];exact ha)
theorem end_any (p:Option Addr) (w:World):Calls Tryz.prog 111 #[.pointer p] w fun e w'=>e = .returned (.slice none 0 0)∧w'=w:=by
 go_enter Tryz.func111,Tryz.ntmps111
 go_wp2_with fail
 go_ret
 exact⟨rfl,rfl⟩
theorem LkP.shift {w0 w w1:World}{ks:List (List Nm×TE)}{e:Ending}{w':World}(h:LkP w0 w1 ks e w') (hb:Below w.heap.size w w1):LkP w0 w ks e w':=by
 obtain⟨a,c,L,h1,⟨k1,k2,k3,k4⟩,h3⟩:=h
 have hs:=hb.size
 refine⟨a,c,L,h1,⟨k1,fun h0=>?_,fun j p t hj ht=>?_,k4⟩,hb.trans (h3.mono hs)⟩
 ·obtain⟨g,e1,e2,e3⟩:=k2 h0;exact⟨g,e1,by omega,e3⟩
 ·obtain⟨⟨sv,a1,a2⟩,b,c⟩:=k3 j p t hj ht
  refine⟨⟨sv,a1,?_⟩,b,by omega⟩
  rcases a2 with a2 | ⟨g,q1,q2,q3⟩
  ·exact .inl a2
  ·exact .inr ⟨g,q1,by omega,q3⟩
set_option maxHeartbeats 4000000 in
set_option maxRecDepth 20000 in
theorem bindings_any {w0 w:World}{e:TE}{nb b o:Nat}(hx:TEAt w0 e b o) (hk:Kept w0 w) (hn:w.cell? ⟨nb,0,none⟩=some (.pointer (some ⟨b,o,none⟩))) (hf:e.form=true) :
  Calls Tryz.prog 88 #[.pointer (some ⟨nb,0,none⟩)] w (LkP w0 w e.kids):=by
 obtain⟨va,aa,ab,ca,cb,hc⟩:=hx.open
 have c0:=hk _ _ hc.c0
 have b1:nb<w.heap.size:=World.block_lt_of_cell? w _ hn
 have b2:b<w.heap.size:=World.block_lt_of_cell? w _ c0
 have HF:=form_cases hf
 have BW:∀ o,Hid (Below w.heap.size w (w.alloc o)):=fun o=>(Below.refl _ _).alloc (Nat.le_refl _) _
 rcases HF with ⟨h1,h6,hb,ha,_⟩|⟨h7,hb,_,ha,_⟩|⟨h8,h10,hb,ha,_⟩
 ·obtain⟨p,he,hp⟩:=kids_rest hb ha
  rw [he]
  have RS:Hid (∀ o,Calls Tryz.prog 109 #[.pointer (some ⟨nb,0,none⟩)] (w.alloc o) (LkP w0 w [p])):=fun ob =>
   (rest_any hx (hk.trans (kept_below (BW ob).out)) (cka ob hn) he hb hp).mono fun _ _ h=>h.shift (BW ob).out
  obtain⟨k,hkk⟩:∃ k,k=e.kind:=⟨_,rfl⟩
  rw [← hkk] at c0 h1 h6
  clear hx hk hf hc hb ha he hp hkk
  have hk:k=1∨k=2∨k=3∨k=4∨k=5∨k=6:=by omega
  rcases hk with rfl | rfl | rfl | rfl | rfl | rfl
  all_goals
   clear h1 h6
   go_enter Tryz.func88,Tryz.ntmps88
   go_wp2_with fail
   refine(RS.out _).mono ?_
   rintro e w1 ⟨a,c,L,rfl,hks,hbw⟩
   have HKS:=zh hks
   have HBW:=zh hbw
   clear hks hbw
   go_wp2_with fail
   go_ret
   exact⟨a,c,L,rfl,HKS.out,HBW.out⟩
 ·have AS:Hid (∀ o,Calls Tryz.prog 110 #[.pointer (some ⟨nb,0,none⟩)] (w.alloc o) (LkP w0 w e.kids)):=fun ob =>
   (arms_any hx (hk.trans (kept_below (BW ob).out)) (cka ob hn) (kids_arms hb) ha).mono fun _ _ h=>h.shift (BW ob).out
  rw [h7] at c0
  obtain⟨ks,hks⟩:∃ ks,ks=e.kids:=⟨_,rfl⟩
  rw [← hks] at AS ⊢
  clear hx hk hf hc hb ha h7 hks
  go_enter Tryz.func88,Tryz.ntmps88
  go_wp2_with fail
  refine(AS.out _).mono ?_
  rintro e w1 ⟨a,c,L,rfl,hks,hbw⟩
  have HKS:=zh hks
  have HBW:=zh hbw
  clear hks hbw
  go_wp2_with fail
  go_ret
  exact⟨a,c,L,rfl,HKS.out,HBW.out⟩
 ·have he:=kids_end hb ha
  rw [he]
  obtain⟨k,hkk⟩:∃ k,k=e.kind:=⟨_,rfl⟩
  rw [← hkk] at c0 h8 h10
  clear hx hk hf hc hb ha he hkk
  have hk:k=8∨k=9∨k=10:=by omega
  rcases hk with rfl | rfl | rfl
  all_goals
   clear h8 h10
   go_enter Tryz.func88,Tryz.ntmps88
   go_wp2_with fail
   refine(end_any _ _).mono ?_
   rintro e w1 ⟨rfl,rfl⟩
   go_wp2_with fail
   go_ret
   exact⟨none,0,[],rfl,⟨rfl,fun h=>absurd h (by simp),fun j p t hj=>by simp at hj,by simp⟩,(BW _).out⟩
end Go.Proofs.YtnkahlloahgifaaGreatDoor
namespace Go.Proofs.YtnkahlloahgifaaGreatDoor
open Go.RowKit RG Go.Maps
open Go.WideMaps (keyOf_string_mk)
structure NLaw (Env:World→Prop) (isName:Nm→Bool):Prop where
 call:∀ (W:World) (s:Nm),Env W→s.size≤maxLen→Calls Tryz.prog 108 #[.string s] W fun e w'=>e = .returned (.bool (isName s))∧Below W.heap.size W w'
 keep:∀ (B:Nat) (W W':World),10≤B→Env W→Below B W W'→Env W'
 size:∀ W,Env W→10≤W.heap.size
theorem PMap.made (w:World):PMap (w.alloc (.map #[] 0)) w.heap.size [] :=
 ⟨.map [],World.ownsMap_made w Tryz.prog 9 _,rfl,fun i n h=>absurd h (by simp),fun n h=>by simp [Maps.has] at h⟩
theorem PMap.put {w w':World}{b n:Nat}{D:DataW Unit}{ns:List Nm}{x:Nm}(hs:x.size≤maxLen) (hx:x∉ns)
  (h1:w.ownsMap Tryz.prog 9 (plainElem Tryz.prog 3) b (Maps.size D) D) (h2:Maps.size D=ns.length)
  (h3:∀ (i:Nat) n,ns[i]?=some n→n.size≤maxLen∧Maps.has D (.string n.data.toList)=true∧∀ z,D.atKey (.string n.data.toList) z = .lit (.int .i64 i))
  (h4:∀ n:Nm,Maps.has D (.string n.data.toList)=true→n∈ns) (hown:w'.ownsMap Tryz.prog 9 (plainElem Tryz.prog 3) b n (D.put (.string x.data.toList) (.lit (.int .i64 ns.length)))):PMap w' b (ns++[x]):=by
 have hKl:WideAt.IsKeyLit (.string x.data.toList):=trivial
 have hT:=h1.tidy keyed9
 have hI:=h1.isMap
 have hno:Maps.has D (.string x.data.toList)=false:=by
  cases hq:Maps.has D (.string x.data.toList) with
  | false=>rfl
  | true=>exact absurd (h4 x hq) hx
 have inj:∀ {a b:Nm},(Lit.string a.data.toList)=Lit.string b.data.toList→a=b:=fun {a b} e=>by
  simp only [Lit.string.injEq] at e
  exact WideShapes.bytes_inj e
 refine⟨D.put (.string x.data.toList) (.lit (.int .i64 ns.length)),?_,?_,fun i n hn=>?_,fun n hn=>?_⟩
 ·obtain⟨es,clock,g1,g2,g3,g4⟩:=hown
  exact⟨es,clock,g1,g2,by rw [g4,Maps.size_eq,length_read];exact Nat.le_refl _,g4⟩
 ·rw [Maps.size_put hT,hno,h2,List.length_append];simp
 ·by_cases hi:i<ns.length
  ·rw [List.getElem?_append_left hi] at hn
   obtain⟨a,b,c⟩:=h3 i n hn
   have hne:(Lit.string n.data.toList)≠Lit.string x.data.toList:=fun e=>hx (inj e ▸ List.mem_of_getElem? hn)
   exact⟨a,by rw [Maps.has_put_other hne];exact b,fun z=>by rw [Maps.atKey_put_other hne];exact c z⟩
  ·rw [List.getElem?_append_right (by omega)] at hn
   have hl:=(List.getElem?_eq_some_iff.1 hn).1
   simp at hl
   have e:i=ns.length:=by omega
   subst e
   simp at hn
   subst hn
   exact⟨hs,Maps.has_put_same hI hKl _,fun z=>Maps.atKey_put_same hI hKl _ z⟩
 ·by_cases e:n=x
  ·subst e;simp
  ·have hne:(Lit.string n.data.toList)≠Lit.string x.data.toList:=fun e2=>e (inj e2)
   rw [Maps.has_put_other hne] at hn
   exact List.mem_append_left _ (h4 n hn)
theorem wpList_pput {w:World}{ops:Array Oper}{rest:List Oper}{o:Oper}{a:Act}{Q:Exit→Act→World→Prop}(hg:o.guard=none) (m x v:Operand) (hop:o.op=Op.mapUpdate 116 m x v) (b:Nat) (ns:List Nm)
  (hm:a.eval m = .map (some b)) (h:PMap w b ns) (n:Nm) (hs:n.size≤maxLen) (hn:n∉ns) (hl:ns.length≤1000000) (hx:a.eval x = .string n) (hv:a.eval v = .int .i64 ns.length)
  (hK:∀ w',PMap w' b (ns++[n])→w.grownBy w' (some b)→wpList Tryz.prog ops Q rest (a.put o.dst undef) w'):wpList Tryz.prog ops Q (o :: rest) a w:=by
 obtain⟨D,h1,h2,h3,h4⟩:=h
 refine wpList_mapUpdate_own w hg m x v 116 hop 9 3 keyed9 Tryz.underlying116 (plainElem Tryz.prog 3) b (Maps.size D) D hm h1 (by rw [h2];unfold maxLen;omega) _ _ (.string n.data.toList) hx hv (keyOf_string_mk Tryz.underlying9 hs) _ [] (plainElem_int Tryz.underlying3 (wf_nat (by omega))) fun w' ho hgr=>?_
 exact hK w' (PMap.put hs hn h1 h2 h3 h4 ho) hgr
structure Nms (w:World) (ρ:Nat→Nat) (f pl:Nat) (ent sl sn sv:Value) (names:List Nm):Prop where
 fb:w.heap[f]?=some (.cells #[ent,sl,sn,sv,.map (some pl)] 118 (0,0))
 row:RR w ρ 4 9 1 sv names.length (strs names)
 pm:PMap w pl names
 rf:ρ f=1
 rp:ρ pl=5
 rho:∀ k,w.heap.size≤k→ρ k=0
def MB:Nat→Prop:=fun r=>r=1∨r=4∨r=5
theorem Nms.below {w w':World} {ρ:Nat→Nat}{f pl:Nat}{ent sl sn sv:Value}{names:List Nm}(h:Nms w ρ f pl ent sl sn sv names) (hb:Below w.heap.size w w'):Nms w' ρ f pl ent sl sn sv names :=
 ⟨heap_below hb h.fb,h.row.keep (Ch.of_below (M:=fun _=>False) hb h.rho) (fun x=>x),h.pm.keep (hb.block _ h.pm.lt),h.rf,h.rp,fun k hk=>h.rho k (Nat.le_trans hb.size hk)⟩
def BdP (isName:Nm→Bool) (w:World) (ρ:Nat→Nat) (f pl:Nat) (ent sl sn:Value) (names bs:List Nm) (e:Ending) (w':World):Prop :=
 match bindOk isName names bs with
 | none=>e = .returned (.bool false)∧∃ ρ',Ch MB ρ ρ' w w'
 | some ns=>e = .returned (.bool true)∧∃ ρ' sv',Nms w' ρ' f pl ent sl sn sv' ns∧Ch MB ρ ρ' w w'∧∀ k,w.heap.size≤k→ρ' k=0∨ρ' k=4
theorem bindOk_step {isName:Nm→Bool}{names bs:List Nm}{k:Nat}{x:Nm}(hx:bs[k]?=some x) (h:RG.has names x=false) (hn:isName x=true):bindOk isName names (bs.drop k)=bindOk isName (names++[x]) (bs.drop (k+1)):=by
 have hk:=(List.getElem?_eq_some_iff.1 hx).1
 rw [List.drop_eq_getElem_cons hk,bindOk]
 have e:bs[k]=x:=by rw [List.getElem?_eq_getElem hk] at hx;simpa using hx
 rw [e,h,hn]
 simp
theorem bindOk_stop {isName:Nm→Bool}{names bs:List Nm}{k:Nat}{x:Nm}(hx:bs[k]?=some x) (h:RG.has names x=true∨isName x=false):bindOk isName names (bs.drop k)=none:=by
 have hk:=(List.getElem?_eq_some_iff.1 hx).1
 rw [List.drop_eq_getElem_cons hk,bindOk]
 have e:bs[k]=x:=by rw [List.getElem?_eq_getElem hk] at hx;simpa using hx
 rw [e]
 rcases h with h | h
 ·rw [h];simp
 ·rw [h];simp
theorem Tryz.info9:(Tryz.prog.info? 9).map (fun i=>(i.zero,i.size,i.bytes))=some (some (.string ⟨#[]⟩),1,16):=by kernel_rfl
theorem MB_or {r:Nat}(h:r=4):MB r := .inr (.inl h)
theorem strs_append (a b:List Nm):strs (a++b)=strs a++strs b:=List.map_append
set_option maxHeartbeats 2000000 in
set_option maxRecDepth 20000 in
theorem bind_any {Env:World→Prop}{isName:Nm→Bool}(NL:NLaw Env isName) {w:World} {ρ:Nat→Nat}{f pl:Nat}{ent sl sn sv v:Value}{names bs:List Nm}(henv:Env w) (h10:∀ k,k<10→ρ k=0)
  (h:Nms w ρ f pl ent sl sn sv names) (hbs:∀ w' ρ',Ch MB ρ ρ' w w'→StrsAt w' v bs) (hsz:∀ x∈bs,x.size≤maxLen) (hl:names.length+bs.length≤900000) :
  Calls Tryz.prog 87 #[.pointer (some ⟨f,0,none⟩),v] w (BdP isName w ρ f pl ent sl sn names bs):=by
 obtain⟨-,va,vc,rfl,-⟩:=hbs w ρ (Ch.refl h.rho)
 obtain⟨n,hn⟩:∃ n,n=bs.length:=⟨_,rfl⟩
 rw [← hn] at hl ⊢
 have HNL:=zh NL
 have HE:=zh henv
 have H10:=zh h10
 have H:=zh h
 have HBS:=zh hbs
 have HSZ:=zh hsz
 have HL:=zh hl
 have HN:=zh hn
 have hnz:(n:Int)≤900000:=by omega
 obtain⟨i0,hi0,hz0,hz1,hz2⟩:=info_parts Tryz.info9
 have HI:=zh (And.intro hi0 (And.intro hz0 (And.intro hz1 hz2)))
 clear NL henv h10 h hbs hsz hl hn hi0 hz0 hz1 hz2
 go_enter Tryz.func87,Tryz.ntmps87
 go_wp2_with fail
 go_loopw [11] (fun iv wr=>∃ (k:Nat) (ρk:Nat→Nat) (svk:Value),k≤n∧iv = .int .i64 k∧Nms wr ρk f pl ent sl sn svk (names++bs.take k)∧Ch MB ρ ρk w wr∧(∀ q,w.heap.size≤q→ρk q=0∨ρk q=4)∧bindOk isName names bs=bindOk isName (names++bs.take k) (bs.drop k)) (fun iv _=>n - (intOf iv).toNat)
 case atStart=>exact⟨0,ρ,sv,Nat.zero_le _,rfl,by rw [List.take_zero,List.append_nil];exact H.out,Ch.refl H.out.rho,fun q hq => .inl (H.out.rho q hq),by rw [List.take_zero,List.append_nil,List.drop_zero]⟩
 case round =>
  obtain⟨k,ρk,svk,hk,rfl,hnm,hch,hfr,hok⟩:=hrel
  have KN:=zh hnm
  have KC:=zh hch
  have KF:=zh hfr
  have KO:=zh hok
  have KL:=zh hk
  clear hnm hch hfr hok hk
  by_cases hlt:k<n
  ·obtain⟨-,va',vc',ev,hat0⟩:=HBS.out wr ρk KC.out
   simp only [Value.slice.injEq,true_and] at ev
   obtain⟨rfl,e2,rfl⟩:=ev
   obtain⟨g,o,rfl,hat⟩:=hat0 (by have:=HN.out;omega)
   clear hat0
   obtain⟨x,hx⟩:∃ x,bs[k]?=some x:=⟨_,List.getElem?_eq_getElem (by rw [← HN.out];exact hlt)⟩
   have hcx:=hat k _ (strs_at hx)
   have f4:wr.cell? ⟨f,4,none⟩=some (.map (some pl)):=by rw [cell_of_row _ _ 4 _ _ _ KN.out.fb];rfl
   have HX:=zh hx
   have HXS:=zh (HSZ.out x (List.mem_of_getElem? hx))
   have hlz:(k:Int)<n:=by omega
   have HLT:=zh hlt
   have ENV:=zh (HNL.out.keep 10 w wr (Nat.le_refl _) HE.out (KC.out.below (HNL.out.size _ HE.out) (fun q hq=>by rw [H10.out q hq];simp [MB])))
   have NMX:=zh (fun q (hq:q<10)=>show ρk q=0 by rw [KC.out.role q (by have:=HNL.out.size _ HE.out;omega)];exact H10.out q hq)
   clear hat hx hlt
   by_cases hh:RG.has (names++bs.take k) x=true
   ·have HH:=zh hh
    have FIN:Hid (BdP isName w ρ f pl ent sl sn names bs (.returned (.bool false)) wr):=by
     show BdP _ _ _ _ _ _ _ _ _ _ _ _
     unfold BdP
     rw [KO.out,bindOk_stop HX.out (.inl HH.out)]
     exact⟨rfl,ρk,KC.out⟩
    go_wp2_with (at_lookup;refine wpList_pis rfl _ _ rfl pl (names++bs.take k) rfl KN.out.pm x HXS.out rfl ?_;intro c _;rw [hh])
    go_ret
    exact FIN.out
   ·have hh':RG.has (names++bs.take k) x=false:=by simpa using hh
    have HH:=zh hh'
    clear hh
    go_wp2_with (at_lookup;refine wpList_pis rfl _ _ rfl pl (names++bs.take k) rfl KN.out.pm x HXS.out rfl ?_;intro c _;rw [hh'])
    refine(HNL.out.call wr x ENV.out HXS.out).mono ?_
    rintro e w1 ⟨rfl,hb1⟩
    have B1:=zh hb1
    clear hb1 f4 hh' hcx
    by_cases hnx:isName x=true
    ·have HNX:=zh hnx
     have N1:=zh (KN.out.below B1.out)
     have f4:w1.cell? ⟨f,4,none⟩=some (.map (some pl)):=by rw [cell_of_row _ _ 4 _ _ _ N1.out.fb];rfl
     obtain⟨na,nc,hsv⟩:=N1.out.row.shape
     obtain⟨m,hm⟩:∃ m,m=(names++bs.take k).length:=⟨_,rfl⟩
     rw [← hm] at hsv
     subst hsv
     have f3:w1.cell? ⟨f,3,none⟩=some (.slice na m nc):=by rw [cell_of_row _ _ 3 _ _ _ N1.out.fb];rfl
     have HM:=zh hm
     have HML:Hid (m≤900000):=by have:=HL.out;have:=KL.out;rw [List.length_append,List.length_take] at hm;show _≤_;omega
     clear hm
     go_wp2_with fail
     refine wp_region_still_tail 10 (by kernel_rfl) (by kernel_rfl) ?_
     simp only [List.take_succ_cons,List.take_zero,List.drop_succ_cons,List.drop_zero,World.drew_eq]
     iterate 10 still_step
     refine wpStill_nil ?_
     go_wp2_with (at_mapUpdate;refine wpList_pput rfl _ _ _ rfl pl (names++bs.take k) rfl N1.out.pm x HXS.out (fun hm=>by have:=has_iff.2 hm;rw [HH.out] at this;cases this) ?_ rfl (by rw [HM.out];rfl) ?_)
     ·have:=HL.out;have:=List.length_take_le k bs;have:=KL.out;rw [List.length_append,List.length_take];omega
     intro w2 hp2 hg2
     have C2:Hid (Ch MB ρk ρk wr w2):=((Ch.of_below B1.out KN.out.rho).drew).grown hg2 (fun q e _=>by simp at e;rw [← e,KN.out.rp];exact .inr (.inr rfl))
     have C2b:Hid (Ch (· = 5) ρk ρk w1 w2):=((Ch.refl N1.out.rho).drew).grown hg2 (fun q e _=>by simp at e;rw [← e,KN.out.rp])
     have PM2:=zh hp2
     have fb2:=C2b.out.keep N1.out.fb (by rw [N1.out.rf];decide)
     have FB2:=zh fb2
     have RW2:=zh (N1.out.row.keep C2b.out (by decide))
     have f3':w2.cell? ⟨f,3,none⟩=some (.slice na m nc):=by rw [cell_of_row _ _ 3 _ _ _ fb2];rfl
     have flt:f<w2.heap.size:=(Array.getElem?_eq_some_iff.1 fb2).1
     clear hp2 hg2 fb2 f3 f4
     have RW3:=zh (RW2.out.keep ((Ch.refl (M:=fun _=>False) C2b.out.fresh).alloc (.cells #[.string x] 9)) (fun h=>h))
     have HXA:=zh (heap_alloc_new w2 (.cells #[.string x] 9))
     rw [← HM.out] at RW3
     go_wp2_with (at_builtin;refine wpList_append_rr rfl _ _ 35 rfl 9 i0 (.string ⟨#[]⟩) 1 16 Tryz.underlying35 HI.out.1 HI.out.2.1 HI.out.2.2.1 HI.out.2.2.2 rfl (by decide) ρk 4 (.slice na m nc) m (strs (names++bs.take k)) rfl RW3.out ?_ ⟨w2.heap.size,0,none⟩ 1 1 [.string x] rfl rfl ?_ ?_ ?_ ?_ ?_)
     ·exact fun q hq=>C2b.out.fresh q (by simp at hq;omega)
     ·intro j u hu
      rw [Addr.add_lit,cell_of_row _ _ _ _ _ _ HXA.out]
      match j,hu with
      | 0,hu=>simpa using hu
      | j+1,hu=>simp at hu
     ·intro u hu;simp at hu;subst hu;rfl
     ·have:=HML.out;simp only [maxLen];omega
     ·have:=HML.out;omega
     intro a4 c4 w4 ρ4 hr4 hc4 hf4
     have hcA:Ch (· = 4) ρk ρ4 w2 w4:=((Ch.refl (M:=(· = 4)) C2b.out.fresh).alloc (.cells #[.string x] 9)).trans hc4
     have fb4:=hcA.keep FB2.out (by rw [N1.out.rf];decide)
     have rf4:ρ4 f=1:=(hcA.keepRole FB2.out).trans N1.out.rf
     have pl2:=PM2.out.lt
     have rp4:ρ4 pl=5:=(hcA.role pl pl2).trans N1.out.rp
     have hne:pl≠f:=fun e=>by rw [e,rf4] at rp4;cases rp4
     have PM4:=zh (PM2.out.keep (hcA.block pl pl2 (by rw [N1.out.rp];decide)))
     have FZ:w4.frozen? ⟨f,3,none⟩=false:=frozen_of_row w4 f 3 _ _ fb4
     have CC:w4.cell? ⟨f,3,none⟩=some (.slice na m nc):=by rw [cell_of_row _ _ 3 _ _ _ fb4];rfl
     have FIN:Hid (Nms (w4.setCell ⟨f,3,none⟩ (.slice a4 (m+1) c4)) ρ4 f pl ent sl sn (.slice a4 (m+1) c4) (names++bs.take (k+1))∧Ch MB ρ ρ4 w (w4.setCell ⟨f,3,none⟩ (.slice a4 (m+1) c4))∧∀ q,w.heap.size≤q→ρ4 q=0∨ρ4 q=4):=by
      have e1:names++bs.take (k+1)=(names++bs.take k)++[x]:=by rw [List.take_add_one,HX.out,List.append_assoc];rfl
      have e2:(names++bs.take (k+1)).length=m+1:=by rw [e1,List.length_append,← HM.out];rfl
      have hs:=Ch.setCell (Ch.refl (M:=(· = 1)) (ρ:=ρ4) (w:=w4) hc4.fresh) ⟨f,3,none⟩ (.slice a4 (m+1) c4) (fun _=>rf4)
      refine⟨⟨heap_setCell_same w4 f 3 _ _ _ fb4,?_,?_,rf4,rp4,hs.fresh⟩,?_,fun q hq=>?_⟩
      ·rw [e2,e1,strs_append]
       exact hr4.keep hs (by decide)
      ·rw [e1,List.append_assoc]
       exact PM4.out.keep (Below.heap_setCell w4 ⟨f,3,none⟩ _ pl hne)
      ·exact((KC.out.trans C2.out).trans (hcA.mono fun _ h=>MB_or h)).trans (hs.mono fun _ h => .inl h)
      ·by_cases hq2:q<w2.heap.size
       ·rw [hcA.role q hq2];exact KF.out q hq
       ·by_cases e:q=w2.heap.size
        ·rw [hc4.role q (by rw [World.size_alloc];omega)];exact .inl (C2b.out.fresh q (by omega))
        ·exact hf4 q (by omega)
     have HOK:Hid (bindOk isName names bs=bindOk isName (names++bs.take (k+1)) (bs.drop (k+1))):=by
      show _=_
      rw [KO.out,bindOk_step HX.out HH.out HNX.out,List.append_assoc,List.take_add_one,HX.out];rfl
     clear hr4 hc4 hf4 hcA fb4 rf4 pl2 rp4 hne f3' flt
     go_wp2_with fail
     go_roundw
     case rel=>exact⟨k+1,ρ4,_,HLT.out,by go_num,FIN.out.1,FIN.out.2.1,FIN.out.2.2,HOK.out⟩
     case measure=>have:=HLT.out;simp [intOf];omega
    ·have hnx':isName x=false:=by simpa using hnx
     have FIN:Hid (BdP isName w ρ f pl ent sl sn names bs (.returned (.bool false)) w1):=by
      show BdP _ _ _ _ _ _ _ _ _ _ _ _
      unfold BdP
      rw [KO.out,bindOk_stop HX.out (.inr hnx')]
      exact⟨rfl,ρk,KC.out.trans (Ch.of_below B1.out KN.out.rho)⟩
     clear hnx
     go_wp2_with fail
     go_ret
     exact FIN.out
  ·have hlz:(n:Int)≤k:=by omega
   have e:Hid (k=bs.length):=by have:=KL.out;have:=HN.out;show _=_;omega
   clear hlt
   have FIN:Hid (BdP isName w ρ f pl ent sl sn names bs (.returned (.bool true)) wr):=by
    have h1:=KO.out
    have h2:=KN.out
    rw [e.out,List.drop_length,List.take_length] at h1
    rw [e.out,List.take_length] at h2
    show BdP _ _ _ _ _ _ _ _ _ _ _ _
    unfold BdP
    rw [h1]
    exact⟨rfl,ρk,svk,h2,KC.out,KF.out⟩
   go_wp2_with fail
   go_ret
   exact FIN.out
end Go.Proofs.YtnkahlloahgifaaGreatDoor
