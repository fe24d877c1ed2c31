/- Part. -/
import Derived.Test.YtnkahlloahgifaaGreatDoorVDf
import Derived.Test.YtnkahlloahgifaaGreatDoorVDg
import Derived.Test.YtnkahlloahgifaaGreatDoorVPg
set_option linter.unusedSimpArgs false
set_option linter.unusedVariables false
namespace Go.Proofs.YtnkahlloahgifaaGreatDoor
open Go.RowKit RG Go.Maps RF
def OM (r:Nat):Prop:=2≤r∧r≠9
theorem OM.no0:¬ OM 0:=by unfold OM;omega
structure ByV (w:World) (ρ0:Nat→Nat) (fb:Nat) (st:St) (sc:List (Nm×Nat)) (scv:Value) (bb:Nat) (cells:Array Value) (sv su sn sb sa so:Value) (us ns bs os:List Value) (na no:Nat) (acc:List Nat) (ρ:Nat→Nat) (uv:Value) (W:World):Prop where
 fl:FlV W ρ fb st sv su sn sb sa so us ns bs os na no
 ch:Ch (fun r=>OM r∨r=9) ρ0 ρ w W
 row:RR W ρ 9 3 1 uv acc.length (nats acc)
 scp:ScR W ρ sc scv
 box:W.heap[bb]?=some (.cells cells 27 (0,0))
 boxr:ρ bb=0
section
variable {w:World} {ρ0:Nat→Nat} {fb:Nat} {st:St} {sc:List (Nm×Nat)} {scv:Value} {bb:Nat} {cells:Array Value} {sv su sn sb sa so:Value} {us ns bs os:List Value} {na no:Nat} {acc:List Nat} {ρ:Nat→Nat} {uv:Value} {W:World}
theorem ByV.below (h:ByV w ρ0 fb st sc scv bb cells sv su sn sb sa so us ns bs os na no acc ρ uv W) {V:World}(hb:Below W.heap.size W V):ByV w ρ0 fb st sc scv bb cells sv su sn sb sa so us ns bs os na no acc ρ uv V :=
 have c:Ch (fun _=>False) ρ ρ W V:=Ch.of_below hb h.ch.fresh
 ⟨h.fl.below hb h.ch.fresh,h.ch.trans (c.mono fun _ h=>h.elim),h.row.keep c id,ScR.keep c id h.scp,heap_below hb h.box,h.boxr⟩
theorem ByV.more (h:ByV w ρ0 fb st sc scv bb cells sv su sn sb sa so us ns bs os na no acc ρ uv W) {V:World} {ρ':Nat→Nat}{v':Value}{n:Nat}(c:Ch (· = 9) ρ ρ' W V) (hr:RR V ρ' 9 3 1 v' (acc.length+1) (nats acc++[.int .i64 (n:Int)])) :
  ByV w ρ0 fb st sc scv bb cells sv su sn sb sa so us ns bs os na no (acc++[n]) ρ' v' V :=
 ⟨h.fl.keep9 c,h.ch.trans (c.mono fun r hr => .inr hr),by rw [List.length_append,List.length_singleton,nats_append];exact hr,ScR.keep c (by decide) h.scp,c.keep h.box (by rw [h.boxr];decide),(c.keepRole h.box).trans h.boxr⟩
end
structure NdV (w:World) (ρ0:Nat→Nat) (fb:Nat) (st:St) (sc:List (Nm×Nat)) (scv:Value) (bb:Nat) (cells:Array Value) (ρ:Nat→Nat) (W:World):Prop where
 fl:FlR W ρ fb st
 ch:Ch OM ρ0 ρ w W
 nine:∀ k,ρ k≠9
 scp:ScR W ρ sc scv
 box:W.heap[bb]?=some (.cells cells 27 (0,0))
 boxr:ρ bb=0
section
variable {w:World} {ρ0:Nat→Nat} {fb:Nat} {st:St} {sc:List (Nm×Nat)} {scv:Value} {bb:Nat} {cells:Array Value} {ρ:Nat→Nat} {W:World}
theorem FlR.keep (h:FlR W ρ fb st) {M:Nat→Prop} {ρ':Nat→Nat}{V:World}(c:Ch M ρ ρ' W V) (hM:∀ r,M r→r=1):FlR V ρ' fb st:=by
 obtain⟨a,b,c1,d,e,f,g,i,j,k,h⟩:=h
 exact⟨a,b,c1,d,e,f,g,i,j,k,h.keep c hM⟩
theorem FlR.below (h:FlR W ρ fb st) {V:World}(hb:Below W.heap.size W V) (hρ:∀ k,W.heap.size≤k→ρ k=0):FlR V ρ fb st :=
 h.keep (Ch.of_below (M:=fun _=>False) hb hρ) fun _ h=>h.elim
theorem NdV.below (h:NdV w ρ0 fb st sc scv bb cells ρ W) {V:World}(hb:Below W.heap.size W V):NdV w ρ0 fb st sc scv bb cells ρ V :=
 have c:Ch (fun _=>False) ρ ρ W V:=Ch.of_below hb h.ch.fresh
 ⟨h.fl.below hb h.ch.fresh,h.ch.trans (c.mono fun _ h=>h.elim),h.nine,ScR.keep c id h.scp,heap_below hb h.box,h.boxr⟩
theorem NdV.next (h:NdV w ρ0 fb st sc scv bb cells ρ W) {V:World} {ρ':Nat→Nat}{st':St}(c:Ch OM ρ ρ' W V) (hf:FlR V ρ' fb st') (h9:∀ k,ρ' k≠9):NdV w ρ0 fb st' sc scv bb cells ρ' V :=
 ⟨hf,h.ch.trans c,h9,ScR.keep c OM.no0 h.scp,c.keep h.box (by rw [h.boxr];exact OM.no0),(c.keepRole h.box).trans h.boxr⟩
theorem NdV.low (h:NdV w ρ0 fb st sc scv bb cells ρ W) {X:World}(hB:Below X.heap.size X w) (h0:∀ k,k<X.heap.size→ρ0 k=0):Below X.heap.size X W∧∀ k,k<X.heap.size→ρ k=0 :=
 ⟨hB.trans (h.ch.below hB.size fun k hk=>by rw [h0 k hk];exact OM.no0),fun k hk=>(h.ch.role k (Nat.lt_of_lt_of_le hk hB.size)).trans (h0 k hk)⟩
theorem BM.om {r:Nat}(h:BM r):OM r:=by unfold BM at h;unfold OM;omega
theorem NdV.link {st1:St}{sv su sn sb sa so:Value}{us ns bs os:List Value}{na no:Nat}(h:NdV w ρ0 fb st1 sc scv bb cells ρ W) (hf:FlV W ρ fb st1 sv su sn sb sa so us ns bs os na no) (hna:na=st1.binds.length) (hno:no=st1.binds.length)
  {i g n c0:Nat} {v':Value} {l:List Nat} {x:Nat} (hi:st1.next[i]?=some l) (hsn:sn = .slice (some ⟨g,0,none⟩) n c0) {V V1:World} (hb:Below W.heap.size W V) {ρ':Nat→Nat} (c:Ch (· = 10+i) ρ ρ' V V1) (hr:RR V1 ρ' (10+i) 3 1 v' (l.length+1) (nats l++[.int .i64 (x:Int)]))
  (hq:∀ q,V.heap.size≤q→ρ' q=0∨ρ' q=10+i) (hx:x=st1.binds.length - 1):NdV w ρ0 fb (st1.link i) sc scv bb cells ρ' (V1.setCell ⟨g,i,none⟩ v'):=by
 obtain⟨f2,c2⟩:=(hf.below hb h.ch.fresh).putLink (v:=v') hi hsn c hr
 have hn:=n9_step c h.nine hq (by omega)
 subst hx
 rw [hna,hno] at f2
 exact(h.below hb).next (c2.mono fun r hr=>by unfold OM;omega) ⟨sv,su,sn,sb,sa,so,us,_,bs,os,f2⟩ hn
end
theorem mem_take_more {l:List Nat}{j n y:Nat}(h:l[j]?=some y):decide (n∈l.take (j+1))=(decide (n∈l.take j)||decide (y=n)):=by
 rw [List.take_add_one,h,Bool.eq_iff_iff,Bool.or_eq_true,decide_eq_true_eq,decide_eq_true_eq,decide_eq_true_eq,List.mem_append]
 refine or_congr Iff.rfl ?_
 show n∈[y]↔_
 rw [List.mem_singleton]
 exact eq_comm
def ByP (w:World) (ρ:Nat→Nat) (fb:Nat) (r:Option St) (e:Ending) (w':World):Prop :=
 ∃ ρ',Ch OM ρ ρ' w w'∧(∀ k,ρ' k≠9)∧e = .returned (.bool r.isSome)∧∀ st',r=some st'→FlR w' ρ' fb st'
end Go.Proofs.YtnkahlloahgifaaGreatDoor
