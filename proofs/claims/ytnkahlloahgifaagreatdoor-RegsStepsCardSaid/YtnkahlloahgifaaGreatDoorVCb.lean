/- Part. -/
import Derived.Test.YtnkahlloahgifaaGreatDoorVW
import Derived.WalkMore
import Derived.Sort.OwnSorted
import Derived.OwnWalk
import Derived.Test.YtnkahlloahgifaaGreatDoorVRc
set_option linter.unusedSimpArgs false
set_option linter.unusedVariables false
namespace Go.Proofs.YtnkahlloahgifaaGreatDoor
open Go.RowKit RG Go.Maps
def ISet (w:World) (b:Nat) (T:List Int):Prop:=∃ l,IMap Tryz.prog w b l∧l.length≤1000000∧(∀ k,ikey l k=true↔k∈T)∧∀ k v,(k,v)∈l→v=1
theorem ISet.keep {w w':World}{b:Nat}{T:List Int}(h:ISet w b T) (hb:w'.heap[b]?=w.heap[b]?):ISet w' b T:=by
 obtain⟨l,h1,h2⟩:=h;exact⟨l,h1.keep hb,h2⟩
theorem ISet.lt {w:World}{b:Nat}{T:List Int}(h:ISet w b T):b<w.heap.size:=by obtain⟨l,h1,h2⟩:=h;exact h1.lt
theorem ISet.made (w:World):ISet (w.alloc (.map #[] 0)) w.heap.size []:=⟨[],IMap.made _ w,Nat.zero_le _,fun k=>by simp [ikey],fun k v h=>absurd h (by simp)⟩
theorem ISet.congr {w:World}{b:Nat}{T T':List Int}(h:ISet w b T) (hT:∀ k,k∈T↔k∈T'):ISet w b T':=by
 obtain⟨l,h1,h2,h3,h4⟩:=h;exact⟨l,h1,h2,fun k=>(h3 k).trans (hT k),h4⟩
theorem iat_set {l:List (Int×Int)}{T:List Int}(hn:(l.map (·.1)).Nodup) (h3:∀ k,ikey l k=true↔k∈T) (h4:∀ k v,(k,v)∈l→v=1) (k:Int):iat l k=if k∈T then 1 else 0:=by
 by_cases h:k∈T
 ·rw [if_pos h]
  obtain⟨v,hv⟩:=ikey_iff.1 ((h3 k).2 h)
  rw [iat_mem hn hv,h4 k v hv]
 ·rw [if_neg h]
  exact iat_none (by cases hq:ikey l k with | false=>rfl | true=>exact absurd ((h3 k).1 hq) h)
theorem iput_length (l:List (Int×Int)) (k v:Int):(iput l k v).length≤l.length+1:=by
 unfold iput
 rw [List.length_append]
 have:=List.length_filter_le (fun p:Int×Int => !decide (p.1=k)) l
 simp;omega
section
variable {w:World} {ops:Array Oper} {rest:List Oper} {o:Oper} {a:Act} {Q:Exit→Act→World→Prop}
theorem wpList_sput (hg:o.guard=none) (m x v:Operand) (hop:o.op=Op.mapUpdate 108 m x v) (b:Nat) (T:List Int)
  (hm:a.eval m = .map (some b)) (h:ISet w b T) (hl:T.length≤900000) (hsz:∀ l:List Int,l.Nodup→(∀ k∈l,k∈T)→l.length≤900000) (k:Int) (hx:a.eval x = .int .i64 k) (hv:a.eval v = .int .i64 1) (hk:(Lit.int .i64 k).wf=true)
  (hK:∀ w',ISet w' b (T++[k])→w.grownBy w' (some b)→wpList Tryz.prog ops Q rest (a.put o.dst undef) w'):wpList Tryz.prog ops Q (o :: rest) a w:=by
 obtain⟨l,h1,h2,h3,h4⟩:=h
 have hll:l.length≤900000:=by
  have:=hsz (l.map (·.1)) h1.nodup (fun k hk=>by obtain⟨p,hp,rfl⟩:=List.mem_map.1 hk;exact(h3 _).1 (ikey_iff.2 ⟨p.2,hp⟩))
  rwa [List.length_map] at this
 refine wpList_iput Tryz.underlying3 hg m x v 108 hop Tryz.underlying108 b l hm h1 (by omega) k 1 hx hv hk (by decide) fun w' hm' hg'=>hK w' ⟨iput l k 1,hm',?_,fun j=>?_,fun j c hj=>?_⟩ hg'
 ·have:=iput_length l k 1;omega
 ·rw [ikey_iff,List.mem_append,List.mem_singleton]
  constructor
  ·rintro ⟨c,hc⟩
   rcases mem_iput.1 hc with ⟨_,hc⟩|⟨e,_⟩
   ·exact .inl ((h3 j).1 (ikey_iff.2 ⟨c,hc⟩))
   ·exact .inr e
  ·intro hj
   by_cases e:j=k
   ·exact⟨1,mem_iput.2 (.inr ⟨e,rfl⟩)⟩
   ·rcases hj with hj | hj
    ·obtain⟨c,hc⟩:=ikey_iff.1 ((h3 j).2 hj)
     exact⟨c,mem_iput.2 (.inl ⟨e,hc⟩)⟩
    ·exact absurd hj e
 ·rcases mem_iput.1 hj with ⟨_,hj⟩|⟨_,e⟩
  ·exact h4 j c hj
  ·exact e
theorem wpList_sat (hg:o.guard=none) (m x:Operand) (hop:o.op=Op.lookup 108 m x false) (b:Nat) (T:List Int)
  (hm:a.eval m = .map (some b)) (h:ISet w b T) (k:Int) (hx:a.eval x = .int .i64 k) (hk:(Lit.int .i64 k).wf=true)
  (hK:wpList Tryz.prog ops Q rest (a.put o.dst (.int .i64 (if k∈T then 1 else 0))) w):wpList Tryz.prog ops Q (o :: rest) a w:=by
 obtain⟨l,h1,h2,h3,h4⟩:=h
 refine wpList_iat Tryz.underlying3 zero3 hg m x 108 hop Tryz.underlying108 b l hm h1 k hx hk ?_
 rw [iat_set h1.nodup h3 h4]
 exact hK
end
def ofNats (T:List Nat):List Int:=T.map Int.ofNat
theorem mem_ofNats {T:List Nat}{n:Nat}:(n:Int)∈ofNats T↔n∈T:=by
 unfold ofNats
 rw [List.mem_map]
 exact⟨fun ⟨a,ha,e⟩=>by
  have e2:(a:Int)=n:=e
  have:a=n:=by omega
  exact this ▸ ha,fun h=>⟨n,h,rfl⟩⟩
set_option maxHeartbeats 1000000 in
set_option maxRecDepth 20000 in
theorem lowest_any {w:World}{b:Nat}{T:List Nat}(h:ISet w b (ofNats T)) (hl:T.length≤900000):Calls Tryz.prog 63 #[.map (some b)] w fun e w'=>e = .returned (.int .i64 (low T))∧w'=w:=by
 have H:=zh h
 have HL:=zh hl
 clear h hl
 go_enter Tryz.func63,Tryz.ntmps63
 go_wp2_with fail
 go_step3
 go_wp2_with fail
 go_step3
 go_wp2_with fail
 go_loop [3] (fun v=>∃ r:Nat,v = .int .i64 r∧r≤T.length∧∀ k,k<r→k∈T) (fun v=>T.length+1 - (intOf v).toNat)
 case atStart=>exact⟨0,rfl,Nat.zero_le _,fun k hk=>absurd hk (Nat.not_lt_zero _)⟩
 case round =>
  obtain⟨r,rfl,hr,hin⟩:=hrel
  have HR:=zh hr
  have HIN:=zh hin
  have hrz:(r:Int)≤900000:=by have:=HL.out;omega
  clear hr hin
  by_cases hm:r∈T
  ·have hm':((r:Int)∈ofNats T)=True:=by simp only [eq_iff_iff,iff_true];exact mem_ofNats.2 hm
   have HM:=zh hm
   clear hm
   go_wp2_with (at_lookup;refine wpList_sat rfl _ _ rfl b (ofNats T) rfl H.out r rfl (wf_nat (by omega)) ?_;simp only [hm',if_true])
   have HLE:Hid (r+1≤T.length):=all_in_len (n:=r+1) fun k hk=>by
    by_cases e:k=r
    ·rw [e];exact HM.out
    ·exact HIN.out k (by omega)
   go_round
   case rel=>exact⟨r+1,by go_num,HLE.out,fun k hk=>by
    by_cases e:k=r
    ·rw [e];exact HM.out
    ·exact HIN.out k (by omega)⟩
   case measure=>have:=HLE.out;simp [intOf];omega
  ·have hm':((r:Int)∈ofNats T)=False:=by simp only [eq_iff_iff,iff_false];exact fun h=>hm (mem_ofNats.1 h)
   have HLOW:=zh (low_unique hm HIN.out)
   clear hm
   go_wp2_with (at_lookup;refine wpList_sat rfl _ _ rfl b (ofNats T) rfl H.out r rfl (wf_nat (by omega)) ?_;simp only [hm',if_false])
   (try rw [Exit.noGoto_ret])
   go_ret
   rw [HLOW.out]
   exact⟨rfl,rfl⟩
end Go.Proofs.YtnkahlloahgifaaGreatDoor
namespace Go.Proofs.YtnkahlloahgifaaGreatDoor
open Go.RowKit RG Go.Maps Go.Sort
def ints (ns:List Int):List Value:=ns.map (Value.int .i64)
theorem ints_append (a b:List Int):ints (a++b)=ints a++ints b:=List.map_append
def SortLaw:Prop:=∀ (blk cap:Nat) (zs:List Int) (w:World),Holds (Value.int .i64) w blk 0 zs.toArray→blk<w.heap.size→zs.length<4611686018427387904 →
  Calls Tryz.prog 106 #[.slice (some ⟨blk,0,none⟩) zs.length cap] w fun e w' =>
   e = .returned (.tuple #[])∧∃ n os,w'=grow (putRow (Value.int .i64) (Sort.ahead w n) blk 0 (zs.mergeSort fun x y=>decide (x≤y)).toArray) os
theorem holds_ints {w:World}{g:Nat}{cur:Array Value}{e:TypeId}{ns:List Int}(hb:w.heap[g]?=some (.cells cur e (0,0))) (ht:cur.toList.take ns.length=ints ns):Holds (Value.int .i64) w g 0 ns.toArray:=by
 intro j hj
 have hj':j<ns.length:=by simpa using hj
 refine⟨?_,by simp [World.frozen?,hb]⟩
 have h1:(cur.toList.take ns.length)[j]?=(ints ns)[j]?:=by rw [ht]
 rw [List.getElem?_take_of_lt hj'] at h1
 simp only [World.cell?,hb,Nat.zero_add]
 simp only [Option.isSome_none,Bool.false_eq_true,if_false]
 rw [← Array.getElem?_toList,h1]
 simp [hj',ints]
theorem heap_sortedI {w:World}{g n:Nat}{os:Array Obj}{cur:Array Value}{e:TypeId}{fr:Nat×Nat}(d:Array Int) (hb:w.heap[g]?=some (.cells cur e fr)) :
  (grow (putRow (Value.int .i64) (Sort.ahead w n) g 0 d) os).heap[g]?=some (.cells (putCells (Value.int .i64) 0 d cur) e fr):=by
 have hg:g<w.heap.size:=(Array.getElem?_eq_some_iff.1 hb).1
 rw [heap_grow_old _ _ (by simpa using hg)]
 simp [putRow,mapBlock,Sort.ahead,Array.getElem?_modify,hb,onCells]
theorem grownBy_sortedI {w:World}{g n:Nat}{os:Array Obj}(d:Array Int):w.grownBy (grow (putRow (Value.int .i64) (Sort.ahead w n) g 0 d) os) (some g):=by
 refine⟨rfl,rfl,rfl,by simp,fun k hk hne=>?_⟩
 rw [heap_grow_old _ _ (by simpa using hk)]
 have:g≠k:=fun e=>hne (by rw [e])
 simp [putRow,mapBlock,Sort.ahead,Array.getElem?_modify,this]
theorem take_putCellsI (cur:Array Value) (ts:List Int) (h:ts.length≤cur.size):(putCells (Value.int .i64) 0 ts.toArray cur).toList.take ts.length=ints ts:=by
 apply List.ext_getElem?
 intro j
 by_cases hj:j<ts.length
 ·rw [List.getElem?_take_of_lt hj,Array.getElem?_toList]
  simp [putCells,hj,show j<cur.size by omega,ints]
 ·rw [List.getElem?_take_eq_none (by omega),List.getElem?_eq_none (by simp [ints];omega)]
theorem ownsRow_sortedI {w:World}{base g cap n:Nat}{e:TypeId}{os:Array Obj}{cur:Array Value}{ss ts:List Int}(hl:ts.length=ss.length) (hbase:base≤g) (hb:w.heap[g]?=some (.cells cur e (0,0)))
  (h1:ss.length≤cap) (h2:cap≤maxLen) (h3:cur.size=cap*1) :
  (grow (putRow (Value.int .i64) (Sort.ahead w n) g 0 ts.toArray) os).ownsRow base e 1 (.slice (some ⟨g,0,none⟩) ss.length cap) ss.length (ints ts) :=
 ⟨by simp [hl,ints],.inr ⟨g,cap,_,rfl,hbase,heap_sortedI _ hb,h1,h2,by simp [putCells,h3],by rw [Nat.mul_one,← hl];exact take_putCellsI cur ts (by omega)⟩⟩
theorem Tryz.info3u:(Tryz.prog.info? 3).map (fun i=>(i.zero,i.size,i.bytes))=some (some (.int .i64 0),1,8):=by kernel_rfl
theorem own_sliceI {W:World}{B e size n:Nat}{v:Value}{xs:List Value}(h:W.ownsRow B e size v n xs):∃ a c,v = .slice a n c:=by
 rcases h.2 with ⟨rfl,rfl⟩|⟨g,cap,cur,e,_⟩
 ·exact⟨_,_,rfl⟩
 ·exact⟨_,_,e⟩
def ColI (l:List (Int×Int)) (todo:Int→Bool) (ns:List Int):Prop:=ns.Nodup∧∀ x:Int,x∈ns↔(ikey l x=true∧todo x=false)
theorem ColI.start (l:List (Int×Int)):ColI l (ikey l) []:=⟨List.nodup_nil,fun x=>by cases ikey l x<;>simp⟩
theorem ColI.step {l:List (Int×Int)}{todo:Int→Bool}{ns:List Int}(h:ColI l todo ns) {x v:Int}(hx:(x,v)∈l) (htx:todo x=true):ColI l (fun k=>todo k && !decide (k=x)) (ns++[x]):=by
 have hnew:x∉ns:=fun hm=>by have:=((h.2 x).1 hm).2;rw [htx] at this;cases this
 have hk:=ikey_iff.2 ⟨v,hx⟩
 refine⟨List.nodup_append.2 ⟨h.1,by simp,fun a ha b hb=>by simp at hb;subst hb;exact fun e=>hnew (e ▸ ha)⟩,fun y=>?_⟩
 by_cases hy:y=x
 ·subst hy;simp [hk]
 ·simp [h.2 y,hy]
theorem ColI.len {l:List (Int×Int)}{todo:Int→Bool}{ns:List Int}(h:ColI l todo ns):ns.length≤l.length:=by
 have hs:∀ x∈ns,x∈l.map (·.1):=fun x hx=>by obtain⟨v,hv⟩:=ikey_iff.1 ((h.2 x).1 hx).1;exact List.mem_map.2 ⟨_,hv,rfl⟩
 have gen:∀ (a b:List Int),a.Nodup→(∀ x∈a,x∈b)→a.length≤b.length:=by
  intro a
  induction a with
  | nil=>intro b _ _;simp
  | cons x a ih =>
   intro b hn hs
   rw [List.nodup_cons] at hn
   have hx:=hs x List.mem_cons_self
   have:=ih (b.erase x) hn.2 fun y hy=>(List.mem_erase_of_ne (fun e:y=x=>hn.1 (by rw [← e];exact hy))).2 (hs y (List.mem_cons_of_mem _ hy))
   rw [List.length_erase_of_mem hx] at this
   have:=List.length_pos_of_mem hx
   simp;omega
 have:=gen ns (l.map (·.1)) h.1 hs
 rwa [List.length_map] at this
structure Rise (l:List (Int×Int)) (zs:List Int):Prop where
 rise:zs.Pairwise (· < ·)
 mem:∀ k,k∈zs↔ikey l k=true
theorem ColI.sorted {l:List (Int×Int)}{todo:Int→Bool}{ns zs:List Int}(h:ColI l todo ns) (hl:∀ k,todo k=false) (hz:Rise l zs):(ns.mergeSort fun x y=>decide (x≤y))=zs:=by
 have hm:∀ x,x∈ns↔x∈zs:=fun x=>by rw [h.2 x,hl,hz.mem];simp
 have hnd:zs.Nodup:=hz.rise.imp fun h=>by omega
 have hp:ns.Perm zs:=(List.perm_ext_iff_of_nodup h.1 hnd).2 hm
 have hs1:(ns.mergeSort fun x y=>decide (x≤y)).Pairwise (· ≤ ·):=by
  have:=List.pairwise_mergeSort (le:=fun x y:Int=>decide (x≤y)) (fun a b c h1 h2=>by simp at *;omega) (fun a b=>by simp;omega) ns
  exact this.imp fun h=>by simpa using h
 have hs2:zs.Pairwise (· ≤ ·):=hz.rise.imp fun h=>by omega
 exact((List.mergeSort_perm ns _).trans hp).eq_of_pairwise (fun a b _ _ h1 h2=>by omega) hs1 hs2
theorem IRg.own {P:Program}{w:World}{b r:Nat}{l:List (Int×Int)}{todo:Int→Bool}{cnt:Nat}(h:IRg P w b r l todo cnt) {base e size n:Nat}{v:Value}{xs:List Value}(hr:w.ownsRow base e size v n xs):some r≠v.ownBlock∧some b≠v.ownBlock:=by
 obtain⟨D,left,⟨es,clock,since,seen,c0,h1,_,_,_,h2,_⟩,_⟩:=h
 rcases hr.2 with ⟨rfl,_⟩|⟨g,cap,cur,rfl,_,hg,_⟩
 ·exact⟨by simp [Value.ownBlock],by simp [Value.ownBlock]⟩
 ·constructor
  ·intro e
   simp [Value.ownBlock] at e
   subst e
   rw [hg] at h2;cases h2
  ·intro e
   simp [Value.ownBlock] at e
   subst e
   rw [hg] at h1;cases h1
def places (F:List Nd) (q:Nm→Bool):List Int:=(named F q).map fun x=>(place F x:Int)
theorem places_rise {F:List Nd}(hn:(vars F).Nodup) (q:Nm→Bool):Rise (VSet F q) (places F q):=by
 refine⟨?_,fun k=>?_⟩
 ·unfold places
  rw [List.pairwise_map]
  have hs:(named F q).Sublist (vars F):=List.filter_sublist
  have hp:(vars F).Pairwise fun x y=>(place F x:Int)<place F y:=by
   rw [List.pairwise_iff_getElem]
   intro i j hi hj hij
   rw [place_of hn (List.getElem?_eq_getElem hi),place_of hn (List.getElem?_eq_getElem hj)]
   exact_mod_cast hij
  exact hp.sublist hs
 ·unfold places
  rw [ikey_iff,List.mem_map]
  constructor
  ·rintro ⟨x,hx,rfl⟩
   obtain⟨h1,h2⟩:=mem_named.1 hx
   exact⟨1,vset_mem.2 ⟨x,h1,h2,rfl,rfl⟩⟩
  ·rintro ⟨v,hv⟩
   obtain⟨x,h1,h2,e,_⟩:=vset_mem.1 hv
   exact⟨x,mem_named.2 ⟨h1,h2⟩,e.symm⟩
def RsP (w:World) (zs:List Int) (e:Ending) (w':World):Prop :=
 ∃ a c,e = .returned (.slice a zs.length c)∧w'.ownsRow w.heap.size 3 1 (.slice a zs.length c) zs.length (ints zs)∧Below w.heap.size w w'
set_option maxHeartbeats 1000000 in
set_option maxRecDepth 20000 in
theorem rising_any (SORT:SortLaw) {w:World}{b:Nat}{l:List (Int×Int)}{zs:List Int}(h:IMap Tryz.prog w b l) (hz:Rise l zs) (hl:l.length≤1000000):Calls Tryz.prog 85 #[.map (some b)] w (RsP w zs):=by
 have HS:=zh SORT
 have H:=zh h
 have HZ:=zh hz
 have HL:=zh hl
 have HMB:=zh h.lt
 have e1:(Builtin.len_ #[108] 3 #[.map (some b)]).run Tryz.prog w = .ok (.int .i64 l.length) w:=by obtain⟨D,h1,h2,_⟩:=h;have:=h1.len Tryz.underlying108 3;rw [h2] at this;exact this
 obtain⟨i0,hi0,hz0,hz1,hz2⟩:=info_parts Tryz.info3u
 have HI:=zh (And.intro hi0 (And.intro hz0 (And.intro hz1 hz2)))
 obtain⟨n,hn⟩:∃ n,n=l.length:=⟨_,rfl⟩
 rw [← hn] at e1
 have HN:=zh hn
 clear SORT h hz hl hi0 hz0 hz1 hz2 hn
 go_enter Tryz.func85,Tryz.ntmps85
 go_wp2_with (at_make;refine wpList_make_own w rfl _ _ 40 rfl w.heap.size 3 i0 (.int .i64 0) 1 Tryz.underlying40 HI.out.1 HI.out.2.1 HI.out.2.2.1 .i64 .i64 n n rfl rfl rfl ?_ ?_ (Nat.le_refl _) ?_)
 ·have:=HI.out.2.2.2;have:=HL.out;have:=HN.out;rw [HI.out.2.2.2];omega
 ·have:=HL.out;have:=HN.out;unfold maxLen;omega
 intro w1 hown1 hg1
 have O1:=zh hown1
 have B1:Hid (Below w.heap.size w w1):=(Below.refl _ w).grown hg1 (Nat.le_refl _) (by simp)
 have H1:=zh (H.out.keep (hg1.block b HMB.out (by simp)))
 clear hown1 hg1 e1
 go_wp2_with (at_range;refine wpList_irange Tryz.underlying3 rfl _ 108 rfl Tryz.underlying108 b l rfl H1.out ?_;intro w2 hrg2 hg2 hs2)
 go_frame
 have R2:=zh hrg2
 have B2:=zh (B1.out.grown hg2 B1.out.size (by simp))
 have O2:Hid (w2.ownsRow w.heap.size 3 1 (.slice (some ⟨w.heap.size,0,none⟩) 0 n) 0 []):=O1.out.kept hg2 (.inr (by simp [Value.ownBlock]))
 clear hrg2 hg2 hs2
 obtain⟨r,hr⟩:∃ r,r=w1.heap.size:=⟨_,rfl⟩
 rw [← hr]
 have R3:Hid (IRg Tryz.prog w2 b r l (ikey l) l.length):=by rw [hr];exact R2.out
 have RB:Hid (w.heap.size≤r):=by rw [hr];exact B1.out.size
 clear R2 hr
 go_loopw [3] (fun o wr=>∃ (todo:Int→Bool) (cnt:Nat) (ns:List Int) (a:Option Addr) (k c:Nat),o = .slice a k c∧a≠none∧k=ns.length∧IRg Tryz.prog wr b r l todo cnt∧ColI l todo ns∧wr.ownsRow w.heap.size 3 1 (.slice a k c) k (ints ns)∧Below w.heap.size w wr)
  (fun _ wr=>wr.rangeLeft b r)
 case atStart=>exact⟨_,_,[],_,0,n,rfl,by simp,rfl,R3.out,ColI.start l,O2.out,B2.out⟩
 case round =>
  obtain⟨todo,cnt,ns,a,k,c,rfl,hna,hk,hrg,hcol,hrow,hb⟩:=hrel
  have HNA:=zh hna
  have HK:=zh hk
  have HRG:=zh hrg
  have HCO:=zh hcol
  have HRO:=zh hrow
  have HB:=zh hb
  clear hna hk hrg hcol hrow hb
  go_wp2_with (at_next;refine wpList_inext Tryz.underlying3 rfl _ rfl b r l todo cnt rfl HRG.out ?_ ?_)
  ·intro hl0
   have HSO:=zh (HCO.out.sorted hl0 HZ.out)
   clear hl0
   rcases HRO.out.2 with ⟨hnil,hn0⟩|⟨g,cap,cur,hv,hbase,hbk,k1,k2,k3,k4⟩
   ·simp at hnil;exact absurd hnil.1 HNA.out
   ·simp only [Value.slice.injEq,true_and] at hv
    obtain⟨rfl,rfl⟩:=hv
    have hlen:zs.length=k:=by rw [← HSO.out,List.length_mergeSort,HK.out]
    have SC:=HS.out g c ns wr (holds_ints hbk (by rw [← HK.out];simpa using k4)) (Array.getElem?_eq_some_iff.1 hbk).1 (by have:=HCO.out.len;have:=HL.out;omega)
    rw [← HK.out,HSO.out] at SC
    have SC2:=zh SC
    have FIN:Hid (∀ (q:Nat) (os:Array Obj) (w2:World),w2=grow (putRow (Value.int .i64) (Sort.ahead wr q) g 0 zs.toArray) os→RsP w zs (.returned (.slice (some ⟨g,0,none⟩) k c)) w2):=fun q os w2 e=>by
     unfold RsP
     rw [hlen]
     refine⟨_,_,rfl,?_,?_⟩
     ·rw [e]
      have:=ownsRow_sortedI (w:=wr) (base:=w.heap.size) (n:=q) (os:=os) (ss:=ns) (ts:=zs) (by rw [hlen,HK.out]) (by omega) hbk (by rw [← HK.out];exact k1) k2 k3
      rw [← HK.out] at this
      exact this
     ·rw [e]
      exact HB.out.grown (grownBy_sortedI _) HB.out.size (by intro k ek;cases ek;omega)
    clear SC hlen hbk k1 k2 k3 k4 hbase
    go_wp2_with fail
    refine(SC2.out).mono ?_
    rintro e w2 ⟨rfl,q,os,hw2⟩
    have HW:=zh hw2
    clear hw2
    go_wp2_with fail
    go_ret
    exact FIN.out q os _ HW.out
  ·intro x v w3 cnt1 hwx hx htx hrg1 hlt hg1 hs1 hen
   have HC2:=zh (HCO.out.step hx htx)
   have HRG1:=zh hrg1
   have hne:=HRG.out.own HRO.out
   have HRO2:=zh ((HRO.out.kept hg1 (.inr (fun e=>hne.1 e.symm))).alloc (.cells #[.int .i64 x] 3))
   have HB1:=zh ((HB.out.grown hg1 HB.out.size (by intro k e;cases e;exact RB.out)).alloc (by have:=HB.out.size;have:=hg1.size;omega) (.cells #[.int .i64 x] 3))
   have HLT:=zh hlt
   have HX:=zh (heap_alloc_new w3 (.cells #[.int .i64 x] 3))
   have HL2:=zh HCO.out.len
   clear hwx hx htx hrg1 hlt hg1 hs1 hne
   go_wp2_with (at_builtin;refine wpList_append_own _ rfl _ _ 40 rfl w.heap.size 3 i0 (.int .i64 0) 1 8 Tryz.underlying40 HI.out.1 HI.out.2.1 HI.out.2.2.1 HI.out.2.2.2 rfl (by decide) (.slice a k c) k (ints ns) rfl HRO2.out ⟨w3.heap.size,0,none⟩ 1 1 [.int .i64 x] rfl rfl ?_ ?_ ?_ ?_ ?_ ?_)
   ·intro j u hu
    rw [Addr.add_lit,cell_of_row _ _ _ _ _ _ HX.out]
    match j,hu with
    | 0,hu=>simpa using hu
    | j+1,hu=>simp at hu
   ·intro u hu;simp at hu;subst hu;rfl
   ·have:=HL2.out;have:=HL.out;have:=HK.out;simp only [maxLen];omega
   ·have:=HL2.out;have:=HL.out;have:=HK.out;omega
   ·exact HB1.out.size
   ·intro v' w4 h1 h2 h3
    obtain⟨a2,c2,rfl⟩:=own_sliceI h1
    have HNA2:Hid (a2≠none):=fun e=>by subst e;rcases h1.2 with ⟨e,_⟩|⟨g,cap,cur,e,_⟩<;>simp at e
    clear h3
    have hne2:=(HRG1.out.kept (row:=none) (World.grownBy_alloc w3 (.cells #[.int .i64 x] 3) none) (by simp) (by simp)).own HRO2.out
    have HRG2:=zh ((HRG1.out.kept (row:=none) (World.grownBy_alloc w3 (.cells #[.int .i64 x] 3) none) (by simp) (by simp)).kept h2 hne2.2 hne2.1)
    have HROW:=zh h1
    have HB2:=zh (HB1.out.grown h2 HB1.out.size (fun q e=>(HRO2.out.lt _ e).1))
    clear h1 h2 hne2 hen
    go_wp2_with fail
    go_roundw
    case rel=>exact⟨_,cnt1,ns++[x],a2,k+1,c2,rfl,HNA2.out,by rw [List.length_append,List.length_singleton,HK.out],HRG2.out,HC2.out,by rw [ints_append];exact HROW.out,HB2.out⟩
    case measure=>rw [HRG2.out.left_eq,HRG.out.left_eq];exact HLT.out
end Go.Proofs.YtnkahlloahgifaaGreatDoor
namespace Go.Proofs.YtnkahlloahgifaaGreatDoor
open Go.RowKit RG Go.Maps Go.Sort
theorem Tryz.info9u:(Tryz.prog.info? 9).map (fun i=>(i.zero,i.size,i.bytes))=some (some (.string ⟨#[]⟩),1,16):=by kernel_rfl
theorem Fl.names {w:World}{A:Ad}{f:Nat}{F:List Nd}(h:Fl w A f F):∃ ad c,w.cell? ⟨f,3,none⟩=some (.slice ad (vars F).length c)∧(0<(vars F).length→∃ g o,ad=some ⟨g,o,none⟩∧∀ (i:Nat) x,(vars F)[i]?=some x→w.cell? ⟨g,o+i,none⟩=some (.string x)):=by
 obtain⟨sl,sn,sv,f0,f1,f2,-,ad,c,rfl,h2⟩:=h.at'.flat
 exact⟨ad,c,by rw [cell_of_row _ _ 3 _ _ _ f0];rfl,fun h0=>by obtain⟨g,o,e,h3⟩:=h2 h0;exact⟨g,o,e,fun i x hi=>h3 i _ (strs_at hi)⟩⟩
def NmP (w:World) (ns:List Nm) (e:Ending) (w':World):Prop :=
 ∃ a c,e = .returned (.slice a ns.length c)∧w'.ownsRow w.heap.size 9 1 (.slice a ns.length c) ns.length (strs ns)∧Below w.heap.size w w'
set_option maxHeartbeats 1000000 in
set_option maxRecDepth 20000 in
theorem named_any (SORT:SortLaw) {w:World}{A:Ad}{f b:Nat}{F:List Nd}{q:Nm→Bool}(h:Fl w A f F) (hs:SetAt w b F q):Calls Tryz.prog 56 #[.pointer (some ⟨f,0,none⟩),.map (some b)] w (NmP w (named F q)):=by
 have RS:=zh (rising_any SORT hs (places_rise h.fo.once q) (Nat.le_trans (vset_le q) h.few))
 have H:=zh h
 obtain⟨i0,hi0,hz0,hz1,hz2⟩:=info_parts Tryz.info9u
 have HI:=zh (And.intro hi0 (And.intro hz0 (And.intro hz1 hz2)))
 obtain⟨n,hn⟩:∃ n,n=(places F q).length:=⟨_,rfl⟩
 have HN:=zh hn
 have HN2:Hid (n=(named F q).length):=by show _=_;rw [hn];exact List.length_map _
 have HNZ:Hid (n≤1000000):=by have:=h.few;have h2:=List.length_filter_le q (vars F);have h3:=HN2.out;unfold named at h3;show _≤_;omega
 have hnz:(n:Int)≤1000000:=by have:=HNZ.out;omega
 clear hi0 hz0 hz1 hz2 hs h hn SORT
 go_enter Tryz.func56,Tryz.ntmps56
 go_wp2_with fail
 refine RS.out.mono ?_
 rintro e w1 ⟨ra,rc,rfl,hro,hb⟩
 rw [← HN.out] at hro ⊢
 have HR:=zh hro
 have HB:=zh hb
 clear hro hb
 go_wp2_with fail
 go_loopw [5,11] (fun o iv wr=>∃ (k:Nat) (a:Option Addr) (c:Nat),k≤n∧iv = .int .i64 k∧o = .slice a k c∧wr.ownsRow w1.heap.size 9 1 (.slice a k c) k (strs ((named F q).take k))∧Below w1.heap.size w1 wr) (fun _ iv _=>n - (intOf iv).toNat)
 case atStart=>exact⟨0,none,0,Nat.zero_le _,rfl,rfl,World.ownsRow_nil _ _ _ _,Below.refl _ _⟩
 case round =>
  obtain⟨k,a,c,hk,rfl,rfl,hrow,hb⟩:=hrel
  have KR:=zh hrow
  have KB:=zh hb
  have KL:=zh hk
  clear hrow hb hk
  by_cases hlt:k<n
  ·have hkn:k<(named F q).length:=by rw [← HN2.out];exact hlt
   obtain⟨x,hx⟩:∃ x,(named F q)[k]?=some x:=⟨_,List.getElem?_eq_getElem hkn⟩
   have hxv:x∈vars F:=(mem_named.1 (List.mem_of_getElem? hx)).1
   have hpx:(places F q)[k]?=some (place F x:Int):=by unfold places;rw [List.getElem?_map,hx];rfl
   have hpl:=place_lt hxv
   have BW:Below w.heap.size w wr:=HB.out.trans (KB.out.mono HB.out.size)
   obtain⟨ad,nc,c3,hat⟩:=(H.out.keep BW).names
   obtain⟨g,o,rfl,hat2⟩:=hat (by omega)
   have hcx:=hat2 _ _ (place_at hxv)
   clear hat2
   -- the place that was sorted
   obtain⟨rg,hra,hrat⟩:∃ rg,ra=some ⟨rg,0,none⟩∧w1.cell? ⟨rg,k,none⟩=some (.int .i64 (place F x)):=by
    rcases HR.out.2 with ⟨e,h0⟩|⟨rg,cap,cur,e,hbase,hg,k1,k2,k3,k4⟩
    ·omega
    ·simp only [Value.slice.injEq,true_and] at e
     refine⟨rg,e.1,?_⟩
     rw [cell_of_row _ _ _ _ _ _ hg,← Array.getElem?_toList,← List.getElem?_take_of_lt (show k<n*1 by omega),k4]
     unfold ints
     rw [List.getElem?_map,hpx];rfl
   subst hra
   have hrat2:=kept_below KB.out _ _ hrat
   have hlz:(k:Int)<n:=by omega
   have HLT:=zh hlt
   have HX:=zh hx
   have hpz:(place F x:Int)<(vars F).length:=by omega
   obtain⟨p,hp⟩:∃ p,p=place F x:=⟨_,rfl⟩
   rw [← hp] at hcx hrat2 hpz
   have hvz:((vars F).length:Int)≤1000000:=by have:=H.out.few;omega
   obtain⟨vn,hvn⟩:∃ vn,vn=(vars F).length:=⟨_,rfl⟩
   rw [← hvn] at c3 hpz hvz
   have HBW:=zh BW
   have HRO2:=zh (KR.out.alloc (.cells #[.string x] 9))
   have HXA:=zh (heap_alloc_new wr (.cells #[.string x] 9))
   clear hat hx hlt hrat hxv hpx hpl hkn BW hp hvn
   go_wp2_with (at_builtin;refine wpList_append_own _ rfl _ _ 35 rfl w1.heap.size 9 i0 (.string ⟨#[]⟩) 1 16 Tryz.underlying35 HI.out.1 HI.out.2.1 HI.out.2.2.1 HI.out.2.2.2 rfl (by decide) (.slice a k c) k (strs ((named F q).take k)) rfl HRO2.out ⟨wr.heap.size,0,none⟩ 1 1 [.string x] rfl rfl ?_ ?_ ?_ ?_ ?_ ?_)
   ·intro j u hu
    rw [Addr.add_lit,cell_of_row _ _ _ _ _ _ HXA.out]
    match j,hu with
    | 0,hu=>simpa using hu
    | j+1,hu=>simp at hu
   ·intro u hu;simp at hu;subst hu;rfl
   ·have:=HLT.out;have:=HNZ.out;simp only [maxLen];omega
   ·have:=HLT.out;have:=HNZ.out;omega
   ·have:=KB.out.size;simp;omega
   ·intro v' w4 h1 h2 _
    obtain⟨a2,c2,rfl⟩:=own_sliceI h1
    have HROW:Hid (w4.ownsRow w1.heap.size 9 1 (.slice a2 (k+1) c2) (k+1) (strs ((named F q).take (k+1)))):=by
     rw [List.take_add_one,HX.out,strs_append];exact h1
    have HB2:=zh ((KB.out.alloc KB.out.size (.cells #[.string x] 9)).grown h2 (by have:=KB.out.size;simp;omega) (fun q e=>(HRO2.out.lt _ e).1))
    clear h1 h2
    go_wp2_with fail
    go_roundw
    case rel=>exact⟨k+1,a2,c2,HLT.out,by go_num,rfl,HROW.out,HB2.out⟩
    case measure=>have:=HLT.out;simp [intOf];omega
  ·have hlz:(n:Int)≤k:=by omega
   have HE:Hid (k=n):=by have:=KL.out;show _=_;omega
   clear hlt
   go_wp2_with fail
   go_ret
   have e:k=(named F q).length:=by rw [HE.out];exact HN2.out
   have hrow:=KR.out
   rw [e,List.take_length] at hrow
   refine⟨a,c,by show Ending.returned (.slice a k c)=_;rw [e],?_,HB.out.trans (KB.out.mono HB.out.size)⟩
   obtain⟨h1,h2⟩:=hrow
   exact⟨h1,h2.imp id fun ⟨g,cap,cur,e1,e2,rest⟩=>⟨g,cap,cur,e1,Nat.le_trans HB.out.size e2,rest⟩⟩
end Go.Proofs.YtnkahlloahgifaaGreatDoor

namespace Go.Proofs.YtnkahlloahgifaaGreatDoor
open Go.RowKit RG Go.Maps
def TFunV (w:World) (v:Value) (ps:List Nm) (e:TE):Prop :=
 ∃ (nm op:ByteArray) (ch:Bool) (pv va:Value) (num site:Int) (aa ab:Option Addr) (ca cb ga oa gb ob:Nat),
  v = .agg #[.string nm,.bool ch,pv,.int .i64 e.kind,.string e.name,.string op,.int .i64 num,.int .i64 site,va,.slice aa e.arms.length ca,.slice ab e.body.length cb] ∧
   ParamsAt w pv ps∧AtomsAt w va e.args∧(0<e.arms.length→aa=some ⟨ga,oa,none⟩)∧TAAt w e.arms ga oa∧(0<e.body.length→ab=some ⟨gb,ob,none⟩)∧TBAt w e.body gb ob
theorem ParamsAt.kept {w w':World}{v:Value}{ns:List Nm}(h:ParamsAt w v ns) (hb:Kept w w'):ParamsAt w' v ns:=by
 obtain⟨ad,c,h1,h2⟩:=h.at'
 refine⟨ad,c,h1,fun h0=>?_⟩
 obtain⟨g,o,e,h3⟩:=h2 h0
 exact⟨g,o,e,fun i n hi=>by obtain⟨m,a,b⟩:=h3 i n hi;exact⟨m,hb _ _ a,hb _ _ b⟩⟩
theorem TFunV.kept {w w':World}{v:Value}{ps:List Nm}{e:TE}(h:TFunV w v ps e) (hb:Kept w w'):TFunV w' v ps e:=by
 obtain⟨nm,op,ch,pv,va,num,site,aa,ab,ca,cb,ga,oa,gb,ob,h0,h1,h2,h3,h4,h5,h6⟩:=h
 exact⟨nm,op,ch,pv,va,num,site,aa,ab,ca,cb,ga,oa,gb,ob,h0,h1.kept hb,h2.kept hb,h3,TAAt.kept hb _ _ _ h4,h5,TBAt.kept hb _ _ _ h6⟩
structure FnOk (Env:World→Prop) (isName:Nm→Bool) (w:World) (v:Value) (ps:List Nm) (e:TE):Prop where
 law:NLaw Env isName
 env:Env w
 val:TFunV w v ps e
 sz:∀ d∈F0 ps e,(∀ x∈d.binds,x.size≤maxLen)∧∀ x∈d.e.args,x.size≤maxLen
 pl:ps.length*24≤140737488355328
theorem FnOk.keep {Env:World→Prop}{isName:Nm→Bool}{w w':World}{v:Value}{ps:List Nm}{e:TE}(h:FnOk Env isName w v ps e) (hb:Below w.heap.size w w'):FnOk Env isName w' v ps e :=
 ⟨h.law,h.law.keep _ _ _ (h.law.size _ h.env) h.env hb,h.val.kept (kept_below hb),h.sz,h.pl⟩
theorem FnOk.boxed {Env:World→Prop}{isName:Nm→Bool}{w:World}{v:Value}{ps:List Nm}{e:TE}(h:FnOk Env isName w v ps e):Calls Tryz.prog 58 #[.pointer (some ⟨w.heap.size,0,none⟩)] (w.alloc (.cells v.cells 29)) (fun en w'=>ReadP isName (w.alloc (.cells v.cells 29)) ps e en w'):=by
 have hb:Below w.heap.size w (w.alloc (.cells v.cells 29)):=(Below.refl _ _).alloc (Nat.le_refl _) _
 have hk:=kept_below hb
 obtain⟨nm,op,ch,pv,va,num,site,aa,ab,ca,cb,ga,oa,gb,ob,rfl,h1,h2,h3,h4,h5,h6⟩:=h.val
 have hn:=heap_alloc_new w (.cells (Value.agg #[.string nm,.bool ch,pv,.int .i64 e.kind,.string e.name,.string op,.int .i64 num,.int .i64 site,va,.slice aa e.arms.length ca,.slice ab e.body.length cb]).cells 29)
 have hpv:∃ a n c,pv = .slice a n c:=by obtain⟨ad,c,e,_⟩:=h1.at';exact⟨_,_,_,e⟩
 have hva:∃ a n c,va = .slice a n c:=by obtain⟨ad,c,e,_⟩:=h2.at';exact⟨_,_,_,e⟩
 obtain⟨pa,pn,pc,rfl⟩:=hpv
 obtain⟨xa,xn,xc,rfl⟩:=hva
 have hcs:(Value.agg #[.string nm,.bool ch,.slice pa pn pc,.int .i64 e.kind,.string e.name,.string op,.int .i64 num,.int .i64 site,.slice xa xn xc,.slice aa e.arms.length ca,.slice ab e.body.length cb]).cells = #[.string nm,.bool ch,.slice pa pn pc,.int .i64 e.kind,.string e.name,.string op,.int .i64 num,.int .i64 site,.slice xa xn xc,.slice aa e.arms.length ca,.slice ab e.body.length cb]:=rfl
 refine read_any h.law (h.law.keep _ _ _ (h.law.size _ h.env) h.env hb) ?_ h.sz h.pl
 rw [hcs] at hn ⊢
 rw [hcs] at hk
 have c:∀ i x,#[Value.string nm,.bool ch,.slice pa pn pc,.int .i64 e.kind,.string e.name,.string op,.int .i64 num,.int .i64 site,.slice xa xn xc,.slice aa e.arms.length ca,.slice ab e.body.length cb][i]?=some x→(w.alloc (.cells #[Value.string nm,.bool ch,.slice pa pn pc,.int .i64 e.kind,.string e.name,.string op,.int .i64 num,.int .i64 site,.slice xa xn xc,.slice aa e.arms.length ca,.slice ab e.body.length cb] 29)).cell? ⟨w.heap.size,i,none⟩=some x:=fun i x hx=>by rw [cell_of_row _ _ _ _ _ _ hn];exact hx
 refine⟨⟨_,c 2 _ rfl,h1.kept hk⟩,?_⟩
 obtain⟨k,name,args,arms,body⟩:=e
 rw [TEAt]
 exact⟨op,num,site,_,aa,ab,ca,cb,ga,oa,gb,ob,⟨c 3 _ rfl,c 4 _ rfl,c 5 _ rfl,c 6 _ rfl⟩,⟨c 7 _ rfl,c 8 _ rfl,c 9 _ rfl,c 10 _ rfl⟩,h2.kept hk,h3,TAAt.kept hk _ _ _ h4,h5,TBAt.kept hk _ _ _ h6⟩
def CntP (isName:Nm→Bool) (w:World) (ps:List Nm) (e:TE) (en:Ending) (w':World):Prop :=
 Below w.heap.size w w'∧((RG.Good isName ps e∧en = .returned (.tuple #[.int .i64 e.size,.int .i64 0]))∨(¬ RG.Good isName ps e∧en = .returned (.tuple #[.int .i64 0,.int .i64 160])))
theorem Fl.nodesLen {w:World}{A:Ad}{f:Nat}{F:List Nd}(h:Fl w A f F):∃ a c,w.cell? ⟨f,2,none⟩=some (.slice a F.length c):=by
 obtain⟨sl,sn,sv,f0,f1,⟨_,ad,c,rfl,_⟩,f3⟩:=h.at'.flat
 exact⟨ad,c,by rw [cell_of_row _ _ 2 _ _ _ f0];rfl⟩
set_option maxHeartbeats 1000000 in
set_option maxRecDepth 20000 in
theorem count_any {Env:World→Prop}{isName:Nm→Bool}{w:World}{v:Value}{ps:List Nm}{e:TE}(h:FnOk Env isName w v ps e):Calls Tryz.prog 33 #[v] w (CntP isName w ps e):=by
 have RD:=zh h.boxed
 obtain⟨cs,rfl⟩:∃ cs,v = .agg cs:=by obtain⟨_,_,_,_,_,_,_,_,_,_,_,_,_,_,_,h0,_⟩:=h.val;exact⟨_,h0⟩
 clear h
 go_enter Tryz.func33,Tryz.ntmps33
 go_wp2_with fail
 refine RD.out.mono ?_
 have hB0:Below w.heap.size w (w.alloc (.cells cs 29)):=(Below.refl _ _).alloc (Nat.le_refl _) _
 have B0:=zh hB0
 clear hB0
 rintro en w1 ⟨hb,⟨hg,A,f,rfl,hfl⟩|⟨hng,rfl⟩⟩
 ·obtain⟨a,c,c2⟩:=hfl.nodesLen
  have HB:Hid (Below w.heap.size w w1):=B0.out.trans (hb.mono B0.out.size)
  have HG:=zh hg
  obtain⟨n,hn⟩:∃ n,n=(F0 ps e).length:=⟨_,rfl⟩
  rw [← hn] at c2
  have HN:=zh hn
  clear hb hg hfl hn
  go_wp2_with fail
  go_ret2
  exact⟨HB.out,.inl ⟨HG.out,by rw [HN.out,F0_length];rfl⟩⟩
 ·have HB:Hid (Below w.heap.size w w1):=B0.out.trans (hb.mono B0.out.size)
  have HG:=zh hng
  clear hb hng
  go_wp2_with fail
  go_ret2
  exact⟨HB.out,.inr ⟨HG.out,rfl⟩⟩
def BndP (isName:Nm→Bool) (w:World) (ps:List Nm) (e:TE) (en:Ending) (w':World):Prop :=
 Below w.heap.size w w'∧((RG.Good isName ps e∧∃ v,en = .returned (.tuple #[v,.int .i64 0])∧StrsAt w' v (vars (F0 ps e)))∨(¬ RG.Good isName ps e∧en = .returned (.tuple #[.slice none 0 0,.int .i64 160])))
set_option maxHeartbeats 1000000 in
set_option maxRecDepth 20000 in
theorem bound_any {Env:World→Prop}{isName:Nm→Bool}{w:World}{v:Value}{ps:List Nm}{e:TE}(h:FnOk Env isName w v ps e):Calls Tryz.prog 37 #[v] w (BndP isName w ps e):=by
 have RD:=zh h.boxed
 obtain⟨cs,rfl⟩:∃ cs,v = .agg cs:=by obtain⟨_,_,_,_,_,_,_,_,_,_,_,_,_,_,_,h0,_⟩:=h.val;exact⟨_,h0⟩
 clear h
 go_enter Tryz.func37,Tryz.ntmps37
 go_wp2_with fail
 refine RD.out.mono ?_
 have hB0:Below w.heap.size w (w.alloc (.cells cs 29)):=(Below.refl _ _).alloc (Nat.le_refl _) _
 have B0:=zh hB0
 clear hB0
 rintro en w1 ⟨hb,⟨hg,A,f,rfl,hfl⟩|⟨hng,rfl⟩⟩
 ·obtain⟨sl,sn,sv,f0,f1,f2,f3⟩:=hfl.at'.flat
  obtain⟨-,ad,c,hsv,-⟩:=id f3
  have c3:w1.cell? ⟨f,3,none⟩=some (.slice ad (vars (F0 ps e)).length c):=by rw [cell_of_row _ _ 3 _ _ _ f0,hsv];rfl
  have HB:Hid (Below w.heap.size w w1):=B0.out.trans (hb.mono B0.out.size)
  have HG:=zh hg
  have HS:Hid (StrsAt w1 (.slice ad (vars (F0 ps e)).length c) (vars (F0 ps e))):=by rw [← hsv];exact f3
  obtain⟨n,hn⟩:∃ n,n=(vars (F0 ps e)).length:=⟨_,rfl⟩
  rw [← hn] at c3 HS
  clear hb hg hfl hn f0 f1 f2 f3 hsv
  go_wp2_with fail
  go_ret2
  exact⟨HB.out,.inl ⟨HG.out,_,rfl,HS.out⟩⟩
 ·have HB:Hid (Below w.heap.size w w1):=B0.out.trans (hb.mono B0.out.size)
  have HG:=zh hng
  clear hb hng
  go_wp2_with fail
  go_ret2
  exact⟨HB.out,.inr ⟨HG.out,rfl⟩⟩
end Go.Proofs.YtnkahlloahgifaaGreatDoor
namespace Go.Proofs.YtnkahlloahgifaaGreatDoor
open Go.RowKit RG Go.Maps Go.Sort
theorem FnOk.cells {Env:World→Prop}{isName:Nm→Bool}{w:World}{v:Value}{ps:List Nm}{e:TE}(h:FnOk Env isName w v ps e):∃ cs,v = .agg cs:=by obtain⟨_,_,_,_,_,_,_,_,_,_,_,_,_,_,_,h0,_⟩:=h.val;exact⟨_,h0⟩
def WdP (isName:Nm→Bool) (w:World) (ps:List Nm) (e:TE) (en:Ending) (w':World):Prop :=
 Below w.heap.size w w'∧((RG.Good isName ps e∧en = .returned (.tuple #[.int .i64 (width (F0 ps e)),.int .i64 0]))∨(¬ RG.Good isName ps e∧en = .returned (.tuple #[.int .i64 0,.int .i64 160])))
set_option maxHeartbeats 1000000 in
set_option maxRecDepth 20000 in
theorem width_any {Env:World→Prop}{isName:Nm→Bool}{w:World}{v:Value}{ps:List Nm}{e:TE}(h:FnOk Env isName w v ps e):Calls Tryz.prog 28 #[v] w (WdP isName w ps e):=by
 have RD:=zh h.boxed
 obtain⟨cs,rfl⟩:=h.cells
 clear h
 go_enter Tryz.func28,Tryz.ntmps28
 go_wp2_with fail
 refine RD.out.mono ?_
 have B0:Hid (Below w.heap.size w (w.alloc (.cells cs 29))):=(Below.refl _ _).alloc (Nat.le_refl _) _
 rintro en w1 ⟨hb,⟨hg,A,f,rfl,hfl⟩|⟨hng,rfl⟩⟩
 ·have HB:Hid (Below w.heap.size w w1):=B0.out.trans (hb.mono B0.out.size)
  have HG:=zh hg
  have HF:=zh hfl
  clear hb hg hfl
  go_wp2_with fail
  refine(crowd_any HF.out).mono ?_
  rintro en w2 ⟨b,q,rfl,hs,hc,hb2⟩
  obtain⟨n,hn⟩:∃ n,n=(VSet (F0 ps e) q).length:=⟨_,rfl⟩
  have e1:(Builtin.len_ #[108] 3 #[.map (some b)]).run Tryz.prog w2 = .ok (.int .i64 n) w2:=by obtain⟨D,h1,h2,_⟩:=hs;have:=h1.len Tryz.underlying108 3;rw [h2,← hn] at this;exact this
  have HN:Hid (n=width (F0 ps e)):=by show _=_;rw [hn,vset_length];unfold width;rw [hc]
  have HB2:Hid (Below w.heap.size w w2):=HB.out.trans (hb2.mono HB.out.size)
  clear hn hs hc hb2
  go_wp2_with fail
  go_ret2
  exact⟨HB2.out,.inl ⟨HG.out,by rw [HN.out];rfl⟩⟩
 ·have HB:Hid (Below w.heap.size w w1):=B0.out.trans (hb.mono B0.out.size)
  have HG:=zh hng
  clear hb hng
  go_wp2_with fail
  go_ret2
  exact⟨HB.out,.inr ⟨HG.out,rfl⟩⟩
def FdP (isName:Nm→Bool) (w:World) (ps:List Nm) (e:TE) (at':Int) (en:Ending) (w':World):Prop :=
 Below w.heap.size w w'∧((RG.Good isName ps e∧∃ A f i,at'=(i:Nat)∧i<(F0 ps e).length∧en = .returned (.tuple #[.pointer (some ⟨f,0,none⟩),.pointer (some ⟨A.nb i,0,none⟩),.int .i64 0])∧Fl w' A f (F0 ps e)) ∨
  (RG.Good isName ps e∧(at'<0∨(e.size:Int)≤at')∧en = .returned (.tuple #[.pointer none,.pointer none,.int .i64 3]))∨(¬ RG.Good isName ps e∧en = .returned (.tuple #[.pointer none,.pointer none,.int .i64 160])))
theorem Fl.nodes {w:World}{A:Ad}{f:Nat}{F:List Nd}(h:Fl w A f F):∃ c g o,w.cell? ⟨f,2,none⟩=some (.slice (some ⟨g,o,none⟩) F.length c)∧∀ i,i<F.length→w.cell? ⟨g,o+i,none⟩=some (.pointer (some ⟨A.nb i,0,none⟩)):=by
 obtain⟨sl,sn,sv,f0,f1,⟨-,ad,c,rfl,f2⟩,f3⟩:=h.at'.flat
 obtain⟨g,o,rfl,hat⟩:=f2 h.fo.pos
 exact⟨c,g,o,by rw [cell_of_row _ _ 2 _ _ _ f0];rfl,fun i hi=>hat i _ (ptrs_at (by rw [List.getElem?_map,List.getElem?_range hi];rfl))⟩
set_option maxHeartbeats 1000000 in
set_option maxRecDepth 20000 in
theorem found_any {Env:World→Prop}{isName:Nm→Bool}{w:World}{v:Value}{ps:List Nm}{e:TE}(h:FnOk Env isName w v ps e) (at':Int):Calls Tryz.prog 55 #[.pointer (some ⟨w.heap.size,0,none⟩),.int .i64 at'] (w.alloc (.cells v.cells 29)) (FdP isName w ps e at'):=by
 have RD:=zh h.boxed
 obtain⟨cs,rfl⟩:=h.cells
 have B0:Hid (Below w.heap.size w (w.alloc (.cells cs 29))):=(Below.refl _ _).alloc (Nat.le_refl _) _
 clear h
 show Calls Tryz.prog 55 _ (w.alloc (.cells cs 29)) _
 go_enter Tryz.func55,Tryz.ntmps55
 go_wp2_with fail
 refine RD.out.mono ?_
 rintro en w1 ⟨hb,⟨hg,A,f,rfl,hfl⟩|⟨hng,rfl⟩⟩
 ·obtain⟨c,g,o,c2,hat⟩:=hfl.nodes
  have HB:Hid (Below w.heap.size w w1):=B0.out.trans (hb.mono B0.out.size)
  have HG:=zh hg
  have HF:=zh hfl
  have HAT:=zh hat
  obtain⟨n,hn⟩:∃ n,n=(F0 ps e).length:=⟨_,rfl⟩
  rw [← hn] at c2
  have HN:=zh hn
  have HNZ:Hid (n=e.size):=by show _=_;rw [hn,F0_length]
  clear hb hg hfl hat hn
  by_cases h0:at'<0
  ·have H0:=zh h0
   go_wp2_with fail
   go_ret3
   exact⟨HB.out,.inr (.inl ⟨HG.out,.inl H0.out,rfl⟩)⟩
  ·have d0:decide (at'<0)=false:=by simpa using h0
   by_cases h1:(n:Int)≤at'
   ·have H1:=zh h1
    go_wp2_with fail
    go_ret3
    exact⟨HB.out,.inr (.inl ⟨HG.out,.inr (by rw [← HNZ.out];exact H1.out),rfl⟩)⟩
   ·have d1:decide ((n:Int)≤at')=false:=by simpa using h1
    obtain⟨i,rfl⟩:∃ i:Nat,at'=i:=⟨at'.toNat,by omega⟩
    have hi:i<n:=by omega
    have hci:=HAT.out i (by rw [← HN.out];exact hi)
    have hiz:(i:Int)<n:=by omega
    have hi0:(0:Int)≤i:=by omega
    have HI:=zh hi
    clear h0 h1
    go_wp2_with fail
    go_quiet (fail)
    go_wp2_with fail
    go_ret3
    exact⟨HB.out.trans (below_drewN _ _ _),.inl ⟨HG.out,A,f,i,rfl,by rw [← HN.out];exact HI.out,rfl,HF.out.keep (below_drewN _ _ _)⟩⟩
 ·have HB:Hid (Below w.heap.size w w1):=B0.out.trans (hb.mono B0.out.size)
  have HG:=zh hng
  clear hb hng
  go_wp2_with fail
  go_ret3
  exact⟨HB.out,.inr (.inr ⟨HG.out,rfl⟩)⟩
def LvP (isName:Nm→Bool) (w:World) (ps:List Nm) (e:TE) (at':Int) (ans:Nat→List Nm) (en:Ending) (w':World):Prop :=
 Below w.heap.size w w'∧((RG.Good isName ps e∧∃ (i:Nat) (v:Value),at'=i∧i<(F0 ps e).length∧en = .returned (.tuple #[v,.int .i64 0])∧StrsAt w' v (ans i)) ∨
  (RG.Good isName ps e∧(at'<0∨(e.size:Int)≤at')∧en = .returned (.tuple #[.slice none 0 0,.int .i64 3]))∨(¬ RG.Good isName ps e∧en = .returned (.tuple #[.slice none 0 0,.int .i64 160])))
theorem NmP.strs {w w':World}{ns:List Nm}{en:Ending}(h:NmP w ns en w'):∃ a c,en = .returned (.slice a ns.length c)∧StrsAt w' (.slice a ns.length c) ns∧Below w.heap.size w w':=by
 obtain⟨a,c,rfl,hr,hb⟩:=h
 refine⟨a,c,rfl,⟨strs_length _,a,c,rfl,fun h0=>?_⟩,hb⟩
 rcases hr.2 with ⟨_,h1⟩|⟨g,cap,cur,hv,_,hg,k1,k2,k3,k4⟩
 ·omega
 ·simp only [Value.slice.injEq,true_and] at hv
  obtain⟨rfl,rfl⟩:=hv
  refine⟨g,0,rfl,fun i x hi=>?_⟩
  have hl:=(List.getElem?_eq_some_iff.1 hi).1
  rw [strs_length] at hl
  rw [Nat.zero_add,cell_of_row _ _ _ _ _ _ hg,← Array.getElem?_toList,← List.getElem?_take_of_lt (show i<ns.length*1 by omega),k4]
  exact hi
set_option maxHeartbeats 1000000 in
set_option maxRecDepth 20000 in
theorem live_any (SORT:SortLaw) {Env:World→Prop}{isName:Nm→Bool}{w:World}{v:Value}{ps:List Nm}{e:TE}(h:FnOk Env isName w v ps e) (at':Int):Calls Tryz.prog 17 #[v,.int .i64 at'] w (LvP isName w ps e at' (liveAt (F0 ps e))):=by
 have FD:=zh (found_any h at')
 have HSO:=zh SORT
 obtain⟨cs,rfl⟩:=h.cells
 clear h SORT
 go_enter Tryz.func17,Tryz.ntmps17
 go_wp2_with fail
 refine FD.out.mono ?_
 rintro en w1 ⟨hb,⟨hg,A,f,i,rfl,hi,rfl,hfl⟩|⟨hg,ho,rfl⟩|⟨hng,rfl⟩⟩
 ·obtain⟨sx,n0,n1⟩:=hfl.at'.node i hi
  have c2:w1.cell? ⟨A.nb i,2,none⟩=some (.map (some (A.mb i))):=by rw [cell_of_row _ _ 2 _ _ _ n0];rfl
  have HS:=zh (hfl.at'.live i hi)
  have HB:=zh hb
  have HG:=zh hg
  have HF:=zh hfl
  have HI:=zh hi
  clear hb hg hfl hi n0 n1
  go_wp2_with fail
  refine(named_any HSO.out HF.out HS.out).mono ?_
  intro en w2 hnm
  obtain⟨a,c,rfl,hst,hb2⟩:=hnm.strs
  have HST:=zh hst
  have HB2:Hid (Below w.heap.size w w2):=HB.out.trans (hb2.mono HB.out.size)
  clear hnm hst hb2
  obtain⟨n,hn⟩:∃ n,n=(named (F0 ps e) (lv (F0 ps e) i)).length:=⟨_,rfl⟩
  rw [← hn] at HST ⊢
  clear hn
  go_wp2_with fail
  go_ret2
  exact⟨HB2.out,.inl ⟨HG.out,i,_,rfl,HI.out,rfl,HST.out⟩⟩
 ·have HB:=zh hb
  have HG:=zh (And.intro hg ho)
  clear hb hg ho
  go_wp2_with fail
  go_ret2
  exact⟨HB.out,.inr (.inl ⟨HG.out.1,HG.out.2,rfl⟩)⟩
 ·have HB:=zh hb
  have HG:=zh hng
  clear hb hng
  go_wp2_with fail
  go_ret2
  exact⟨HB.out,.inr (.inr ⟨HG.out,rfl⟩)⟩
end Go.Proofs.YtnkahlloahgifaaGreatDoor
