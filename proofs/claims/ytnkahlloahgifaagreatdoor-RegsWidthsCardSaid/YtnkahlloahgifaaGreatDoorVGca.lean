/- Part. -/
import Derived.Test.YtnkahlloahgifaaGreatDoorVOm
import Derived.Test.YtnkahlloahgifaaGreatDoorVPta
set_option maxHeartbeats 16000000
set_option maxRecDepth 100000
set_option linter.unusedSimpArgs false
set_option linter.unusedVariables false
namespace Go.Proofs.YtnkahlloahgifaaGreatDoor
open Go.RowKit RG Go.Maps
theorem FMap.congr {w:World}{b n n':Nat}{K K':Int→Bool} {σ σ':Int→Int}(h:FMap w b K σ n) (h1:∀ k,K k=K' k) (h2:∀ k,K k=true→σ k=σ' k) (h3:n≤n'):FMap w b K' σ' n':=by
 obtain⟨L,g1,g2,g3,g4⟩:=h
 exact⟨L,g1,by omega,fun k=>(g3 k).trans (h1 k),fun k v hm=>(g4 k v hm).trans (h2 k (by rw [← g3];exact ikey_iff.2 ⟨v,hm⟩))⟩
end Go.Proofs.YtnkahlloahgifaaGreatDoor
namespace Go.Proofs.YtnkahlloahgifaaGreatDoor
open Go.RowKit RG Go.Maps RF
theorem nats_length (l:List Nat):(nats l).length=l.length:=by unfold nats;rw [ints_length,List.length_map]
end Go.Proofs.YtnkahlloahgifaaGreatDoor
namespace Go.Proofs.YtnkahlloahgifaaGreatDoor
open Go.RowKit RG Go.Maps RF
theorem run_append_none' {P:Program}{w:World}(base:Nat) (t ty e:TypeId) (i:TypeInfo) (size:Nat) (ht:P.underlying t=some (.slice e)) (hi:P.info? e=some i)
  (v:Value) (n c:Nat) (xs:List Value) (hown:w.ownsRow base e size v n xs) :
  (Builtin.append_ #[t,t] ty #[v,.slice none 0 c]).run P w = .ok v w:=by
 rcases hown.2 with ⟨rfl,rfl⟩|⟨g,cap,cur,rfl,_,_,hnc,_⟩
 ·simp [Builtin.append_,run_underlying ht,sizeOf,typeInfo,hi,Builtin.lenOf,Builtin.firstCells]
 simp [Builtin.append_,run_underlying ht,sizeOf,typeInfo,hi,Builtin.lenOf,Builtin.firstCells,hnc,storeCells]
end Go.Proofs.YtnkahlloahgifaaGreatDoor
namespace Go.Proofs.YtnkahlloahgifaaGreatDoor
open Go.RowKit RG Go.Maps RF
attribute [local go_sem] Oper.semAt_some
theorem step_append_own {P:Program}{ops:Array Oper}{o:Oper}{a:Act}{w:World}{K:Act→World→Prop}{Q:Exit→Act→World→Prop}{E:Prop}
  (hg:o.guard=none) (s x:Operand) (t:TypeId) (hop:o.op=Op.call { callee:=Callee.builtin Builtin.append,args := #[s,x],argTypes := #[t,t] })
  (base:Nat) (e:TypeId) (i:TypeInfo) (z:Value) (size bytes:Nat) (ht:P.underlying t=some (.slice e)) (hi:P.info? e=some i) (hz:i.zero=some z)
  (hsize:i.size=size) (hby:i.bytes=bytes) (hzs:z.cells.size=size) (hsz:0<size) (v:Value) (n:Nat) (xs:List Value) (hs:a.eval s=v) (hown:w.ownsRow base e size v n xs)
  (ad:Addr) (m c:Nat) (news:List Value) (hx:a.eval x = .slice (some ad) m c) (hl:news.length=m*size) (hnews:∀ j u,news[j]?=some u→w.cell? (ad.add j)=some u) (h1:∀ u∈news,u.oneCell'=true)
  (h63:n+m≤maxLen) (hbytes:(n+m)*bytes≤140737488355328) (hbase:base≤w.heap.size)
  (hK:∀ v' w',w'.ownsRow base e size v' (n+m) (xs++news)→w.grownBy w' v.ownBlock→K (a.put o.dst v') w') :
  if Region.wanted o (yielded ops a.tmps)=true then Oper.wp P o a w K Q else E:=by
 have hw:Region.wanted o (yielded ops a.tmps)=true:=by simp [Region.wanted,hg]
 rw [if_pos hw]
 obtain⟨v',w',hr,h2,h3,-⟩:=run_append_own (P:=P) w base t o.type e i z size bytes ht hi hz hsize hby hzs hsz v n xs hown ad m c news hl hnews h1 h63 hbytes hbase
 unfold Oper.wp execOp
 simp only [hop,resolve,invoke,builtin,Sem.run_bind,Sem.run_pure,Result.andThen_ok,List.map_toArray,List.map_cons,List.map_nil,hs,hx,hr]
 exact hK _ _ h2 h3
theorem owns_strs {w:World}{base n:Nat}{v:Value}{l:List Nm}(h:w.ownsRow base 9 1 v n (strs l)) (hn:n=l.length):StrsAt w v l:=by
 obtain⟨a,c,rfl⟩:=own_sliceI h
 subst hn
 refine⟨strs_length _,a,c,rfl,fun h0=>?_⟩
 rcases h.2 with ⟨he,h1⟩|⟨g,cap,cur,hv,_,hg,k1,k2,k3,k4⟩
 ·omega
 simp only [Value.slice.injEq,true_and] at hv
 obtain⟨rfl,rfl⟩:=hv
 refine⟨g,0,rfl,fun i x hi=>?_⟩
 have hl:=(zq8.1 hi).1
 rw [strs_length] at hl
 rw [Nat.zero_add,zb _ _ _ _ _ _ hg,← Array.getElem?_toList,← List.getElem?_take_of_lt (show i<l.length*1 by omega),k4]
 exact hi
end Go.Proofs.YtnkahlloahgifaaGreatDoor
namespace Go.Proofs.YtnkahlloahgifaaGreatDoor
open Go.RowKit RG Go.Maps RF
def namesR (F:List Nd) (l:List Nat):List Nm:=l.map fun k=>(vars F).getD k ⟨#[]⟩
theorem namesR_take {F:List Nd}{l:List Nat}{i k:Nat}{x:Nm}(h:l[i]?=some k) (hx:(vars F)[k]?=some x):namesR F (l.take (i+1))=namesR F (l.take i)++[x]:=by
 unfold namesR
 rw [List.take_add_one,h,List.map_append]
 show _++[(vars F).getD k ⟨#[]⟩]=_
 rw [zt4,hx];rfl
theorem namedR_any {w:World}{fb:Nat}{F:List Nd}{v:Value}{l:List Nat}(h:FlatR w fb F) (hv:SlAt w v l.length (nats l)) (hl:∀ k∈l,k<(vars F).length) (hn:l.length≤1000000000000) (hvn:(vars F).length≤1000000000) :
  Calls Tryz.prog 19 #[.pointer (some ⟨fb,0,none⟩),v] w fun e w'=>Below w.heap.size w w'∧∃ u,e = .returned u∧StrsAt w' u (namesR F l):=by
 obtain⟨sv,su,sn,sb,sa,so,us,ns,bs,h0,h1,-⟩:=h
 obtain⟨-,la,lc,rfl,lat⟩:=hv
 obtain⟨-,va,vc,rfl,vat⟩:=h1
 obtain⟨n,hnn⟩:∃ n,n=l.length:=⟨_,rfl⟩
 obtain⟨m,hmm⟩:∃ m,m=(vars F).length:=⟨_,rfl⟩
 rw [← hnn] at hn lat ⊢
 rw [← hmm] at hvn vat h0
 have H0:=zh h0
 have LAT:=zh lat
 have VAT:=zh vat
 have HN:=zh hnn
 have HM:=zh hmm
 have HL:=zh hl
 have hnz:(n:Int)≤1000000000000:=by omega
 have hmz:(m:Int)≤1000000000:=by omega
 have NZ:=zh hn
 obtain⟨i9,p1,p2,p3,p4⟩:=info_parts Tryz.info9v
 have HI9:=zh (And.intro p1 (And.intro p2 (And.intro p3 p4)))
 clear h0 lat vat hnn hmm hl hn hvn p1 p2 p3 p4
 go_enter Tryz.func19,Tryz.ntmps19
 go_wp2_with fail
 go_loopw [5,6] (fun ov iv wr=>∃ i:Nat,i≤n∧iv = .int .i64 i∧World.ownsRow wr w.heap.size 9 1 ov i (strs (namesR F (l.take i)))∧Below w.heap.size w wr) (fun _ iv _=>n - (intOf iv).toNat)
 case atStart=>exact⟨0,Nat.zero_le _,rfl,World.ownsRow_nil _ _ _ _,zs9 _ _⟩
 rename World=>V
 obtain⟨i,hi,rfl,hown,hbv⟩:=hrel
 have KI:=zh hi
 have KO:=zh hown
 have BV:=zh hbv
 obtain⟨oa,oc,hov⟩:=own_sliceI hown
 subst hov
 clear hi hown hbv
 by_cases hlt:i<n
 ·have hlz:(i:Int)<n:=by omega
  have hi0:(0:Int)≤i:=by omega
  have HLT:=zh hlt
  obtain⟨g,o,rfl,hat⟩:=LAT.out (by omega)
  obtain⟨k,hk⟩:∃ k,l[i]?=some k:=⟨_,zq9 (by rw [← HN.out];exact hlt)⟩
  have hkm:k<m:=by rw [HM.out];exact HL.out k (zr1 hk)
  obtain⟨g2,o2,rfl,hat2⟩:=VAT.out (by omega)
  obtain⟨x,hx⟩:∃ x,(vars F)[k]?=some x:=⟨_,zq9 (by rw [← HM.out];exact hkm)⟩
  have y0:=zd BV.out _ _ (hat i _ (nats_at hk))
  have y1:=zd BV.out _ _ (hat2 k _ (strs_at hx))
  have q0:V.cell? ⟨fb,0,none⟩=some (.slice (some ⟨g2,o2,none⟩) m vc):=by rw [zb _ _ 0 _ _ _ (zm BV.out H0.out)];rfl
  have TK:=zh (namesR_take hk hx)
  have hkz:(k:Int)<m:=by omega
  have hk0:(0:Int)≤k:=by omega
  have OX:Hid (World.ownsRow (V.drew.alloc (.cells #[.string x] 9)) w.heap.size 9 1 (.slice oa i oc) i (strs (namesR F (l.take i)))):=owns_keep2 KO.out fun q hq=>zt2 _ _ _ (World.ownsRow.lt KO.out q hq).2
  have NB:Hid (i+1≤maxLen∧(i+1)*16≤140737488355328):=by have:=NZ.out;show _∧_;simp only [maxLen];omega
  have BA:Hid (Below w.heap.size w (V.drew.alloc (.cells #[.string x] 9))):=BV.out.drew.alloc BV.out.size _
  clear hlt hat hat2 hk hx hkm
  go_upto_region 5 with fail
  go_region_law (refine step_append_own rfl _ _ 35 rfl w.heap.size 9 i9 (.string ⟨#[]⟩) 1 16 Tryz.underlying35 HI9.out.1 HI9.out.2.1 HI9.out.2.2.1 HI9.out.2.2.2 rfl (by decide) (.slice oa i oc) i (strs (namesR F (l.take i))) rfl OX.out ⟨V.heap.size,0,none⟩ 1 1 [.string x] rfl rfl (news1 _ _ _) (fun u hu=>by simp at hu;rw [hu];rfl) NB.out.1 NB.out.2 BA.out.size ?_;intro vo w6 hown hg)
  all_goals
   have B6:Hid (Below w.heap.size w w6):=BA.out.grown hg BA.out.size (fun q e=>(OX.out.lt q e).1)
   have M6:Hid (World.ownsRow w6 w.heap.size 9 1 vo (i+1) (strs (namesR F (l.take (i+1))))):=by
    show World.ownsRow _ _ _ _ _ _ _
    rw [TK.out]
    unfold strs at hown ⊢
    rw [List.map_append];exact hown
   clear hown hg
   go_wp2_with fail
   go_roundw
   case rel=>exact⟨i+1,HLT.out,by go_num,M6.out,B6.out⟩
   case measure=>have:=HLT.out;simp [intOf];omega
 obtain rfl:i=n:=by have:=KI.out;omega
 have hdi:decide (i<i)=false:=by simp
 have KO2:Hid (World.ownsRow V w.heap.size 9 1 (.slice oa i oc) i (strs (namesR F l))):=by
  have h1:=KO.out
  rw [zr3 (by rw [HN.out];exact zr4 _)] at h1
  exact h1
 go_wp2_with fail
 go_ret
 exact⟨BV.out,_,rfl,owns_strs KO2.out (by unfold namesR;rw [List.length_map];exact HN.out)⟩
theorem step_append_none {P:Program}{ops:Array Oper}{o:Oper}{a:Act}{w:World}{K:Act→World→Prop}{Q:Exit→Act→World→Prop}{E:Prop}
  (hg:o.guard=none) (s x:Operand) (t:TypeId) (hop:o.op=Op.call { callee:=Callee.builtin Builtin.append,args := #[s,x],argTypes := #[t,t] })
  (base:Nat) (e:TypeId) (i:TypeInfo) (size:Nat) (ht:P.underlying t=some (.slice e)) (hi:P.info? e=some i)
  (v:Value) (n c:Nat) (xs:List Value) (hs:a.eval s=v) (hown:w.ownsRow base e size v n xs) (hx:a.eval x = .slice none 0 c)
  (hK:K (a.put o.dst v) w) :
  if Region.wanted o (yielded ops a.tmps)=true then Oper.wp P o a w K Q else E:=by
 have hw:Region.wanted o (yielded ops a.tmps)=true:=by simp [Region.wanted,hg]
 rw [if_pos hw]
 have hr:=run_append_none' (P:=P) (w:=w) base t o.type e i size ht hi v n c xs hown
 unfold Oper.wp execOp
 simp only [hop,resolve,invoke,builtin,Sem.run_bind,Sem.run_pure,Result.andThen_ok,List.map_toArray,List.map_cons,List.map_nil,hs,hx,hr]
 exact hK
def bindsR (F:List Nd) (i:Nat):List Nat:=(NR F i).flatMap (BR F)
theorem bindsR_take (F:List Nd) (l:List Nat) {j k:Nat}(h:l[j]?=some k):(l.take (j+1)).flatMap (BR F)=(l.take j).flatMap (BR F)++BR F k:=by
 rw [List.take_add_one,h,List.flatMap_append];simp
theorem bindsR_few {F:List Nd}(hf:∀ k,k<F.length→(BR F k).length≤1000000):∀ l:List Nat,(∀ k∈l,k<F.length)→(l.flatMap (BR F)).length≤l.length*1000000
 | [],_=>by simp
 | k :: r,h=>by
  rw [List.flatMap_cons,zr2,List.length_cons]
  have h1:=hf k (h k (zr7 ..))
  have h2:=bindsR_few hf r (fun q hq=>h q (zr8 _ hq))
  omega
theorem owns_nats {w:World}{base n:Nat}{v:Value}{l:List Nat}(h:w.ownsRow base 3 1 v n (nats l)) (hn:n=l.length):SlAt w v l.length (nats l):=by
 obtain⟨a,c,rfl⟩:=own_sliceI h
 subst hn
 refine⟨nats_length _,a,c,rfl,fun h0=>?_⟩
 rcases h.2 with ⟨he,h1⟩|⟨g,cap,cur,hv,_,hg,k1,k2,k3,k4⟩
 ·omega
 simp only [Value.slice.injEq,true_and] at hv
 obtain⟨rfl,rfl⟩:=hv
 refine⟨g,0,rfl,fun i x hi=>?_⟩
 have hl:=(zq8.1 hi).1
 rw [nats_length] at hl
 rw [Nat.zero_add,zb _ _ _ _ _ _ hg,← Array.getElem?_toList,← List.getElem?_take_of_lt (show i<l.length*1 by omega),k4]
 exact hi
theorem nats_one {l:List Nat}{u:Value}(h:u∈nats l):u.oneCell'=true:=by
 unfold nats ints at h
 obtain⟨x,_,rfl⟩:=List.mem_map.1 h
 rfl
theorem bindingsR_any {w:World}{fb at':Nat}{F:List Nd}(h:FlatR w fb F) (ha:at'<F.length) (hF:F.length≤20000) (hk:∀ k∈NR F at',k<F.length) (hn:(NR F at').length≤20000) (hf:∀ k,k<F.length→(BR F k).length≤1000000) :
  Calls Tryz.prog 39 #[.pointer (some ⟨fb,0,none⟩),.int .i64 at'] w fun e w'=>Below w.heap.size w w'∧∃ u,e = .returned u∧SlAt w' u (bindsR F at').length (nats (bindsR F at')):=by
 obtain⟨sv,su,sn,sb,sa,so,us,ns,bs,h0,-,-,h2,h3,-,-,h5,h6⟩:=h
 obtain⟨-,na,nc,rfl,nat1⟩:=h2
 obtain⟨-,ba,bc,rfl,bat1⟩:=h3
 obtain⟨ng,no,rfl,nat⟩:=nat1 (by omega)
 obtain⟨bg,bo,rfl,bat⟩:=bat1 (by omega)
 obtain⟨vn,hvn,-,la,lc,rfl,lat⟩:=h5 at' ha
 have y1:=nat at' _ hvn
 obtain⟨l,hl⟩:∃ l,l=NR F at':=⟨_,rfl⟩
 rw [← hl] at lat y1 hk hn
 obtain⟨n,hnn⟩:∃ n,n=l.length:=⟨_,rfl⟩
 rw [← hnn] at hn lat y1
 obtain⟨m,hmm⟩:∃ m,m=F.length:=⟨_,rfl⟩
 have HF:=zh hf
 have FEW:Hid (∀ l:List Nat,(∀ k∈l,k<F.length)→(l.flatMap (BR F)).length≤l.length*1000000):=bindsR_few hf
 rw [← hmm] at h0 ha hF
 have hmz:(m:Int)≤20000:=by omega
 have haz:(at':Int)<m:=by omega
 have ha0:(0:Int)≤at':=by omega
 have hnz:(n:Int)≤20000:=by omega
 have H0:=zh h0
 have LAT:=zh lat
 have BAT:=zh bat
 have H6:=zh h6
 have HN:=zh hnn
 have HM:=zh hmm
 have HK:=zh hk
 have HL:=zh hl
 have NZ:=zh hn
 have Y1:=zh y1
 obtain⟨i3,p1,p2,p3,p4⟩:=info_parts Tryz.info3u
 have HI3:=zh (And.intro p1 (And.intro p2 (And.intro p3 p4)))
 clear h0 lat hnn hmm hl hn hF nat bat h6 h5 nat1 bat1 hk hf y1 ha hvn p1 p2 p3 p4
 go_enter Tryz.func39,Tryz.ntmps39
 go_wp2_with fail
 go_loopw [5,6] (fun ov iv wr=>∃ i:Nat,i≤n∧iv = .int .i64 i∧World.ownsRow wr w.heap.size 3 1 ov ((l.take i).flatMap (BR F)).length (nats ((l.take i).flatMap (BR F)))∧Below w.heap.size w wr) (fun _ iv _=>n - (intOf iv).toNat)
 case atStart=>exact⟨0,Nat.zero_le _,rfl,World.ownsRow_nil _ _ _ _,zs9 _ _⟩
 rename World=>V
 obtain⟨i,hi,rfl,hown,hbv⟩:=hrel
 have KI:=zh hi
 have KO:=zh hown
 have BV:=zh hbv
 obtain⟨oa,oc,hov⟩:=own_sliceI hown
 subst hov
 obtain⟨out,hout⟩:∃ out,out=(l.take i).flatMap (BR F):=⟨_,rfl⟩
 have HO:=zh hout
 rw [← hout] at KO ⊢
 obtain⟨no',hno⟩:∃ no',no'=out.length:=⟨_,rfl⟩
 have HNO:=zh hno
 rw [← hno] at KO ⊢
 have q2:V.cell? ⟨fb,2,none⟩=some (.slice (some ⟨ng,no,none⟩) m nc):=by rw [zb _ _ 2 _ _ _ (zm BV.out H0.out)];rfl
 have q3:V.cell? ⟨fb,3,none⟩=some (.slice (some ⟨bg,bo,none⟩) m bc):=by rw [zb _ _ 3 _ _ _ (zm BV.out H0.out)];rfl
 have y1:=zd BV.out _ _ Y1.out
 clear hi hown hbv hno hout
 by_cases hlt:i<n
 ·have hlz:(i:Int)<n:=by omega
  have hi0:(0:Int)≤i:=by omega
  have HLT:=zh hlt
  obtain⟨g,o,rfl,hat⟩:=LAT.out (by omega)
  obtain⟨k,hk⟩:∃ k,l[i]?=some k:=⟨_,zq9 (by rw [← HN.out];exact hlt)⟩
  have hkm:k<m:=by rw [HM.out];exact HK.out k (zr1 hk)
  obtain⟨vb,hvb,-,xa,xc,rfl,xat⟩:=H6.out k (by rw [← HM.out];exact hkm)
  have y0:=zd BV.out _ _ (hat i _ (nats_at hk))
  have y2:=zd BV.out _ _ (BAT.out k _ hvb)
  obtain⟨nw,hnw⟩:∃ nw,nw=BR F k:=⟨_,rfl⟩
  rw [← hnw] at y2 xat
  have TK:Hid ((l.take (i+1)).flatMap (BR F)=out++nw):=by show _=_;rw [bindsR_take F l hk,HO.out,hnw]
  have LB:Hid (no'+nw.length≤20000000000):=by
   have h1:=FEW.out (l.take (i+1)) (fun q hq=>HK.out q (List.mem_of_mem_take hq))
   rw [TK.out,zr2,← HNO.out,List.length_take] at h1
   have h2:=NZ.out
   have h3:=HN.out
   show _≤_
   omega
  have hkz:(k:Int)<m:=by omega
  have hk0:(0:Int)≤k:=by omega
  obtain⟨nn,hnn⟩:∃ nn,nn=nw.length:=⟨_,rfl⟩
  rw [← hnn] at y2 xat LB
  have HNN:=zh hnn
  have XAT:=zh xat
  have OX:Hid (World.ownsRow V.drew w.heap.size 3 1 (.slice oa no' oc) no' (nats out)):=owns_keep2 KO.out fun q hq=>((zs9 V.heap.size V).drew).block q (World.ownsRow.lt KO.out q hq).2
  have NB:Hid (no'+nn≤maxLen∧(no'+nn)*8≤140737488355328):=by have:=LB.out;show _∧_;simp only [maxLen];omega
  have BA:Hid (Below w.heap.size w V.drew):=BV.out.drew
  clear hlt hat hk hkm hvb hnw hnn xat
  cases xa with
  | none =>
   have N0:nn=0:=by
    rcases Nat.eq_zero_or_pos nn with h0 | h0
    ·exact h0
    obtain⟨g,o,he,_⟩:=XAT.out (by omega);cases he
   subst N0
   have TK2:Hid ((l.take (i+1)).flatMap (BR F)=out):=by
    show _=_
    rw [TK.out,List.eq_nil_of_length_eq_zero HNN.out.symm,List.append_nil]
   go_upto_region 5 with fail
   go_region_law (refine step_append_none rfl _ _ 40 rfl w.heap.size 3 i3 1 Tryz.underlying40 HI3.out.1 (.slice oa no' oc) no' xc (nats out) rfl OX.out rfl ?_)
   all_goals
    go_wp2_with fail
    go_roundw
    case rel=>exact⟨i+1,HLT.out,by go_num,by rw [TK2.out,← HNO.out];exact OX.out,BA.out⟩
    case measure=>have:=HLT.out;simp [intOf];omega
  | some ad =>
   have NW:Hid (∀ (q:Nat) (u:Value),(nats nw)[q]?=some u→V.drew.cell? (ad.add q)=some u):=fun q u hu=>by
    have hq:=(zq8.1 hu).1
    rw [nats_length] at hq
    obtain⟨g',o',he,hat3⟩:=XAT.out (by have:=HNN.out;omega)
    obtain rfl:=Option.some.inj he
    rw [Addr.add_lit]
    exact zd BA.out _ _ (hat3 q u hu)
   go_upto_region 5 with fail
   go_region_law (refine step_append_own rfl _ _ 40 rfl w.heap.size 3 i3 (.int .i64 0) 1 8 Tryz.underlying40 HI3.out.1 HI3.out.2.1 HI3.out.2.2.1 HI3.out.2.2.2 rfl (by decide) (.slice oa no' oc) no' (nats out) rfl OX.out ad nn xc (nats nw) rfl (by rw [nats_length,HNN.out,Nat.mul_one]) NW.out (fun u hu=>nats_one hu) NB.out.1 NB.out.2 BA.out.size ?_;intro vo w6 hown hg)
   all_goals
    have B6:Hid (Below w.heap.size w w6):=BA.out.grown hg BA.out.size (fun q e=>(OX.out.lt q e).1)
    have M6:Hid (World.ownsRow w6 w.heap.size 3 1 vo ((l.take (i+1)).flatMap (BR F)).length (nats ((l.take (i+1)).flatMap (BR F)))):=by
     show World.ownsRow _ _ _ _ _ _ _
     rw [TK.out,zr2,← HNO.out,← HNN.out,nats_append]
     exact hown
    clear hown hg
    go_wp2_with fail
    go_roundw
    case rel=>exact⟨i+1,HLT.out,by go_num,M6.out,B6.out⟩
    case measure=>have:=HLT.out;simp [intOf];omega
 obtain rfl:i=n:=by have:=KI.out;omega
 have hdi:decide (i<i)=false:=by simp
 have E:Hid (bindsR F at'=out):=by
  show _=_
  rw [HO.out,zr3 (by rw [HN.out];exact zr4 _),HL.out];rfl
 go_wp2_with fail
 go_ret
 exact⟨BV.out,_,rfl,by rw [E.out];exact owns_nats KO.out HNO.out⟩
end Go.Proofs.YtnkahlloahgifaaGreatDoor
namespace Go.Proofs.YtnkahlloahgifaaGreatDoor
open Go.RowKit RG Go.Maps RF
theorem risingR_any {w:World}{v:Value}{F:List Nd}{q:Nm→Bool}(h:SlAt w v (vars F).length (rowB F q)) (hvn:(vars F).length≤1000000) :
  Calls Tryz.prog 57 #[v] w fun e w'=>Below w.heap.size w w'∧∃ u,e = .returned u∧SlAt w' u (posn F q (vars F).length).length (nats (posn F q (vars F).length)):=by
 obtain⟨-,la,lc,rfl,lat⟩:=h
 obtain⟨n,hnn⟩:∃ n,n=(vars F).length:=⟨_,rfl⟩
 rw [← hnn] at hvn lat ⊢
 have LAT:=zh lat
 have HN:=zh hnn
 have hnz:(n:Int)≤1000000:=by omega
 have NZ:=zh hvn
 obtain⟨i3,p1,p2,p3,p4⟩:=info_parts Tryz.info3u
 have HI3:=zh (And.intro p1 (And.intro p2 (And.intro p3 p4)))
 clear lat hnn hvn p1 p2 p3 p4
 go_enter Tryz.func57,Tryz.ntmps57
 go_wp2_with fail
 go_loopw [3,4] (fun ov iv wr=>∃ i:Nat,i≤n∧iv = .int .i64 i∧World.ownsRow wr w.heap.size 3 1 ov (posn F q i).length (nats (posn F q i))∧Below w.heap.size w wr) (fun _ iv _=>n - (intOf iv).toNat)
 case atStart=>exact⟨0,Nat.zero_le _,rfl,World.ownsRow_nil _ _ _ _,zs9 _ _⟩
 rename World=>V
 obtain⟨i,hi,rfl,hown,hbv⟩:=hrel
 have KI:=zh hi
 have KO:=zh hown
 have BV:=zh hbv
 obtain⟨oa,oc,hov⟩:=own_sliceI hown
 subst hov
 obtain⟨out,hout⟩:∃ out,out=posn F q i:=⟨_,rfl⟩
 have HO:=zh hout
 rw [← hout] at KO ⊢
 obtain⟨no',hno⟩:∃ no',no'=out.length:=⟨_,rfl⟩
 have HNO:=zh hno
 rw [← hno] at KO ⊢
 clear hi hown hbv hno hout
 by_cases hlt:i<n
 ·have hlz:(i:Int)<n:=by omega
  have hi0:(0:Int)≤i:=by omega
  have HLT:=zh hlt
  obtain⟨g,o,rfl,hat⟩:=LAT.out (by omega)
  have y0:=zd BV.out _ _ (hat i _ (rowB_at (by have:=HN.out;omega)))
  have PS:=zh (posn_succ F q i)
  obtain⟨b,hb⟩:∃ b,b=q ((vars F).getD i ⟨#[]⟩):=⟨_,rfl⟩
  rw [← hb,← HO.out] at PS
  rw [← hb] at y0
  clear hlt hat hb
  cases b with
  | false =>
   have P2:Hid (posn F q (i+1)=out):=PS.out
   clear PS
   go_wp2_with fail
   go_roundw
   case rel=>exact⟨i+1,HLT.out,by go_num,by rw [P2.out,← HNO.out];exact KO.out,BV.out⟩
   case measure=>have:=HLT.out;simp [intOf];omega
  | true =>
   have P2:Hid (posn F q (i+1)=out++[i]):=PS.out
   have OX:Hid (World.ownsRow (V.alloc (.cells #[.int .i64 i] 3)) w.heap.size 3 1 (.slice oa no' oc) no' (nats out)):=owns_keep2 KO.out fun q hq=>zt2 _ _ _ (World.ownsRow.lt KO.out q hq).2
   have NB:Hid (no'+1≤maxLen∧(no'+1)*8≤140737488355328):=by have h1:=posn_len F q i;rw [← HO.out,← HNO.out] at h1;have:=NZ.out;have:=HLT.out;show _∧_;simp only [maxLen];omega
   have BA:Hid (Below w.heap.size w (V.alloc (.cells #[.int .i64 i] 3))):=BV.out.alloc BV.out.size _
   clear PS
   go_wp2_with (at_builtin;refine wpList_append_own _ rfl _ _ 40 rfl w.heap.size 3 i3 (.int .i64 0) 1 8 Tryz.underlying40 HI3.out.1 HI3.out.2.1 HI3.out.2.2.1 HI3.out.2.2.2 rfl (by decide) (.slice oa no' oc) no' (nats out) rfl OX.out ⟨V.heap.size,0,none⟩ 1 1 [.int .i64 i] rfl rfl (news1 _ _ _) (fun u hu=>by simp at hu;rw [hu];rfl) NB.out.1 NB.out.2 BA.out.size ?_)
   intro vo w6 hown hg _
   have B6:Hid (Below w.heap.size w w6):=BA.out.grown hg BA.out.size (fun q e=>(OX.out.lt q e).1)
   have M6:Hid (World.ownsRow w6 w.heap.size 3 1 vo (posn F q (i+1)).length (nats (posn F q (i+1)))):=by
    show World.ownsRow _ _ _ _ _ _ _
    rw [P2.out,zr2,← HNO.out,nats_append]
    exact hown
   clear hown hg
   go_wp2_with fail
   go_roundw
   case rel=>exact⟨i+1,HLT.out,by go_num,M6.out,B6.out⟩
   case measure=>have:=HLT.out;simp [intOf];omega
 obtain rfl:i=n:=by have:=KI.out;omega
 have hdi:decide (i<i)=false:=by simp
 clear hlt
 go_wp2_with fail
 go_ret
 exact⟨BV.out,_,rfl,by rw [← HO.out];exact owns_nats KO.out HNO.out⟩
theorem hasN_any {w:World}{v:Value}{l:List Nat}(x:Nat) (h:SlAt w v l.length (nats l)) (hl:l.length≤1000000000000):Calls Tryz.prog 62 #[v,.int .i64 (x:Nat)] w fun en w'=>Below w.heap.size w w'∧en = .returned (.bool (decide (x∈l))):=by
 obtain⟨-,aa,ac,rfl,hat⟩:=h
 have HAT:=zh hat
 obtain⟨n,hn⟩:∃ n,n=l.length:=⟨_,rfl⟩
 rw [← hn] at hl ⊢
 have HN:=zh hn
 have hnz:(n:Int)≤1000000000000:=by omega
 clear hat hn hl
 go_enter Tryz.func62,Tryz.ntmps62
 go_wp2_with fail
 go_loopw [5] (fun iv wr=>∃ k:Nat,k≤n∧iv = .int .i64 k∧Below w.heap.size w wr∧x∉l.take k) (fun iv _=>n - (intOf iv).toNat)
 case atStart=>exact⟨0,Nat.zero_le _,rfl,zs9 _ _,by simp⟩
 obtain⟨k,hk,rfl,hb,hq⟩:=hrel
 have HK:=zh hk
 have HB:=zh hb
 have HQ:=zh hq
 clear hk hb hq
 by_cases hlt:k<n
 ·obtain⟨g,o,rfl,hat⟩:=HAT.out (by have:=HN.out;omega)
  obtain⟨y,hy⟩:∃ y,l[k]?=some y:=⟨_,zq9 (by have:=HN.out;omega)⟩
  have y0:=zd HB.out _ _ (hat k _ (nats_at hy))
  have HY:=zh hy
  have HLT:=zh hlt
  have hlz:(k:Int)<n:=by omega
  have hk0:(0:Int)≤k:=by omega
  clear hat hy
  by_cases hxy:y=x
  ·have d1:((y:Int)==(x:Int))=true:=by simp [hxy]
   have E2:Hid (decide (x∈l)=true):=by show _=_;rw [decide_eq_true_eq,← hxy];exact zr1 HY.out
   clear hxy hlt
   go_wp2_with fail
   go_ret
   exact⟨HB.out,by rw [E2.out];rfl⟩
  have d1:((y:Int)==(x:Int))=false:=by simp;omega
  have d2:(y==x)=false:=by simp [hxy]
  have E2:Hid (x∉l.take (k+1)):=by
   show ¬ _
   rw [List.take_add_one,HY.out]
   intro hm
   rcases List.mem_append.1 hm with hm | hm
   ·exact HQ.out hm
   simp at hm;exact hxy hm.symm
  clear hxy hlt
  go_wp2_with fail
  go_roundw
  case rel=>exact⟨k+1,HLT.out,by go_num,HB.out,E2.out⟩
  case measure=>have:=HLT.out;simp [intOf];omega
 have hlz:(n:Int)≤k:=by omega
 have E2:Hid (decide (x∈l)=false):=by
  show _=_
  rw [decide_eq_false_iff_not]
  have h1:=HQ.out
  rw [zr3 (by have:=HN.out;omega)] at h1
  exact h1
 clear hlt
 go_wp2_with fail
 go_ret
 exact⟨HB.out,by rw [E2.out];rfl⟩
end Go.Proofs.YtnkahlloahgifaaGreatDoor
namespace Go.Proofs.YtnkahlloahgifaaGreatDoor
open Go.RowKit RG Go.Maps RF
theorem RowT.congr {w:World}{b n:Nat}{A A':Nat→Bool}(h:RowT w b n A) (hA:∀ q,q<n→A q=A' q):RowT w b n A':=World.rowIs.congr h fun i hi=>by rw [hA i hi]
theorem RowT.slat {w:World}{b n:Nat}{F:List Nd}{q:Nm→Bool}(h:RowT w b n fun p=>q ((vars F).getD p ⟨#[]⟩)) (hn:n=(vars F).length):SlAt w (.slice (some ⟨b,0,none⟩) n n) (vars F).length (rowB F q):=by
 refine⟨by unfold rowB;rw [List.length_map],some ⟨b,0,none⟩,n,by rw [hn],fun _=>⟨b,0,rfl,fun i u hu=>?_⟩⟩
 have hi:i<(vars F).length:=by have:=(zq8.1 hu).1;unfold rowB at this;rw [List.length_map] at this;exact this
 rw [rowB_at hi,zt3] at hu
 rw [Nat.zero_add,← hu]
 exact World.rowIs.cell h (by omega)
theorem Tryz.info112u:(Tryz.prog.info? 112).map (fun i=>(i.zero,i.size,i.bytes))=some (some (.slice none 0 0),1,24):=by kernel_rfl
theorem Tryz.info4u:(Tryz.prog.info? 4).map (fun i=>(i.zero,i.size,i.bytes))=some (some (.bool false),1,1):=by kernel_rfl
theorem wpStill_val {P:Program}{ops:Array Oper}{w:World}{Q:Act→Prop}{a:Act}{o:Oper}{rest:List Oper}(v:Value) (hg:o.guard=none) (hrun:(execOp a.eval o).run P w = .ok (.value v) w) (h:wpStill P ops w Q rest (a.put o.dst v)):wpStill P ops w Q (o :: rest) a:=by
 refine wpStill_step (fun K hK=>?_)
 rw [if_pos (by simp [Region.wanted,hg])]
 unfold Oper.still
 rw [hrun,Oper.stillUpon_value]
 exact hK _ h
theorem wpStill_pass {P:Program}{ops:Array Oper}{w:World}{Q:Act→Prop}{a:Act}{o:Oper}{rest:List Oper}{j:Nat}{b b':Bool}(d:Nat) (hg:o.guard=some (j,b)) (hb:b'≠b) (hj:(ops[j]?).bind (·.dst)=some d) (ht:a.tmps[d]?=some (.bool b')) (h:wpStill P ops w Q rest (a.put o.dst undef)):wpStill P ops w Q (o :: rest) a:=by
 refine wpStill_step (fun K hK=>?_)
 rw [if_neg (by simp [Region.wanted,hg,yielded,hj,ht,hb])]
 exact hK _ h
theorem wpStill_pick {P:Program}{ops:Array Oper}{w:World}{Q:Act→Prop}{a:Act}{o:Oper}{rest:List Oper}{c x y:Operand}{b:Bool}(v:Value) (hg:o.guard=none) (hop:o.op = .pick c x y) (hb:b=true) (hc:a.eval c = .bool b) (hx:a.eval x=v) (h:wpStill P ops w Q rest (a.put o.dst v)):wpStill P ops w Q (o :: rest) a:=by
 subst hb
 refine wpStill_val v hg ?_ h
 unfold execOp
 simp only [hop,hc,hx,Sem.run_pure,Sem.run_bind]
 rfl
theorem RowT.no_int {w:World}{b n o:Nat}{A:Nat→Bool}{k:IntKind}{z:Int}(h:RowT w b n A) (hc:w.cell? ⟨b,o,none⟩=some (.int k z)):False:=by
 by_cases ho:o<n
 ·have:=World.rowIs.cell h ho
  rw [hc] at this
  cases this
 obtain⟨c,hb,hn,-⟩:=h
 simp only [World.cell?,hb] at hc
 have:c[o]?=none:=Array.getElem?_eq_none (by omega)
 rw [this] at hc
 cases hc
theorem bindsR_map (F:List Nd) (i:Nat):bindsR F i=(bindsAt F i).map (place F):=by
 unfold bindsR bindsAt NR BR
 rw [List.map_flatMap]
structure LvI (w:World) (F:List Nd) (nv n:Nat) (j:Nat) (wr:World):Prop where
 below:Below w.heap.size w wr
 size:w.heap.size<wr.heap.size
 row:∃ f,wr.rowIs w.heap.size 112 n f∧∀ i,j≤i→i<n→∃ b,f i = .slice (some ⟨b,0,none⟩) nv nv∧w.heap.size<b∧RowT wr b nv fun p=>lv F i ((vars F).getD p ⟨#[]⟩)
theorem lives_any {w:World}{fb:Nat}{F:List Nd}(h:FlatR w fb F) (hFo:Fo F) (hF:F.length≤300) (hV:(vars F).length≤300) (hf:∀ k,k<F.length→(BR F k).length≤1000000) (hnx:∀ k,k<F.length→(NR F k).length≤20000) :
  Calls Tryz.prog 25 #[.pointer (some ⟨fb,0,none⟩)] w fun e w'=>Below w.heap.size w w'∧∃ v,e = .returned v∧LivesR w' v F:=by
 have FR:=zh h
 have FO:=zh hFo
 have HF:=zh hF
 have HV:=zh hV
 have HBF:=zh hf
 have HNL:=zh hnx
 obtain⟨sv,su,sn,sb,sa,so,us,ns,bs,k0,k1,k2,k3,-,k5,k6,k7,-⟩:=h.at'
 obtain⟨sva,svc,rfl,-⟩:=StrsAt.cells k1
 obtain⟨-,ug0,uc',rfl,uat0⟩:=k2
 obtain⟨ug,uo,rfl,uat⟩:=uat0 hFo.pos
 obtain⟨-,ng0,nc',rfl,nat0⟩:=k3
 obtain⟨ng,no,rfl,nat⟩:=nat0 hFo.pos
 obtain⟨-,ag0,ac',rfl,aat0⟩:=k5
 obtain⟨ag,ao,rfl,aat⟩:=aat0 hFo.pos
 have AAT:Hid (∀ m,m<F.length→w.cell? ⟨ag,ao+m,none⟩=some (.int .i64 (m:Nat))):=fun m hm=>aat m _ (nats_at (by rw [List.getElem?_range hm]))
 have UAT:=zh uat
 have NAT:=zh nat
 have K6:=zh k6
 have K7:=zh k7
 obtain⟨n,hn⟩:∃ n,n=F.length:=⟨_,rfl⟩
 obtain⟨nv,hnv⟩:∃ n,n=(vars F).length:=⟨_,rfl⟩
 rw [← hn,← hnv] at k0
 rw [← hn] at AAT K6 K7
 have HN:=zh hn
 have HNV:=zh hnv
 have K0:=zh k0
 have nz:(n:Int)≤300:=by omega
 have nvz:(nv:Int)≤300:=by omega
 have npos:0<n:=by have:=hFo.pos;omega
 have z0:∀ W,Below w.heap.size w W→W.heap[fb]?=some (.cells #[.slice sva nv svc,.slice (some ⟨ug,uo,none⟩) n uc',.slice (some ⟨ng,no,none⟩) n nc',sb,.slice (some ⟨ag,ao,none⟩) n ac',so,.bool true] 42 (0,0)):=fun W hW=>zm hW k0
 have Z0:=zh z0
 have q1:w.cell? ⟨fb,1,none⟩=some (.slice (some ⟨ug,uo,none⟩) n uc'):=by rw [zb _ _ 1 _ _ _ k0];rfl
 obtain⟨i0,hi0,hz0,hz1,hz2⟩:=info_parts Tryz.info112u
 have hms:=run_make (P:=Tryz.prog) w 51 112 i0 (.slice none 0 0) Tryz.underlying51 hi0 hz0 .i64 .i64 (n:Int) (n:Int) (by omega) (Int.le_refl _) (by rw [hz2];omega) (by omega)
 rw [hz1,Int.toNat_natCast,Nat.mul_one] at hms
 change _=Result.ok _ (w.alloc (.cells (madeCells #[.slice none 0 0] n) 112)) at hms
 obtain⟨i4,h40,h41,h42,h43⟩:=info_parts Tryz.info4u
 have hmt:∀ W:World,(Instr.makeSlice 112 (.int .i64 (nv:Int)) (.int .i64 (nv:Int))).run Tryz.prog W = .ok (.slice (some ⟨W.heap.size,0,none⟩) nv nv) (W.alloc (.cells (madeCells #[.bool false] nv) 4)):=fun W=>by
  have:=run_make (P:=Tryz.prog) W 112 4 i4 (.bool false) Tryz.underlying112 h40 h41 .i64 .i64 (nv:Int) (nv:Int) (by omega) (Int.le_refl _) (by rw [h43];omega) (by omega)
  rw [h42,Int.toNat_natCast,Nat.mul_one] at this
  exact this
 have HMT:=zh hmt
 have R0:=World.rowIs_made w (.slice none 0 0) n 112
 have B0:Below w.heap.size w (w.alloc (.cells (madeCells #[.slice none 0 0] n) 112)):=(zs9 _ _).alloc (zr4 _) _
 obtain⟨MC,hMC⟩:∃ m,m=madeCells #[Value.slice none 0 0] n:=⟨_,rfl⟩
 rw [← hMC] at hms R0 B0
 have I0:Hid (LvI w F nv n n (w.alloc (.cells MC 112))):=⟨B0,by simp,_,R0,fun i h1 h2=>absurd h1 (by omega)⟩
 have q1':=zd B0 _ _ q1
 clear h hFo hF hV hf hnx k0 k1 k6 k7 uat0 nat0 aat0 uat nat aat z0 hn hnv hi0 hz0 hz1 hz2 hMC hmt h40 h41 h42 h43 R0
 go_enter Tryz.func25,Tryz.ntmps25
 go_wp2_with fail
 clear q1 q1' hms B0
 go_loopw [4] (fun iv wr=>∃ (j:Nat) (z:Int),j≤n∧z=(j:Int) - 1∧iv = .int .i64 z∧LvI w F nv n j wr) (fun iv _=>(intOf iv+1).toNat)
 case atStart=>exact⟨n,_,zr4 _,rfl,rfl,I0.out⟩
 rename World=>wo
 obtain⟨j,z,hj,hz,rfl,hI⟩:=hrel
 have KJ:=zh hj
 have KI:=zh hI
 clear hj hI I0
 have BO:=zh KI.out.below
 cases j with
 | zero =>
  obtain rfl:z = -1:=by omega
  clear hz
  go_wp2_with fail
  go_ret
  obtain⟨f,hf,hrow⟩:=KI.out.row
  refine⟨KI.out.below,_,rfl,w.heap.size,n,f,by rw [HN.out];rfl,fun i hi=>hf.cell (by have:=HN.out;omega),fun i hi=>?_⟩
  obtain⟨b,hb,-,hr⟩:=hrow i (Nat.zero_le _) (by have:=HN.out;omega)
  rw [hb]
  have h1:=hr.slat HNV.out
  exact h1
 | succ i =>
  obtain rfl:z=(i:Int):=by omega
  clear hz
  have hin:i<n:=by have:=KJ.out;omega
  have HIN:=zh hin
  have IF:Hid (i<F.length):=by have:=HN.out;show _<_;omega
  have hiz:(i:Int)<n:=by omega
  have hi0:(0:Int)≤i:=by omega
  obtain⟨f,hf,hrow⟩:=KI.out.row
  have hmt:=HMT.out wo
  have zo:=Z0.out wo BO.out
  have c0:wo.cell? ⟨fb,0,none⟩=some (.slice sva nv svc):=by rw [zb _ _ 0 _ _ _ zo];rfl
  have hfa:=hf.alloc (.cells (madeCells #[.bool false] nv) 4)
  have s0:=hfa.cell hin
  have s1:=hfa.frozen i
  obtain⟨fi,hfi⟩:∃ v,v=f i:=⟨_,rfl⟩
  rw [← hfi] at s0
  have T4:RowT (wo.alloc (.cells (madeCells #[.bool false] nv) 4)) wo.heap.size nv fun _=>false:=World.rowIs_made wo (.bool false) nv 4
  have T4':=zh T4
  have HFA:=zh hfa
  have HR:=zh hrow
  have SZO:=zh KI.out.size
  obtain⟨MB,hMB⟩:∃ m,m=madeCells #[Value.bool false] nv:=⟨_,rfl⟩
  rw [← hMB] at hmt s0 s1 T4' HFA
  clear hf hrow hfa zo hfi T4 hMB hin
  go_upto_region 6 with fail
  obtain⟨w5,hw5⟩:∃ W,W=(wo.alloc (.cells MB 4)).setCell ⟨w.heap.size,i,none⟩ (.slice (some ⟨wo.heap.size,0,none⟩) nv nv):=⟨_,rfl⟩
  rw [← hw5]
  have R5:Hid (w5.rowIs w.heap.size 112 n fun q=>if q=i then .slice (some ⟨wo.heap.size,0,none⟩) nv nv else f q):=by show World.rowIs _ _ _ _ _;rw [hw5];exact HFA.out.set i _
  have T5:Hid (RowT w5 wo.heap.size nv fun _=>false):=by show RowT _ _ _ _;rw [hw5];exact World.rowIs.setOther T4'.out (by have:=SZO.out;show wo.heap.size≠w.heap.size;omega) _
  have B5:Hid (Below w.heap.size w w5):=by show Below _ _ _;rw [hw5];exact(BO.out.alloc BO.out.size _).setCell (zr4 _) _
  have S5:Hid (w5.heap.size=wo.heap.size+1):=by show _=_;rw [hw5];simp
  have D5:Hid (∀ q,i+1≤q→q<n→∃ b,f q = .slice (some ⟨b,0,none⟩) nv nv∧w.heap.size<b∧b<wo.heap.size∧RowT w5 b nv fun p=>lv F q ((vars F).getD p ⟨#[]⟩)):=fun q h1 h2=>by
   obtain⟨b,e1,e2,e3⟩:=HR.out q h1 h2
   have hlt:=World.rowIs.lt e3
   refine⟨b,e1,e2,hlt,?_⟩
   rw [hw5]
   exact World.rowIs.setOther (World.rowIs.alloc e3 _) (by show b≠w.heap.size;omega) _
  obtain⟨b,hbb⟩:∃ b,b=wo.heap.size:=⟨_,rfl⟩
  rw [← hbb] at R5 T5 S5 D5 SZO
  have GB:Hid (w.heap.size<b):=SZO.out
  obtain⟨vn,hvn,hvn2⟩:=K7.out i (by have:=HIN.out;exact this)
  have NN:=zh (NAT.out i vn hvn)
  obtain⟨-,va,vc,rfl,vat⟩:=hvn2
  have VAT:=zh vat
  obtain⟨nx,hnx⟩:∃ l,l=NR F i:=⟨_,rfl⟩
  rw [← hnx] at VAT NN
  obtain⟨nn,hnn⟩:∃ n,n=nx.length:=⟨_,rfl⟩
  rw [← hnn] at VAT NN
  have HNX:=zh hnx
  have HNN:=zh hnn
  have NXI:Hid (∀ m∈nx,i<m∧m<n):=fun m hm=>by
   rw [HNX.out] at hm
   have:=FO.out.nxt i IF.out m hm
   rw [HN.out];exact this
  have nnz:(nn:Int)≤20000:=by have h1:=HNL.out i IF.out;rw [← HNX.out,← HNN.out] at h1;omega
  clear hw5 hbb hvn vat hnx hnn s0 s1 hmt c0 KI HR HFA T4'
  go_wp2_with fail
  go_loopw [5] (fun iv wr=>∃ k:Nat,k≤nn∧iv = .int .i64 k∧Below b w5 wr∧b<wr.heap.size∧RowT wr b nv fun p=>(nx.take k).any fun m=>lv F m ((vars F).getD p ⟨#[]⟩)) (fun iv _=>nn - (intOf iv).toNat)
  case atStart=>exact⟨0,Nat.zero_le _,rfl,zs9 _ _,by rw [S5.out];exact Nat.lt_succ_self _,T5.out.congr fun q hq=>by simp⟩
  rename World=>wk
  obtain⟨k,hk,rfl,hb,hbs,hrt⟩:=hrel
  have KK:=zh hk
  have KB:=zh hb
  have KS:=zh hbs
  have KRT:=zh hrt
  have BK:Hid (Below w.heap.size w wk):=B5.out.trans (hb.mono (by have:=GB.out;omega))
  have zk:=Z0.out wk BK.out
  have c2:wk.cell? ⟨fb,2,none⟩=some (.slice (some ⟨ng,no,none⟩) n nc'):=by rw [zb _ _ 2 _ _ _ zk];rfl
  have c0:wk.cell? ⟨fb,0,none⟩=some (.slice sva nv svc):=by rw [zb _ _ 0 _ _ _ zk];rfl
  have n1:=zd BK.out _ _ NN.out
  clear hk hb hbs hrt zk
  by_cases hlt:k<nn
  ·have hkz:(k:Int)<nn:=by omega
   have hk0:(0:Int)≤k:=by omega
   have KLT:=zh hlt
   obtain⟨vg,vo,rfl,vat⟩:=VAT.out (by have:=HNN.out;omega)
   obtain⟨m,hm⟩:∃ m,nx[k]?=some m:=⟨_,zq9 (by have:=HNN.out;omega)⟩
   have HM:=zh hm
   have MI:=zh (NXI.out m (zr1 hm))
   have hmz:(m:Int)<n:=by have:=MI.out.2;omega
   have hm0:(0:Int)≤m:=by omega
   have a1:=zd BK.out _ _ (vat k _ (nats_at hm))
   obtain⟨bm,fm,gm,lm,TM⟩:=D5.out m MI.out.1 MI.out.2
   have FM:=zh fm
   have LM:=zh (And.intro gm lm)
   have HTM:=zh TM
   clear hlt hm vat fm gm lm TM
   go_wp2_with fail
   clear c2 n1 a1
   go_loopw [7] (fun iv wr=>∃ q:Nat,q≤nv∧iv = .int .i64 q∧Below b w5 wr∧b<wr.heap.size∧RowT wr b nv fun p=>if p<q then ((nx.take (k+1)).any fun m=>lv F m ((vars F).getD p ⟨#[]⟩)) else ((nx.take k).any fun m=>lv F m ((vars F).getD p ⟨#[]⟩))) (fun iv _=>nv - (intOf iv).toNat)
   case atStart=>exact⟨0,Nat.zero_le _,rfl,KB.out,KS.out,KRT.out.congr fun q hq=>by simp⟩
   rename World=>wq
   obtain⟨q,hq,rfl,hb,hbs,hrt⟩:=hrel
   have QK:=zh hq
   have QB:=zh hb
   have QS:=zh hbs
   have QRT:=zh hrt
   have BQ:Hid (Below w.heap.size w wq):=B5.out.trans (hb.mono (by have:=GB.out;omega))
   have zk:=Z0.out wq BQ.out
   have c0:wq.cell? ⟨fb,0,none⟩=some (.slice sva nv svc):=by rw [zb _ _ 0 _ _ _ zk];rfl
   have c4:wq.cell? ⟨fb,4,none⟩=some (.slice (some ⟨ag,ao,none⟩) n ac'):=by rw [zb _ _ 4 _ _ _ zk];rfl
   have a2:=zd BQ.out _ _ (AAT.out m (by have:=MI.out.2;omega))
   clear hq hb hbs hrt zk
   by_cases hlt:q<nv
   ·have hqz:(q:Int)<nv:=by omega
    have hq0:(0:Int)≤q:=by omega
    have QLT:=zh hlt
    have e0:wq.cell? ⟨w.heap.size,i,none⟩=some (.slice (some ⟨b,0,none⟩) nv nv):=by
     rw [QB.out.cell (p:=⟨w.heap.size,i,none⟩) GB.out,R5.out.cell HIN.out,if_pos rfl]
    have e2:wq.cell? ⟨w.heap.size,m,none⟩=some (.slice (some ⟨bm,0,none⟩) nv nv):=by
     rw [QB.out.cell (p:=⟨w.heap.size,m,none⟩) GB.out,R5.out.cell MI.out.2,if_neg (by have:=MI.out.1;omega),FM.out]
    have e1:=World.rowIs.cell QRT.out hlt
    simp only [Nat.lt_irrefl,if_false] at e1
    have ef:=World.rowIs.frozen QRT.out q
    have e3:wq.cell? ⟨bm,q,none⟩=some (.bool (lv F m ((vars F).getD q ⟨#[]⟩))):=by
     rw [QB.out.cell (p:=⟨bm,q,none⟩) LM.out.2,World.rowIs.cell HTM.out hlt]
    have TK:Hid (((nx.take (k+1)).any fun m=>lv F m ((vars F).getD q ⟨#[]⟩))=(((nx.take k).any fun m=>lv F m ((vars F).getD q ⟨#[]⟩))||lv F m ((vars F).getD q ⟨#[]⟩))):=by
     show _=_
     rw [List.take_add_one,HM.out,List.any_append]
     simp
    obtain⟨A1,hA1⟩:∃ x,x=(nx.take k).any fun m=>lv F m ((vars F).getD q ⟨#[]⟩):=⟨_,rfl⟩
    obtain⟨A2,hA2⟩:∃ x,x=lv F m ((vars F).getD q ⟨#[]⟩):=⟨_,rfl⟩
    rw [← hA1] at e1 TK
    rw [← hA2] at e3 TK
    clear hlt hA1 hA2
    have NEXT:Hid (∀ v:Bool,v=(A1||A2)→RowT (wq.setCell ⟨b,q,none⟩ (.bool v)) b nv fun p=>if p<q+1 then ((nx.take (k+1)).any fun m=>lv F m ((vars F).getD p ⟨#[]⟩)) else ((nx.take k).any fun m=>lv F m ((vars F).getD p ⟨#[]⟩))):=fun v hv=>by
     refine QRT.out.set q v fun p hp=>?_
     by_cases e:p=q
     ·subst e
      rw [if_pos rfl,if_pos (Nat.lt_succ_self _),TK.out,hv]
     rw [if_neg e]
     by_cases h1:p<q
     ·rw [if_pos h1,if_pos (by omega)]
     rw [if_neg h1,if_neg (by omega)]
    by_cases hA:A1=true
    ·have HA:=zh hA
     clear hA
     go_upto_region 13 with fail
     refine wp_region_still_tail 28 (by kernel_rfl) (by kernel_rfl) ?_
     simp only [List.take_succ_cons,List.take_zero,List.drop_succ_cons,List.drop_zero,World.drew_eq]
     iterate 12 still_step
     refine wpStill_val (.bool A1) (by with_reducible rfl) (by go_simp) ?_
     simp only [Act.put,zq4,zq5,zq6]
     iterate 13 (refine wpStill_pass 79 (b':=A1) (b:=false) (j:=12) (by with_reducible rfl) (by rw [HA.out];decide) (by simp only [List.getElem?_toArray,List.getElem?_cons_succ,List.getElem?_cons_zero,Option.bind_some]) (by simp only [List.getElem?_toArray,List.getElem?_cons_succ,List.getElem?_cons_zero]) ?_;simp only [Act.put,zq4,zq5,zq6])
     refine wpStill_pick (b:=A1) (.bool true) (by with_reducible rfl) (by with_reducible rfl) HA.out (by go_simp) (by go_simp) ?_
     simp only [Act.put,zq4,zq5,zq6]
     refine wpStill_val (.pointer (some ⟨b,q,none⟩)) (by with_reducible rfl) (by go_simp) ?_
     simp only [Act.put,zq4,zq5,zq6]
     refine wpStill_nil ?_
     go_wp2_with fail
     go_roundw
     case rel=>exact⟨q+1,QLT.out,by go_num,(QB.out.setCell (zr4 _) _).trans (zj _ _ 1),by have:=QS.out;simpa using this,(NEXT.out _ (by rw [HA.out];rfl)).keep rfl⟩
     case measure=>have:=QLT.out;simp [intOf];omega
    obtain rfl:A1=false:=by simpa using hA
    clear hA
    cases A2
    ·go_upto_region 13 with fail
     refine wp_region_still_tail 28 (by kernel_rfl) (by kernel_rfl) ?_
     simp only [List.take_succ_cons,List.take_zero,List.drop_succ_cons,List.drop_zero,World.drew_eq]
     iterate 28 still_step
     refine wpStill_nil ?_
     go_wp2_with fail
     go_roundw
     case rel=>exact⟨q+1,QLT.out,by go_num,(QB.out.setCell (zr4 _) _).trans (zj _ _ 1),by have:=QS.out;simpa using this,(NEXT.out _ (by rfl)).keep rfl⟩
     case measure=>have:=QLT.out;simp [intOf];omega
    go_upto_region 13 with fail
    refine wp_region_still_tail 28 (by kernel_rfl) (by kernel_rfl) ?_
    simp only [List.take_succ_cons,List.take_zero,List.drop_succ_cons,List.drop_zero,World.drew_eq]
    iterate 28 still_step
    refine wpStill_nil ?_
    go_wp2_with fail
    go_roundw
    case rel=>exact⟨q+1,QLT.out,by go_num,(QB.out.setCell (zr4 _) _).trans (zj _ _ 1),by have:=QS.out;simpa using this,(NEXT.out _ (by rfl)).keep rfl⟩
    case measure=>have:=QLT.out;simp [intOf];omega
   have hqz:(nv:Int)≤q:=by omega
   have hdq:decide (q<nv)=false:=by simp;omega
   have QD:Hid (RowT wq b nv fun p=>(nx.take (k+1)).any fun m=>lv F m ((vars F).getD p ⟨#[]⟩)):=QRT.out.congr fun p hp=>by rw [if_pos (by omega)]
   clear hlt
   go_wp2_with fail
   go_roundw
   case rel=>exact⟨k+1,KLT.out,by go_num,QB.out,QS.out,QD.out⟩
   case measure=>have:=KLT.out;simp [intOf];omega
  have hkz:(nn:Int)≤k:=by omega
  have hdk:decide (k<nn)=false:=by simp;omega
  have KD:Hid (RowT wk b nv fun p=>nx.any fun m=>lv F m ((vars F).getD p ⟨#[]⟩)):=KRT.out.congr fun p hp=>by rw [zr3 (by have:=HNN.out;omega)]
  have BN:=zh (bindingsR_any (FR.out.keep BK.out) IF.out (by have:=HF.out;omega) (fun k hk=>(FO.out.nxt i IF.out k hk).2) (HNL.out i IF.out) HBF.out)
  clear hlt
  go_wp2_with fail
  refine BN.out.mono ?_
  rintro en w9 ⟨hb9,u9,rfl,hu9⟩
  obtain⟨-,xa,xc,rfl,xat⟩:=hu9
  obtain⟨bs',hbs9⟩:∃ l,l=bindsR F i:=⟨_,rfl⟩
  rw [← hbs9] at xat ⊢
  obtain⟨nbs,hnbs⟩:∃ n,n=bs'.length:=⟨_,rfl⟩
  rw [← hnbs] at xat ⊢
  have XAT:=zh xat
  have HBS:=zh hbs9
  have HNBS:=zh hnbs
  have BSV:Hid (∀ q∈bs',q<nv):=fun q hq=>by
   rw [HBS.out,bindsR_map] at hq
   obtain⟨x,hx,rfl⟩:=List.mem_map.1 hq
   obtain⟨k,hk,hx⟩:=List.mem_flatMap.1 hx
   rw [HNV.out]
   exact place_lt (binds_vars (FO.out.nxt i IF.out k hk).2 hx)
  have nbz:(nbs:Int)≤20000000000:=by
   have h1:=bindsR_few HBF.out (NR F i) (fun k hk=>(FO.out.nxt i IF.out k hk).2)
   have h2:=HNL.out i IF.out
   have h3:bs'.length=((NR F i).flatMap (BR F)).length:=by rw [HBS.out];rfl
   have:=HNBS.out
   omega
  have B9:Hid (Below b w5 w9):=KB.out.trans (hb9.mono (Nat.le_of_lt KS.out))
  have S9:Hid (b<w9.heap.size):=zt5 KS.out hb9.size
  have R9:Hid (RowT w9 b nv fun p=>nx.any fun m=>lv F m ((vars F).getD p ⟨#[]⟩)):=KD.out.keep (hb9.block _ KS.out)
  obtain⟨NQ,hNQ⟩:∃ A:Nat→Bool,A=fun p=>nx.any fun m=>lv F m ((vars F).getD p ⟨#[]⟩):=⟨_,rfl⟩
  rw [← hNQ] at R9
  have HNQ:=zh hNQ
  clear hb9 xat hbs9 hnbs hNQ KD KB KS KRT KK BN BK c0 c2 n1
  go_wp2_with fail
  go_loopw [9] (fun iv wr=>∃ q:Nat,q≤nbs∧iv = .int .i64 q∧Below b w5 wr∧b<wr.heap.size∧OnlyB b w9 wr∧RowT wr b nv fun p=>NQ p && !decide (p∈bs'.take q)) (fun iv _=>nbs - (intOf iv).toNat)
  case atStart=>exact⟨0,Nat.zero_le _,rfl,B9.out,S9.out,OnlyB.refl _ _,R9.out.congr fun p hp=>by simp⟩
  rename World=>wq
  obtain⟨q,hq,rfl,hb,hbs,ho,hrt⟩:=hrel
  have QK:=zh hq
  have QB:=zh hb
  have QS:=zh hbs
  have QO:=zh ho
  have QRT:=zh hrt
  clear hq hb hbs ho hrt
  by_cases hlt:q<nbs
  ·have hqz:(q:Int)<nbs:=by omega
   have hq0:(0:Int)≤q:=by omega
   have QLT:=zh hlt
   obtain⟨g,o,rfl,xat⟩:=XAT.out (by omega)
   obtain⟨p,hp⟩:∃ p,bs'[q]?=some p:=⟨_,zq9 (by have:=HNBS.out;omega)⟩
   have x9:=xat q _ (nats_at hp)
   have hgb:g≠b:=fun e=>R9.out.no_int (e ▸ x9)
   have x1:=QO.out.cell hgb x9
   have hpv:p<nv:=BSV.out p (zr1 hp)
   have hpz:(p:Int)<nv:=by omega
   have hp0:(0:Int)≤p:=by omega
   have e0:wq.cell? ⟨w.heap.size,i,none⟩=some (.slice (some ⟨b,0,none⟩) nv nv):=by
    rw [QB.out.cell (p:=⟨w.heap.size,i,none⟩) GB.out,R5.out.cell HIN.out,if_pos rfl]
   have e1:=World.rowIs.cell QRT.out hpv
   have ef:=World.rowIs.frozen QRT.out p
   have NEXT:Hid (RowT (wq.setCell ⟨b,p,none⟩ (.bool false)) b nv fun r=>NQ r && !decide (r∈bs'.take (q+1))):=QRT.out.set p false fun r hr=>by
    rw [List.take_add_one,hp]
    by_cases e:r=p
    ·subst e;simp
    rw [if_neg e];simp [e]
   obtain⟨A1,hA1⟩:∃ x,x=(NQ p && !decide (p∈bs'.take q)):=⟨_,rfl⟩
   (try simp only [] at e1)
   rw [← hA1] at e1
   clear hlt xat hp x9 hpv hA1 hgb
   go_upto_region 18 with fail
   refine wp_region_still_tail 9 (by kernel_rfl) (by kernel_rfl) ?_
   simp only [List.take_succ_cons,List.take_zero,List.drop_succ_cons,List.drop_zero,World.drew_eq]
   iterate 9 still_step
   refine wpStill_nil ?_
   go_wp2_with fail
   go_roundw
   case rel=>exact⟨q+1,QLT.out,by go_num,(QB.out.setCell (zr4 _) _).trans (zj _ _ 1),by have:=QS.out;simpa using this,(QO.out.setCell _).drewN,NEXT.out.keep rfl⟩
   case measure=>have:=QLT.out;simp [intOf];omega
  have hqz:(nbs:Int)≤q:=by omega
  have hdq:decide (q<nbs)=false:=by simp;omega
  have Q2:Hid (RowT wq b nv fun p=>NQ p && !decide (p∈bs')):=QRT.out.congr fun p hp=>by rw [zr3 (by have:=HNBS.out;omega)]
  obtain⟨vu,hvu,hvu2⟩:=K6.out i HIN.out
  have UU:=zh (UAT.out i vu hvu)
  obtain⟨-,ua,uc,rfl,uvat⟩:=hvu2
  have UV:=zh uvat
  obtain⟨us',hus⟩:∃ l,l=UR F i:=⟨_,rfl⟩
  rw [← hus] at UU UV
  obtain⟨nus,hnus⟩:∃ n,n=us'.length:=⟨_,rfl⟩
  rw [← hnus] at UU UV
  have HUS:=zh hus
  have HNUS:=zh hnus
  have USV:Hid (∀ q∈us',q<nv):=fun q hq=>by
   rw [HUS.out] at hq
   obtain⟨x,hx,rfl⟩:=List.mem_map.1 hq
   rw [HNV.out]
   exact place_lt (FO.out.bound i IF.out x (mem_usesAt.1 hx))
  have nuz:(nus:Int)≤300:=by
   have h1:(usesAt F i).length≤(vars F).length:=nodup_len (once_nodup _ _ List.nodup_nil) fun x hx=>FO.out.bound i IF.out x (mem_usesAt.1 hx)
   have h2:us'.length=(usesAt F i).length:=by rw [HUS.out];exact List.length_map _
   have:=HNUS.out
   have:=HV.out
   omega
  have QB0:=QB
  have QS0:=QS
  clear hlt hvu uvat hus hnus QRT QO QK QB QS R9 S9 B9
  go_wp2_with fail
  go_loopw [10] (fun iv wr=>∃ q:Nat,q≤nus∧iv = .int .i64 q∧Below b w5 wr∧b<wr.heap.size∧RowT wr b nv fun p=>decide (p∈us'.take q)||(NQ p && !decide (p∈bs'))) (fun iv _=>nus - (intOf iv).toNat)
  case atStart=>exact⟨0,Nat.zero_le _,rfl,QB0.out,QS0.out,Q2.out.congr fun p hp=>by simp⟩
  rename World=>wu
  obtain⟨r,hr,rfl,hb,hbs,hrt⟩:=hrel
  have RK:=zh hr
  have RB:=zh hb
  have RS:=zh hbs
  have RRT:=zh hrt
  have BU:Hid (Below w.heap.size w wu):=B5.out.trans (hb.mono (Nat.le_of_lt GB.out))
  have zk:=Z0.out wu BU.out
  have c1:wu.cell? ⟨fb,1,none⟩=some (.slice (some ⟨ug,uo,none⟩) n uc'):=by rw [zb _ _ 1 _ _ _ zk];rfl
  have u1:=zd BU.out _ _ UU.out
  clear hr hb hbs hrt zk
  by_cases hlt:r<nus
  ·have hrz:(r:Int)<nus:=by omega
   have hr0:(0:Int)≤r:=by omega
   have RLT:=zh hlt
   obtain⟨g,o,rfl,uat⟩:=UV.out (by have:=HNUS.out;omega)
   obtain⟨p,hp⟩:∃ p,us'[r]?=some p:=⟨_,zq9 (by have:=HNUS.out;omega)⟩
   have x1:=zd BU.out _ _ (uat r _ (nats_at hp))
   have hpv:p<nv:=USV.out p (zr1 hp)
   have hpz:(p:Int)<nv:=by omega
   have hp0:(0:Int)≤p:=by omega
   have e0:wu.cell? ⟨w.heap.size,i,none⟩=some (.slice (some ⟨b,0,none⟩) nv nv):=by
    rw [RB.out.cell (p:=⟨w.heap.size,i,none⟩) GB.out,R5.out.cell HIN.out,if_pos rfl]
   have e1:=World.rowIs.cell RRT.out hpv
   have ef:=World.rowIs.frozen RRT.out p
   have NEXT:Hid (RowT (wu.setCell ⟨b,p,none⟩ (.bool true)) b nv fun q=>decide (q∈us'.take (r+1))||(NQ q && !decide (q∈bs'))):=RRT.out.set p true fun q hq=>by
    rw [List.take_add_one,hp]
    by_cases e:q=p
    ·subst e;simp
    rw [if_neg e];simp [e]
   obtain⟨A1,hA1⟩:∃ x,x=(decide (p∈us'.take r)||(NQ p && !decide (p∈bs'))):=⟨_,rfl⟩
   (try simp only [] at e1)
   rw [← hA1] at e1
   clear hlt uat hp hpv hA1
   go_upto_region 22 with fail
   refine wp_region_still_tail 15 (by kernel_rfl) (by kernel_rfl) ?_
   simp only [List.take_succ_cons,List.take_zero,List.drop_succ_cons,List.drop_zero,World.drew_eq]
   iterate 15 still_step
   refine wpStill_nil ?_
   go_wp2_with fail
   go_roundw
   case rel=>exact⟨r+1,RLT.out,by go_num,(RB.out.setCell (zr4 _) _).trans (zj _ _ 1),by have:=RS.out;simpa using this,NEXT.out.keep rfl⟩
   case measure=>have:=RLT.out;simp [intOf];omega
  have hrz:(nus:Int)≤r:=by omega
  have hdr:decide (r<nus)=false:=by simp;omega
  have FIN:Hid (RowT wu b nv fun p=>lv F i ((vars F).getD p ⟨#[]⟩)):=RRT.out.congr fun p hp=>by
   rw [zr3 (by have:=HNUS.out;omega),HUS.out,HBS.out,bindsR_map,HNQ.out,HNX.out]
   exact FO.out.lives_place IF.out (by rw [← HNV.out];exact hp)
  clear hlt
  go_wp2_with fail
  go_roundw
  case rel =>
   refine⟨i,(i:Int) - 1,Nat.le_of_lt HIN.out,rfl,rfl,BU.out,Nat.lt_trans GB.out RS.out,_,R5.out.of_block (RB.out.block _ GB.out),fun q h1 h2=>?_⟩
   by_cases e:q=i
   ·subst e
    exact⟨b,if_pos rfl,GB.out,FIN.out⟩
   obtain⟨b',e1,e2,e3,e4⟩:=D5.out q (by omega) h2
   exact⟨b',by rw [if_neg e];exact e1,e2,RowT.keep e4 (RB.out.block _ e3)⟩
  case measure=>have:=HIN.out;simp [intOf]<;>omega
end Go.Proofs.YtnkahlloahgifaaGreatDoor
namespace Go.Proofs.YtnkahlloahgifaaGreatDoor
open Go.RowKit RG Go.Maps RF
variable {w w':World} {fb:Nat} {F:List Nd} {sva:Option Addr} {svc ug uo uc ng no nc bg bo bc ag ao ac:Nat} {so:Value}
theorem FlF.lives (h:FlF w fb F):Calls Tryz.prog 25 #[.pointer (some ⟨fb,0,none⟩)] w fun e w'=>Below w.heap.size w w'∧∃ v,e = .returned v∧LivesR w' v F :=
 lives_any h.flat h.fo h.len h.few (fun k hk=>zr5 (h.blen hk) (by omega)) h.next
theorem crosses_any {lt:Value}{b:Nat}(h:FlF w fb F) (hl:LivesR w lt F) (hb:b<F.length) :
  Calls Tryz.prog 66 #[.pointer (some ⟨fb,0,none⟩),lt,.int .i64 (b:Nat)] w fun e w'=>Below w.heap.size w w'∧∃ u,e = .returned u∧SlAt w' u (posn F (cross F b) (vars F).length).length (nats (posn F (cross F b) (vars F).length)):=by
 obtain⟨sva,svc,ug,uo,uc,ng,no,nc,bg,bo,bc,ag,ao,ac,so,hC⟩:=h.cells
 have HC:=zh hC
 obtain⟨lg,lc,rs,rfl,l1,l2⟩:=hl
 have CP:=zh (hC.fo.cross_posn hb)
 have RS:=zh (risingR_any (q:=lv F b) (l2 b hb) (zr5 h.few (by omega)))
 have r1:=l1 b hb
 have a1:=hC.after b hb
 obtain⟨n,hn⟩:∃ n,n=F.length:=⟨_,rfl⟩
 have hbz:(b:Int)<n:=by omega
 have hb0:(0:Int)≤b:=by omega
 have nz:(n:Int)≤300:=by have:=h.len;omega
 have c4:w.cell? ⟨fb,4,none⟩=some (.slice (some ⟨ag,ao,none⟩) n ac):=by rw [zb _ _ 4 _ _ _ hC.row,hn];rfl
 rw [← hn]
 obtain⟨br,hbr⟩:∃ l,l=BR F b:=⟨_,rfl⟩
 rw [← hbr] at CP
 obtain⟨bad,bcc,b1,b2⟩:=hC.binds b hb
 rw [← hbr] at b1 b2
 have B1:=zh b1
 have B2:=zh b2
 have BL:Hid (br.length≤300):=by show _≤_;rw [hbr];exact hC.blen hb
 have ROW:=zh hC.row
 obtain⟨l0,hl0⟩:∃ l,l=posn F (lv F b) (vars F).length:=⟨_,rfl⟩
 have L0Z:Hid (l0.length≤300):=by show _≤_;rw [hl0];exact zr5 (posn_len _ _ _) h.few
 rw [← hl0] at CP RS
 have HN:=zh hn
 obtain⟨i3,p1,p2,p3,p4⟩:=info_parts Tryz.info3u
 have HI3:=zh (And.intro p1 (And.intro p2 (And.intro p3 p4)))
 obtain⟨rb,hrb⟩:∃ v,v=rs b:=⟨_,rfl⟩
 rw [← hrb] at r1 RS
 clear h hC l1 l2 hb hbr b1 b2 hl0 hn p1 p2 p3 p4 hrb
 go_enter Tryz.func66,Tryz.ntmps66
 go_wp2_with fail
 refine RS.out.mono ?_
 rintro en w1 ⟨hb1,u1,rfl,hu1⟩
 have BB1:=zh hb1
 obtain⟨-,xa,xc,rfl,xat⟩:=id hu1
 have XAT:=zh xat
 have HU1:=zh hu1
 obtain⟨nl,hnl⟩:∃ n,n=l0.length:=⟨_,rfl⟩
 rw [← hnl] at XAT L0Z ⊢
 have HNL:=zh hnl
 have nlz:(nl:Int)≤300:=by have:=L0Z.out;omega
 clear hb1 xat hu1 hnl r1 a1 c4 RS
 go_wp2_with fail
 go_loopw [7,9] (fun ov iv wr=>∃ k:Nat,k≤nl∧iv = .int .i64 k∧World.ownsRow wr w1.heap.size 3 1 ov ((l0.take k).filter fun p => !decide (p∈br)).length (nats ((l0.take k).filter fun p => !decide (p∈br)))∧Below w1.heap.size w1 wr) (fun _ iv _=>nl - (intOf iv).toNat)
 case atStart=>exact⟨0,Nat.zero_le _,rfl,World.ownsRow_nil _ _ _ _,zs9 _ _⟩
 rename World=>V
 obtain⟨k,hk,rfl,hown,hbv⟩:=hrel
 have KI:=zh hk
 have KO:=zh hown
 have BV:=zh hbv
 have BW:Hid (Below w.heap.size w V):=BB1.out.trans (hbv.mono BB1.out.size)
 obtain⟨oa,oc,hov⟩:=own_sliceI hown
 subst hov
 obtain⟨out,hout⟩:∃ out,out=(l0.take k).filter fun p => !decide (p∈br):=⟨_,rfl⟩
 have HO:=zh hout
 rw [← hout] at KO ⊢
 obtain⟨no',hno⟩:∃ no',no'=out.length:=⟨_,rfl⟩
 have HNO:=zh hno
 rw [← hno] at KO ⊢
 clear hk hown hbv hno hout
 by_cases hlt:k<nl
 ·have hlz:(k:Int)<nl:=by omega
  have hk0:(0:Int)≤k:=by omega
  have HLT:=zh hlt
  obtain⟨p,hp⟩:∃ p,l0[k]?=some p:=⟨_,zq9 (by have:=HNL.out;omega)⟩
  obtain⟨g,o,rfl,xat⟩:=XAT.out (by omega)
  have x1:=zd BV.out _ _ (xat k _ (nats_at hp))
  have FS:=zh (filter_take_succ (fun p => !decide (p∈br)) l0 hp)
  have hm:Hid (∀ W,Below V.heap.size V W→Calls Tryz.prog 62 #[.slice bad br.length bcc,.int .i64 (p:Nat)] W fun en w'=>Below W.heap.size W w'∧en = .returned (.bool (decide (p∈br)))):=fun W hW =>
   hasN_any p (B2.out.kept ((zd BW.out).trans (zd hW))) (by have:=BL.out;omega)
  have c3:V.cell? ⟨fb,3,none⟩=some (.slice (some ⟨bg,bo,none⟩) n bc):=by rw [zb _ _ 3 _ _ _ (zm BW.out ROW.out),HN.out];rfl
  have b1:=zd BW.out _ _ B1.out
  obtain⟨nb,hnb⟩:∃ n,n=br.length:=⟨_,rfl⟩
  rw [← hnb] at b1 hm
  clear hlt xat hp hnb
  go_upto_region 6 with fail
  refine wp_region_still_tail 11 (by kernel_rfl) (by kernel_rfl) ?_
  simp only [List.take_succ_cons,List.take_zero,List.drop_succ_cons,List.drop_zero,World.drew_eq]
  iterate 11 still_step
  refine wpStill_nil ?_
  go_wp2_with fail
  refine(hm.out _ (zj _ _ 1)).mono ?_
  rintro en w2 ⟨hb2,rfl⟩
  have B2':Hid (Below w1.heap.size w1 w2):=BV.out.trans (((zj _ _ 1).trans (hb2.mono (zr4 _))).mono BV.out.size)
  have O2:Hid (World.ownsRow w2 w1.heap.size 3 1 (.slice oa no' oc) no' (nats out)):=owns_keep2 KO.out fun q hq=>hb2.block _ (World.ownsRow.lt KO.out q hq).2
  have x2:=zd hb2 _ _ (show (V.drewN 1).cell? _=_ from x1)
  cases hd:decide (p∈br) with
  | true =>
   rw [hd] at FS
   have P2:Hid ((l0.take (k+1)).filter (fun p => !decide (p∈br))=out):=by rw [HO.out];exact FS.out
   clear FS hd hb2 x1 c3 b1 hm
   go_wp2_with fail
   go_roundw
   case rel=>exact⟨k+1,HLT.out,by go_num,by rw [P2.out,← HNO.out];exact O2.out,B2'.out⟩
   case measure=>have:=HLT.out;simp [intOf];omega
  | false =>
   rw [hd] at FS
   have P2:Hid ((l0.take (k+1)).filter (fun p => !decide (p∈br))=out++[p]):=by rw [HO.out];exact FS.out
   have NB:Hid (no'+1≤maxLen∧(no'+1)*8≤140737488355328):=by
    have h1:out.length≤(l0.take k).length:=by rw [HO.out];exact List.length_filter_le _ _
    rw [List.length_take] at h1
    have:=HNO.out;have:=HLT.out;have:=L0Z.out;show _∧_;simp only [maxLen];omega
   have OX:Hid (World.ownsRow (w2.alloc (.cells #[.int .i64 (p:Nat)] 3)) w1.heap.size 3 1 (.slice oa no' oc) no' (nats out)):=owns_keep2 O2.out fun q hq=>zt2 _ _ _ (World.ownsRow.lt O2.out q hq).2
   have BA:Hid (Below w1.heap.size w1 (w2.alloc (.cells #[.int .i64 (p:Nat)] 3))):=B2'.out.alloc B2'.out.size _
   clear FS hd hb2 x1 c3 b1 hm
   go_wp2_with (at_builtin;refine wpList_append_own _ rfl _ _ 40 rfl w1.heap.size 3 i3 (.int .i64 0) 1 8 Tryz.underlying40 HI3.out.1 HI3.out.2.1 HI3.out.2.2.1 HI3.out.2.2.2 rfl (by decide) (.slice oa no' oc) no' (nats out) rfl OX.out ⟨w2.heap.size,0,none⟩ 1 1 [.int .i64 (p:Nat)] rfl rfl (news1 _ _ _) (fun u hu=>by simp at hu;rw [hu];rfl) NB.out.1 NB.out.2 BA.out.size ?_)
   intro vo w6 hown hg _
   have B6:Hid (Below w1.heap.size w1 w6):=BA.out.grown hg BA.out.size (fun q e=>(OX.out.lt q e).1)
   have M6:Hid (World.ownsRow w6 w1.heap.size 3 1 vo ((l0.take (k+1)).filter fun p => !decide (p∈br)).length (nats ((l0.take (k+1)).filter fun p => !decide (p∈br)))):=by
    show World.ownsRow _ _ _ _ _ _ _
    rw [P2.out,zr2,← HNO.out,nats_append]
    exact hown
   clear hown hg
   go_wp2_with fail
   go_roundw
   case rel=>exact⟨k+1,HLT.out,by go_num,M6.out,B6.out⟩
   case measure=>have:=HLT.out;simp [intOf];omega
 obtain rfl:k=nl:=by have:=KI.out;omega
 have hdi:decide (k<k)=false:=by simp
 have FE:Hid (out=posn F (cross F b) (vars F).length):=by
  rw [HO.out,zr3 (by have:=HNL.out;omega)];exact CP.out
 clear hlt
 go_wp2_with fail
 go_ret
 exact⟨BW.out,_,rfl,by rw [← FE.out];exact owns_nats KO.out HNO.out⟩
end Go.Proofs.YtnkahlloahgifaaGreatDoor
