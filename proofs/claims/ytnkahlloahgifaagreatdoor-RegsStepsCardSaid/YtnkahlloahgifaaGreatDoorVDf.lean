/- Part. -/
import Derived.Test.YtnkahlloahgifaaGreatDoorVEa
import Derived.Test.YtnkahlloahgifaaGreatDoorVLxE
set_option linter.unusedSimpArgs false
set_option linter.unusedVariables false
namespace Go.Proofs.YtnkahlloahgifaaGreatDoor
open Go.RowKit RG Go.Maps RF
theorem Tryz.info9r:(Tryz.prog.info? 9).map (fun i=>(i.zero,i.size,i.bytes))=some (some (.string ⟨#[]⟩),1,16):=by kernel_rfl
theorem Tryz.info40r:(Tryz.prog.info? 40).map (fun i=>(i.zero,i.size,i.bytes))=some (some (.slice none 0 0),1,24):=by kernel_rfl
theorem one1 {x u:Value}(hx:x.oneCell'=true) (hu:u∈[x]):u.oneCell'=true:=by simp at hu;rw [hu];exact hx
theorem news1' {w:World}{b:Nat}{x:Value}{T:TypeId}(h:w.heap[b]?=some (.cells #[x] T (0,0))):∀ (j:Nat) (u:Value),[x][j]?=some u→w.cell? ((⟨b,0,none⟩:Addr).add j)=some u:=fun j u hu=>by
 rw [Addr.add_lit,cell_of_row _ _ _ _ _ _ h,Nat.zero_add]
 match j,hu with
 | 0,hu=>exact hu
 | j+1,hu=>simp at hu
def RbP (w:World) (ρ:Nat→Nat) (fb:Nat) (st:St) (names:List Nm) (sc:List (Nm×Nat)) (e:Ending) (w':World):Prop :=
 ∃ ρ' a,e = .returned (.pointer a)∧Ch BM ρ ρ' w w'∧(∀ k,ρ' k≠9)∧FlR w' ρ' fb (st.bind names)∧ScR w' ρ' (scope st.vars.length names sc) (.pointer a)
set_option maxHeartbeats 4000000 in
set_option maxRecDepth 20000 in
theorem rbind_any {w:World} {ρ:Nat→Nat}{fb:Nat}{st:St}{names:List Nm}{v scv:Value}{sc:List (Nm×Nat)}{of:Int}(hfl:FlR w ρ fb st) (hρ:∀ k,w.heap.size≤k→ρ k=0) (h9:∀ k,ρ k≠9)
  (hn:ZA w ρ v names.length (strs names)) (hnl:names.length≤16) (hsc:ScR w ρ sc scv) (hvl:st.vars.length≤400000) (hbl:st.binds.length≤100000) (hub:st.uses.length=st.binds.length) :
  Calls Tryz.prog 51 #[.pointer (some ⟨fb,0,none⟩),v,.int .i64 of,scv] w (RbP w ρ fb st names sc):=by
 obtain⟨sv,su,sn,sb,sa,so,us,ns,bs,os,hf⟩:=hfl
 have H9:=zh h9
 have BD0:Hid (BdV w ρ fb st names sc v su sn sb sa so us ns bs os st.binds.length st.binds.length 0 0 0 ρ sv (.slice none 0 0) scv w) :=
  ⟨by rw [List.take_zero,List.append_nil];exact hf,Ch.refl hρ,RR.nil _ _ _ _ _,by rw [List.take_zero];exact hsc,hn,fun k hk=>absurd hk (h9 k)⟩
 obtain⟨_,na,nc,rfl,-⟩:=id hn
 obtain⟨sca,rfl⟩:=hsc.ptr
 obtain⟨n,hnn⟩:∃ n,n=names.length:=⟨_,rfl⟩
 obtain⟨nv,hnv⟩:∃ n,n=st.vars.length:=⟨_,rfl⟩
 obtain⟨nb,hnb⟩:∃ n,n=st.binds.length:=⟨_,rfl⟩
 rw [← hnb] at BD0
 rw [← hnn]
 rw [← hnn] at BD0
 have HNN:=zh hnn
 have HNV:=zh hnv
 have HNB:=zh hnb
 have HNL:Hid (n≤16):=by show _≤_;omega
 have HVL:Hid (nv≤400000):=by show _≤_;omega
 have HBL:Hid (nb≤100000):=by show _≤_;omega
 have HUB:Hid (st.uses.length=nb):=by show _=_;omega
 have hnz:(n:Int)≤16:=by omega
 obtain⟨i9,p1,p2,p3,p4⟩:=info_parts Tryz.info9r
 have HI9:=zh (And.intro p1 (And.intro p2 (And.intro p3 p4)))
 obtain⟨i3,q1,q2,q3,q4⟩:=info_parts Tryz.info3u
 have HI3:=zh (And.intro q1 (And.intro q2 (And.intro q3 q4)))
 obtain⟨i40,r1,r2,r3,r4⟩:=info_parts Tryz.info40r
 have HI40:=zh (And.intro r1 (And.intro r2 (And.intro r3 r4)))
 clear hf hρ h9 hn hnl hsc hvl hbl hub hnn hnv hnb p1 p2 p3 p4 q1 q2 q3 q4 r1 r2 r3 r4
 go_enter Tryz.func51,Tryz.ntmps51
 go_wp2_with fail
 go_loopw [9,10,11] (fun lv vo iv wr=>∃ (i:Nat) (ρ1:Nat→Nat) (sv1:Value),i≤n∧iv = .int .i64 i∧BdV w ρ fb st names sc (.slice na n nc) su sn sb sa so us ns bs os nb nb i i i ρ1 sv1 lv vo wr) (fun _ _ iv _=>n - (intOf iv).toNat)
 case atStart=>exact⟨0,ρ,sv,Nat.zero_le _,rfl,BD0.out⟩
 case round =>
  rename World=>V
  obtain⟨i,ρ1,sv1,hi,rfl,hbd⟩:=hrel
  have KI:=zh hi
  have KB:=zh hbd
  obtain⟨la,lc,rfl⟩:=hbd.row.shape
  obtain⟨va,vc,hsv⟩:=hbd.fl.vars.shape
  have hvl:(({ st with vars:=st.vars++names.take i }:St)).vars.length=nv+i:=by
   show (st.vars++names.take i).length=_
   rw [List.length_append,List.length_take,← HNV.out]
   have:=HNN.out;omega
  rw [hvl] at hsv
  subst hsv
  obtain⟨pa,hpa⟩:=hbd.scp.ptr
  subst hpa
  clear hi BD0
  have RHO:=zh hbd.rho
  by_cases hlt:i<n
  ·have hlz:(i:Int)<n:=by omega
   have hi0:(0:Int)≤i:=by omega
   have HLT:=zh hlt
   obtain⟨hzl,ad,cc,hsl,hat⟩:=hbd.nms
   simp only [Value.slice.injEq] at hsl
   obtain⟨rfl,-,rfl⟩:=hsl
   obtain⟨g,o,rfl,hrg,hat2⟩:=hat (by have:=HNN.out;omega)
   obtain⟨x,hx⟩:∃ x,names[i]?=some x:=⟨_,List.getElem?_eq_getElem (by have:=HNN.out;omega)⟩
   have z1:=hat2 i _ (strs_at hx)
   have z0:V.cell? ⟨fb,0,none⟩=some (.slice va (nv+i) vc):=hbd.fl.cell 0 _ rfl
   have hb1:fb<V.heap.size:=World.block_lt_of_cell? V _ z0
   have hb2:g<V.heap.size:=World.block_lt_of_cell? V _ z1
   have HX:=zh hx
   have HG:=zh (And.intro hb2 hrg)
   have hfg:fb≠g:=by intro hh;have h1:=hbd.fl.role;rw [hh,hrg] at h1;cases h1
   have VL:Hid ((({ st with vars:=st.vars++names.take i }:St)).vars.length=nv+i):=hvl
   have hnvz:((nv+i:Nat):Int)≤500000:=by have:=HVL.out;have:=HNL.out;omega
   have NB:Hid (nv+i+1≤maxLen∧(nv+i+1)*16≤140737488355328):=by show _∧_;have:=HVL.out;have:=HNL.out;simp only [maxLen];omega
   have B1:Hid (Below V.heap.size V ((V.alloc (Obj.cells #[.string x] 9)).drew)):=((Below.refl _ _).alloc (Nat.le_refl _) _).drew
   have X1:=zh (show ((V.alloc (Obj.cells #[.string x] 9)).drew).heap[V.heap.size]?=some (.cells #[.string x] 9 (0,0)) from heap_alloc_new V (.cells #[.string x] 9))
   have RW:Hid (RR ((V.alloc (Obj.cells #[.string x] 9)).drew) ρ1 3 9 1 (.slice va (nv+i) vc) (nv+i) (strs (st.vars++names.take i))):=by
    have:=(hbd.below B1.out).fl.vars
    rw [hvl] at this
    exact this
   have KB1:=zh (hbd.below B1.out)
   clear hlt hx hat hat2 hzl hbd hvl hrg
   go_wp2_with fail
   refine wp_region_held_drew (S:=(fun w'=>w'.cell? ⟨g,o+i,none⟩=some (.string x))) (by kernel_rfl) z1 (fun hHeld=>?_)
   have k0:=hHeld
   refine wpAnyH_take (i:=0) (v:=?_) rfl (by kernel_rfl) (by kernel_rfl) (by kernel_rfl) (fun _ _ _ h=>h) (Or.inl ⟨by rfl,?_⟩) k0 ?_
   rotate_left
   ·(intro wz hSw;have zk0:=hSw;(try simp only [zq1,zq2,zq3]);go_simp;try with_reducible rfl)
   try simp only [Act.put,zq1,zq2,zq3,zq4,zq5,zq6]
   refine wpAnyH_take (i:=1) (v:=?_) rfl (by kernel_rfl) (by kernel_rfl) (by kernel_rfl) (fun _ _ _ h=>h) (Or.inl ⟨by rfl,?_⟩) k0 ?_
   rotate_left
   ·(intro wz hSw;have zk0:=hSw;(try simp only [zq1,zq2,zq3]);go_simp;try with_reducible rfl)
   try simp only [Act.put,zq1,zq2,zq3,zq4,zq5,zq6]
   refine wpAnyH_take (i:=2) (v:=?_) rfl (by kernel_rfl) (by kernel_rfl) (by kernel_rfl) (fun _ _ _ h=>h) (Or.inl ⟨by rfl,?_⟩) k0 ?_
   rotate_left
   ·(intro wz hSw;have zk0:=hSw;(try simp only [zq1,zq2,zq3]);go_simp;try with_reducible rfl)
   try simp only [Act.put,zq1,zq2,zq3,zq4,zq5,zq6]
   refine wpAnyH_take (i:=3) (v:=?_) rfl (by kernel_rfl) (by kernel_rfl) (by kernel_rfl) (fun _ _ _ h=>h) (Or.inl ⟨by rfl,?_⟩) k0 ?_
   rotate_left
   ·(intro wz hSw;have zk0:=hSw;(try simp only [zq1,zq2,zq3]);go_simp;try with_reducible rfl)
   try simp only [Act.put,zq1,zq2,zq3,zq4,zq5,zq6]
   refine wpAnyH_take (i:=5) (v:=?_) rfl (by kernel_rfl) (by kernel_rfl) (by kernel_rfl) (fun _ _ _ h=>h) (Or.inl ⟨by rfl,?_⟩) k0 ?_
   rotate_left
   ·(intro wz hSw;have zk0:=hSw;(try simp only [zq1,zq2,zq3]);go_simp;try with_reducible rfl)
   try simp only [Act.put,zq1,zq2,zq3,zq4,zq5,zq6]
   refine wpAnyH_take (i:=6) (v:=?_) rfl (by kernel_rfl) (by kernel_rfl) (by kernel_rfl) (fun _ _ _ h=>h) (Or.inl ⟨by rfl,?_⟩) k0 ?_
   rotate_left
   ·(intro wz hSw;have zk0:=hSw;(try simp only [zq1,zq2,zq3]);go_simp;try with_reducible rfl)
   try simp only [Act.put,zq1,zq2,zq3,zq4,zq5,zq6]
   refine wpAnyH_take (i:=7) (v:=?_) rfl (by kernel_rfl) (by kernel_rfl) (by kernel_rfl) (fun _ _ _ h=>h) (Or.inl ⟨by rfl,?_⟩) k0 ?_
   rotate_left
   ·(intro wz hSw;have zk0:=hSw;(try simp only [zq1,zq2,zq3]);go_simp;try with_reducible rfl)
   try simp only [Act.put,zq1,zq2,zq3,zq4,zq5,zq6]
   refine wpAnyH_take (i:=8) (v:=?_) rfl (by kernel_rfl) (by kernel_rfl) (by kernel_rfl) (fun _ _ _ h=>h) (Or.inl ⟨by rfl,?_⟩) k0 ?_
   rotate_left
   ·(intro wz hSw;have zk0:=hSw;(try simp only [zq1,zq2,zq3]);go_simp;try with_reducible rfl)
   try simp only [Act.put,zq1,zq2,zq3,zq4,zq5,zq6]
   refine wpAnyH_ready (rs:=[4,9]) (by kernel_rfl) (by simp) ?_
   refine AllReadyH.cons rfl (fun K hK=>?_) (AllReadyH.cons rfl (fun K hK=>?_) AllReadyH.nil)
   ·try simp only [zq1,zq2,zq3]
    go_simp
    refine hK.out _ _ ?hs (fun hHeld=>?_)
    case hs=>exact k0
    clear hK K k0
    have k0:=hHeld
    try simp only [Act.put,zq1,zq2,zq3,zq4,zq5,zq6]
    refine wpAnyH_ready (rs:=[9]) (by kernel_rfl) (by simp) ?_
    refine AllReadyH.cons rfl (fun K hK=>?_) AllReadyH.nil
    try simp only [zq1,zq2,zq3]
    go_simp
    refine hK.out _ _ ?hs (fun hHeld=>?_)
    case hs=>first | exact Lib.cell?_alloc_some _ k0 | go_keep
    clear hK K k0
    have k0:=hHeld
    try simp only [Act.put,zq1,zq2,zq3,zq4,zq5,zq6]
    refine wpAnyH_ready (rs:=[10]) (by kernel_rfl) (by simp) ?_
    refine AllReadyH.cons rfl (fun K hK=>?_) AllReadyH.nil
    refine step_append_rr rfl _ _ 35 rfl 9 i9 (.string ⟨#[]⟩) 1 16 Tryz.underlying35 HI9.out.1 HI9.out.2.1 HI9.out.2.2.1 HI9.out.2.2.2 rfl (by decide) ρ1 3 (.slice va (nv+i) vc) (nv+i) (strs (st.vars++names.take i)) rfl RW.out (fun k hk=>RHO.out k (Nat.le_trans B1.out.size hk)) ⟨V.heap.size,0,none⟩ 1 1 [.string x] rfl rfl (news1' X1.out) (fun u hu=>one1 rfl hu) NB.out.1 NB.out.2 ?_
    intro a4 c4 w4 ρ4 hr4 hc4 hf4
    have R4:=zh hr4
    have C4:=zh hc4
    have F4:=zh hf4
    have t1:w4.cell? ⟨g,o+i,none⟩=some (.string x):=hc4.cell (kept_below B1.out _ _ z1) (by show ρ1 g≠3;rw [HG.out.2];decide)
    have y0:=hc4.keep KB1.out.fl.obj (by rw [KB1.out.fl.role];decide)
    have t0:w4.cell? ⟨fb,0,none⟩=some (.slice va (nv+i) vc):=by rw [cell_of_row _ _ 0 _ _ _ y0];rfl
    have t3:w4.frozen? ⟨fb,0,none⟩=false:=frozen_of_row _ _ 0 _ _ y0
    clear hr4 hc4 hf4 y0
    (try simp only [])
    refine hK.out _ _ ?hs (fun hHeld=>?_)
    case hs=>exact t1
    clear hK K k0
    have k0:=hHeld
    try simp only [Act.put,zq1,zq2,zq3,zq4,zq5,zq6]
    refine wpAnyH_take (i:=11) (v:=?_) rfl (by kernel_rfl) (by kernel_rfl) (by kernel_rfl) (fun _ _ _ h=>h) (Or.inl ⟨by rfl,?_⟩) k0 ?_
    rotate_left
    ·(intro wz hSw;have zk0:=hSw;(try simp only [zq1,zq2,zq3]);go_simp;try with_reducible rfl)
    try simp only [Act.put,zq1,zq2,zq3,zq4,zq5,zq6]
    refine wpAnyH_take (i:=12) (v:=?_) rfl (by kernel_rfl) (by kernel_rfl) (by kernel_rfl) (fun _ _ _ h=>h) (Or.inl ⟨by rfl,?_⟩) k0 ?_
    rotate_left
    ·(intro wz hSw;have zk0:=hSw;(try simp only [zq1,zq2,zq3]);go_simp;try with_reducible rfl)
    try simp only [Act.put,zq1,zq2,zq3,zq4,zq5,zq6]
    refine wpAnyH_ready (rs:=[13]) (by kernel_rfl) (by simp) ?_
    refine AllReadyH.cons rfl (fun K hK=>?_) AllReadyH.nil
    try simp only [zq1,zq2,zq3]
    go_simp
    refine hK.out _ _ ?hs (fun hHeld=>?_)
    case hs=>first | assumption | (rw [World.cell?_setCell_far _ _ _ _ hfg];assumption)
    clear hK K hHeld k0
    refine wpAnyH_done (by kernel_rfl) ?_ _
    have GA:=zh (KB1.out.growA HX.out C4.out (by rw [← HNV.out];exact R4.out) (fun q hq=>F4.out q hq))
    obtain⟨V6,hV6⟩:∃ W,W=w4.setCell ⟨fb,0,none⟩ (.slice a4 (nv+i+1) c4):=⟨_,rfl⟩
    rw [← hV6] at GA
    try rw [← hV6]
    clear R4 C4 F4 RW KB KB1 RHO t0 t1 t3 z0 z1 hV6
    have hbd:=GA.out
    have RHO:=zh hbd.rho
    have z0:V6.cell? ⟨fb,0,none⟩=some (.slice a4 (nv+i+1) c4):=hbd.fl.cell 0 _ rfl
    have hm1:(1:Int)≤((nv+i+1:Nat):Int):=by omega
    have hm2:((nv+i+1:Nat):Int)≤500001:=by omega
    have e1:(((nv+i+1:Nat):Int) - 1)=((nv+i:Nat):Int):=by omega
    have E1:=zh e1
    obtain⟨nq,hnq⟩:∃ q,q=nv+i+1:=⟨_,rfl⟩
    rw [← hnq] at z0 hm1 hm2 GA E1
    try rw [← hnq]
    have hwn:IntKind.i64.wrap ((nq:Int) - 1)=(nq:Int) - 1:=Lx.wrap_in _ (by omega)
    have B2:Hid (Below V6.heap.size V6 (V6.alloc (Obj.cells #[.int .i64 ((nq:Int) - 1)] 3))):=(Below.refl _ _).alloc (Nat.le_refl _) _
    have X2:=zh (show (V6.alloc (Obj.cells #[.int .i64 ((nq:Int) - 1)] 3)).heap[V6.heap.size]?=some (.cells #[.int .i64 ((nq:Int) - 1)] 3 (0,0)) from heap_alloc_new V6 _)
    have KB2:=zh (GA.out.below B2.out)
    have NB2:Hid (i+1≤maxLen∧(i+1)*8≤140737488355328):=by show _∧_;have:=HNL.out;have:=HLT.out;simp only [maxLen];omega
    clear hbd e1 hnq
    go_wp2_with (at_builtin;refine wpList_append_rr rfl _ _ 40 rfl 3 i3 (.int .i64 0) 1 8 Tryz.underlying40 HI3.out.1 HI3.out.2.1 HI3.out.2.2.1 HI3.out.2.2.2 rfl (by decide) ρ4 9 (.slice la i lc) i (nats (List.range' st.vars.length i)) rfl KB2.out.row (fun k hk=>RHO.out k (Nat.le_trans B2.out.size hk)) ⟨V6.heap.size,0,none⟩ 1 1 [.int .i64 ((nq:Int) - 1)] rfl rfl (news1' X2.out) (fun u hu=>one1 rfl hu) NB2.out.1 NB2.out.2 ?_)
    intro a5 c5 w5 ρ5 hr5 hc5 hf5
    have GB:=zh (KB2.out.growB hc5 (by have h:=hr5;rw [E1.out,HNV.out] at h;exact h))
    clear hr5 hc5 hf5 KB2 RHO z0
    have hbd:=GB.out
    have z0:w5.cell? ⟨fb,0,none⟩=some (.slice a4 nq c4):=hbd.fl.cell 0 _ rfl
    obtain⟨hzl,ad,cc,hsl,hat⟩:=hbd.nms
    simp only [Value.slice.injEq] at hsl
    obtain⟨rfl,-,rfl⟩:=hsl
    obtain⟨g1,o1,hg1,hrg,hat2⟩:=hat (by have:=HNN.out;have:=HLT.out;omega)
    simp only [Option.some.injEq] at hg1
    rw [Addr.mk.injEq] at hg1
    obtain⟨rfl,rfl,-⟩:=hg1
    have z1:=hat2 i _ (strs_at HX.out)
    clear hbd hzl hat hat2 hrg GA
    go_wp2_with fail
    go_region_held3 (fun w'=>w'.cell? ⟨fb,0,none⟩=some (.slice a4 nq c4)∧w'.cell? ⟨g,o+i,none⟩=some (.string x)) (first | exact⟨by assumption,by assumption⟩ | go_keep) (fail)
    have B3:Hid (Below w5.heap.size w5 ((w5.alloc (Obj.cells #[.string x,.int .i64 ((nq:Int) - 1),.pointer pa] 150)).drew)):=((Below.refl _ _).alloc (Nat.le_refl _) _).drew
    have GC:=zh (GB.out.growC HX.out B3.out (b:=w5.heap.size) (by rw [← HNV.out,← E1.out];exact heap_alloc_new w5 (.cells #[.string x,.int .i64 ((nq:Int) - 1),.pointer pa] 150)) (Nat.le_refl _))
    clear GB z0 z1
    go_wp2_with fail
    go_roundw
    case rel=>exact⟨i+1,ρ5,_,HLT.out,by go_num,GC.out⟩
    case measure=>have:=HLT.out;simp [intOf];omega
   ·try simp only [zq1,zq2,zq3]
    go_simp
    refine hK.out _ _ ?hs (fun hHeld=>?_)
    case hs=>first | exact Lib.cell?_alloc_some _ k0 | go_keep
    clear hK K k0
    have k0:=hHeld
    try simp only [Act.put,zq1,zq2,zq3,zq4,zq5,zq6]
    refine wpAnyH_ready (rs:=[4]) (by kernel_rfl) (by simp) ?_
    refine AllReadyH.cons rfl (fun K hK=>?_) AllReadyH.nil
    try simp only [zq1,zq2,zq3]
    go_simp
    refine hK.out _ _ ?hs (fun hHeld=>?_)
    case hs=>exact k0
    clear hK K k0
    have k0:=hHeld
    try simp only [Act.put,zq1,zq2,zq3,zq4,zq5,zq6]
    refine wpAnyH_ready (rs:=[10]) (by kernel_rfl) (by simp) ?_
    refine AllReadyH.cons rfl (fun K hK=>?_) AllReadyH.nil
    refine step_append_rr rfl _ _ 35 rfl 9 i9 (.string ⟨#[]⟩) 1 16 Tryz.underlying35 HI9.out.1 HI9.out.2.1 HI9.out.2.2.1 HI9.out.2.2.2 rfl (by decide) ρ1 3 (.slice va (nv+i) vc) (nv+i) (strs (st.vars++names.take i)) rfl RW.out (fun k hk=>RHO.out k (Nat.le_trans B1.out.size hk)) ⟨V.heap.size,0,none⟩ 1 1 [.string x] rfl rfl (news1' X1.out) (fun u hu=>one1 rfl hu) NB.out.1 NB.out.2 ?_
    intro a4 c4 w4 ρ4 hr4 hc4 hf4
    have R4:=zh hr4
    have C4:=zh hc4
    have F4:=zh hf4
    have t1:w4.cell? ⟨g,o+i,none⟩=some (.string x):=hc4.cell (kept_below B1.out _ _ z1) (by show ρ1 g≠3;rw [HG.out.2];decide)
    have y0:=hc4.keep KB1.out.fl.obj (by rw [KB1.out.fl.role];decide)
    have t0:w4.cell? ⟨fb,0,none⟩=some (.slice va (nv+i) vc):=by rw [cell_of_row _ _ 0 _ _ _ y0];rfl
    have t3:w4.frozen? ⟨fb,0,none⟩=false:=frozen_of_row _ _ 0 _ _ y0
    clear hr4 hc4 hf4 y0
    (try simp only [])
    refine hK.out _ _ ?hs (fun hHeld=>?_)
    case hs=>exact t1
    clear hK K k0
    have k0:=hHeld
    try simp only [Act.put,zq1,zq2,zq3,zq4,zq5,zq6]
    refine wpAnyH_take (i:=11) (v:=?_) rfl (by kernel_rfl) (by kernel_rfl) (by kernel_rfl) (fun _ _ _ h=>h) (Or.inl ⟨by rfl,?_⟩) k0 ?_
    rotate_left
    ·(intro wz hSw;have zk0:=hSw;(try simp only [zq1,zq2,zq3]);go_simp;try with_reducible rfl)
    try simp only [Act.put,zq1,zq2,zq3,zq4,zq5,zq6]
    refine wpAnyH_take (i:=12) (v:=?_) rfl (by kernel_rfl) (by kernel_rfl) (by kernel_rfl) (fun _ _ _ h=>h) (Or.inl ⟨by rfl,?_⟩) k0 ?_
    rotate_left
    ·(intro wz hSw;have zk0:=hSw;(try simp only [zq1,zq2,zq3]);go_simp;try with_reducible rfl)
    try simp only [Act.put,zq1,zq2,zq3,zq4,zq5,zq6]
    refine wpAnyH_ready (rs:=[13]) (by kernel_rfl) (by simp) ?_
    refine AllReadyH.cons rfl (fun K hK=>?_) AllReadyH.nil
    try simp only [zq1,zq2,zq3]
    go_simp
    refine hK.out _ _ ?hs (fun hHeld=>?_)
    case hs=>first | assumption | (rw [World.cell?_setCell_far _ _ _ _ hfg];assumption)
    clear hK K hHeld k0
    refine wpAnyH_done (by kernel_rfl) ?_ _
    have GA:=zh (KB1.out.growA HX.out C4.out (by rw [← HNV.out];exact R4.out) (fun q hq=>F4.out q hq))
    obtain⟨V6,hV6⟩:∃ W,W=w4.setCell ⟨fb,0,none⟩ (.slice a4 (nv+i+1) c4):=⟨_,rfl⟩
    rw [← hV6] at GA
    try rw [← hV6]
    clear R4 C4 F4 RW KB KB1 RHO t0 t1 t3 z0 z1 hV6
    have hbd:=GA.out
    have RHO:=zh hbd.rho
    have z0:V6.cell? ⟨fb,0,none⟩=some (.slice a4 (nv+i+1) c4):=hbd.fl.cell 0 _ rfl
    have hm1:(1:Int)≤((nv+i+1:Nat):Int):=by omega
    have hm2:((nv+i+1:Nat):Int)≤500001:=by omega
    have e1:(((nv+i+1:Nat):Int) - 1)=((nv+i:Nat):Int):=by omega
    have E1:=zh e1
    obtain⟨nq,hnq⟩:∃ q,q=nv+i+1:=⟨_,rfl⟩
    rw [← hnq] at z0 hm1 hm2 GA E1
    try rw [← hnq]
    have hwn:IntKind.i64.wrap ((nq:Int) - 1)=(nq:Int) - 1:=Lx.wrap_in _ (by omega)
    have B2:Hid (Below V6.heap.size V6 (V6.alloc (Obj.cells #[.int .i64 ((nq:Int) - 1)] 3))):=(Below.refl _ _).alloc (Nat.le_refl _) _
    have X2:=zh (show (V6.alloc (Obj.cells #[.int .i64 ((nq:Int) - 1)] 3)).heap[V6.heap.size]?=some (.cells #[.int .i64 ((nq:Int) - 1)] 3 (0,0)) from heap_alloc_new V6 _)
    have KB2:=zh (GA.out.below B2.out)
    have NB2:Hid (i+1≤maxLen∧(i+1)*8≤140737488355328):=by show _∧_;have:=HNL.out;have:=HLT.out;simp only [maxLen];omega
    clear hbd e1 hnq
    go_wp2_with (at_builtin;refine wpList_append_rr rfl _ _ 40 rfl 3 i3 (.int .i64 0) 1 8 Tryz.underlying40 HI3.out.1 HI3.out.2.1 HI3.out.2.2.1 HI3.out.2.2.2 rfl (by decide) ρ4 9 (.slice la i lc) i (nats (List.range' st.vars.length i)) rfl KB2.out.row (fun k hk=>RHO.out k (Nat.le_trans B2.out.size hk)) ⟨V6.heap.size,0,none⟩ 1 1 [.int .i64 ((nq:Int) - 1)] rfl rfl (news1' X2.out) (fun u hu=>one1 rfl hu) NB2.out.1 NB2.out.2 ?_)
    intro a5 c5 w5 ρ5 hr5 hc5 hf5
    have GB:=zh (KB2.out.growB hc5 (by have h:=hr5;rw [E1.out,HNV.out] at h;exact h))
    clear hr5 hc5 hf5 KB2 RHO z0
    have hbd:=GB.out
    have z0:w5.cell? ⟨fb,0,none⟩=some (.slice a4 nq c4):=hbd.fl.cell 0 _ rfl
    obtain⟨hzl,ad,cc,hsl,hat⟩:=hbd.nms
    simp only [Value.slice.injEq] at hsl
    obtain⟨rfl,-,rfl⟩:=hsl
    obtain⟨g1,o1,hg1,hrg,hat2⟩:=hat (by have:=HNN.out;have:=HLT.out;omega)
    simp only [Option.some.injEq] at hg1
    rw [Addr.mk.injEq] at hg1
    obtain⟨rfl,rfl,-⟩:=hg1
    have z1:=hat2 i _ (strs_at HX.out)
    clear hbd hzl hat hat2 hrg GA
    go_wp2_with fail
    go_region_held3 (fun w'=>w'.cell? ⟨fb,0,none⟩=some (.slice a4 nq c4)∧w'.cell? ⟨g,o+i,none⟩=some (.string x)) (first | exact⟨by assumption,by assumption⟩ | go_keep) (fail)
    have B3:Hid (Below w5.heap.size w5 ((w5.alloc (Obj.cells #[.string x,.int .i64 ((nq:Int) - 1),.pointer pa] 150)).drew)):=((Below.refl _ _).alloc (Nat.le_refl _) _).drew
    have GC:=zh (GB.out.growC HX.out B3.out (b:=w5.heap.size) (by rw [← HNV.out,← E1.out];exact heap_alloc_new w5 (.cells #[.string x,.int .i64 ((nq:Int) - 1),.pointer pa] 150)) (Nat.le_refl _))
    clear GB z0 z1
    go_wp2_with fail
    go_roundw
    case rel=>exact⟨i+1,ρ5,_,HLT.out,by go_num,GC.out⟩
    case measure=>have:=HLT.out;simp [intOf];omega
  ·obtain rfl:i=n:=by have:=KI.out;omega
   have hlz:(i:Int)≤i:=by omega
   have hdi:decide ((i:Int)<i)=false:=by simp
   have hdi2:decide (i<i)=false:=by simp
   have etk:names.take i=names:=List.take_of_length_le (by have:=HNN.out;omega)
   have F0:Hid (FlV V (rero ρ1) fb { st with vars:=st.vars++names } (.slice va (nv+i) vc) su sn sb sa so us ns bs os nb nb):=by
    have:=hbd.fl.re;rw [etk] at this;exact this
   have S0:Hid (ScR V (rero ρ1) (scope st.vars.length names sc) (.pointer pa)):=by
    have:=ScR.re hbd.scp;rw [etk] at this;exact this
   have Z0:Hid (ZA V (rero ρ1) (.slice la i lc) i (nats (List.range' st.vars.length i))):=ZA.of_rr hbd.row
   have C0:Hid (Ch BM ρ (rero ρ1) w V):=hbd.ch.re H9.out
   have N0:Hid (∀ k,rero ρ1 k≠9):=fun k=>re_ne ρ1 k
   obtain⟨ρr,hρr⟩:∃ r,r=rero ρ1:=⟨_,rfl⟩
   rw [← hρr] at F0 S0 Z0 C0 N0
   obtain⟨ba,bc,hsb⟩:=F0.out.binds.shape
   obtain⟨oa,oc,hso⟩:=F0.out.of.shape
   obtain⟨aa,ac,hsa⟩:=F0.out.after.shape
   obtain⟨ua,uc,hsu⟩:=F0.out.uses.shape
   replace hsb:sb = .slice ba nb bc:=by rw [hsb];show Value.slice ba st.binds.length bc=_;rw [← HNB.out]
   replace hsu:su = .slice ua nb uc:=by rw [hsu];show Value.slice ua st.uses.length uc=_;rw [HUB.out]
   subst hsb hso hsa hsu
   have hnbz:(nb:Int)≤100000:=by have:=HBL.out;omega
   have NB:Hid (nb+1≤maxLen∧(nb+1)*24≤140737488355328):=by show _∧_;have:=HBL.out;simp only [maxLen];omega
   have NB8:Hid (nb+1≤maxLen∧(nb+1)*8≤140737488355328):=by show _∧_;have:=HBL.out;simp only [maxLen];omega
   have B1:Hid (Below V.heap.size V (V.alloc (Obj.cells #[.slice la i lc] 40))):=(Below.refl _ _).alloc (Nat.le_refl _) _
   have X1:=zh (show (V.alloc (Obj.cells #[.slice la i lc] 40)).heap[V.heap.size]?=some (.cells #[.slice la i lc] 40 (0,0)) from heap_alloc_new V _)
   have F1:=zh (F0.out.below B1.out C0.out.fresh)
   have z3:V.cell? ⟨fb,3,none⟩=some (.slice ba nb bc):=F0.out.cell 3 _ rfl
   have R1:Hid (RR (V.alloc (Obj.cells #[.slice la i lc] 40)) ρr 6 40 1 (.slice ba nb bc) nb bs):=by have:=F1.out.binds;rw [show ({ st with vars:=st.vars++names }:St).binds.length=nb from HNB.out.symm] at this;exact this
   clear hbd KB RHO hρr etk hlt KI
   go_wp2_with (at_builtin;refine wpList_append_rr rfl _ _ 39 rfl 40 i40 (.slice none 0 0) 1 24 Tryz.underlying39 HI40.out.1 HI40.out.2.1 HI40.out.2.2.1 HI40.out.2.2.2 rfl (by decide) ρr 6 (.slice ba nb bc) nb bs rfl R1.out (fun k hk=>C0.out.fresh k (Nat.le_trans B1.out.size hk)) ⟨V.heap.size,0,none⟩ 1 1 [.slice la i lc] rfl rfl (news1' X1.out) (fun u hu=>one1 rfl hu) NB.out.1 NB.out.2 ?_)
   intro a4 c4 w4 ρ4 hr4 hc4 hf4
   have y0:=hc4.keep F1.out.obj (by rw [F1.out.role];decide)
   have t0:w4.cell? ⟨fb,3,none⟩=some (.slice ba nb bc):=by rw [cell_of_row _ _ 3 _ _ _ y0];rfl
   have t3:w4.frozen? ⟨fb,3,none⟩=false:=frozen_of_row _ _ 3 _ _ y0
   have c2:Ch (fun q=>q=6∨q=2) ρr ρ4 V (w4.setCell ⟨fb,3,none⟩ (.slice a4 (nb+1) c4)):=((Ch.of_below (M:=fun q=>q=6∨q=2) B1.out C0.out.fresh).trans (ch_put hc4 F1.out.lt F1.out.role))
   have F2:=zh (F1.out.putBinds (v' := .slice a4 (nb+1) c4) (x := .slice la i lc) (l:=List.range' st.vars.length i) hc4 (by rw [show ({ st with vars:=st.vars++names }:St).binds.length=nb from HNB.out.symm];exact hr4) (by rw [List.length_range'];exact Z0.out.keep (Ch.of_below (M:=fun _=>False) B1.out C0.out.fresh) id))
   have S2:=zh (ScR.keep c2 (by decide) S0.out)
   have C2:Hid (Ch BM ρ ρ4 w (w4.setCell ⟨fb,3,none⟩ (.slice a4 (nb+1) c4))):=C0.out.trans (c2.mono fun r hr=>by unfold BM;omega)
   have N2:Hid (∀ k,ρ4 k≠9):=n9_step hc4 N0.out (fun q hq=>hf4 q (by simpa using hq)) (by decide)
   clear hr4 hc4 hf4 y0 c2 z3 R1 F0 F1 S0 C0 N0 Z0 X1 B1
   go_upto_region 10 with fail
   obtain⟨V9,hV9⟩:∃ W,W=w4.setCell ⟨fb,3,none⟩ (.slice a4 (nb+1) c4):=⟨_,rfl⟩
   rw [← hV9] at F2 S2 C2
   try rw [← hV9]
   clear hV9 t0 t3
   have B1:Hid (Below V9.heap.size V9 (V9.alloc (Obj.cells #[.int .i64 of] 3))):=(Below.refl _ _).alloc (Nat.le_refl _) _
   have X1:=zh (show (V9.alloc (Obj.cells #[.int .i64 of] 3)).heap[V9.heap.size]?=some (.cells #[.int .i64 of] 3 (0,0)) from heap_alloc_new V9 _)
   have F1:=zh (F2.out.below B1.out C2.out.fresh)
   have z5:V9.cell? ⟨fb,5,none⟩=some (.slice oa nb oc):=F2.out.cell 5 _ rfl
   go_wp2_with (at_builtin;refine wpList_append_rr rfl _ _ 40 rfl 3 i3 (.int .i64 0) 1 8 Tryz.underlying40 HI3.out.1 HI3.out.2.1 HI3.out.2.2.1 HI3.out.2.2.2 rfl (by decide) ρ4 8 (.slice oa nb oc) nb os rfl F1.out.of (fun k hk=>C2.out.fresh k (Nat.le_trans B1.out.size hk)) ⟨V9.heap.size,0,none⟩ 1 1 [.int .i64 of] rfl rfl (news1' X1.out) (fun u hu=>one1 rfl hu) NB8.out.1 NB8.out.2 ?_)
   intro a5 c5 w5 ρ5 hr5 hc5 hf5
   have y0:=hc5.keep F1.out.obj (by rw [F1.out.role];decide)
   have t0:w5.cell? ⟨fb,5,none⟩=some (.slice oa nb oc):=by rw [cell_of_row _ _ 5 _ _ _ y0];rfl
   have t3:w5.frozen? ⟨fb,5,none⟩=false:=frozen_of_row _ _ 5 _ _ y0
   have c2:Ch (fun q=>q=8∨q=2) ρ4 ρ5 V9 (w5.setCell ⟨fb,5,none⟩ (.slice a5 (nb+1) c5)):=((Ch.of_below (M:=fun q=>q=8∨q=2) B1.out C2.out.fresh).trans (ch_put hc5 F1.out.lt F1.out.role))
   have F3:=zh (F1.out.putOf (v' := .slice a5 (nb+1) c5) hc5 hr5)
   have S3:=zh (ScR.keep c2 (by decide) S2.out)
   have C3:Hid (Ch BM ρ ρ5 w (w5.setCell ⟨fb,5,none⟩ (.slice a5 (nb+1) c5))):=C2.out.trans (c2.mono fun r hr=>by unfold BM;omega)
   have N3:Hid (∀ k,ρ5 k≠9):=n9_step hc5 N2.out (fun q hq=>hf5 q (by simpa using hq)) (by decide)
   clear hr5 hc5 hf5 y0 c2 z5 F1 F2 S2 C2 N2 X1 B1
   go_wp2_with fail
   obtain⟨V,hV⟩:∃ W,W=w5.setCell ⟨fb,5,none⟩ (.slice a5 (nb+1) c5):=⟨_,rfl⟩
   rw [← hV] at F3 S3 C3
   try rw [← hV]
   clear hV t0 t3
   have z1:V.cell? ⟨fb,1,none⟩=some (.slice ua nb uc):=F3.out.cell 1 _ rfl
   have z0:V.cell? ⟨fb,4,none⟩=some (.slice aa nb ac):=F3.out.cell 4 _ rfl
   have hb1:fb<V.heap.size:=World.block_lt_of_cell? V _ z0
   have B1:Hid (Below V.heap.size V ((V.alloc (Obj.cells #[.int .i64 (nb:Int)] 3)).drew)):=((Below.refl _ _).alloc (Nat.le_refl _) _).drew
   have X1:=zh (show ((V.alloc (Obj.cells #[.int .i64 (nb:Int)] 3)).drew).heap[V.heap.size]?=some (.cells #[.int .i64 (nb:Int)] 3 (0,0)) from heap_alloc_new V (.cells #[.int .i64 (nb:Int)] 3))
   have F1:=zh (F3.out.below B1.out C3.out.fresh)
   refine wp_region_held_drew (S:=(fun w'=>w'.cell? ⟨fb,1,none⟩=some (.slice ua nb uc))) (by kernel_rfl) z1 (fun hHeld=>?_)
   have k0:=hHeld
   refine wpAnyH_take (i:=0) (v:=?_) rfl (by kernel_rfl) (by kernel_rfl) (by kernel_rfl) (fun _ _ _ h=>h) (Or.inl ⟨by rfl,?_⟩) k0 ?_
   rotate_left
   ·(intro wz hSw;have zk0:=hSw;(try simp only [zq1,zq2,zq3]);go_simp;try with_reducible rfl)
   try simp only [Act.put,zq1,zq2,zq3,zq4,zq5,zq6]
   refine wpAnyH_take (i:=1) (v:=?_) rfl (by kernel_rfl) (by kernel_rfl) (by kernel_rfl) (fun _ _ _ h=>h) (Or.inl ⟨by rfl,?_⟩) k0 ?_
   rotate_left
   ·(intro wz hSw;have zk0:=hSw;(try simp only [zq1,zq2,zq3]);go_simp;try with_reducible rfl)
   try simp only [Act.put,zq1,zq2,zq3,zq4,zq5,zq6]
   refine wpAnyH_take (i:=2) (v:=?_) rfl (by kernel_rfl) (by kernel_rfl) (by kernel_rfl) (fun _ _ _ h=>h) (Or.inl ⟨by rfl,?_⟩) k0 ?_
   rotate_left
   ·(intro wz hSw;have zk0:=hSw;(try simp only [zq1,zq2,zq3]);go_simp;try with_reducible rfl)
   try simp only [Act.put,zq1,zq2,zq3,zq4,zq5,zq6]
   refine wpAnyH_take (i:=3) (v:=?_) rfl (by kernel_rfl) (by kernel_rfl) (by kernel_rfl) (fun _ _ _ h=>h) (Or.inl ⟨by rfl,?_⟩) k0 ?_
   rotate_left
   ·(intro wz hSw;have zk0:=hSw;(try simp only [zq1,zq2,zq3]);go_simp;try with_reducible rfl)
   try simp only [Act.put,zq1,zq2,zq3,zq4,zq5,zq6]
   refine wpAnyH_take (i:=5) (v:=?_) rfl (by kernel_rfl) (by kernel_rfl) (by kernel_rfl) (fun _ _ _ h=>h) (Or.inl ⟨by rfl,?_⟩) k0 ?_
   rotate_left
   ·(intro wz hSw;have zk0:=hSw;(try simp only [zq1,zq2,zq3]);go_simp;try with_reducible rfl)
   try simp only [Act.put,zq1,zq2,zq3,zq4,zq5,zq6]
   refine wpAnyH_take (i:=6) (v:=?_) rfl (by kernel_rfl) (by kernel_rfl) (by kernel_rfl) (fun _ _ _ h=>h) (Or.inl ⟨by rfl,?_⟩) k0 ?_
   rotate_left
   ·(intro wz hSw;have zk0:=hSw;(try simp only [zq1,zq2,zq3]);go_simp;try with_reducible rfl)
   try simp only [Act.put,zq1,zq2,zq3,zq4,zq5,zq6]
   refine wpAnyH_take (i:=7) (v:=?_) rfl (by kernel_rfl) (by kernel_rfl) (by kernel_rfl) (fun _ _ _ h=>h) (Or.inl ⟨by rfl,?_⟩) k0 ?_
   rotate_left
   ·(intro wz hSw;have zk0:=hSw;(try simp only [zq1,zq2,zq3]);go_simp;try with_reducible rfl)
   try simp only [Act.put,zq1,zq2,zq3,zq4,zq5,zq6]
   refine wpAnyH_take (i:=8) (v:=?_) rfl (by kernel_rfl) (by kernel_rfl) (by kernel_rfl) (fun _ _ _ h=>h) (Or.inl ⟨by rfl,?_⟩) k0 ?_
   rotate_left
   ·(intro wz hSw;have zk0:=hSw;(try simp only [zq1,zq2,zq3]);go_simp;try with_reducible rfl)
   try simp only [Act.put,zq1,zq2,zq3,zq4,zq5,zq6]
   refine wpAnyH_take (i:=9) (v:=?_) rfl (by kernel_rfl) (by kernel_rfl) (by kernel_rfl) (fun _ _ _ h=>h) (Or.inl ⟨by rfl,?_⟩) k0 ?_
   rotate_left
   ·(intro wz hSw;have zk0:=hSw;(try simp only [zq1,zq2,zq3]);go_simp;try with_reducible rfl)
   try simp only [Act.put,zq1,zq2,zq3,zq4,zq5,zq6]
   refine wpAnyH_ready (rs:=[4,10]) (by kernel_rfl) (by simp) ?_
   refine AllReadyH.cons rfl (fun K hK=>?_) (AllReadyH.cons rfl (fun K hK=>?_) AllReadyH.nil)
   ·try simp only [zq1,zq2,zq3]
    go_simp
    refine hK.out _ _ ?hs (fun hHeld=>?_)
    case hs=>exact k0
    clear hK K k0
    have k0:=hHeld
    try simp only [Act.put,zq1,zq2,zq3,zq4,zq5,zq6]
    refine wpAnyH_ready (rs:=[10]) (by kernel_rfl) (by simp) ?_
    refine AllReadyH.cons rfl (fun K hK=>?_) AllReadyH.nil
    try simp only [zq1,zq2,zq3]
    go_simp
    refine hK.out _ _ ?hs (fun hHeld=>?_)
    case hs=>first | exact Lib.cell?_alloc_some _ k0 | go_keep
    clear hK K k0
    have k0:=hHeld
    try simp only [Act.put,zq1,zq2,zq3,zq4,zq5,zq6]
    refine wpAnyH_ready (rs:=[11]) (by kernel_rfl) (by simp) ?_
    refine AllReadyH.cons rfl (fun K hK=>?_) AllReadyH.nil
    refine step_append_rr rfl _ _ 40 rfl 3 i3 (.int .i64 0) 1 8 Tryz.underlying40 HI3.out.1 HI3.out.2.1 HI3.out.2.2.1 HI3.out.2.2.2 rfl (by decide) ρ5 7 (.slice aa nb ac) nb (nats (List.range nb)) rfl F1.out.after (fun k hk=>C3.out.fresh k (Nat.le_trans B1.out.size hk)) ⟨V.heap.size,0,none⟩ 1 1 [.int .i64 (nb:Int)] rfl rfl (news1' X1.out) (fun u hu=>one1 rfl hu) NB8.out.1 NB8.out.2 ?_
    intro a6 c6 w6 ρ6 hr6 hc6 hf6
    have y0:=hc6.keep F1.out.obj (by rw [F1.out.role];decide)
    have t0:w6.cell? ⟨fb,4,none⟩=some (.slice aa nb ac):=by rw [cell_of_row _ _ 4 _ _ _ y0];rfl
    have t1:w6.cell? ⟨fb,1,none⟩=some (.slice ua nb uc):=by rw [cell_of_row _ _ 1 _ _ _ y0];rfl
    have t3:w6.frozen? ⟨fb,4,none⟩=false:=frozen_of_row _ _ 4 _ _ y0
    have c2:Ch (fun q=>q=7∨q=2) ρ5 ρ6 V (w6.setCell ⟨fb,4,none⟩ (.slice a6 (nb+1) c6)):=((Ch.of_below (M:=fun q=>q=7∨q=2) B1.out C3.out.fresh).trans (ch_put hc6 F1.out.lt F1.out.role))
    have F4:=zh (F1.out.putAfter (v' := .slice a6 (nb+1) c6) hc6 hr6)
    have S4:=zh (ScR.keep c2 (by decide) S3.out)
    have C4:Hid (Ch BM ρ ρ6 w (w6.setCell ⟨fb,4,none⟩ (.slice a6 (nb+1) c6))):=C3.out.trans (c2.mono fun r hr=>by unfold BM;omega)
    have N4:Hid (∀ k,ρ6 k≠9):=n9_step hc6 N3.out (fun q hq=>hf6 q (by simpa using hq)) (by decide)
    clear hr6 hc6 hf6 y0 c2
    (try simp only [])
    refine hK.out _ _ ?hs (fun hHeld=>?_)
    case hs=>exact t1
    clear hK K k0
    have k0:=hHeld
    try simp only [Act.put,zq1,zq2,zq3,zq4,zq5,zq6]
    refine wpAnyH_take (i:=12) (v:=?_) rfl (by kernel_rfl) (by kernel_rfl) (by kernel_rfl) (fun _ _ _ h=>h) (Or.inl ⟨by rfl,?_⟩) k0 ?_
    rotate_left
    ·(intro wz hSw;have zk0:=hSw;(try simp only [zq1,zq2,zq3]);go_simp;try with_reducible rfl)
    try simp only [Act.put,zq1,zq2,zq3,zq4,zq5,zq6]
    refine wpAnyH_take (i:=13) (v:=?_) rfl (by kernel_rfl) (by kernel_rfl) (by kernel_rfl) (fun _ _ _ h=>h) (Or.inl ⟨by rfl,?_⟩) k0 ?_
    rotate_left
    ·(intro wz hSw;have zk0:=hSw;(try simp only [zq1,zq2,zq3]);go_simp;try with_reducible rfl)
    try simp only [Act.put,zq1,zq2,zq3,zq4,zq5,zq6]
    refine wpAnyH_ready (rs:=[14]) (by kernel_rfl) (by simp) ?_
    refine AllReadyH.cons rfl (fun K hK=>?_) AllReadyH.nil
    try simp only [zq1,zq2,zq3]
    go_simp
    refine hK.out _ _ ?hs (fun hHeld=>?_)
    case hs=>first | assumption | (rw [World.cell?_setCell_other _ _ _ _ (by intro hh;rw [Addr.mk.injEq] at hh;exact absurd hh.2.1 (by decide))];assumption)
    clear hK K hHeld k0
    refine wpAnyH_done (by kernel_rfl) ?_ _
    obtain⟨V8,hV8⟩:∃ W,W=w6.setCell ⟨fb,4,none⟩ (.slice a6 (nb+1) c6):=⟨_,rfl⟩
    rw [← hV8] at F4 S4 C4
    try rw [← hV8]
    clear hV8 t0 t1 t3 z0 z1 F1 F3 S3 C3 N3 X1 B1
    go_wp2_with fail
    go_ret
    have h4:=F4.out
    have hbe:(st.bind names).binds.length=nb+1:=by show (st.binds++[_]).length=_;rw [List.length_append,List.length_singleton,← HNB.out]
    rw [← hbe,HNN.out] at h4
    exact⟨ρ6,pa,rfl,C4.out,N4.out,⟨_,_,_,_,_,_,_,_,_,_,h4⟩,S4.out⟩
   ·try simp only [zq1,zq2,zq3]
    go_simp
    refine hK.out _ _ ?hs (fun hHeld=>?_)
    case hs=>first | exact Lib.cell?_alloc_some _ k0 | go_keep
    clear hK K k0
    have k0:=hHeld
    try simp only [Act.put,zq1,zq2,zq3,zq4,zq5,zq6]
    refine wpAnyH_ready (rs:=[4]) (by kernel_rfl) (by simp) ?_
    refine AllReadyH.cons rfl (fun K hK=>?_) AllReadyH.nil
    try simp only [zq1,zq2,zq3]
    go_simp
    refine hK.out _ _ ?hs (fun hHeld=>?_)
    case hs=>exact k0
    clear hK K k0
    have k0:=hHeld
    try simp only [Act.put,zq1,zq2,zq3,zq4,zq5,zq6]
    refine wpAnyH_ready (rs:=[11]) (by kernel_rfl) (by simp) ?_
    refine AllReadyH.cons rfl (fun K hK=>?_) AllReadyH.nil
    refine step_append_rr rfl _ _ 40 rfl 3 i3 (.int .i64 0) 1 8 Tryz.underlying40 HI3.out.1 HI3.out.2.1 HI3.out.2.2.1 HI3.out.2.2.2 rfl (by decide) ρ5 7 (.slice aa nb ac) nb (nats (List.range nb)) rfl F1.out.after (fun k hk=>C3.out.fresh k (Nat.le_trans B1.out.size hk)) ⟨V.heap.size,0,none⟩ 1 1 [.int .i64 (nb:Int)] rfl rfl (news1' X1.out) (fun u hu=>one1 rfl hu) NB8.out.1 NB8.out.2 ?_
    intro a6 c6 w6 ρ6 hr6 hc6 hf6
    have y0:=hc6.keep F1.out.obj (by rw [F1.out.role];decide)
    have t0:w6.cell? ⟨fb,4,none⟩=some (.slice aa nb ac):=by rw [cell_of_row _ _ 4 _ _ _ y0];rfl
    have t1:w6.cell? ⟨fb,1,none⟩=some (.slice ua nb uc):=by rw [cell_of_row _ _ 1 _ _ _ y0];rfl
    have t3:w6.frozen? ⟨fb,4,none⟩=false:=frozen_of_row _ _ 4 _ _ y0
    have c2:Ch (fun q=>q=7∨q=2) ρ5 ρ6 V (w6.setCell ⟨fb,4,none⟩ (.slice a6 (nb+1) c6)):=((Ch.of_below (M:=fun q=>q=7∨q=2) B1.out C3.out.fresh).trans (ch_put hc6 F1.out.lt F1.out.role))
    have F4:=zh (F1.out.putAfter (v' := .slice a6 (nb+1) c6) hc6 hr6)
    have S4:=zh (ScR.keep c2 (by decide) S3.out)
    have C4:Hid (Ch BM ρ ρ6 w (w6.setCell ⟨fb,4,none⟩ (.slice a6 (nb+1) c6))):=C3.out.trans (c2.mono fun r hr=>by unfold BM;omega)
    have N4:Hid (∀ k,ρ6 k≠9):=n9_step hc6 N3.out (fun q hq=>hf6 q (by simpa using hq)) (by decide)
    clear hr6 hc6 hf6 y0 c2
    (try simp only [])
    refine hK.out _ _ ?hs (fun hHeld=>?_)
    case hs=>exact t1
    clear hK K k0
    have k0:=hHeld
    try simp only [Act.put,zq1,zq2,zq3,zq4,zq5,zq6]
    refine wpAnyH_take (i:=12) (v:=?_) rfl (by kernel_rfl) (by kernel_rfl) (by kernel_rfl) (fun _ _ _ h=>h) (Or.inl ⟨by rfl,?_⟩) k0 ?_
    rotate_left
    ·(intro wz hSw;have zk0:=hSw;(try simp only [zq1,zq2,zq3]);go_simp;try with_reducible rfl)
    try simp only [Act.put,zq1,zq2,zq3,zq4,zq5,zq6]
    refine wpAnyH_take (i:=13) (v:=?_) rfl (by kernel_rfl) (by kernel_rfl) (by kernel_rfl) (fun _ _ _ h=>h) (Or.inl ⟨by rfl,?_⟩) k0 ?_
    rotate_left
    ·(intro wz hSw;have zk0:=hSw;(try simp only [zq1,zq2,zq3]);go_simp;try with_reducible rfl)
    try simp only [Act.put,zq1,zq2,zq3,zq4,zq5,zq6]
    refine wpAnyH_ready (rs:=[14]) (by kernel_rfl) (by simp) ?_
    refine AllReadyH.cons rfl (fun K hK=>?_) AllReadyH.nil
    try simp only [zq1,zq2,zq3]
    go_simp
    refine hK.out _ _ ?hs (fun hHeld=>?_)
    case hs=>first | assumption | (rw [World.cell?_setCell_other _ _ _ _ (by intro hh;rw [Addr.mk.injEq] at hh;exact absurd hh.2.1 (by decide))];assumption)
    clear hK K hHeld k0
    refine wpAnyH_done (by kernel_rfl) ?_ _
    obtain⟨V8,hV8⟩:∃ W,W=w6.setCell ⟨fb,4,none⟩ (.slice a6 (nb+1) c6):=⟨_,rfl⟩
    rw [← hV8] at F4 S4 C4
    try rw [← hV8]
    clear hV8 t0 t1 t3 z0 z1 F1 F3 S3 C3 N3 X1 B1
    go_wp2_with fail
    go_ret
    have h4:=F4.out
    have hbe:(st.bind names).binds.length=nb+1:=by show (st.binds++[_]).length=_;rw [List.length_append,List.length_singleton,← HNB.out]
    rw [← hbe,HNN.out] at h4
    exact⟨ρ6,pa,rfl,C4.out,N4.out,⟨_,_,_,_,_,_,_,_,_,_,h4⟩,S4.out⟩
end Go.Proofs.YtnkahlloahgifaaGreatDoor

namespace RG
theorem TB.kids_one (n:Nm):∀ (b:TB) (p:List Nm×TE),p∈b.kids n→p.1=[n]
 | .nil,p,h=>by simp [TB.kids] at h
 | .cons e r,p,h=>by
  rw [TB.kids] at h
  rcases List.mem_cons.1 h with rfl | h
  ·rfl
  ·exact TB.kids_one n r p h
theorem nodeOk_iff {e:TE}:nodeOk e=true↔(1≤e.kind∧e.kind≤10)∧(e.body.length=if e.kind≤6 then 1 else 0)∧e.args.length≤16 ∧
  if e.kind=7 then e.args.length=1∧(e.args.headD ⟨#[]⟩).size≠0∧1≤e.arms.length∧e.arms.length≤16∧∀ p∈e.arms.kids,p.1.length≤16 else e.arms.length=0:=by
 obtain⟨k,n,xs,arms,body⟩:=e
 have e1:nodeOk (.mk k n xs arms body)=(decide (1≤k)&&decide (k≤10)&&((decide (1≤k)&&decide (k≤6))==(body.length==1))&&decide (body.length≤1)&&(if k=7 then xs.length==1&&((xs.headD ⟨#[]⟩).size != 0)&&decide (1≤arms.length)&&decide (arms.length≤16) else arms.length==0&&decide (xs.length≤16))&&((body.kids n++arms.kids).all fun p=>decide (p.1.length≤16))):=rfl
 have hb:((body.kids n).all fun p=>decide (p.1.length≤16))=true:=by
  rw [List.all_eq_true]
  intro p hp
  rw [TB.kids_one n body p hp];rfl
 have hnil:arms.length=0→arms.kids=[]:=fun h=>by cases arms with
  | nil=>rfl
  | cons vs e r=>simp [TA.length] at h
 rw [e1,List.all_append,hb,Bool.true_and]
 show _↔(1≤k∧k≤10)∧(body.length=if k≤6 then 1 else 0)∧xs.length≤16 ∧
  if k=7 then xs.length=1∧(xs.headD ⟨#[]⟩).size≠0∧1≤arms.length∧arms.length≤16∧∀ p∈arms.kids,p.1.length≤16 else arms.length=0
 generalize body.length=nb
 have key:(decide (1≤k)=true∧((decide (1≤k)&&decide (k≤6))==(nb==1))=true∧nb≤1)↔(1≤k∧nb=if k≤6 then 1 else 0):=by
  rw [decide_eq_true_eq]
  by_cases h1:1≤k
  ·by_cases h6:k≤6
   ·rw [if_pos h6]
    simp only [h1,h6,decide_true,Bool.and_true,true_and]
    constructor
    ·rintro ⟨h,_⟩;simpa using h
    ·rintro rfl;exact⟨rfl,Nat.le_refl _⟩
   ·rw [if_neg h6]
    simp only [h1,h6,decide_true,decide_false,Bool.and_false,true_and]
    constructor
    ·rintro ⟨h,h2⟩
     have:¬ nb=1:=by rintro rfl;cases h
     omega
    ·rintro rfl;exact⟨rfl,Nat.zero_le _⟩
  ·simp [h1]
 by_cases h7:k=7
 ·rw [if_pos h7,if_pos h7]
  simp only [Bool.and_eq_true,decide_eq_true_eq,beq_iff_eq,bne_iff_ne,List.all_eq_true] at key ⊢
  constructor
  ·rintro ⟨⟨⟨⟨⟨h1,h2⟩,h3⟩,h4⟩,⟨⟨h5,h6⟩,h8⟩,h9⟩,h10⟩
   obtain⟨a,b⟩:=key.1 ⟨h1,h3,h4⟩
   exact⟨⟨h1,h2⟩,b,by omega,h5,h6,h8,h9,h10⟩
  ·rintro ⟨⟨h1,h2⟩,h3,h4,h5,h6,h8,h9,h10⟩
   obtain⟨a,b,c⟩:=key.2 ⟨h1,h3⟩
   exact⟨⟨⟨⟨⟨h1,h2⟩,b⟩,c⟩,⟨⟨h5,h6⟩,h8⟩,h9⟩,h10⟩
 ·rw [if_neg h7,if_neg h7]
  simp only [Bool.and_eq_true,decide_eq_true_eq,beq_iff_eq,bne_iff_ne,List.all_eq_true] at key ⊢
  constructor
  ·rintro ⟨⟨⟨⟨⟨h1,h2⟩,h3⟩,h4⟩,h5,h6⟩,h10⟩
   obtain⟨a,b⟩:=key.1 ⟨h1,h3,h4⟩
   exact⟨⟨h1,h2⟩,b,h6,h5⟩
  ·rintro ⟨⟨h1,h2⟩,h3,h4,h5⟩
   obtain⟨a,b,c⟩:=key.2 ⟨h1,h3⟩
   exact⟨⟨⟨⟨⟨h1,h2⟩,b⟩,c⟩,h5,h4⟩,by rw [hnil h5];intro p hp;cases hp⟩
theorem sizes_take {l:List (List Nm×TE)}{i:Nat}{p:List Nm×TE}(h:l[i]?=some p):sizes (l.take (i+1))=sizes (l.take i)+p.2.size:=by
 rw [List.take_add_one,h,sizes_append];simp [sizes_cons,sizes_nil]
theorem sizes_take_le {l:List (List Nm×TE)}(i:Nat):sizes (l.take i)≤sizes l:=by
 have:=sizes_append (l.take i) (l.drop i)
 rw [List.take_append_drop] at this
 omega
end RG
namespace Go.Proofs.YtnkahlloahgifaaGreatDoor
open Go.RowKit RG Go.Maps RF
def TB.nth:TB→Nat→Option TE
 | .nil,_=>none
 | .cons e _,0=>some e
 | .cons _ r,k+1=>TB.nth r k
theorem TB.nth_kids (n:Nm):∀ (b:TB) (k:Nat),(b.kids n)[k]?=(TB.nth b k).map fun e=>([n],e)
 | .nil,k=>by simp [TB.kids,TB.nth]
 | .cons e r,0=>by simp [TB.kids,TB.nth]
 | .cons e r,k+1=>by simp [TB.kids,TB.nth,TB.nth_kids n r k]
theorem TBAt.nth {w:World}:∀ (a:TB) (g o k:Nat) (e:TE),TBAt w a g o→TB.nth a k=some e→TEAt w e g (o+k*8)
 | .nil,g,o,k,e,_,h=>by simp [TB.nth] at h
 | .cons e' r,g,o,0,e,h,hk=>by
  simp only [TB.nth,Option.some.injEq] at hk
  subst hk
  rw [TBAt] at h
  rw [Nat.zero_mul,Nat.add_zero]
  exact h.1
 | .cons e' r,g,o,k+1,e,h,hk=>by
  simp only [TB.nth] at hk
  rw [TBAt] at h
  have:=TBAt.nth r g (o+8) k e h.2 hk
  rw [show o+8+k*8=o+(k+1)*8 from by omega] at this
  exact this
structure TEX (w:World) (e:TE) (xa aa ab:Option Addr) (xc:Nat):Prop where
 atoms:AtomsAt w (.slice xa e.args.length xc) e.args
 arms:0<e.arms.length→∃ g o,aa=some ⟨g,o,none⟩∧TAAt w e.arms g o
 body:0<e.body.length→∃ g o,ab=some ⟨g,o,none⟩∧TBAt w e.body g o
abbrev teV (e:TE) (op:ByteArray) (num site:Int) (xa aa ab:Option Addr) (xc ca cb:Nat):Value :=
 .agg #[.int .i64 e.kind,.string e.name,.string op,.int .i64 num,.int .i64 site,.slice xa e.args.length xc,.slice aa e.arms.length ca,.slice ab e.body.length cb]
theorem TEX.kept {w w':World}{e:TE}{xa aa ab:Option Addr}{xc:Nat}(h:TEX w e xa aa ab xc) (hb:Kept w w'):TEX w' e xa aa ab xc :=
 ⟨h.atoms.kept hb,fun h0=>by obtain⟨g,o,a,b⟩:=h.arms h0;exact⟨g,o,a,TAAt.kept hb _ _ _ b⟩,fun h0=>by obtain⟨g,o,a,b⟩:=h.body h0;exact⟨g,o,a,TBAt.kept hb _ _ _ b⟩⟩
structure TEC (w:World) (e:TE) (b o:Nat) (op:ByteArray) (num site:Int) (xa aa ab:Option Addr) (xc ca cb:Nat):Prop where
 c0:w.cell? ⟨b,o,none⟩=some (.int .i64 e.kind)
 c1:w.cell? ⟨b,o+1,none⟩=some (.string e.name)
 c2:w.cell? ⟨b,o+2,none⟩=some (.string op)
 c3:w.cell? ⟨b,o+3,none⟩=some (.int .i64 num)
 c4:w.cell? ⟨b,o+4,none⟩=some (.int .i64 site)
 c5:w.cell? ⟨b,o+5,none⟩=some (.slice xa e.args.length xc)
 c6:w.cell? ⟨b,o+6,none⟩=some (.slice aa e.arms.length ca)
 c7:w.cell? ⟨b,o+7,none⟩=some (.slice ab e.body.length cb)
theorem TEC.kept {w w':World}{e:TE}{b o:Nat}{op:ByteArray}{num site:Int}{xa aa ab:Option Addr}{xc ca cb:Nat}(h:TEC w e b o op num site xa aa ab xc ca cb) (hb:Kept w w'):TEC w' e b o op num site xa aa ab xc ca cb :=
 ⟨hb _ _ h.c0,hb _ _ h.c1,hb _ _ h.c2,hb _ _ h.c3,hb _ _ h.c4,hb _ _ h.c5,hb _ _ h.c6,hb _ _ h.c7⟩
theorem TEAt.cells {w:World}{e:TE}{b o:Nat}(h:TEAt w e b o):∃ op num site xa aa ab xc ca cb,TEC w e b o op num site xa aa ab xc ca cb∧TEX w e xa aa ab xc:=by
 obtain⟨k,n,xs,arms,body⟩:=e
 rw [TEAt] at h
 obtain⟨op,num,site,va,aa,ab,ca,cb,ga,oa,gb,ob,⟨c0,c1,c2,c3⟩,⟨c4,c5,c6,c7⟩,h1,h2,h3,h4,h5⟩:=h
 obtain⟨xa,xc,e1,h1'⟩:=h1.at'
 subst e1
 exact⟨op,num,site,xa,aa,ab,xc,ca,cb,⟨c0,c1,c2,c3,c4,c5,c6,c7⟩,h1,fun h=>⟨ga,oa,h2 h,h3⟩,fun h=>⟨gb,ob,h4 h,h5⟩⟩
theorem TEC.load {w:World}{e:TE}{b o:Nat}{op:ByteArray}{num site:Int}{xa aa ab:Option Addr}{xc ca cb:Nat}(h:TEC w e b o op num site xa aa ab xc ca cb):(loadVar 27 ⟨b,o,none⟩).run Tryz.prog w = .ok (teV e op num site xa aa ab xc ca cb) w:=by
 obtain⟨c0,c1,c2,c3,c4,c5,c6,c7⟩:=h
 simp [loadVar,go_sem,c0,c1,c2,c3,c4,c5,c6,c7]
end Go.Proofs.YtnkahlloahgifaaGreatDoor
