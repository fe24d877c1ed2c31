/- Part. -/
import Derived.Test.YtnkahlloahgifaaGreatDoorVRv
import Derived.Deep.Cut
import Derived.StillTailTactics
import Derived.Deep.RegionHeld3
import Derived.Deep.LoopGhost
set_option linter.unusedSimpArgs false
set_option linter.unusedVariables false
namespace Go.Proofs.YtnkahlloahgifaaGreatDoor
open Go.RowKit RG Go.Maps
attribute [local go_sem] Oper.semAt_some
set_option maxHeartbeats 8000000 in
set_option maxRecDepth 40000 in
theorem read_any {Env:World→Prop}{isName:Nm→Bool}(NL:NLaw Env isName) {w:World}{b o:Nat}{ps:List Nm}{e:TE}(henv:Env w) (ht:TFunAt w b o ps e)
  (hsz:∀ d∈F0 ps e,(∀ x∈d.binds,x.size≤maxLen)∧∀ x∈d.e.args,x.size≤maxLen) (hpl:ps.length*24≤140737488355328):Calls Tryz.prog 58 #[.pointer (some ⟨b,o,none⟩)] w (ReadP isName w ps e):=by
 obtain⟨v,hv,ad,c,rfl,hat⟩:=ht.params
 have HNL:=zh NL
 have HE:=zh henv
 have HT:=zh ht
 have HSZ:=zh hsz
 have HAT:=zh hat
 have HV:=zh hv
 obtain⟨n,hn⟩:∃ n,n=ps.length:=⟨_,rfl⟩
 rw [← hn] at hv hpl
 have HN:=zh hn
 have HV2:=zh hv
 have HPL:=zh hpl
 have hnz:(n:Int)≤6000000000000:=by omega
 have b1:b<w.heap.size:=World.block_lt_of_cell? w _ hv
 have hmm := @run_makeMap Tryz.prog
 clear NL henv ht hsz hat hn hpl
 refine(callsIn_wide (n:=3)).1 (callsIn_of_wp_marks Tryz.func58 rfl trivial ?_ rfl)
 refine wpIn_wide.2 ?_
 simp only [Tryz.ntmps58,List.size_toArray,List.length_cons,List.length_nil,Nat.reduceAdd,Nat.reduceSub,Array.replicate_succ,Array.replicate_zero,List.push_toArray,List.append_toArray,List.nil_append,List.cons_append]
 go_upto_region 2 with (fail)
 obtain⟨r0,hr0⟩:∃ r,r=w.heap.size:=⟨_,rfl⟩
 obtain⟨W1,hW1⟩:∃ W,W=((((w.alloc (Obj.cells #[.pointer none] 99)).alloc (Obj.cells #[.slice none 0 0,.pointer none,.pointer none] 120)).alloc (Obj.map #[] 0)).alloc (Obj.cells #[.pointer (some ⟨w.heap.size+1,0,none⟩),.slice none 0 0,.slice none 0 0,.slice none 0 0,.map (some (w.heap.size+1+1))] 118)):=⟨_,rfl⟩
 obtain⟨m0,m1,m2,m3,mb⟩:=new4 w (Obj.cells #[.pointer none] 99) (Obj.cells #[.slice none 0 0,.pointer none,.pointer none] 120) (Obj.map #[] 0) (Obj.cells #[.pointer (some ⟨w.heap.size+1,0,none⟩),.slice none 0 0,.slice none 0 0,.slice none 0 0,.map (some (w.heap.size+1+1))] 118)
 rw [← hW1] at m0 m1 m2 m3 mb ⊢
 have hz1:W1.heap.size=w.heap.size+4:=by rw [hW1];simp
 rw [← hr0] at m0 m1 m2 m3 hz1 ⊢
 have PM:Hid (PMap W1 (r0+2) []):=by
  have h:=PMap.made ((w.alloc (Obj.cells #[.pointer none] 99)).alloc (Obj.cells #[.slice none 0 0,.pointer none,.pointer none] 120))
  have e:((w.alloc (Obj.cells #[.pointer none] 99)).alloc (Obj.cells #[.slice none 0 0,.pointer none,.pointer none] 120)).heap.size=r0+2:=by simp [hr0]
  rw [e] at h
  refine h.keep (m2.trans ?_)
  have:=World.alloc_heap_new ((w.alloc (Obj.cells #[.pointer none] 99)).alloc (Obj.cells #[.slice none 0 0,.pointer none,.pointer none] 120)) (Obj.map #[] 0)
  rw [e] at this
  exact this.symm
 have M0:=zh m0
 have M1:=zh m1
 have M3:=zh m3
 have MB:=zh mb
 have HZ1:=zh hz1
 have HR0:=zh hr0
 have hv1:=kept_below mb _ _ hv
 have H0:Hid (HdI w r0 ps 0 (.slice none 0 0) W1 (role0 r0)):=⟨mb,m0,m1,m3,PM.out,RR.nil _ _ _ _ _,role0_at r0,fun q hq=>role0_other (.inl hq),fun q hq=>role0_other (.inr (by omega))⟩
 obtain⟨i0,hi0,hz0,hz1',hz2⟩:=info_parts Tryz.info35e
 have HI:=zh (And.intro hi0 (And.intro hz0 (And.intro hz1' hz2)))
 clear m0 m1 m2 m3 mb hz1 hW1 hv hr0 b1 M0 M1 M3 PM MB HZ1 hi0 hz0 hz1' hz2
 obtain⟨f,hf⟩:∃ f,f=r0+1+1+1:=⟨_,rfl⟩
 obtain⟨pl,hp⟩:∃ pl,pl=r0+1+1:=⟨_,rfl⟩
 obtain⟨l0,hl⟩:∃ l,l=r0+1:=⟨_,rfl⟩
 rw [← hf,← hp,← hl]
 have HF:=zh (And.intro hf (And.intro hp hl))
 clear hf hp hl
 go_wp2_with fail
 go_loopg [21] n (fun gk iv wr=>∃ (k:Nat) (svk:Value) (ρ:Nat→Nat),k≤n∧gk=n - k∧iv = .int .i64 k∧HdI w r0 ps k svk wr ρ)
 case atStart=>exact⟨0,_,_,Nat.zero_le _,rfl,rfl,H0.out⟩
 case round =>
  obtain⟨k,svk,ρ,hk,hgk,rfl,hI⟩:=hrel
  have HGK:=zh hgk
  have HIK:=zh hI
  have HKL:=zh hk
  clear hI hk hv1 hgk
  by_cases hlt:k<n
  ·obtain⟨g,q,rfl,hat⟩:=HAT.out (by have:=HN.out;omega)
   obtain⟨x,hx⟩:∃ x,ps[k]?=some x:=⟨_,List.getElem?_eq_getElem (by have:=HN.out;omega)⟩
   obtain⟨bm,e0,e1⟩:=hat k x hx
   have g0:=kept_below HIK.out.below _ _ e0
   have g1:=kept_below HIK.out.below _ _ e1
   have hlz:(k:Int)<n:=by omega
   have HLT:=zh hlt
   have HX:=zh hx
   clear hat hx hlt e0 e1
   go_upto_region 5 with (fail)
   obtain⟨b5,hb5⟩:∃ b,b=wr.heap.size:=⟨_,rfl⟩
   obtain⟨V,hV⟩:∃ V,V=wr.alloc (Obj.cells #[.string x,.bool bm] 70):=⟨_,rfl⟩
   rw [← hV,← hb5]
   have hIV:HdI w r0 ps k svk V ρ:=HIK.out.grow (by rw [hV];exact(Below.refl _ _).alloc (Nat.le_refl _) _)
   have v5:V.heap[b5]?=some (.cells #[.string x,.bool bm] 70 (0,0)):=by rw [hV,hb5];exact heap_alloc_new wr _
   have r5:ρ b5=0:=HIK.out.rho _ (by rw [hb5];exact Nat.le_refl _)
   obtain⟨na,nc,hsv⟩:=hIV.row.shape
   subst hsv
   obtain⟨q0,q1,q2,q3⟩:=hIV.r
   have ff:f=r0+3:=HF.out.1
   have fl:l0=r0+1:=HF.out.2.2
   have z0:V.cell? ⟨f,0,none⟩=some (.pointer (some ⟨l0,0,none⟩)):=by rw [ff,cell_of_row _ _ 0 _ _ _ hIV.b3,fl];rfl
   have z1:V.cell? ⟨b5,0,none⟩=some (.string x):=by rw [cell_of_row _ _ 0 _ _ _ v5];rfl
   have z2:V.cell? ⟨l0,0,none⟩=some (.slice na k nc):=by rw [fl,cell_of_row _ _ 0 _ _ _ hIV.b1];rfl
   have hb1:f<V.heap.size:=World.block_lt_of_cell? V _ z0
   have hb2:b5<V.heap.size:=World.block_lt_of_cell? V _ z1
   have hb3:l0<V.heap.size:=World.block_lt_of_cell? V _ z2
   have HFL:=zh (And.intro ff fl)
   have BX:Hid (∀ (V1:World),Below V.heap.size V V1→∀ (W:World) (ρ':Nat→Nat),Ch (· = 4) ρ ρ' V1 W→W.heap[f]?=some (.cells #[.pointer (some ⟨l0,0,none⟩),.slice none 0 0,.slice none 0 0,.slice none 0 0,.map (some pl)] 118 (0,0))∧W.heap[b5]?=some (.cells #[.string x,.bool bm] 70 (0,0))∧W.heap[l0]?=some (.cells #[.slice na k nc,.pointer none,.pointer none] 120 (0,0))):=by
    intro V1 hb W ρ' hc
    rw [ff,fl,show pl=r0+1+1 from HF.out.2.1]
    exact⟨hc.keep (heap_below hb hIV.b3) (by rw [q3];decide),hc.keep (heap_below hb v5) (by rw [r5];decide),hc.keep (heap_below hb hIV.b1) (by rw [q1];decide)⟩
   have HIV:=zh hIV
   have hne1:l0≠f:=by omega
   have hne2:l0≠b5:=by have:=(Array.getElem?_eq_some_iff.1 HIK.out.b1).1;omega
   have RW:Hid (∀ V1:World,Below V.heap.size V V1→RR V1 ρ 4 9 1 (.slice na k nc) k (strs (ps.take k))):=fun V1 hb=>hIV.row.keep (Ch.of_below (M:=fun _=>False) hb hIV.rho) id
   have RH:Hid (∀ V1:World,Below V.heap.size V V1→∀ q,V1.heap.size≤q→ρ q=0):=fun V1 hb q hq=>hIV.rho q (Nat.le_trans hb.size hq)
   clear hV hb5 hIV v5 r5 q0 q1 q2 q3 ff fl
   have B1:Hid (Below V.heap.size V ((V.alloc (Obj.cells #[.string x] 9)).drew)):=((Below.refl _ _).alloc (Nat.le_refl _) _).drew
   have X1:=zh (show ((V.alloc (Obj.cells #[.string x] 9)).drew).heap[V.heap.size]?=some (.cells #[.string x] 9 (0,0)) from heap_alloc_new V (.cells #[.string x] 9))
   refine wp_region_noPanic ?_
   refine wp_region_held_drew (S:=(fun w'=>w'.cell? ⟨f,0,none⟩=some (.pointer (some ⟨l0,0,none⟩))∧w'.cell? ⟨b5,0,none⟩=some (.string x))) (by kernel_rfl) ⟨z0,z1⟩ (fun hHeld=>?_)
   obtain⟨k0,k1⟩:=hHeld
   refine wpAnyH_take (i:=0) (v:=?_) rfl (by kernel_rfl) (by kernel_rfl) (by kernel_rfl) (fun _ _ _ h=>h) (Or.inl ⟨by rfl,?_⟩) ⟨k0,k1⟩ ?_
   rotate_left
   ·intro wz hSw
    obtain⟨zk0,zk1⟩:=hSw
    try simp only [zq1,zq2,zq3]
    go_simp
    try with_reducible rfl
   try simp only [Act.put,zq1,zq2,zq3,zq4,zq5,zq6]
   refine wpAnyH_take (i:=1) (v:=?_) rfl (by kernel_rfl) (by kernel_rfl) (by kernel_rfl) (fun _ _ _ h=>h) (Or.inl ⟨by rfl,?_⟩) ⟨k0,k1⟩ ?_
   rotate_left
   ·intro wz hSw
    obtain⟨zk0,zk1⟩:=hSw
    try simp only [zq1,zq2,zq3]
    go_simp
    try with_reducible rfl
   try simp only [Act.put,zq1,zq2,zq3,zq4,zq5,zq6]
   refine wpAnyH_take (i:=2) (v:=?_) rfl (by kernel_rfl) (by kernel_rfl) (by kernel_rfl) (fun _ _ _ h=>h) (Or.inl ⟨by rfl,?_⟩) ⟨k0,k1⟩ ?_
   rotate_left
   ·intro wz hSw
    obtain⟨zk0,zk1⟩:=hSw
    try simp only [zq1,zq2,zq3]
    go_simp
    try with_reducible rfl
   try simp only [Act.put,zq1,zq2,zq3,zq4,zq5,zq6]
   refine wpAnyH_take (i:=3) (v:=?_) rfl (by kernel_rfl) (by kernel_rfl) (by kernel_rfl) (fun _ _ _ h=>h) (Or.inl ⟨by rfl,?_⟩) ⟨k0,k1⟩ ?_
   rotate_left
   ·intro wz hSw
    obtain⟨zk0,zk1⟩:=hSw
    try simp only [zq1,zq2,zq3]
    go_simp
    try with_reducible rfl
   try simp only [Act.put,zq1,zq2,zq3,zq4,zq5,zq6]
   refine wpAnyH_take (i:=4) (v:=?_) rfl (by kernel_rfl) (by kernel_rfl) (by kernel_rfl) (fun _ _ _ h=>h) (Or.inl ⟨by rfl,?_⟩) ⟨k0,k1⟩ ?_
   rotate_left
   ·intro wz hSw
    obtain⟨zk0,zk1⟩:=hSw
    try simp only [zq1,zq2,zq3]
    go_simp
    try with_reducible rfl
   try simp only [Act.put,zq1,zq2,zq3,zq4,zq5,zq6]
   refine wpAnyH_take (i:=5) (v:=?_) rfl (by kernel_rfl) (by kernel_rfl) (by kernel_rfl) (fun _ _ _ h=>h) (Or.inl ⟨by rfl,?_⟩) ⟨k0,k1⟩ ?_
   rotate_left
   ·intro wz hSw
    obtain⟨zk0,zk1⟩:=hSw
    try simp only [zq1,zq2,zq3]
    go_simp
    try with_reducible rfl
   try simp only [Act.put,zq1,zq2,zq3,zq4,zq5,zq6]
   refine wpAnyH_take (i:=6) (v:=?_) rfl (by kernel_rfl) (by kernel_rfl) (by kernel_rfl) (fun _ _ _ h=>h) (Or.inl ⟨by rfl,?_⟩) ⟨k0,k1⟩ ?_
   rotate_left
   ·intro wz hSw
    obtain⟨zk0,zk1⟩:=hSw
    try simp only [zq1,zq2,zq3]
    go_simp
    try with_reducible rfl
   try simp only [Act.put,zq1,zq2,zq3,zq4,zq5,zq6]
   refine wpAnyH_take (i:=7) (v:=?_) rfl (by kernel_rfl) (by kernel_rfl) (by kernel_rfl) (fun _ _ _ h=>h) (Or.inl ⟨by rfl,?_⟩) ⟨k0,k1⟩ ?_
   rotate_left
   ·intro wz hSw
    obtain⟨zk0,zk1⟩:=hSw
    try simp only [zq1,zq2,zq3]
    go_simp
    try with_reducible rfl
   try simp only [Act.put,zq1,zq2,zq3,zq4,zq5,zq6]
   refine wpAnyH_take (i:=8) (v:=?_) rfl (by kernel_rfl) (by kernel_rfl) (by kernel_rfl) (fun _ _ _ h=>h) (Or.inl ⟨by rfl,?_⟩) ⟨k0,k1⟩ ?_
   rotate_left
   ·intro wz hSw
    obtain⟨zk0,zk1⟩:=hSw
    try simp only [zq1,zq2,zq3]
    go_simp
    try with_reducible rfl
   try simp only [Act.put,zq1,zq2,zq3,zq4,zq5,zq6]
   refine wpAnyH_take (i:=9) (v:=?_) rfl (by kernel_rfl) (by kernel_rfl) (by kernel_rfl) (fun _ _ _ h=>h) (Or.inl ⟨by rfl,?_⟩) ⟨k0,k1⟩ ?_
   rotate_left
   ·intro wz hSw
    obtain⟨zk0,zk1⟩:=hSw
    try simp only [zq1,zq2,zq3]
    go_simp
    try with_reducible rfl
   try simp only [Act.put,zq1,zq2,zq3,zq4,zq5,zq6]
   refine wpAnyH_take (i:=11) (v:=?_) rfl (by kernel_rfl) (by kernel_rfl) (by kernel_rfl) (fun _ _ _ h=>h) (Or.inl ⟨by rfl,?_⟩) ⟨k0,k1⟩ ?_
   rotate_left
   ·intro wz hSw
    obtain⟨zk0,zk1⟩:=hSw
    try simp only [zq1,zq2,zq3]
    go_simp
    try with_reducible rfl
   try simp only [Act.put,zq1,zq2,zq3,zq4,zq5,zq6]
   refine wpAnyH_take (i:=12) (v:=?_) rfl (by kernel_rfl) (by kernel_rfl) (by kernel_rfl) (fun _ _ _ h=>h) (Or.inl ⟨by rfl,?_⟩) ⟨k0,k1⟩ ?_
   rotate_left
   ·intro wz hSw
    obtain⟨zk0,zk1⟩:=hSw
    try simp only [zq1,zq2,zq3]
    go_simp
    try with_reducible rfl
   try simp only [Act.put,zq1,zq2,zq3,zq4,zq5,zq6]
   refine wpAnyH_ready (rs:=[10,13]) (by kernel_rfl) (by simp) ?_
   refine AllReadyH.cons rfl (fun K hK=>?_) (AllReadyH.cons rfl (fun K hK=>?_) AllReadyH.nil)
   ·try simp only [zq1,zq2,zq3]
    go_simp
    refine hK.out _ _ ?hs (fun hHeld=>?_)
    case hs=>exact⟨k0,k1⟩
    clear hK K k0 k1
    obtain⟨k0,k1⟩:=hHeld
    try simp only [Act.put,zq1,zq2,zq3,zq4,zq5,zq6]
    refine wpAnyH_ready (rs:=[13]) (by kernel_rfl) (by simp) ?_
    refine AllReadyH.cons rfl (fun K hK=>?_) AllReadyH.nil
    try simp only [zq1,zq2,zq3]
    go_simp
    refine hK.out _ _ ?hs (fun hHeld=>?_)
    case hs=>first | exact⟨Lib.cell?_alloc_some _ k0,Lib.cell?_alloc_some _ k1⟩ | go_keep
    clear hK K k0 k1
    obtain⟨k0,k1⟩:=hHeld
    try simp only [Act.put,zq1,zq2,zq3,zq4,zq5,zq6]
    refine wpAnyH_ready (rs:=[14]) (by kernel_rfl) (by simp) ?_
    refine AllReadyH.cons rfl (fun K hK=>?_) AllReadyH.nil
    (refine step_append_rr rfl _ _ 35 rfl 9 i0 (.string ⟨#[]⟩) 1 16 Tryz.underlying35 HI.out.1 HI.out.2.1 HI.out.2.2.1 HI.out.2.2.2 rfl (by decide) ρ 4 (.slice na k nc) k (strs (ps.take k)) rfl (RW.out _ B1.out) (RH.out _ B1.out) ⟨V.heap.size,0,none⟩ 1 1 [.string x] rfl rfl (by (intro j u hu;rw [Addr.add_lit,cell_of_row _ _ _ _ _ _ X1.out];match j,hu with | 0,hu=>simpa using hu | j+1,hu=>simp at hu)) (by (intro u hu;simp at hu;subst hu;rfl)) (by (have:=HPL.out;have:=HKL.out;simp only [maxLen];omega)) (by (have:=HPL.out;have:=HKL.out;omega)) ?_)
    (intro a4 c4 w4 ρ4 hr4 hc4 hf4)
    (have R4:=zh hr4)
    (have C4:=zh hc4)
    (clear hr4 hc4 hf4)
    (obtain⟨y0,y1,y2⟩:=BX.out _ B1.out _ _ C4.out)
    (have t0:w4.cell? ⟨f,0,none⟩=some (.pointer (some ⟨l0,0,none⟩)):=by (rw [cell_of_row _ _ 0 _ _ _ y0];rfl))
    (have t1:w4.cell? ⟨b5,0,none⟩=some (.string x):=by (rw [cell_of_row _ _ 0 _ _ _ y1];rfl))
    (have t2:w4.cell? ⟨l0,0,none⟩=some (.slice na k nc):=by (rw [cell_of_row _ _ 0 _ _ _ y2];rfl))
    (have t3:w4.frozen? ⟨l0,0,none⟩=false:=frozen_of_row _ _ 0 _ _ y2)
    (clear y0 y1 y2)
    (try simp only [])
    refine hK.out _ _ ?hs (fun hHeld=>?_)
    case hs=>first | exact⟨t0,t1⟩ | exact t0
    clear hK K k0 k1
    obtain⟨k0,k1⟩:=hHeld
    try simp only [Act.put,zq1,zq2,zq3,zq4,zq5,zq6]
    refine wpAnyH_take (i:=15) (v:=?_) rfl (by kernel_rfl) (by kernel_rfl) (by kernel_rfl) (fun _ _ _ h=>h) (Or.inl ⟨by rfl,?_⟩) ⟨k0,k1⟩ ?_
    rotate_left
    ·intro wz hSw
     obtain⟨zk0,zk1⟩:=hSw
     try simp only [zq1,zq2,zq3]
     go_simp
     try with_reducible rfl
    try simp only [Act.put,zq1,zq2,zq3,zq4,zq5,zq6]
    refine wpAnyH_take (i:=16) (v:=?_) rfl (by kernel_rfl) (by kernel_rfl) (by kernel_rfl) (fun _ _ _ h=>h) (Or.inl ⟨by rfl,?_⟩) ⟨k0,k1⟩ ?_
    rotate_left
    ·intro wz hSw
     obtain⟨zk0,zk1⟩:=hSw
     try simp only [zq1,zq2,zq3]
     go_simp
     try with_reducible rfl
    try simp only [Act.put,zq1,zq2,zq3,zq4,zq5,zq6]
    refine wpAnyH_ready (rs:=[17]) (by kernel_rfl) (by simp) ?_
    refine AllReadyH.cons rfl (fun K hK=>?_) AllReadyH.nil
    try simp only [zq1,zq2,zq3]
    go_simp
    refine hK.out _ _ ?hs (fun hHeld=>?_)
    case hs=>first | (refine⟨?_,?_⟩<;>assumption) | go_keep
    clear hK K hHeld k0 k1
    refine wpAnyH_done (by kernel_rfl) ?_ _
    refine NoPanic.normal ?_
    go_wp2_with fail
    go_roundg (n - (k+1))
    case measure=>have:=HGK.out;have:=HLT.out;omega
    case rel=>exact⟨k+1,_,ρ4,HLT.out,rfl,by go_num,by rw [HFL.out.2];exact HdI.step (HIV.out.grow B1.out) (by have:=HR0.out;omega) HX.out C4.out R4.out⟩
   ·try simp only [zq1,zq2,zq3]
    go_simp
    refine hK.out _ _ ?hs (fun hHeld=>?_)
    case hs=>first | exact⟨Lib.cell?_alloc_some _ k0,Lib.cell?_alloc_some _ k1⟩ | go_keep
    clear hK K k0 k1
    obtain⟨k0,k1⟩:=hHeld
    try simp only [Act.put,zq1,zq2,zq3,zq4,zq5,zq6]
    have zl:=Lib.cell?_alloc_some (Obj.cells #[.int .i64 0] 3) z2
    clear zl
    refine wpAnyH_ready (rs:=[10]) (by kernel_rfl) (by simp) ?_
    refine AllReadyH.cons rfl (fun K hK=>?_) AllReadyH.nil
    try simp only [zq1,zq2,zq3]
    go_simp
    refine hK.out _ _ ?hs (fun hHeld=>?_)
    case hs=>exact⟨k0,k1⟩
    clear hK K k0 k1
    obtain⟨k0,k1⟩:=hHeld
    try simp only [Act.put,zq1,zq2,zq3,zq4,zq5,zq6]
    refine wpAnyH_ready (rs:=[14]) (by kernel_rfl) (by simp) ?_
    refine AllReadyH.cons rfl (fun K hK=>?_) AllReadyH.nil
    (refine step_append_rr rfl _ _ 35 rfl 9 i0 (.string ⟨#[]⟩) 1 16 Tryz.underlying35 HI.out.1 HI.out.2.1 HI.out.2.2.1 HI.out.2.2.2 rfl (by decide) ρ 4 (.slice na k nc) k (strs (ps.take k)) rfl (RW.out _ B1.out) (RH.out _ B1.out) ⟨V.heap.size,0,none⟩ 1 1 [.string x] rfl rfl (by (intro j u hu;rw [Addr.add_lit,cell_of_row _ _ _ _ _ _ X1.out];match j,hu with | 0,hu=>simpa using hu | j+1,hu=>simp at hu)) (by (intro u hu;simp at hu;subst hu;rfl)) (by (have:=HPL.out;have:=HKL.out;simp only [maxLen];omega)) (by (have:=HPL.out;have:=HKL.out;omega)) ?_)
    (intro a4 c4 w4 ρ4 hr4 hc4 hf4)
    (have R4:=zh hr4)
    (have C4:=zh hc4)
    (clear hr4 hc4 hf4)
    (obtain⟨y0,y1,y2⟩:=BX.out _ B1.out _ _ C4.out)
    (have t0:w4.cell? ⟨f,0,none⟩=some (.pointer (some ⟨l0,0,none⟩)):=by (rw [cell_of_row _ _ 0 _ _ _ y0];rfl))
    (have t1:w4.cell? ⟨b5,0,none⟩=some (.string x):=by (rw [cell_of_row _ _ 0 _ _ _ y1];rfl))
    (have t2:w4.cell? ⟨l0,0,none⟩=some (.slice na k nc):=by (rw [cell_of_row _ _ 0 _ _ _ y2];rfl))
    (have t3:w4.frozen? ⟨l0,0,none⟩=false:=frozen_of_row _ _ 0 _ _ y2)
    (clear y0 y1 y2)
    (try simp only [])
    refine hK.out _ _ ?hs (fun hHeld=>?_)
    case hs=>first | exact⟨t0,t1⟩ | exact t0
    clear hK K k0 k1
    obtain⟨k0,k1⟩:=hHeld
    try simp only [Act.put,zq1,zq2,zq3,zq4,zq5,zq6]
    refine wpAnyH_take (i:=15) (v:=?_) rfl (by kernel_rfl) (by kernel_rfl) (by kernel_rfl) (fun _ _ _ h=>h) (Or.inl ⟨by rfl,?_⟩) ⟨k0,k1⟩ ?_
    rotate_left
    ·intro wz hSw
     obtain⟨zk0,zk1⟩:=hSw
     try simp only [zq1,zq2,zq3]
     go_simp
     try with_reducible rfl
    try simp only [Act.put,zq1,zq2,zq3,zq4,zq5,zq6]
    refine wpAnyH_take (i:=16) (v:=?_) rfl (by kernel_rfl) (by kernel_rfl) (by kernel_rfl) (fun _ _ _ h=>h) (Or.inl ⟨by rfl,?_⟩) ⟨k0,k1⟩ ?_
    rotate_left
    ·intro wz hSw
     obtain⟨zk0,zk1⟩:=hSw
     try simp only [zq1,zq2,zq3]
     go_simp
     try with_reducible rfl
    try simp only [Act.put,zq1,zq2,zq3,zq4,zq5,zq6]
    refine wpAnyH_ready (rs:=[17]) (by kernel_rfl) (by simp) ?_
    refine AllReadyH.cons rfl (fun K hK=>?_) AllReadyH.nil
    try simp only [zq1,zq2,zq3]
    go_simp
    refine hK.out _ _ ?hs (fun hHeld=>?_)
    case hs=>first | (refine⟨?_,?_⟩<;>assumption) | go_keep
    clear hK K hHeld k0 k1
    refine wpAnyH_done (by kernel_rfl) ?_ _
    refine NoPanic.normal ?_
    go_wp2_with fail
    go_roundg (n - (k+1))
    case measure=>have:=HGK.out;have:=HLT.out;omega
    case rel=>exact⟨k+1,_,ρ4,HLT.out,rfl,by go_num,by rw [HFL.out.2];exact HdI.step (HIV.out.grow B1.out) (by have:=HR0.out;omega) HX.out C4.out R4.out⟩
  ·have hlz:(n:Int)≤k:=by omega
   have HKE:Hid (k=n):=by have:=HKL.out;show _=_;omega
   have hv2:=kept_below HIK.out.below _ _ HV2.out
   clear hlt
   have ff:f=r0+3:=HF.out.1
   have fl:l0=r0+1:=HF.out.2.2
   by_cases h16:n≤16
   ·have d16:decide (16<(n:Int))=false:=by simp;omega
    have z0:wr.cell? ⟨f,0,none⟩=some (.pointer (some ⟨l0,0,none⟩)):=by rw [ff,cell_of_row _ _ 0 _ _ _ HIK.out.b3,fl];rfl
    have H16:=zh h16
    have HFL:=zh (And.intro ff fl)
    clear h16 ff fl
    have hbf:f<wr.heap.size:=World.block_lt_of_cell? wr _ z0
    go_upto_region 9 with (fail)
    go_cut [6] from 16 (fun v6 wc=>LpI isName w ps e f r0 (F0 ps e).length v6 [] wc)
    case first =>
     go_region_held3 (fun w'=>w'.cell? ⟨f,0,none⟩=some (.pointer (some ⟨l0,0,none⟩))) (first | exact z0 | assumption | go_keep) (fail)
     all_goals
      go_wp2_with fail
      go_meet
      case rel=>first | exact LpI.start1 (by have h:=HIK.out;rw [HKE.out] at h;exact h) HR0.out HN.out H16.out HF.out HT.out | exact LpI.start2 (by have h:=HIK.out;rw [HKE.out] at h;exact h) HR0.out HN.out H16.out HF.out HT.out
    case rest =>
     have HLP:=zh hcut
     clear hcut z0 hbf hv2 d16
     go_wp2_with fail
     refine wp_loop_ghost_k (fun gk a' W=>∃ (u4 u5 u6 u7 u8 u9 u10 u11 u12 u13 u14 u15 u16 u17 u18 u19 u20 u21 u22 u23 u24 u25 u26 u27 u28 u29 u30 u31 u32 u33 u34 u35 u36 u37 u38 u39 u40 u41 u42 u43 u44 u45 u46 u47 u48 u49 u50 u51 u52 u53 u54 u55 u56 u57 u58 u59 u60 u61 u62 u63 u64 u65 u66 u67 u68 u69 u70 u71 u72 u73 u74 u75 u76 u77 u78 u79 u80 u81 u82 u83 u84 u85 u86 u87 u88 u89 u90 u91 u92 u93 u94 u95 u96 u97 u98 u99 u100 u101 u102 u103 u104 u105 u106 u107 u108 u109 u110 u111 u112 u113 u114 u115 u116 u117 u118 u119 u120 u121 u122 u123 u124 u125 u126 u127 u128 u129 u130 u131 u132 u133 u134 u135 u136 u137 u138 u139 u140 u141 u142 u143 u144 u145 u146 u147 u148 u149 u150 u151 u152 u153 u154 u155 u156:Value) (ds:List Deferred),LpI isName w ps e f r0 gk u6 ds W∧a'={ tmps := #[.pointer (some ⟨b,o,none⟩),undef,.pointer (some ⟨r0,0,none⟩),.pointer (some ⟨f,0,none⟩),u4,u5,u6,u7,u8,u9,u10,u11,u12,u13,u14,u15,u16,u17,u18,u19,u20,u21,u22,u23,u24,u25,u26,u27,u28,u29,u30,u31,u32,u33,u34,u35,u36,u37,u38,u39,u40,u41,u42,u43,u44,u45,u46,u47,u48,u49,u50,u51,u52,u53,u54,u55,u56,u57,u58,u59,u60,u61,u62,u63,u64,u65,u66,u67,u68,u69,u70,u71,u72,u73,u74,u75,u76,u77,u78,u79,u80,u81,u82,u83,u84,u85,u86,u87,u88,u89,u90,u91,u92,u93,u94,u95,u96,u97,u98,u99,u100,u101,u102,u103,u104,u105,u106,u107,u108,u109,u110,u111,u112,u113,u114,u115,u116,u117,u118,u119,u120,u121,u122,u123,u124,u125,u126,u127,u128,u129,u130,u131,u132,u133,u134,u135,u136,u137,u138,u139,u140,u141,u142,u143,u144,u145,u146,u147,u148,u149,u150,u151,u152,u153,u154,u155,u156],defers:=ds }) (F0 ps e).length ?start ?round
     case start=>(repeat apply Exists.intro);exact⟨HLP.out,rfl⟩
     case round =>
      clear HLP HIK HKL HKE
      intro gk a' wr hinv
      obtain⟨u4,u5,u6,u7,u8,u9,u10,u11,u12,u13,hinv⟩:=hinv
      obtain⟨u14,u15,u16,u17,u18,u19,u20,u21,u22,u23,hinv⟩:=hinv
      obtain⟨u24,u25,u26,u27,u28,u29,u30,u31,u32,u33,hinv⟩:=hinv
      obtain⟨u34,u35,u36,u37,u38,u39,u40,u41,u42,u43,hinv⟩:=hinv
      obtain⟨u44,u45,u46,u47,u48,u49,u50,u51,u52,u53,hinv⟩:=hinv
      obtain⟨u54,u55,u56,u57,u58,u59,u60,u61,u62,u63,hinv⟩:=hinv
      obtain⟨u64,u65,u66,u67,u68,u69,u70,u71,u72,u73,hinv⟩:=hinv
      obtain⟨u74,u75,u76,u77,u78,u79,u80,u81,u82,u83,hinv⟩:=hinv
      obtain⟨u84,u85,u86,u87,u88,u89,u90,u91,u92,u93,hinv⟩:=hinv
      obtain⟨u94,u95,u96,u97,u98,u99,u100,u101,u102,u103,hinv⟩:=hinv
      obtain⟨u104,u105,u106,u107,u108,u109,u110,u111,u112,u113,hinv⟩:=hinv
      obtain⟨u114,u115,u116,u117,u118,u119,u120,u121,u122,u123,hinv⟩:=hinv
      obtain⟨u124,u125,u126,u127,u128,u129,u130,u131,u132,u133,hinv⟩:=hinv
      obtain⟨u134,u135,u136,u137,u138,u139,u140,u141,u142,u143,hinv⟩:=hinv
      obtain⟨u144,u145,u146,u147,u148,u149,u150,u151,u152,u153,hinv⟩:=hinv
      obtain⟨u154,u155,u156,hinv⟩:=hinv
      obtain⟨ds,hrel,ha⟩:=hinv
      subst ha
      intro J K hJ hK
      obtain⟨A,sc,j,stk,names,sl,sn,sv,vs,ρj,Ds,⟨hgk,hj,rfl,rfl⟩,hmk,hS,hstk,hnx,h16,hnm,hsl,hrd⟩:=hrel
      have LGK:=zh hgk
      have LJ:=zh hj
      have LMK:=zh hmk
      have LS:=zh hS
      have LST:=zh hstk
      have LNX:=zh hnx
      have L16:=zh h16
      have LNM:=zh hnm
      have LRD:=zh hrd
      have LSL:=zh hsl
      have y3:wr.cell? ⟨r0,0,none⟩=some (.pointer none):=by rw [cell_of_row _ _ 0 _ _ _ hS.res];rfl
      have y4:wr.frozen? ⟨r0,0,none⟩=false:=frozen_of_row _ _ 0 _ _ hS.res
      have y5:=hS.sck
      clear hgk hj hmk hstk hnx h16 hnm hrd hsl
      cases stk with
      | nil =>
       obtain⟨a0,c0,hvs⟩:=hS.stk.shape
       have y6:wr.cell? ⟨sc,0,none⟩=some (.slice a0 0 c0):=by rw [cell_of_row _ _ 0 _ _ _ y5,hvs];rfl
       obtain⟨e1,e2,e3,e4,e5⟩:=rd_end LRD.out LST.out
       have FIN:Hid (FlIn wr A f (F0 ps e)):=RdS.flow hS e1 LJ.out LNM.out e2 e4 e3 HSZ.out
       have H3:=zh (And.intro e1 (And.intro e4 e5))
       clear hvs e1 e2 e3 e4 e5 y3 y4 y5 hS
       go_wp2_with fail
       refine(flow_any FIN.out).mono ?_
       rintro en w1 ⟨hfq,rfl,hfl⟩
       have LFQ:=zh hfq
       have LFL:=zh hfl
       have hres:w1.heap[r0]?=some (.cells #[.pointer none] 99 (0,0)):=hfq.obj FIN.out.sets LS.out.res
       have RES:=zh hres
       have y3:w1.cell? ⟨r0,0,none⟩=some (.pointer none):=by rw [cell_of_row _ _ 0 _ _ _ hres];rfl
       have y4:w1.frozen? ⟨r0,0,none⟩=false:=frozen_of_row _ _ 0 _ _ hres
       have hmk1:Mk w Ds w1 ρj:=⟨LMK.out.1,fun D hD=>by
        obtain⟨d1,d2,d3⟩:=LMK.out.2 D hD
        refine⟨d1,d2,(hfq.block D (Array.getElem?_eq_some_iff.1 d3).1 fun hs=>?_).trans d3⟩
        obtain⟨es,cl,hm⟩:=FIN.out.sets D hs
        rw [d3] at hm;cases hm⟩
       have LMK1:=zh hmk1
       have hbl:Below w.heap.size wr w1:=hfq.below LS.out.k.below.size fun q hs=>by
        obtain⟨i,hi,rfl⟩:=hs
        refine Nat.le_of_not_lt fun hlt=>?_
        have h8:=(LS.out.k.live i (by have:=H3.out.1;omega)).1
        have:=LS.out.k.low _ hlt
        omega
       have LBL:Hid (Below w.heap.size w w1):=LS.out.k.below.trans hbl
       clear hfq hfl hres hmk1 hbl y6
       have NAR:Hid (ps.length≤16):=by have:=H16.out;have:=HN.out;show _≤_;omega
       have hr0':w.heap.size≤r0:=by have:=HR0.out;omega
       cases hfb:flowB (F0 ps e) with
       | false =>
        have NG:Hid (¬ RG.Good isName ps e):=fun hg=>by have:=(good_rd.1 hg).2.2;rw [hfb] at this;cases this
        clear hfb
        go_wp2_with fail
        refine leave_marks (LMK1.out.setCell ⟨r0,0,none⟩ _ RES.out) fun W' hb hsame=>?_
        have hnr:r0∉Ds:=fun hD=>by have:=(LMK1.out.2 _ hD).2.2;rw [RES.out] at this;cases this
        have u0:W'.cell? ⟨r0,0,none⟩=some (.pointer none):=by rw [cell_of_row _ _ 0 _ _ _ ((hsame _ hnr).trans (heap_setCell_same w1 _ 0 _ _ _ RES.out))];rfl
        exact⟨.pointer none,by simp [results,Tryz.results58,go_sem,u0],(LBL.out.setCell hr0' _).trans hb,.inr ⟨NG.out,rfl⟩⟩
       | true =>
        have GD:Hid (RG.Good isName ps e):=good_rd.2 ⟨NAR.out,H3.out.2.2,hfb⟩
        have FA:Hid (FlatAt w1 A f (F0 ps e)):=LFL.out hfb
        clear hfb
        go_wp2_with fail
        refine leave_marks (LMK1.out.setCell ⟨r0,0,none⟩ _ RES.out) fun W' hb hsame=>?_
        have hnr:r0∉Ds:=fun hD=>by have:=(LMK1.out.2 _ hD).2.2;rw [RES.out] at this;cases this
        have hr2:=heap_setCell_same w1 r0 0 _ _ (.pointer (some ⟨f,0,none⟩)) RES.out
        have u0:W'.cell? ⟨r0,0,none⟩=some (.pointer (some ⟨f,0,none⟩)):=by rw [cell_of_row _ _ 0 _ _ _ ((hsame _ hnr).trans hr2)];rfl
        have hBW:Below w.heap.size w W':=(LBL.out.setCell hr0' _).trans hb
        refine⟨.pointer (some ⟨f,0,none⟩),by simp [results,Tryz.results58,go_sem,u0],hBW,.inl ⟨GD.out,A,f,rfl,FlatAt.past FA.out RES.out (fun q ob hq ho hc=>?_) (fun i hi=>TEAt.kept (kept_below hBW) _ _ _ (LS.out.k.exp i (.inl (by have:=H3.out.1;omega)))),good_fo GD.out,FIN.out.few,FIN.out.len⟩⟩
        have hnD:q∉Ds:=fun hD=>by
         have:=(LMK1.out.2 _ hD).2.2
         rw [ho,Option.some.injEq] at this
         subst this
         rcases hc with hc | hc<;>cases hc
        exact(hsame _ hnD).trans ((Below.heap_setCell w1 _ _ q hq).trans ho)
      | cons p0 stk =>
       obtain⟨bs,e1⟩:=p0
       obtain⟨hjF,hnd,hz1,hKr⟩:=stk_top LST.out
       obtain⟨K',hK'⟩:∃ K',K'=nums (j+e1.size) stk:=⟨_,rfl⟩
       have hnums:nums j ((bs,e1) :: stk)=j :: K':=by rw [nums,hK']
       rw [hnums] at hS LS LNX L16
       obtain⟨m,hm⟩:∃ m,m=K'.length:=⟨_,rfl⟩
       obtain⟨t,htm⟩:∃ t,t=m+1:=⟨_,rfl⟩
       have hlen:(j :: K').length=t:=by rw [List.length_cons,htm,hm]
       have hstk:=hS.stk
       rw [hlen] at hstk
       obtain⟨a0,c0,hvs⟩:=hstk.shape
       subst hvs
       obtain⟨g,rfl,hg,htc,hcm,hcell⟩:=hstk.cell (by omega)
       have y6:wr.cell? ⟨sc,0,none⟩=some (.slice (some ⟨g,0,none⟩) t c0):=by rw [cell_of_row _ _ 0 _ _ _ y5];rfl
       have y7:wr.cell? ⟨g,m*2,none⟩=some (.pointer (some ⟨A.lb j,0,none⟩)):=hcell _ _ (by rw [todos_cons,List.getElem?_append_right (by rw [todos_length];omega),todos_length,← hm,Nat.sub_self];rfl)
       have y8:wr.cell? ⟨g,m*2+1,none⟩=some (.pointer (some ⟨A.xb j,A.xo j,none⟩)):=hcell _ _ (by rw [todos_cons,List.getElem?_append_right (by rw [todos_length];omega),todos_length,← hm,show m*2+1 - m*2=1 from by omega];rfl)
       have y9:wr.frozen? ⟨sc,0,none⟩=false:=frozen_of_row _ _ 0 _ _ y5
       have t1:(0:Int)<t:=by omega
       have t2:(t:Int) - 1=m:=by omega
       have t3:(m:Int)<t:=by omega
       have t4:(t:Int)≤9223372036854775807:=by unfold maxLen at hcm;omega
       have t5:(m:Int)≤c0:=by omega
       have t6:m≤c0:=by omega
       have t7:m<t:=by omega
       have hsl:sc<wr.heap.size:=(Array.getElem?_eq_some_iff.1 y5).1
       have hgl:g<wr.heap.size:=World.block_lt_of_cell? wr _ y7
       have HK:=zh (And.intro hK' (And.intro hm htm))
       have HND:=zh hnd
       have HJF:=zh hjF
       have HSK:=zh hstk
       have HKR:=zh hKr
       have HZ1:=zh hz1
       clear hK' hnums hm htm hlen hstk hcell hg htc hcm hnd hjF hz1 hKr y3 y4 hS
       have Y5:=zh y5
       clear y5
       go_upto_region 13 with (fail)
       obtain⟨b7,hb7⟩:∃ b,b=wr.heap.size:=⟨_,rfl⟩
       obtain⟨W2,hW2⟩:∃ W,W=(wr.setCell ⟨sc,0,none⟩ (.slice (some ⟨g,0,none⟩) m c0)).alloc (Obj.cells #[.pointer (some ⟨A.lb j,0,none⟩),.pointer (some ⟨A.xb j,A.xo j,none⟩)] 159):=⟨_,rfl⟩
       rw [← hW2,← hb7]
       have S2:Hid (RdS w A (F0 ps e) f sc r0 j (j :: K') K' names sl sn sv (.slice (some ⟨g,0,none⟩) m c0) j j W2 ρj):=by
        have h:=LS.out
        rw [show t=K'.length+1 from by have:=HK.out;omega] at h
        have h2:=h.pop (a:=0)
        rw [← HK.out.2.1] at h2
        rw [hW2]
        exact h2.grow ((Below.refl _ _).alloc (Nat.le_refl _) _)
       have D7:Hid (W2.heap[b7]?=some (.cells #[.pointer (some ⟨A.lb j,0,none⟩),.pointer (some ⟨A.xb j,A.xo j,none⟩)] 159 (0,0))):=by
        rw [hW2,hb7]
        have:=heap_alloc_new (wr.setCell ⟨sc,0,none⟩ (.slice (some ⟨g,0,none⟩) m c0)) (.cells #[.pointer (some ⟨A.lb j,0,none⟩),.pointer (some ⟨A.xb j,A.xo j,none⟩)] 159)
        rwa [World.size_setCell] at this
       have R7:Hid (ρj b7=0):=LS.out.k.rho _ (by rw [hb7];exact Nat.le_refl _)
       have M2:Hid (Mk w Ds W2 ρj):=by
        rw [hW2]
        exact(LMK.out.setCell ⟨sc,0,none⟩ _ Y5.out).grow ((Below.refl _ _).alloc (Nat.le_refl _) _)
       clear hW2 hb7 y6 y7 y8 y9 t1 t2 t3 t4 t5 t6 t7 hsl hgl
       obtain⟨na,nc,hsn⟩:=S2.out.rn.shape
       subst hsn
       have x2:W2.cell? ⟨f,2,none⟩=some (.slice na j nc):=by rw [cell_of_row _ _ 2 _ _ _ S2.out.nms.fb];rfl
       by_cases hj20:j=20000
       ·have d20:((j:Int)==20000)=true:=by simp;omega
        have NG:Hid (¬ RG.Good isName ps e):=rd_none LRD.out (rd_many hj20 HJF.out)
        have RES:=zh S2.out.res
        have y3:W2.cell? ⟨r0,0,none⟩=some (.pointer none):=by rw [cell_of_row _ _ 0 _ _ _ RES.out];rfl
        have y4:W2.frozen? ⟨r0,0,none⟩=false:=frozen_of_row _ _ 0 _ _ RES.out
        have LMV:=zh M2.out
        clear hj20
        go_wp2_with fail
        refine leave_marks (LMV.out.setCell ⟨r0,0,none⟩ _ RES.out) fun W' hb hsame=>?_
        have hnr:r0∉Ds:=fun hD=>by have:=(LMV.out.2 _ hD).2.2;rw [RES.out] at this;cases this
        have u0:W'.cell? ⟨r0,0,none⟩=some (.pointer none):=by rw [cell_of_row _ _ 0 _ _ _ ((hsame _ hnr).trans (heap_setCell_same _ _ 0 _ _ _ RES.out))];rfl
        exact⟨.pointer none,by simp [results,Tryz.results58,go_sem,u0],((S2.out.k.below).setCell (by have:=HR0.out;show _≤r0;omega) _).trans hb,.inr ⟨NG.out,rfl⟩⟩
       ·have d20:((j:Int)==20000)=false:=by simp;omega
        have HJ20:Hid (j<20000):=by have:=LJ.out;show _<_;omega
        have TE0:Hid (TEAt w e1 (A.xb j) (A.xo j)):=by
         have:=S2.out.k.exp j (.inr List.mem_cons_self)
         rw [HND.out] at this
         exact this
        have TE1:Hid (TEAt W2 e1 (A.xb j) (A.xo j)):=by
         have:=S2.out.k.exp j (.inr List.mem_cons_self)
         rw [HND.out] at this
         exact TEAt.kept (kept_below S2.out.k.below) _ _ _ this
        have z7:W2.cell? ⟨b7,1,none⟩=some (.pointer (some ⟨A.xb j,A.xo j,none⟩)):=by rw [cell_of_row _ _ 1 _ _ _ D7.out];rfl
        have z6:W2.cell? ⟨b7,0,none⟩=some (.pointer (some ⟨A.lb j,0,none⟩)):=by rw [cell_of_row _ _ 0 _ _ _ D7.out];rfl
        obtain⟨hlr,lsv,lxv,hlb,hlrow,hlx⟩:=S2.out.k.link j (.inr List.mem_cons_self)
        rw [HND.out] at hlrow
        rw [if_neg (Nat.lt_irrefl j)] at hlb
        have HLB:=zh hlb
        have HLROW:=zh hlrow
        have HLX:=zh hlx
        have HLR:=zh hlr
        have z8:W2.cell? ⟨A.lb j,0,none⟩=some lsv:=by rw [cell_of_row _ _ 0 _ _ _ hlb];rfl
        clear hj20 hlr hlb hlrow hlx
        cases hfm:e1.form with
        | false =>
         have NG:Hid (¬ RG.Good isName ps e):=rd_none LRD.out (rd_form hfm HJF.out)
         have IFO:Hid (Calls Tryz.prog 86 #[.pointer (some ⟨A.xb j,A.xo j,none⟩)] W2 (Go.Proofs.YtnkahlloahgifaaGreatDoor.RdP W2 (.bool false))):=by have:=isForm_any TE1.out;rw [hfm] at this;exact this
         clear hfm
         go_wp2_with fail
         refine IFO.out.mono ?_
         rintro en w1 ⟨rfl,q1,rfl⟩
         have RES:Hid ((W2.drewN q1).heap[r0]?=some (.cells #[.pointer none] 99 (0,0))):=S2.out.res
         have LMV:Hid (Mk w Ds (W2.drewN q1) ρj):=M2.out.grow (below_drewN _ _ _)
         have y3:(W2.drewN q1).cell? ⟨r0,0,none⟩=some (.pointer none):=by rw [cell_of_row _ _ 0 _ _ _ RES.out];rfl
         have y4:(W2.drewN q1).frozen? ⟨r0,0,none⟩=false:=frozen_of_row _ _ 0 _ _ RES.out
         go_wp2_with fail
         refine leave_marks (LMV.out.setCell ⟨r0,0,none⟩ _ RES.out) fun W' hb hsame=>?_
         have hnr:r0∉Ds:=fun hD=>by have:=(LMV.out.2 _ hD).2.2;rw [RES.out] at this;cases this
         have u0:W'.cell? ⟨r0,0,none⟩=some (.pointer none):=by rw [cell_of_row _ _ 0 _ _ _ ((hsame _ hnr).trans (heap_setCell_same _ _ 0 _ _ _ RES.out))];rfl
         exact⟨.pointer none,by simp [results,Tryz.results58,go_sem,u0],((S2.out.k.below.trans (below_drewN _ _ _)).setCell (by have:=HR0.out;show _≤r0;omega) _).trans hb,.inr ⟨NG.out,rfl⟩⟩
        | true =>
         have IFO:Hid (Calls Tryz.prog 86 #[.pointer (some ⟨A.xb j,A.xo j,none⟩)] W2 (Go.Proofs.YtnkahlloahgifaaGreatDoor.RdP W2 (.bool true))):=by have:=isForm_any TE1.out;rw [hfm] at this;exact this
         have HFM:=zh hfm
         clear hfm
         go_wp2_with fail
         refine IFO.out.mono ?_
         rintro en w1 ⟨rfl,q1,hw1⟩
         have hb1:Below W2.heap.size W2 w1:=by rw [hw1];exact below_drewN _ _ _
         have S3:=zh (S2.out.grow hb1)
         have M3:=zh (M2.out.grow hb1)
         have D73:=zh (heap_below hb1 D7.out)
         have HLB3:=zh (heap_below hb1 HLB.out)
         have HLROW3:Hid (RowIn w1 ρj lsv bs.length (strs bs)):=(Kp.of_below (S:=fun _=>False) hb1 S2.out.k.rho).row HLROW.out (fun _ _ h=>h)
         have z6:w1.cell? ⟨b7,0,none⟩=some (.pointer (some ⟨A.lb j,0,none⟩)):=by rw [cell_of_row _ _ 0 _ _ _ D73.out];rfl
         have z8:w1.cell? ⟨A.lb j,0,none⟩=some lsv:=by rw [cell_of_row _ _ 0 _ _ _ HLB3.out];rfl
         clear hb1 hw1 x2 z7 IFO
         go_wp2_with fail
         have h10:=HNL.out.size _ HE.out
         refine(bind_any HNL.out (w:=w1) (ρ:=ρj) (HNL.out.keep w.heap.size w w1 h10 HE.out S3.out.k.below) (fun q hq=>S3.out.k.low q (by omega)) S3.out.nms (fun W' ρ' hc=>((Kp.of_ch hc).row HLROW3.out (fun q e hs=>by rcases hs with hs | hs | hs<;>omega)).sl) ?_ ?_).mono ?_
         ·intro x hx
          have:=(HSZ.out _ (nd_mem HJF.out)).1
          rw [HND.out] at this
          exact this x hx
         ·have h16:=L16.out j List.mem_cons_self
          rw [HND.out] at h16
          have:=LNM.out
          have:=HJ20.out
          simp only [] at h16
          omega
         rintro en w2 hbd
         unfold BdP at hbd
         clear z6 z8
         cases hq:bindOk isName names bs with
         | none =>
          rw [hq] at hbd
          obtain⟨rfl,ρ2,hc2⟩:=hbd
          have NG:Hid (¬ RG.Good isName ps e):=rd_none LRD.out (rd_bind hq HJF.out)
          have C2:=zh hc2
          have RES:Hid (w2.heap[r0]?=some (.cells #[.pointer none] 99 (0,0))):=hc2.keep S3.out.res (by rw [S3.out.rrs];unfold MB;decide)
          have LMV:Hid (Mk w Ds w2 ρ2):=M3.out.ch hc2 (by unfold MB;decide)
          have y3:w2.cell? ⟨r0,0,none⟩=some (.pointer none):=by rw [cell_of_row _ _ 0 _ _ _ RES.out];rfl
          have y4:w2.frozen? ⟨r0,0,none⟩=false:=frozen_of_row _ _ 0 _ _ RES.out
          clear hc2 hq
          go_wp2_with fail
          refine leave_marks (LMV.out.setCell ⟨r0,0,none⟩ _ RES.out) fun W' hb hsame=>?_
          have hnr:r0∉Ds:=fun hD=>by have:=(LMV.out.2 _ hD).2.2;rw [RES.out] at this;cases this
          have u0:W'.cell? ⟨r0,0,none⟩=some (.pointer none):=by rw [cell_of_row _ _ 0 _ _ _ ((hsame _ hnr).trans (heap_setCell_same _ _ 0 _ _ _ RES.out))];rfl
          exact⟨.pointer none,by simp [results,Tryz.results58,go_sem,u0],((S3.out.k.below.trans (S3.out.below C2.out (by unfold MB;decide))).setCell (by have:=HR0.out;show _≤r0;omega) _).trans hb,.inr ⟨NG.out,rfl⟩⟩
         | some ns =>
          rw [hq] at hbd
          obtain⟨rfl,ρ2,sv2,hnms2,hc2,hnew2⟩:=hbd
          have HBK:=zh hq
          have C2:=zh hc2
          have S4:=zh (S3.out.bound hc2 hnms2)
          have M4:Hid (Mk w Ds w2 ρ2):=M3.out.ch hc2 (by unfold MB;decide)
          have D74:Hid (w2.heap[b7]?=some (.cells #[.pointer (some ⟨A.lb j,0,none⟩),.pointer (some ⟨A.xb j,A.xo j,none⟩)] 159 (0,0))):=hc2.keep D73.out (by rw [R7.out];unfold MB;decide)
          have R74:Hid (ρ2 b7=0):=(hc2.keepRole D73.out).trans R7.out
          have z6:w2.cell? ⟨b7,0,none⟩=some (.pointer (some ⟨A.lb j,0,none⟩)):=by rw [cell_of_row _ _ 0 _ _ _ D74.out];rfl
          have z7:w2.cell? ⟨b7,1,none⟩=some (.pointer (some ⟨A.xb j,A.xo j,none⟩)):=by rw [cell_of_row _ _ 1 _ _ _ D74.out];rfl
          clear hq hnms2 hc2 hnew2 HLROW3 HLB3 D73 HLROW HLB HLX HLR
          go_upto_region 16 with (fail)
          obtain⟨nb,hnb⟩:∃ x,x=w2.heap.size+1:=⟨_,rfl⟩
          obtain⟨mb,hmb⟩:∃ x,x=w2.heap.size:=⟨_,rfl⟩
          have hS5:=S4.out.noded (Nat.le_refl j) LNX.out (.pointer (some ⟨A.xb j,A.xo j,none⟩))
          have hE6:=Ex.start S4.out List.mem_cons_self M4.out D74.out R74.out
          obtain⟨W5,hW5⟩:∃ W,W=(w2.alloc (Obj.map #[] 0)).alloc (Obj.cells #[.pointer (some ⟨A.xb j,A.xo j,none⟩),.slice none 0 0,.map (some w2.heap.size)] 110):=⟨_,rfl⟩
          rw [HND.out,← hW5,← hnb,← hmb] at hE6
          rw [← hW5,← hnb,← hmb] at hS5
          rw [← hW5,← hnb,← hmb]
          obtain⟨ρ5,hρ5⟩:∃ r,r=roleAt (roleAt ρ2 mb 8) nb 3:=⟨_,rfl⟩
          rw [← hρ5] at hS5 hE6
          obtain⟨A5,hA5⟩:∃ A5,A5=A.node j nb mb:=⟨_,rfl⟩
          rw [← hA5] at hS5
          have EA:Hid (A5.lb=A.lb∧A5.xb=A.xb∧A5.xo=A.xo∧A5.pl=A.pl∧A5.nb j=nb∧A5.mb j=mb∧(∀ i,i≠j→A5.nb i=A.nb i∧A5.mb i=A.mb i)):=by rw [hA5];exact⟨rfl,rfl,rfl,rfl,if_pos rfl,if_pos rfl,fun i hi=>⟨if_neg hi,if_neg hi⟩⟩
          have NBM:Hid (∀ i,i<j→A.nb i≠nb∧A.mb i≠mb):=fun i hi=>by
           obtain⟨_,_,h1,_⟩:=S4.out.k.node i hi
           have h2:=(S4.out.k.live i hi).2.lt
           have h3:=(Array.getElem?_eq_some_iff.1 h1).1
           exact⟨by omega,by omega⟩
          have hlk:=hS5.k.link j (.inr List.mem_cons_self)
          rw [if_neg (Nat.lt_irrefl j),EA.out.1] at hlk
          obtain⟨hlr,lsv5,lxv5,hlb5,_,_⟩:=hlk
          have hNE:∀ i,i<j∨i∈K'→A5.lb i≠A5.lb j:=fun i hi e=>by
           have h1:=hS5.k.lin i j (hi.imp id (List.mem_cons_of_mem _)) (.inr List.mem_cons_self) e
           subst h1
           rcases hi with hi | hi
           ·omega
           ·have:=(HKR.out i (by rw [← HK.out.1];exact hi)).1
            have:=HZ1.out
            omega
          have NEQ:=zh hNE
          have hS6:=hS5.linkTo (K':=K') (v := .pointer (some ⟨nb,0,none⟩)) (by rw [EA.out.1];exact hlr) (fun k hk=>List.mem_cons_of_mem _ hk) hNE
          rw [EA.out.1] at hS6
          have S6:=zh hS6
          have E6:=zh hE6
          have D75:Hid (W5.heap[b7]?=some (.cells #[.pointer (some ⟨A.lb j,0,none⟩),.pointer (some ⟨A.xb j,A.xo j,none⟩)] 159 (0,0))):=by
           rw [hW5]
           exact heap_below (((Below.refl _ _).alloc (Nat.le_refl _) _).alloc (by simp) _) D74.out
          have z6:W5.cell? ⟨b7,0,none⟩=some (.pointer (some ⟨A.lb j,0,none⟩)):=by rw [cell_of_row _ _ 0 _ _ _ D75.out];rfl
          have z8:W5.cell? ⟨A.lb j,2,none⟩=some (.pointer none):=by rw [cell_of_row _ _ 2 _ _ _ hlb5];rfl
          have z9:W5.frozen? ⟨A.lb j,2,none⟩=false:=frozen_of_row _ _ 2 _ _ hlb5
          clear hnb hmb hS5 hE6 hW5 hρ5 hA5 hlr hlb5 hNE hS6 z7
          go_upto_region 17 with (fail)
          obtain⟨W6,hW6⟩:∃ W,W=W5.setCell ⟨A.lb j,2,none⟩ (.pointer (some ⟨nb,0,none⟩)):=⟨_,rfl⟩
          rw [← hW6]
          rw [← hW6] at S6 E6
          have x2:W6.cell? ⟨f,2,none⟩=some (.slice na j nc):=by rw [cell_of_row _ _ 2 _ _ _ S6.out.nms.fb];rfl
          have bf6:f<W6.heap.size:=World.block_lt_of_cell? W6 _ x2
          clear hW6 z6 z8 z9
          have S6a:=zh (S6.out.grow ((Below.refl _ _).alloc (Nat.le_refl _) (.cells #[.pointer (some ⟨nb,0,none⟩)] 100)))
          have E6a:=zh (E6.out.grow ((Below.refl _ _).alloc (Nat.le_refl _) (.cells #[.pointer (some ⟨nb,0,none⟩)] 100)) S6.out.k.rho)
          have X6:=zh (heap_alloc_new W6 (.cells #[.pointer (some ⟨nb,0,none⟩)] 100))
          obtain⟨i1,hi1,hz1a,hz1b,hz1c⟩:=info_parts Tryz.info100r
          have HI1:=zh (And.intro hi1 (And.intro hz1a (And.intro hz1b hz1c)))
          clear hi1 hz1a hz1b hz1c
          have NEWS6:Hid (∀ (q:Nat) (u:Value),[Value.pointer (some ⟨nb,0,none⟩)][q]?=some u→(W6.alloc (.cells #[.pointer (some ⟨nb,0,none⟩)] 100)).cell? ((⟨W6.heap.size,0,none⟩:Addr).add q)=some u):=fun q u hu=>by
           rw [Addr.add_lit,cell_of_row _ _ _ _ _ _ X6.out]
           match q,hu with
           | 0,hu=>simpa using hu
           | q+1,hu=>simp at hu
          have ONE6:Hid (∀ u∈[Value.pointer (some ⟨nb,0,none⟩)],u.oneCell'=true):=fun u hu=>by simp at hu;subst hu;rfl
          have L6a:Hid (j+1≤maxLen):=by have:=HJ20.out;show _≤_;simp only [maxLen];omega
          have L6b:Hid ((j+1)*8≤140737488355328):=by have:=HJ20.out;show _≤_;omega
          go_wp2_with (at_builtin;refine wpList_append_rr rfl _ _ 115 rfl 100 i1 (.pointer none) 1 8 Tryz.underlying115 HI1.out.1 HI1.out.2.1 HI1.out.2.2.1 HI1.out.2.2.2 rfl (by decide) ρ5 7 (.slice na j nc) j _ rfl S6a.out.rn S6a.out.k.rho ⟨W6.heap.size,0,none⟩ 1 1 [.pointer (some ⟨nb,0,none⟩)] rfl rfl NEWS6.out ONE6.out L6a.out L6b.out ?_)
          intro a7 c7 w7 ρ7 hr7 hc7 hf7
          have fb7:=hc7.keep S6a.out.nms.fb (by rw [S6a.out.nms.rf];decide)
          have rf7:=(hc7.keepRole S6a.out.nms.fb).trans S6a.out.nms.rf
          have S7:=zh (S6a.out.pushNode hc7 (by rw [EA.out.2.2.2.2.1];exact hr7))
          have E7:=zh (E6a.out.pushed (i:=2) (v := .slice a7 (j+1) c7) hc7 (by decide) fb7 rf7)
          have z8:w7.cell? ⟨f,2,none⟩=some (.slice na j nc):=by rw [cell_of_row _ _ 2 _ _ _ fb7];rfl
          have z9:w7.frozen? ⟨f,2,none⟩=false:=frozen_of_row _ _ 2 _ _ fb7
          clear hr7 hc7 hf7 fb7 rf7 x2 bf6
          go_upto_region 18 with (fail)
          obtain⟨W7,hW7⟩:∃ W,W=w7.setCell ⟨f,2,none⟩ (.slice a7 (j+1) c7):=⟨_,rfl⟩
          rw [← hW7]
          rw [← hW7] at S7 E7
          obtain⟨la,lc,hls⟩:=S7.out.rl.shape
          subst hls
          have z6:W7.cell? ⟨b7,0,none⟩=some (.pointer (some ⟨A.lb j,0,none⟩)):=by rw [cell_of_row _ _ 0 _ _ _ E7.out.d7];rfl
          have x1:W7.cell? ⟨f,1,none⟩=some (.slice la j lc):=by rw [cell_of_row _ _ 1 _ _ _ S7.out.nms.fb];rfl
          have bb1:b7<W7.heap.size:=World.block_lt_of_cell? W7 _ z6
          have bb2:f<W7.heap.size:=World.block_lt_of_cell? W7 _ x1
          have bb3:f≠b7:=fun e=>by have h1:=S7.out.nms.rf;have h2:=E7.out.r7;rw [e,h2] at h1;cases h1
          clear hW7 z8 z9
          go_cut [] from 16 (fun wc=>R18 w A5 (F0 ps e) f sc r0 j K' ns (.slice a7 (j+1) c7) sv2 (.slice (some ⟨g,0,none⟩) m c0) Ds (A.lb j) (A.xb j) (A.xo j) nb mb b7 bs wc)
          case first =>
           have B7:Hid (Below W7.heap.size W7 ((W7.alloc (.cells #[.pointer (some ⟨A.lb j,0,none⟩)] 114)).drew)):=((Below.refl _ _).alloc (Nat.le_refl _) _).drew
           have X7:=zh (show ((W7.alloc (.cells #[.pointer (some ⟨A.lb j,0,none⟩)] 114)).drew).heap[W7.heap.size]?=some (.cells #[.pointer (some ⟨A.lb j,0,none⟩)] 114 (0,0)) from heap_alloc_new W7 (.cells #[.pointer (some ⟨A.lb j,0,none⟩)] 114))
           have S7a:=zh (S7.out.grow B7.out)
           have E7a:=zh (E7.out.grow B7.out S7.out.k.rho)
           obtain⟨i2,hi2,hz2a,hz2b,hz2c⟩:=info_parts Tryz.info114
           have HI2:=zh (And.intro hi2 (And.intro hz2a (And.intro hz2b hz2c)))
           clear hi2 hz2a hz2b hz2c
           have NEWS7:Hid (∀ (q:Nat) (u:Value),[Value.pointer (some ⟨A.lb j,0,none⟩)][q]?=some u→((W7.alloc (.cells #[.pointer (some ⟨A.lb j,0,none⟩)] 114)).drew).cell? ((⟨W7.heap.size,0,none⟩:Addr).add q)=some u):=fun q u hu=>by
            rw [Addr.add_lit,cell_of_row _ _ _ _ _ _ X7.out]
            match q,hu with
            | 0,hu=>simpa using hu
            | q+1,hu=>simp at hu
           have ONE7:Hid (∀ u∈[Value.pointer (some ⟨A.lb j,0,none⟩)],u.oneCell'=true):=fun u hu=>by simp at hu;subst hu;rfl
           refine wp_region_noPanic ?_
           refine wp_region_held_drew (S:=(fun w'=>w'.cell? ⟨b7,0,none⟩=some (.pointer (some ⟨A.lb j,0,none⟩)))) (by kernel_rfl) z6 (fun hHeld=>?_)
           have k0:=hHeld
           refine wpAnyH_take (i:=0) (v:=?_) rfl (by kernel_rfl) (by kernel_rfl) (by kernel_rfl) (fun _ _ _ h=>h) (Or.inl ⟨by rfl,?_⟩) k0 ?_
           rotate_left
           ·intro wz hSw
            have zk0:=hSw
            try simp only [zq1,zq2,zq3]
            go_simp
            try with_reducible rfl
           try simp only [Act.put,zq1,zq2,zq3,zq4,zq5,zq6]
           refine wpAnyH_take (i:=1) (v:=?_) rfl (by kernel_rfl) (by kernel_rfl) (by kernel_rfl) (fun _ _ _ h=>h) (Or.inl ⟨by rfl,?_⟩) k0 ?_
           rotate_left
           ·intro wz hSw
            have zk0:=hSw
            try simp only [zq1,zq2,zq3]
            go_simp
            try with_reducible rfl
           try simp only [Act.put,zq1,zq2,zq3,zq4,zq5,zq6]
           refine wpAnyH_take (i:=2) (v:=?_) rfl (by kernel_rfl) (by kernel_rfl) (by kernel_rfl) (fun _ _ _ h=>h) (Or.inl ⟨by rfl,?_⟩) k0 ?_
           rotate_left
           ·intro wz hSw
            have zk0:=hSw
            try simp only [zq1,zq2,zq3]
            go_simp
            try with_reducible rfl
           try simp only [Act.put,zq1,zq2,zq3,zq4,zq5,zq6]
           refine wpAnyH_take (i:=3) (v:=?_) rfl (by kernel_rfl) (by kernel_rfl) (by kernel_rfl) (fun _ _ _ h=>h) (Or.inl ⟨by rfl,?_⟩) k0 ?_
           rotate_left
           ·intro wz hSw
            have zk0:=hSw
            try simp only [zq1,zq2,zq3]
            go_simp
            try with_reducible rfl
           try simp only [Act.put,zq1,zq2,zq3,zq4,zq5,zq6]
           refine wpAnyH_take (i:=5) (v:=?_) rfl (by kernel_rfl) (by kernel_rfl) (by kernel_rfl) (fun _ _ _ h=>h) (Or.inl ⟨by rfl,?_⟩) k0 ?_
           rotate_left
           ·intro wz hSw
            have zk0:=hSw
            try simp only [zq1,zq2,zq3]
            go_simp
            try with_reducible rfl
           try simp only [Act.put,zq1,zq2,zq3,zq4,zq5,zq6]
           refine wpAnyH_take (i:=6) (v:=?_) rfl (by kernel_rfl) (by kernel_rfl) (by kernel_rfl) (fun _ _ _ h=>h) (Or.inl ⟨by rfl,?_⟩) k0 ?_
           rotate_left
           ·intro wz hSw
            have zk0:=hSw
            try simp only [zq1,zq2,zq3]
            go_simp
            try with_reducible rfl
           try simp only [Act.put,zq1,zq2,zq3,zq4,zq5,zq6]
           refine wpAnyH_ready (rs:=[4,7]) (by kernel_rfl) (by simp) ?_
           refine AllReadyH.cons rfl (fun K hK=>?_) (AllReadyH.cons rfl (fun K hK=>?_) AllReadyH.nil)
           ·try simp only [zq1,zq2,zq3]
            go_simp
            refine hK.out _ _ ?hs (fun hHeld=>?_)
            case hs=>exact k0
            clear hK K k0
            have k0:=hHeld
            try simp only [Act.put,zq1,zq2,zq3,zq4,zq5,zq6]
            refine wpAnyH_ready (rs:=[7]) (by kernel_rfl) (by simp) ?_
            refine AllReadyH.cons rfl (fun K hK=>?_) AllReadyH.nil
            try simp only [zq1,zq2,zq3]
            go_simp
            refine hK.out _ _ ?hs (fun hHeld=>?_)
            case hs=>first | exact Lib.cell?_alloc_some _ k0 | go_keep
            clear hK K k0
            have k0:=hHeld
            try simp only [Act.put,zq1,zq2,zq3,zq4,zq5,zq6]
            refine wpAnyH_ready (rs:=[8]) (by kernel_rfl) (by simp) ?_
            refine AllReadyH.cons rfl (fun K hK=>?_) AllReadyH.nil
            (refine step_append_rr rfl _ _ 106 rfl 114 i2 (.pointer none) 1 8 Tryz.underlying106 HI2.out.1 HI2.out.2.1 HI2.out.2.2.1 HI2.out.2.2.2 rfl (by decide) ρ7 6 (.slice la j lc) j _ rfl S7a.out.rl S7a.out.k.rho ⟨W7.heap.size,0,none⟩ 1 1 [.pointer (some ⟨A.lb j,0,none⟩)] rfl rfl NEWS7.out ONE7.out L6a.out L6b.out ?_)
            (intro a8 c8 w8 ρ8 hr8 hc8 hf8)
            (have R8:=zh hr8)
            (have C8:=zh hc8)
            (clear hr8 hc8 hf8)
            (have fb8:=C8.out.keep S7a.out.nms.fb (by rw [S7a.out.nms.rf];decide))
            (have d8:=C8.out.keep E7a.out.d7 (by rw [E7a.out.r7];decide))
            (have t0:w8.cell? ⟨b7,0,none⟩=some (.pointer (some ⟨A.lb j,0,none⟩)):=by (rw [cell_of_row _ _ 0 _ _ _ d8];rfl))
            (have t1:w8.cell? ⟨f,1,none⟩=some (.slice la j lc):=by (rw [cell_of_row _ _ 1 _ _ _ fb8];rfl))
            (have t2:w8.frozen? ⟨f,1,none⟩=false:=frozen_of_row _ _ 1 _ _ fb8)
            (have FB8:=zh fb8)
            (clear fb8 d8)
            (try simp only [])
            refine hK.out _ _ ?hs (fun hHeld=>?_)
            case hs=>exact t0
            clear hK K k0
            have k0:=hHeld
            try simp only [Act.put,zq1,zq2,zq3,zq4,zq5,zq6]
            refine wpAnyH_take (i:=9) (v:=?_) rfl (by kernel_rfl) (by kernel_rfl) (by kernel_rfl) (fun _ _ _ h=>h) (Or.inl ⟨by rfl,?_⟩) k0 ?_
            rotate_left
            ·intro wz hSw
             have zk0:=hSw
             try simp only [zq1,zq2,zq3]
             go_simp
             try with_reducible rfl
            try simp only [Act.put,zq1,zq2,zq3,zq4,zq5,zq6]
            refine wpAnyH_take (i:=10) (v:=?_) rfl (by kernel_rfl) (by kernel_rfl) (by kernel_rfl) (fun _ _ _ h=>h) (Or.inl ⟨by rfl,?_⟩) k0 ?_
            rotate_left
            ·intro wz hSw
             have zk0:=hSw
             try simp only [zq1,zq2,zq3]
             go_simp
             try with_reducible rfl
            try simp only [Act.put,zq1,zq2,zq3,zq4,zq5,zq6]
            refine wpAnyH_ready (rs:=[11]) (by kernel_rfl) (by simp) ?_
            refine AllReadyH.cons rfl (fun K hK=>?_) AllReadyH.nil
            try simp only [zq1,zq2,zq3]
            go_simp
            refine hK.out _ _ ?hs (fun hHeld=>?_)
            case hs=>first | assumption | go_keep
            clear hK K hHeld k0
            refine wpAnyH_done (by kernel_rfl) ?_ _
            refine NoPanic.normal ?_
            go_wp2_with fail
            go_meet
            case rel=>exact⟨ρ8,_,S7a.out.pushLink C8.out (by have h:=R8.out;rw [EA.out.1] at h ⊢;exact h),E7a.out.pushed C8.out (by decide) FB8.out ((C8.out.keepRole S7a.out.nms.fb).trans S7a.out.nms.rf)⟩
           ·try simp only [zq1,zq2,zq3]
            go_simp
            refine hK.out _ _ ?hs (fun hHeld=>?_)
            case hs=>first | exact Lib.cell?_alloc_some _ k0 | go_keep
            clear hK K k0
            have k0:=hHeld
            try simp only [Act.put,zq1,zq2,zq3,zq4,zq5,zq6]
            have zl:=Lib.cell?_alloc_some (Obj.cells #[.int .i64 0] 3) x1
            clear zl
            refine wpAnyH_ready (rs:=[4]) (by kernel_rfl) (by simp) ?_
            refine AllReadyH.cons rfl (fun K hK=>?_) AllReadyH.nil
            try simp only [zq1,zq2,zq3]
            go_simp
            refine hK.out _ _ ?hs (fun hHeld=>?_)
            case hs=>exact k0
            clear hK K k0
            have k0:=hHeld
            try simp only [Act.put,zq1,zq2,zq3,zq4,zq5,zq6]
            refine wpAnyH_ready (rs:=[8]) (by kernel_rfl) (by simp) ?_
            refine AllReadyH.cons rfl (fun K hK=>?_) AllReadyH.nil
            (refine step_append_rr rfl _ _ 106 rfl 114 i2 (.pointer none) 1 8 Tryz.underlying106 HI2.out.1 HI2.out.2.1 HI2.out.2.2.1 HI2.out.2.2.2 rfl (by decide) ρ7 6 (.slice la j lc) j _ rfl S7a.out.rl S7a.out.k.rho ⟨W7.heap.size,0,none⟩ 1 1 [.pointer (some ⟨A.lb j,0,none⟩)] rfl rfl NEWS7.out ONE7.out L6a.out L6b.out ?_)
            (intro a8 c8 w8 ρ8 hr8 hc8 hf8)
            (have R8:=zh hr8)
            (have C8:=zh hc8)
            (clear hr8 hc8 hf8)
            (have fb8:=C8.out.keep S7a.out.nms.fb (by rw [S7a.out.nms.rf];decide))
            (have d8:=C8.out.keep E7a.out.d7 (by rw [E7a.out.r7];decide))
            (have t0:w8.cell? ⟨b7,0,none⟩=some (.pointer (some ⟨A.lb j,0,none⟩)):=by (rw [cell_of_row _ _ 0 _ _ _ d8];rfl))
            (have t1:w8.cell? ⟨f,1,none⟩=some (.slice la j lc):=by (rw [cell_of_row _ _ 1 _ _ _ fb8];rfl))
            (have t2:w8.frozen? ⟨f,1,none⟩=false:=frozen_of_row _ _ 1 _ _ fb8)
            (have FB8:=zh fb8)
            (clear fb8 d8)
            (try simp only [])
            refine hK.out _ _ ?hs (fun hHeld=>?_)
            case hs=>exact t0
            clear hK K k0
            have k0:=hHeld
            try simp only [Act.put,zq1,zq2,zq3,zq4,zq5,zq6]
            refine wpAnyH_take (i:=9) (v:=?_) rfl (by kernel_rfl) (by kernel_rfl) (by kernel_rfl) (fun _ _ _ h=>h) (Or.inl ⟨by rfl,?_⟩) k0 ?_
            rotate_left
            ·intro wz hSw
             have zk0:=hSw
             try simp only [zq1,zq2,zq3]
             go_simp
             try with_reducible rfl
            try simp only [Act.put,zq1,zq2,zq3,zq4,zq5,zq6]
            refine wpAnyH_take (i:=10) (v:=?_) rfl (by kernel_rfl) (by kernel_rfl) (by kernel_rfl) (fun _ _ _ h=>h) (Or.inl ⟨by rfl,?_⟩) k0 ?_
            rotate_left
            ·intro wz hSw
             have zk0:=hSw
             try simp only [zq1,zq2,zq3]
             go_simp
             try with_reducible rfl
            try simp only [Act.put,zq1,zq2,zq3,zq4,zq5,zq6]
            refine wpAnyH_ready (rs:=[11]) (by kernel_rfl) (by simp) ?_
            refine AllReadyH.cons rfl (fun K hK=>?_) AllReadyH.nil
            try simp only [zq1,zq2,zq3]
            go_simp
            refine hK.out _ _ ?hs (fun hHeld=>?_)
            case hs=>first | assumption | go_keep
            clear hK K hHeld k0
            refine wpAnyH_done (by kernel_rfl) ?_ _
            refine NoPanic.normal ?_
            go_wp2_with fail
            go_meet
            case rel=>exact⟨ρ8,_,S7a.out.pushLink C8.out (by have h:=R8.out;rw [EA.out.1] at h ⊢;exact h),E7a.out.pushed C8.out (by decide) FB8.out ((C8.out.keepRole S7a.out.nms.fb).trans S7a.out.nms.rf)⟩
          case rest =>
           obtain⟨ρ8,sl8,hS8,hE8⟩:=hcut
           have S8:=zh hS8
           have E8:=zh hE8
           have z10:wc.cell? ⟨nb,0,none⟩=some (.pointer (some ⟨A.xb j,A.xo j,none⟩)):=by rw [cell_of_row _ _ 0 _ _ _ hE8.node];rfl
           obtain⟨kl,hkl⟩:∃ kl,kl=e1.kids.length:=⟨_,rfl⟩
           have HKL2:=zh hkl
           clear hS8 hE8 z6 x1 bb1 bb2 bb3 hkl
           go_wp2_with fail
           refine(bindings_any (w0:=w) TE0.out (kept_below S8.out.k.below) z10 HFM.out).mono ?_
           rintro en w9 ⟨a9,c9,L,rfl,hks9,hb9⟩
           rw [← HKL2.out]
           have KS9:=zh hks9
           have B9:=zh hb9
           have hnd9:=heap_below hb9 E8.out.node
           have z11:w9.cell? ⟨nb,1,none⟩=some (.slice none 0 0):=by rw [cell_of_row _ _ 1 _ _ _ hnd9];rfl
           have z12:w9.frozen? ⟨nb,1,none⟩=false:=frozen_of_row _ _ 1 _ _ hnd9
           have ND9:=zh hnd9
           clear hks9 hb9 hnd9 z10
           go_upto_region 20 with (fail)
           obtain⟨W9,hW9⟩:∃ W,W=w9.setCell ⟨nb,1,none⟩ (.slice a9 kl c9):=⟨_,rfl⟩
           rw [← hW9]
           obtain⟨KN,hKN⟩:∃ KN,KN=nums (j+1) e1.kids:=⟨_,rfl⟩
           obtain⟨hS10,hM10,hROW,hKID,z13,hKL3⟩:=round_next S8.out E8.out EA.out NBM.out LST.out HK.out.1 NEQ.out TE0.out LNX.out KS9.out B9.out HKL2.out hKN hW9
           obtain⟨A10,hA10⟩:∃ A10,A10=A5.more KN L:=⟨_,rfl⟩
           obtain⟨ρ10,hρ10⟩:∃ ρ10,ρ10=linked ρ8 L:=⟨_,rfl⟩
           rw [← hA10] at hS10 hROW hKID
           rw [← hρ10] at hS10 hM10 hROW
           have S10:=zh hS10
           have M10:=zh hM10
           have ROW:=zh hROW
           have KID:=zh hKID
           have HKL3:=zh hKL3
           have HKN3:=zh hKN
           clear hW9 z11 z12 hKN hA10 hρ10 hS10 hM10 hROW hKID hKL3
           go_wp2_with fail
           refine(backward_any (.slice a9 kl c9) rfl W9 a9 kl c9 rfl).mono ?_
           rintro en w10 ⟨rfl,rfl⟩
           clear z13
           go_wp2_with fail
           obtain⟨hBI0,⟨g9,o9,hg9⟩,hVB⟩:=BI.start S10.out M10.out ROW.out HKL3.out
           obtain⟨ib,hib⟩:∃ ib,ib=W9.heap.size:=⟨_,rfl⟩
           obtain⟨V0,hV0⟩:∃ V,V=W9.alloc (Obj.cells #[.slice a9 kl c9] 106):=⟨_,rfl⟩
           rw [← hib,← hV0]
           rw [← hib,← hV0] at hBI0
           rw [← hV0] at hVB
           have BI0:=zh hBI0
           have G9:=zh hg9
           have VB:=zh hVB
           have KLZ:Hid (kl≤16):=zh (show kl≤16 from HKL2.out ▸ form_few HFM.out)
           clear hib hV0 hg9 hBI0 hVB
           refine range_outer (P:=Tryz.prog) (n:=1) (B:=V0.heap.size) (m:=kl) (encs:=bkEnc kl (fun k=>A10.lb (KN.getD k 0))) (I:=fun cnt W=>BI w A10 (F0 ps e) f sc r0 j KN K' ns sl8 (.slice a7 (j+1) c7) sv2 Ds ib a9 kl c9 cnt W) (X:=BX isName w ps e r0 Ds)
            (A:=fun cnt a W=>∃ x135:Value,a={ tmps := #[Value.pointer (some { block:=b,off:=o }),undef,Value.pointer (some { block:=r0,off:=0 }),Value.pointer (some { block:=f,off:=0 }),u4,u5,Value.pointer (some { block:=sc,off:=0 }),Value.pointer (some { block:=b7,off:=0 }),Value.pointer (some { block:=nb,off:=0 }),u9,Value.pointer (some ⟨A10.lb (KN.getD (kl - 1 - cnt) 0),0,none⟩),u11,u12,u13,u14,u15,u16,u17,u18,u19,u20,u21,u22,u23,u24,u25,u26,u27,u28,u29,u30,u31,u32,u33,u34,u35,u36,u37,u38,u39,u40,u41,u42,u43,u44,u45,u46,u47,u48,u49,u50,u51,u52,u53,u54,u55,u56,u57,u58,u59,u60,u61,u62,u63,u64,u65,u66,u67,u68,u69,u70,u71,u72,u73,u74,u75,u76,u77,u78,u79,u80,u81,u82,u83,u84,u85,u86,u87,u88,u89,u90,u91,u92,u93,u94,u95,u96,u97,u98,u99,u100,u101,u102,u103,u104,u105,u106,u107,u108,u109,u110,u111,u112,u113,u114,u115,u116,u117,u118,u119,u120,u121,u122,u123,u124,Value.pointer (some { block:=nb,off:=0 }),Value.pointer (some { block:=nb,off:=0 }),Value.slice a9 kl c9,Value.pointer (some { block:=nb,off:=0 }),Value.pointer (some { block:=nb,off:=1 }),Value.pointer (some { block:=nb,off:=0 }),Value.pointer (some { block:=nb,off:=0 }),Value.pointer (some { block:=nb,off:=1 }),Value.slice a9 kl c9,Value.func (Fn.func 112) #[] #[Value.pointer (some { block:=ib,off:=0 })],x135,Value.pointer (some ⟨A10.lb (KN.getD (kl - 1 - cnt) 0),0,none⟩),u137,u138,u139,u140,u141,u142,u143,u144,u145,u146,u147,u148,u149,u150,u151,u152,u153,u154,u155,u156],defers:=[] })
            (Rd:=BkRd ib a9 c9 g9 o9 kl (fun k=>A10.lb (KN.getD k 0))) rfl (enters_of Tryz.func112 (by kernel_rfl) rfl) (back_iter _ _ _ _ _ _ _ G9.out (Nat.le_trans KLZ.out (by decide))) (Nat.le_refl _) ?rd (fun j W W' h b=>h.bk b VB.out.1 VB.out.2) (fun W W' h b=>h.bk b VB.out.1 VB.out.2) (fun j a W W' h b=>h) (fun j W W' h b=>h.grow b) (fun _=>rfl) BI0.out ?assign ?body ?done ?stop
           case rd=>intro cnt W h;exact h.reads G9.out
           case assign =>
            intro l cnt W hI hc
            unfold bkEnc
            simp only [List.zip_toArray,List.zip_cons_cons,List.zip_nil_left,List.foldl_toArray',List.foldl_cons,List.foldl_nil,zq4,zq6,zq5]
            clear hI
            gi_wp2
            exact⟨Below.refl _ _,_,rfl⟩
           case body =>
            rintro l cnt a1 W hl ⟨rr1,hr1⟩ hI ⟨x135,rfl⟩ hc
            obtain⟨ρb,vsb,q,hSb,hMb,hIb,hib,hRb,hFb,hCb,hqb,hgb,hdb⟩:=hI.openUp HKL3.out hc
            rw [hgb]
            have HSb:=zh hSb
            have HMb:=zh hMb
            have HIb:=zh (And.intro hIb (And.intro hib (And.intro hRb (And.intro hFb hCb))))
            have HQb:=zh (And.intro hqb hdb)
            have HCN:=zh hc
            obtain⟨_,snv,xv,hlk,hrn,hxx⟩:=hSb.k.link q (.inr (List.mem_append_left _ (List.mem_of_getElem? hqb)))
            obtain⟨_,sna,snc,rfl,_⟩:=hrn
            have hqr:=nums_range (show q∈nums (j+1) e1.kids by rw [← HKN3.out];exact List.mem_of_getElem? hqb)
            rw [if_neg (Nat.not_lt.2 hqr.1),hxx (Nat.lt_of_lt_of_le (Nat.succ_pos j) hqr.1)] at hlk
            obtain⟨bl,hbl⟩:∃ bl,bl=(nd (F0 ps e) q).binds.length:=⟨_,rfl⟩
            rw [← hbl] at hlk
            have HBL:=zh hbl
            have HLK:=zh hlk
            have x0:W.cell? ⟨A10.lb q,0,none⟩=some (.slice sna bl snc):=by rw [cell_of_row _ _ 0 _ _ _ hlk];rfl
            have x1:W.cell? ⟨A10.lb q,1,none⟩=some (.pointer (some ⟨A10.xb q,A10.xo q,none⟩)):=by rw [cell_of_row _ _ 1 _ _ _ hlk];rfl
            clear hI hSb hMb hIb hib hRb hFb hCb hqb hgb hdb hlk hxx hqr hbl hl
            by_cases h16:bl≤16
            ·have d16b:decide (16<(bl:Int))=false:=by simp;omega
             have H16b:=zh h16
             clear h16
             gi_wp2
             have hmx:Tryz.prog.follows .mixedOrders=true:=by kernel_rfl
             obtain⟨as9,cs9,hvsb⟩:=HSb.out.stk.shape
             obtain⟨TT,hTT⟩:∃ T,T=KN.drop (kl - cnt)++K':=⟨_,rfl⟩
             obtain⟨tl,htl⟩:∃ tl,tl=TT.length:=⟨_,rfl⟩
             rw [← hTT] at hvsb HSb
             rw [← htl] at hvsb
             subst hvsb
             have hTL:Hid (tl≤400000):=stack_few htl hTT HKL3.out HK.out.1 LSL.out HJ20.out KLZ.out
             have y6:W.cell? ⟨sc,0,none⟩=some (.slice as9 tl cs9):=by rw [cell_of_row _ _ 0 _ _ _ HSb.out.sck];rfl
             have hsW:sc<W.heap.size:=World.block_lt_of_cell? W _ y6
             have HT2:=zh (And.intro hTT htl)
             have BW:Hid (Below W.heap.size W ((W.alloc (.cells #[.pointer (some ⟨A10.lb q,0,none⟩),.pointer (some ⟨A10.xb q,A10.xo q,none⟩)] 159)).drew)):=((Below.refl _ _).alloc (Nat.le_refl _) _).drew
             have XW:=zh (show ((W.alloc (.cells #[.pointer (some ⟨A10.lb q,0,none⟩),.pointer (some ⟨A10.xb q,A10.xo q,none⟩)] 159)).drew).heap[W.heap.size]?=some (.cells #[.pointer (some ⟨A10.lb q,0,none⟩),.pointer (some ⟨A10.xb q,A10.xo q,none⟩)] 159 (0,0)) from heap_alloc_new W (.cells #[.pointer (some ⟨A10.lb q,0,none⟩),.pointer (some ⟨A10.xb q,A10.xo q,none⟩)] 159))
             have SW:=zh (HSb.out.grow BW.out)
             have NW:Hid (∀ (i:Nat) (u:Value),[Value.pointer (some ⟨A10.lb q,0,none⟩),.pointer (some ⟨A10.xb q,A10.xo q,none⟩)][i]?=some u→((W.alloc (.cells #[.pointer (some ⟨A10.lb q,0,none⟩),.pointer (some ⟨A10.xb q,A10.xo q,none⟩)] 159)).drew).cell? ((⟨W.heap.size,0,none⟩:Addr).add i)=some u):=fun i u hu=>by
              rw [Addr.add_lit,cell_of_row _ _ _ _ _ _ XW.out]
              match i,hu with
              | 0,hu=>simpa using hu
              | 1,hu=>simpa using hu
              | i+2,hu=>simp at hu
             have OW:Hid (∀ u∈[Value.pointer (some ⟨A10.lb q,0,none⟩),.pointer (some ⟨A10.xb q,A10.xo q,none⟩)],u.oneCell'=true):=fun u hu=>by
              rcases List.mem_cons.1 hu with rfl | hu
              ·rfl
              ·rw [List.mem_singleton] at hu;subst hu;rfl
             have LWa:Hid (tl+1≤maxLen):=by have:=hTL.out;show _≤_;simp only [maxLen];omega
             have LWb:Hid ((tl+1)*16≤140737488355328):=by have:=hTL.out;show _≤_;omega
             obtain⟨i3,hi3,hz3a,hz3b,hz3c⟩:=info_parts Tryz.info159r
             have HI3:=zh (And.intro hi3 (And.intro hz3a (And.intro hz3b hz3c)))
             have LQL:Hid (A10.lb q≠sc):=fun e=>by have h1:=HLK.out;have h2:=HSb.out.sck;rw [e,h2] at h1;cases h1
             clear hTT htl hi3 hz3a hz3b hz3c x0
             refine wpIn_region_round (fun w'=>w'.cell? ⟨A10.lb q,1,none⟩=some (.pointer (some ⟨A10.xb q,A10.xo q,none⟩))) hmx (no_defers rfl) x1 ?_
             intro hHeld
             refine wpAnyH_take (i:=1) (v := .pointer (some ⟨A10.lb q,0,none⟩)) rfl (by kernel_rfl) (by kernel_rfl) (by kernel_rfl) (fun _ _ _ h=>h) (Or.inl ⟨by rfl,?_⟩) (by assumption) ?_
             ·(intro w hSw;(try dsimp only at hSw);go_simp)
             simp only [Act.put,zq4,zq5,zq6]
             refine wpAnyH_take (i:=2) (v := .pointer (some ⟨A10.lb q,0,none⟩)) rfl (by kernel_rfl) (by kernel_rfl) (by kernel_rfl) (fun _ _ _ h=>h) (Or.inl ⟨by rfl,?_⟩) (by assumption) ?_
             ·(intro w hSw;(try dsimp only at hSw);go_simp)
             simp only [Act.put,zq4,zq5,zq6]
             refine wpAnyH_take (i:=3) (v := .pointer (some ⟨A10.lb q,0,none⟩)) rfl (by kernel_rfl) (by kernel_rfl) (by kernel_rfl) (fun _ _ _ h=>h) (Or.inl ⟨by rfl,?_⟩) (by assumption) ?_
             ·(intro w hSw;(try dsimp only at hSw);go_simp)
             simp only [Act.put,zq4,zq5,zq6]
             refine wpAnyH_take (i:=4) (v := .pointer (some ⟨A10.lb q,1,none⟩)) rfl (by kernel_rfl) (by kernel_rfl) (by kernel_rfl) (fun _ _ _ h=>h) (Or.inl ⟨by rfl,?_⟩) (by assumption) ?_
             ·(intro w hSw;(try dsimp only at hSw);go_simp)
             simp only [Act.put,zq4,zq5,zq6]
             refine wpAnyH_take (i:=5) (v := .pointer (some ⟨A10.xb q,A10.xo q,none⟩)) rfl (by kernel_rfl) (by kernel_rfl) (by kernel_rfl) (fun _ _ _ h=>h) (Or.inl ⟨by rfl,?_⟩) (by assumption) ?_
             ·(intro w hSw;(try dsimp only at hSw);go_simp)
             simp only [Act.put,zq4,zq5,zq6]
             refine wpAnyH_take (i:=6) (v := .agg #[.pointer (some ⟨A10.lb q,0,none⟩),.pointer (some ⟨A10.xb q,A10.xo q,none⟩)]) rfl (by kernel_rfl) (by kernel_rfl) (by kernel_rfl) (fun _ _ _ h=>h) (Or.inl ⟨by rfl,?_⟩) (by assumption) ?_
             ·(intro w hSw;(try dsimp only at hSw);go_simp)
             simp only [Act.put,zq4,zq5,zq6]
             refine wpAnyH_ready (rs:=[0,7]) (by kernel_rfl) (by simp) ?_
             refine AllReadyH.cons rfl (fun K hK=>?_) (AllReadyH.cons rfl (fun K hK=>?_) AllReadyH.nil)
             ·go_simp
              refine hK.out _ _ (by assumption) (fun hHeld2=>?_)
              clear hK K
              refine wpAnyH_ready (rs:=[7]) (by kernel_rfl) (by simp) ?_
              refine AllReadyH.cons rfl (fun K hK=>?_) AllReadyH.nil
              go_simp
              refine hK.out _ _ (kept_below BW.out _ _ x1) (fun hHeld3=>?_)
              clear hK K
              refine wpAnyH_ready (rs:=[8]) (by kernel_rfl) (by simp) ?_
              refine AllReadyH.cons rfl (fun K hK=>?_) AllReadyH.nil
              refine step_append_rr rfl _ _ 160 rfl 159 i3 (.agg #[.pointer none,.pointer none]) 2 16 Tryz.underlying160 HI3.out.1 HI3.out.2.1 HI3.out.2.2.1 HI3.out.2.2.2 rfl (by decide) ρb 10 (.slice as9 tl cs9) tl (todos A10 TT) rfl (by have h:=SW.out.stk;rw [← HT2.out.2] at h;exact h) SW.out.k.rho ⟨W.heap.size,0,none⟩ 1 1 [.pointer (some ⟨A10.lb q,0,none⟩),.pointer (some ⟨A10.xb q,A10.xo q,none⟩)] rfl rfl NW.out OW.out LWa.out LWb.out ?_
              intro a11 c11 w11 ρ11 hr11 hc11 hf11
              have fs11:=hc11.keep SW.out.sck (by rw [SW.out.rsc];decide)
              have fl11:=hc11.keep (heap_below BW.out HLK.out) (by have:=(HSb.out.k.link q (.inr (List.mem_append_left _ (List.mem_of_getElem? HQb.out.1)))).1;rw [this];decide)
              have t0:w11.cell? ⟨A10.lb q,1,none⟩=some (.pointer (some ⟨A10.xb q,A10.xo q,none⟩)):=by rw [cell_of_row _ _ 1 _ _ _ fl11];rfl
              have t1:w11.cell? ⟨sc,0,none⟩=some (.slice as9 tl cs9):=by rw [cell_of_row _ _ 0 _ _ _ fs11];rfl
              have t2:w11.frozen? ⟨sc,0,none⟩=false:=frozen_of_row _ _ 0 _ _ fs11
              refine hK.out _ _ t0 (fun hHeld4=>?_)
              clear hK K
              have FIN:=zh (BI.step (cnt:=cnt) HT2.out.1 HT2.out.2 HSb.out HMb.out HIb.out.1 HIb.out.2.1 HIb.out.2.2.1 HIb.out.2.2.2.1 HIb.out.2.2.2.2 HQb.out.1 HQb.out.2 (by rw [← HBL.out];exact H16b.out) HCN.out BW.out hc11 hr11)
              clear hr11 hc11 hf11 fs11 fl11
              refine wpAnyH_ready (rs:=[9]) (by kernel_rfl) (by simp) ?_
              refine AllReadyH.cons rfl (fun K hK=>?_) AllReadyH.nil
              go_simp
              refine hK.out _ _ (by rw [World.cell?_setCell_far _ _ _ _ (by show sc≠A10.lb q;exact fun e=>LQL.out e.symm)];exact t0) (fun hHeld5=>?_)
              clear hK K
              refine wpAnyH_done (by kernel_rfl) ?_ _
              refine OnlyN.done ?_
              clear t0 t1 t2 hHeld hHeld4 hHeld5
              gi_wp2
              exact FIN.out
             ·go_simp
              refine hK.out _ _ (kept_below BW.out _ _ x1) (fun hHeld3=>?_)
              clear hK K
              refine wpAnyH_ready (rs:=[0]) (by kernel_rfl) (by simp) ?_
              refine AllReadyH.cons rfl (fun K hK=>?_) AllReadyH.nil
              go_simp
              refine hK.out _ _ (by assumption) (fun hHeld6=>?_)
              clear hK K
              refine wpAnyH_ready (rs:=[8]) (by kernel_rfl) (by simp) ?_
              refine AllReadyH.cons rfl (fun K hK=>?_) AllReadyH.nil
              refine step_append_rr rfl _ _ 160 rfl 159 i3 (.agg #[.pointer none,.pointer none]) 2 16 Tryz.underlying160 HI3.out.1 HI3.out.2.1 HI3.out.2.2.1 HI3.out.2.2.2 rfl (by decide) ρb 10 (.slice as9 tl cs9) tl (todos A10 TT) rfl (by have h:=SW.out.stk;rw [← HT2.out.2] at h;exact h) SW.out.k.rho ⟨W.heap.size,0,none⟩ 1 1 [.pointer (some ⟨A10.lb q,0,none⟩),.pointer (some ⟨A10.xb q,A10.xo q,none⟩)] rfl rfl NW.out OW.out LWa.out LWb.out ?_
              intro a11 c11 w11 ρ11 hr11 hc11 hf11
              have fs11:=hc11.keep SW.out.sck (by rw [SW.out.rsc];decide)
              have fl11:=hc11.keep (heap_below BW.out HLK.out) (by have:=(HSb.out.k.link q (.inr (List.mem_append_left _ (List.mem_of_getElem? HQb.out.1)))).1;rw [this];decide)
              have t0:w11.cell? ⟨A10.lb q,1,none⟩=some (.pointer (some ⟨A10.xb q,A10.xo q,none⟩)):=by rw [cell_of_row _ _ 1 _ _ _ fl11];rfl
              have t1:w11.cell? ⟨sc,0,none⟩=some (.slice as9 tl cs9):=by rw [cell_of_row _ _ 0 _ _ _ fs11];rfl
              have t2:w11.frozen? ⟨sc,0,none⟩=false:=frozen_of_row _ _ 0 _ _ fs11
              refine hK.out _ _ t0 (fun hHeld4=>?_)
              clear hK K
              have FIN:=zh (BI.step (cnt:=cnt) HT2.out.1 HT2.out.2 HSb.out HMb.out HIb.out.1 HIb.out.2.1 HIb.out.2.2.1 HIb.out.2.2.2.1 HIb.out.2.2.2.2 HQb.out.1 HQb.out.2 (by rw [← HBL.out];exact H16b.out) HCN.out BW.out hc11 hr11)
              clear hr11 hc11 hf11 fs11 fl11
              refine wpAnyH_ready (rs:=[9]) (by kernel_rfl) (by simp) ?_
              refine AllReadyH.cons rfl (fun K hK=>?_) AllReadyH.nil
              go_simp
              refine hK.out _ _ (by rw [World.cell?_setCell_far _ _ _ _ (by show sc≠A10.lb q;exact fun e=>LQL.out e.symm)];exact t0) (fun hHeld5=>?_)
              clear hK K
              refine wpAnyH_done (by kernel_rfl) ?_ _
              refine OnlyN.done ?_
              clear t0 t1 t2 hHeld hHeld4 hHeld5
              gi_wp2
              exact FIN.out
            ·have d16b:decide (16<(bl:Int))=true:=by simp;omega
             have NGb:Hid (¬ RG.Good isName ps e):=rd_none LRD.out (rd_kids (kids_not HKN3.out LST.out HQb.out.1 (by rw [← HBL.out];exact h16)) HJF.out)
             have y3:W.cell? ⟨r0,0,none⟩=some (.pointer none):=by rw [cell_of_row _ _ 0 _ _ _ HSb.out.res];rfl
             have y4:W.frozen? ⟨r0,0,none⟩=false:=frozen_of_row _ _ 0 _ _ HSb.out.res
             clear h16
             gi_wp2
             refine⟨(Kb.refl W).setCell HSb.out.res _,HSb.out.k.below.setCell (by have:=HR0.out;show _≤r0;rw [this];exact Nat.le_refl _) _,heap_setCell_same W _ 0 _ _ _ HSb.out.res,HMb.out.1,fun D hD=>⟨(HMb.out.2 D hD).1,?_⟩,NGb.out⟩
             exact(((HMb.out.setCell ⟨r0,0,none⟩ (.pointer none) HSb.out.res).2 D hD).2.2)
           case done =>
            intro D W hD hB hd
            have HBI:=zh hB
            have HDD:=zh hd
            have HDL:=zh hD
            obtain⟨as9,ns9,cs9,hvs9,hlp⟩:=BI.done (bs:=bs) (stk:=stk) (isName:=isName) hB HKN3.out HK.out.1 hd (Nat.le_trans VB.out.1 hD) (fun h=>Nat.lt_irrefl _ (Nat.lt_of_lt_of_le (VB.out.2 D h) hD)) HJ20.out LST.out LNX.out L16.out (names_next LNM.out HBK.out (L16.out j List.mem_cons_self) HND.out) (kids_next LSL.out HFM.out) (by rw [LRD.out];exact rd_next (Nat.ne_of_lt HJ20.out) HFM.out HBK.out (kids_all hB HKN3.out HKL3.out LST.out) HJF.out)
            have HLP:=zh hlp
            have y3:W.cell? ⟨sc,0,none⟩=some (.slice as9 ns9 cs9):=by rw [cell_of_row _ _ 0 _ _ _ hvs9];rfl
            clear hB hd hD hvs9 hlp
            go_wp2_with fail
            go_roundg ((F0 ps e).length - (j+1))
            case measure=>have h1:=LGK.out;have h2:=HJF.out;rw [h1];exact Nat.sub_lt_sub_left h2 (Nat.lt_succ_self j)
            case rel=>exact HLP.out
           case stop =>
            intro D W hD hB hd
            have HX:=zh hB
            have HDD:=zh hd
            have HDL:=zh hD
            have y3:W.cell? ⟨r0,0,none⟩=some (.pointer none):=by rw [cell_of_row _ _ 0 _ _ _ hB.2.1];rfl
            clear hB hd hD
            go_wp2_with fail
            have hnd:(D :: Ds).Nodup:=List.nodup_cons.2 ⟨fun h=>Nat.lt_irrefl _ (Nat.lt_of_lt_of_le (VB.out.2 D h) HDL.out),HX.out.2.2.1⟩
            refine leaves_marks (D :: Ds) W hnd (fun E hE=>?_) fun W' a1 a2 a3 a4 hsame=>?_
            ·rcases List.mem_cons.1 hE with rfl | hE
             ·exact HDD.out
             ·exact(HX.out.2.2.2.1 E hE).2
            ·have hnr:r0∉D :: Ds:=fun hm=>by
              have h2:=HX.out.2.1
              rcases List.mem_cons.1 hm with e2 | hm
              ·rw [e2,HDD.out] at h2;cases h2
              ·rw [(HX.out.2.2.2.1 _ hm).2] at h2;cases h2
             have u0:W'.cell? ⟨r0,0,none⟩=some (.pointer none):=by rw [cell_of_row _ _ 0 _ _ _ ((hsame _ hnr).trans HX.out.2.1)];rfl
             refine⟨.pointer none,by simp [results,Tryz.results58,go_sem,u0],HX.out.1.trans ⟨a1,a2,a3,Nat.le_of_eq a4.symm,fun q hq=>hsame q fun hm=>?_⟩,.inr ⟨HX.out.2.2.2.2,rfl⟩⟩
             rcases List.mem_cons.1 hm with e2 | hm
             ·subst e2;exact absurd (Nat.lt_of_lt_of_le hq (Nat.le_trans VB.out.1 HDL.out)) (Nat.lt_irrefl _)
             ·exact absurd (Nat.lt_of_lt_of_le hq (HX.out.2.2.2.1 q hm).1) (Nat.lt_irrefl _)
   ·have d16:decide (16<(n:Int))=true:=by simp;omega
    have z1:wr.cell? ⟨r0,0,none⟩=some (.pointer none):=by rw [cell_of_row _ _ 0 _ _ _ HIK.out.b0];rfl
    have z2:wr.frozen? ⟨r0,0,none⟩=false:=frozen_of_row _ _ 0 _ _ HIK.out.b0
    have H16:Hid (¬ RG.Good isName ps e):=fun hg=>by have:=hg.params;have:=HN.out;omega
    clear h16 ff fl
    go_wp2_with fail
    have u0:(wr.setCell ⟨r0,0,none⟩ (.pointer none)).cell? ⟨r0,0,none⟩=some (.pointer none):=by rw [cell_of_row _ _ 0 _ _ _ (heap_setCell_same wr _ 0 _ _ _ HIK.out.b0)];rfl
    exact⟨.pointer none,by simp [results,Tryz.results58,go_sem,u0],HIK.out.below.setCell (by have:=HR0.out;show _≤r0;omega) _,.inr ⟨H16.out,rfl⟩⟩
end Go.Proofs.YtnkahlloahgifaaGreatDoor
