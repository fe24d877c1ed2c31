/- 'RegsKept' answers true at every input and leaves its arguments alone. -/
import Derived.Test.YtnkahlloahgifaaGreatDoorVHdk
import Derived.Test.YtnkahlloahgifaaGreatDoorVQwk
set_option maxHeartbeats 16000000
set_option maxRecDepth 100000
set_option linter.unusedSimpArgs false
set_option linter.unusedVariables false
namespace Go.Proofs.YtnkahlloahgifaaGreatDoor.regsKept
open Go.Proofs.YtnkahlloahgifaaGreatDoor
open Go.ChangeShapes Go.WideShapes Go.ChangeAt Go.RowKit Go.Deep
open Go.Proofs.YtnkahlloahgifaaGreatDoor.Lx (laid7 env_of own start_met post_of_below returns_laid)
theorem fits64z {n:Int}(h:(Lit.int .i64 n).wf=true) : -9223372036854775808≤n∧n≤9223372036854775807:=by
 simpa [Lit.wf,IntKind.min,IntKind.max,IntKind.signed,IntKind.bits] using h
theorem open_ints {H:Type}{enc:TypeId×Value→H}{W:World}{v:Value}{d:DataW H}{p:List MemPlace}(h:DataW.Trod enc Tryz.prog W 0 (fun _=>true) true 40 v d p) (hs:∃ a n c,v = .slice a n c):∃ l:List Int,IsAt W v l∧(∀ z∈l,(Lit.int .i64 z).wf=true)∧l.length≤maxLen:=by
 obtain⟨fuel,hf⟩:=h
 obtain⟨a,n,c,rfl⟩:=hs
 replace hf:DataW.trod enc Tryz.prog W 0 (fun _=>true) true fuel 40 [Value.slice a n c]=some (d,p):=hf
 obtain⟨ad,len,cap,he,hl,hc,hat⟩:=trod_els Tryz.underlying40 hf
 simp only [Value.slice.injEq] at he
 obtain⟨rfl,rfl,rfl⟩:=he
 have key:∀ i,i<n→∃ s:Int,(Lit.int .i64 s).wf=true∧∃ x,a=some x∧W.cell? (x.add (i*1))=some (.int .i64 s):=fun i hi=>by
  obtain⟨x,m,ha,_,hel⟩:=hat (by omega)
  obtain⟨cs,y,hcl,hcell,ht⟩:=hel i hi
  rw [cells1.2.1] at hcl hcell
  obtain⟨c0,rfl⟩:∃ c0,cs=[c0]:=by
   match cs,hcl with
   | [c0],_=>exact⟨c0,rfl⟩
  obtain⟨s,hs,_,hz⟩:=DataW.trod_int Tryz.underlying3 ht
  simp at hs
  subst hs
  exact⟨s,hz,x,ha,hcell 0 (by decide)⟩
 obtain⟨ns,hns,hq⟩:=pick_list key
 refine⟨ns,⟨ints_length _,a,c,by rw [hns],fun h0=>?_⟩,fun x hx=>?_,by omega⟩
 ·obtain⟨x0,hx0⟩:∃ x,ns[0]?=some x:=⟨_,zq9 h0⟩
  obtain⟨_,x,ha,hc0⟩:=hq 0 x0 hx0
  obtain⟨g,o,rfl⟩:∃ g o,x=⟨g,o,none⟩:=plain_of (show W.cell? x=some _ from hc0)
  refine⟨g,o,ha,fun i s hs=>?_⟩
  have hil:i<ns.length:=by have:=(zq8.1 hs).1;rw [ints_length] at this;exact this
  have hsi:ns[i]?=some ns[i]:=zq9 hil
  rw [ints_at hsi,zt3] at hs
  subst hs
  obtain⟨_,x',ha',hca⟩:=hq i _ hsi
  rw [ha,zt3] at ha'
  subst ha'
  rw [add_plain,Nat.mul_one] at hca
  exact hca
 obtain⟨i,hi⟩:=List.mem_iff_getElem?.1 hx
 exact(hq i x hi).1
theorem lifted (os:Os) (started:os.Started) (H:Type) (enc:TypeId×Value→H) :
  ReturnsInHanded {} Tryz.checked os 11 .any (fun w args=>(Rows.regsKeptSpec.pre enc Tryz.prog Tryz.f11 [] false w args∧laidMetH Tryz.prog laid7 w)∧sizedMet enc Tryz.prog Tryz.f11 (OpenSpec.ofChange Rows.regsKeptSpec) false w args)
   (Rows.regsKeptSpec.post enc Tryz.prog Tryz.f11 false true false false):=by
 refine returns_laid (C:=Tryz.checked) (X:=fun w _=>laidMetH Tryz.prog laid7 w) (fun _ _ _ hh h=>h.of_heap hh) own started (by kernel_rfl) Tryz.func11
  (ChangeSpec.witness_shaped (enc:=enc) (C:=Tryz.checked) (os:=os) (X:=fun w _=>laidMetH Tryz.prog laid7 w) false (World.laidAll Tryz.prog os laid7) #[.agg #[.string ⟨#[]⟩,.bool false,.slice none 0 0,.int .i64 0,.string ⟨#[]⟩,.string ⟨#[]⟩,.int .i64 0,.int .i64 0,.slice none 0 0,.slice none 0 0,.slice none 0 0],.agg #[.int .i64 0,.slice none 0 0],.slice none 0 0] 8 (World.laidAll_os _ _ _) (World.shaped_of_ZipB (by kernel_rfl) (by kernel_rfl)) (by kernel_rfl) (by kernel_rfl) (by kernel_rfl) (start_met os _)) ?_
 intro W base args ds gs before hval0 hW hwt hL hsh
 have hval:∀ (j:Nat) t v,Tryz.f11.params[j]?=some t→args[j]?=some v→Value.okWide Tryz.prog W .any base t v:=hval0
 have hW':=hW
 obtain⟨p,q,hA0,hV,rfl,hfz,hnd⟩:=hW
 have hA:DataW.TrodAll enc Tryz.prog W 0 (fun _=>true) true Tryz.f11.params.toList args.toList ds p:=hA0
 rw [Tryz.params11] at hA hval hwt
 obtain⟨v0,vs0,d0,ds0,p0,q0,hargs,rfl,rfl,h0,r0⟩:=trodAll_cons hA
 obtain⟨v1,vs1,d1,ds1,p1,q1,rfl,rfl,rfl,h1,r1⟩:=trodAll_cons r0
 obtain⟨v2,vs2,d2,ds2,p2,q2,rfl,rfl,rfl,h2,r2⟩:=trodAll_cons r1
 obtain⟨rfl,rfl,rfl⟩:=trodAll_nil r2
 obtain rfl:args = #[v0,v1,v2]:=by cases args;simp_all
 obtain⟨rfl,rfl⟩:=trodVars_none hV
 obtain⟨ps,e,hf⟩:=fn_ok (env_of hL hsh) (hval 0 29 v0 rfl rfl) h0 (fun x hx=>by
  have:=List.all_eq_true.1 hwt x (weights_each (j:=0) (t:=29) (d:=d0) rfl rfl x hx)
  simpa using this)
 obtain⟨r1,u1,l1,hv1,-,hu1,-⟩:=open_alloc (hval 1 56 v1 rfl rfl) h1
 subst hv1
 obtain⟨l2,hi2,hb2,hl2⟩:=open_ints h2 (by obtain⟨a,n,c,e⟩:=okWide_slice Tryz.underlying40 (hval 2 40 v2 rfl rfl);exact⟨a,n,c,e⟩)
 clear hA0 hval0 hwt
 simp only [List.append_nil,List.nil_append] at hW'
 have hlt0:∀ x∈p0,x.block<W.heap.size:=fun x hx=>hW'.lt x (zr6 _ (hx))
 have hlt1:∀ x∈p1,x.block<W.heap.size:=fun x hx=>hW'.lt x (List.mem_append_right _ (zr6 _ (hx)))
 have hlt2:∀ x∈p2,x.block<W.heap.size:=fun x hx=>hW'.lt x (List.mem_append_right _ (List.mem_append_right _ (hx)))
 refine(kept_walk (env_of hL hsh) hf hu1 hi2 (by simpa [maxLen] using hl2) (fun z hz=>fits64z (hb2 z hz))).mono fun e W' ⟨he,hb⟩=>?_
 subst he
 exact⟨_,rfl,post_of_below (pa:=p0++(p1++p2)) (pv:=[]) hW' (fun _ _ _=>(trodAll_cons_mk (shut_bool Tryz.underlying4 _) trodAll_mk0)) (fun sp hsp=>by
   have:=(trodAll_cons_mk (WideElems.Trod_stays laidOut (by kernel_rfl) (of_decide_eq_true (by kernel_rfl)) h0 (fun x hx=>hb.same (hlt0 x hx)) (fun x hx=>hsp x (zr6 _ (hx)))) (trodAll_cons_mk (WideElems.Trod_stays laidOut (by kernel_rfl) (of_decide_eq_true (by kernel_rfl)) h1 (fun x hx=>hb.same (hlt1 x hx)) (fun x hx=>hsp x (List.mem_append_right _ (zr6 _ (hx))))) (trodAll_cons_mk (WideElems.Trod_stays laidOut (by kernel_rfl) (of_decide_eq_true (by kernel_rfl)) h2 (fun x hx=>hb.same (hlt2 x hx)) (fun x hx=>hsp x (List.mem_append_right _ (List.mem_append_right _ (hx))))) (trodAll_mk0 (enc:=enc) (P:=Tryz.prog) (w:=W') (base:=0) (spare:=sp) (held:=true)))))
   simp only [List.append_nil,List.nil_append] at this
   exact this) (fun _ _=>rfl) (by simp) hb
  (ok_one (by kernel_rfl) rfl (okWide_bool_mk Tryz.underlying4 _))⟩
theorem over:Rows.regsKeptRow.holds Tryz.pinned (OpenSpec.ofChange Rows.regsKeptSpec) :=
 OpenClaim.holds_of_wide 11 Tryz.f11 rfl rfl rfl rfl rfl rfl rfl ⟨rfl,rfl,rfl,rfl,rfl⟩ rfl rfl rfl rfl rfl (by kernel_rfl) Tryz.func11 closed
  (of_decide_eq_true (by kernel_rfl)) (by unfold Func.isWrapper;first | (rw [if_pos (by decide +kernel)];kernel_rfl) | (rw [if_neg (by decide +kernel)];exact⟨rfl,rfl⟩))
  (fun os started H enc _=>lifted os started H enc)
theorem proved:Rows.RegsKeptCardSaid :=
 Claim7.holds_tied_plain_at .later [] [.data,.data,.data,.data,.sentinel,.sentinel,.pinned] true (true, "9f62f6e722f8801bc68ba70b2a7c71f4c56b000e10878dc5e9c5d0776fa1e79f") true
  over (fun _ h=>by cases h) (by kernel_rfl) (fun _ h=>by cases h) regsKept_row_tie rfl ⟨rfl,rfl⟩ (by kernel_rfl) rfl
  (fun f fn hf hfn=>by
   obtain rfl:f=11:=Option.some.inj ((show Tryz.prog.funcNamed "restitch/restitchlaw16.RegsKept" = some 11 by kernel_rfl).symm.trans hf) |>.symm
   obtain rfl:fn=Tryz.f11:=(Option.some.inj (Tryz.func11.symm.trans hfn)).symm
   exact⟨by kernel_rfl,fun j t ht=>by
    rw [Tryz.params11] at ht
    have hm:t∈[29,56,40]:=by simpa using Array.mem_of_getElem? ht
    have hall:([29,56,40].all fun u => !Tryz.prog.wantsStandIn u)=true:=by kernel_rfl
    exact(show Tryz.prog.wantsStandIn t=false by simpa using List.all_eq_true.1 hall t hm)⟩)
  (by kernel_rfl)
#print axioms proved
end Go.Proofs.YtnkahlloahgifaaGreatDoor.regsKept
