/- 'RegsLives' answers true at every input and leaves its arguments alone. -/
import Derived.Test.YtnkahlloahgifaaGreatDoorVHai
import Derived.Test.YtnkahlloahgifaaGreatDoorVOq
import Derived.Test.YtnkahlloahgifaaGreatDoorVQsi
set_option maxHeartbeats 16000000
set_option maxRecDepth 100000
set_option linter.unusedSimpArgs false
set_option linter.unusedVariables false
namespace Go.Proofs.YtnkahlloahgifaaGreatDoor.regsLives
open Go.Proofs.YtnkahlloahgifaaGreatDoor
open Go.ChangeShapes Go.WideShapes Go.ChangeAt Go.RowKit Go.Deep
open Go.Proofs.YtnkahlloahgifaaGreatDoor.Lx (laid7 env_of own start_met post_of_below returns_laid)
theorem fits64z {n:Int}(h:(Lit.int .i64 n).wf=true) : -9223372036854775808≤n∧n≤9223372036854775807:=by
 simpa [Lit.wf,IntKind.min,IntKind.max,IntKind.signed,IntKind.bits] using h
theorem cells30:Tryz.prog.cellsOf 30=3:=by kernel_rfl
theorem under30:Tryz.prog.underlying 30=some (.array 3 3):=by kernel_rfl
theorem len3 {α:Type}{l:List α} (h:l.length=3):∃ a b c,l=[a,b,c]:=by
 match l,h with
 | [a,b,c],_=>exact⟨a,b,c,rfl⟩
theorem open_three {H:Type}{enc:TypeId×Value→H}{W:World}{v:Value}{d:DataW H}{p:List MemPlace}{base:Nat}(hv:Value.okWide Tryz.prog W .any base 30 v) (h:DataW.Trod enc Tryz.prog W 0 (fun _=>true) true 30 v d p) :
  ∃ n0 n1 n2:Int,v = .agg #[.int .i64 n0,.int .i64 n1,.int .i64 n2]∧(Lit.int .i64 n0).wf=true∧(Lit.int .i64 n1).wf=true∧(Lit.int .i64 n2).wf=true:=by
 simp only [Value.okWide,under30] at hv
 obtain⟨cs,rfl,hsz,-⟩:=hv
 obtain⟨fuel,hf⟩:=h
 replace hf:DataW.trod enc Tryz.prog W 0 (fun _=>true) true fuel 30 cs.toList=some (d,p):=hf
 obtain⟨xs,m,rfl,-,hcl,hxl,hg⟩:=DataW.trod_array under30 hf
 rw [cells30] at hcl
 obtain⟨a0,a1,a2,hcs⟩:=len3 hcl
 have g0:=hg 0 (by decide)
 have g1:=hg 1 (by decide)
 have g2:=hg 2 (by decide)
 rw [hcs,cells1.2.1,zq9 (by omega)] at g0 g1 g2
 obtain⟨n0,e0,_,w0⟩:=DataW.trod_int Tryz.underlying3 (show DataW.trod enc Tryz.prog W 0 (fun _=>true) true m 3 [a0]=some _ from g0)
 obtain⟨n1,e1,_,w1⟩:=DataW.trod_int Tryz.underlying3 (show DataW.trod enc Tryz.prog W 0 (fun _=>true) true m 3 [a1]=some _ from g1)
 obtain⟨n2,e2,_,w2⟩:=DataW.trod_int Tryz.underlying3 (show DataW.trod enc Tryz.prog W 0 (fun _=>true) true m 3 [a2]=some _ from g2)
 simp at e0 e1 e2
 subst e0 e1 e2
 refine⟨n0,n1,n2,?_,w0,w1,w2⟩
 congr 1
 apply Array.toList_inj.1
 rw [hcs]
theorem lifted (os:Os) (started:os.Started) (H:Type) (enc:TypeId×Value→H) :
  ReturnsInHanded {} Tryz.checked os 3 .any (fun w args=>(Rows.regsLivesSpec.pre enc Tryz.prog Tryz.f3 [] false w args∧laidMetH Tryz.prog laid7 w)∧sizedMet enc Tryz.prog Tryz.f3 (OpenSpec.ofChange Rows.regsLivesSpec) false w args)
   (Rows.regsLivesSpec.post enc Tryz.prog Tryz.f3 false true false false):=by
 refine returns_laid (C:=Tryz.checked) (X:=fun w _=>laidMetH Tryz.prog laid7 w) (fun _ _ _ hh h=>h.of_heap hh) own started (by kernel_rfl) Tryz.func3
  (ChangeSpec.witness_shaped (enc:=enc) (C:=Tryz.checked) (os:=os) (X:=fun w _=>laidMetH Tryz.prog laid7 w) false (World.laidAll Tryz.prog os laid7) #[.agg #[.string ⟨#[]⟩,.bool false,.slice none 0 0,.int .i64 0,.string ⟨#[]⟩,.string ⟨#[]⟩,.int .i64 0,.int .i64 0,.slice none 0 0,.slice none 0 0,.slice none 0 0],.agg #[.int .i64 0,.int .i64 0,.int .i64 0]] 8 (World.laidAll_os _ _ _) (World.shaped_of_ZipB (by kernel_rfl) (by kernel_rfl)) (by kernel_rfl) (by kernel_rfl) (by kernel_rfl) (start_met os _)) ?_
 intro W base args ds gs before hval0 hW hwt hL hsh
 have hval:∀ (j:Nat) t v,Tryz.f3.params[j]?=some t→args[j]?=some v→Value.okWide Tryz.prog W .any base t v:=hval0
 have hW':=hW
 obtain⟨p,q,hA0,hV,rfl,hfz,hnd⟩:=hW
 have hA:DataW.TrodAll enc Tryz.prog W 0 (fun _=>true) true Tryz.f3.params.toList args.toList ds p:=hA0
 rw [Tryz.params3] at hA hval hwt
 obtain⟨v0,vs0,d0,ds0,p0,q0,hargs,rfl,rfl,h0,r0⟩:=trodAll_cons hA
 obtain⟨v1,vs1,d1,ds1,p1,q1,rfl,rfl,rfl,h1,r1⟩:=trodAll_cons r0
 obtain⟨rfl,rfl,rfl⟩:=trodAll_nil r1
 obtain rfl:args = #[v0,v1]:=by cases args;simp_all
 obtain⟨rfl,rfl⟩:=trodVars_none hV
 obtain⟨ps,e,hf⟩:=fn_ok (env_of hL hsh) (hval 0 29 v0 rfl rfl) h0 (fun x hx=>by
  have:=List.all_eq_true.1 hwt x (weights_each (j:=0) (t:=29) (d:=d0) rfl rfl x hx)
  simpa using this)
 obtain⟨n0,n1,n2,hv1,wf0,wf1,wf2⟩:=open_three (hval 1 30 v1 rfl rfl) h1
 subst hv1
 clear hA0 hval0 hwt
 simp only [List.append_nil,List.nil_append] at hW'
 have hlt0:∀ x∈p0,x.block<W.heap.size:=fun x hx=>hW'.lt x (zr6 _ (hx))
 have hlt1:∀ x∈p1,x.block<W.heap.size:=fun x hx=>hW'.lt x (List.mem_append_right _ (hx))
 refine(lives_walk (env_of hL hsh) hf (fits64z wf0) (fits64z wf1) (fits64z wf2)).mono fun e W' ⟨he,hb⟩=>?_
 subst he
 exact⟨_,rfl,post_of_below (pa:=p0++p1) (pv:=[]) hW' (fun _ _ _=>(trodAll_cons_mk (shut_bool Tryz.underlying4 _) trodAll_mk0)) (fun sp hsp=>by
   have:=(trodAll_cons_mk (WideElems.Trod_stays laidOut (by kernel_rfl) (of_decide_eq_true (by kernel_rfl)) h0 (fun x hx=>hb.same (hlt0 x hx)) (fun x hx=>hsp x (zr6 _ (hx)))) (trodAll_cons_mk (WideElems.Trod_stays laidOut (by kernel_rfl) (of_decide_eq_true (by kernel_rfl)) h1 (fun x hx=>hb.same (hlt1 x hx)) (fun x hx=>hsp x (List.mem_append_right _ (hx)))) (trodAll_mk0 (enc:=enc) (P:=Tryz.prog) (w:=W') (base:=0) (spare:=sp) (held:=true))))
   simp only [List.append_nil,List.nil_append] at this
   exact this) (fun _ _=>rfl) (by simp) hb
  (ok_one (by kernel_rfl) rfl (okWide_bool_mk Tryz.underlying4 _))⟩
theorem over:Rows.regsLivesRow.holds Tryz.pinned (OpenSpec.ofChange Rows.regsLivesSpec) :=
 OpenClaim.holds_of_wide 3 Tryz.f3 rfl rfl rfl rfl rfl rfl rfl ⟨rfl,rfl,rfl,rfl,rfl⟩ rfl rfl rfl rfl rfl (by kernel_rfl) Tryz.func3 closed
  (of_decide_eq_true (by kernel_rfl)) (by unfold Func.isWrapper;first | (rw [if_pos (by decide +kernel)];kernel_rfl) | (rw [if_neg (by decide +kernel)];exact⟨rfl,rfl⟩))
  (fun os started H enc _=>lifted os started H enc)
theorem proved:Rows.RegsLivesCardSaid :=
 Claim7.holds_tied_plain_at .later [] [.data,.data,.data,.data,.sentinel,.sentinel,.pinned] true (true, "9f62f6e722f8801bc68ba70b2a7c71f4c56b000e10878dc5e9c5d0776fa1e79f") true
  over (fun _ h=>by cases h) (by kernel_rfl) (fun _ h=>by cases h) regsLives_row_tie rfl ⟨rfl,rfl⟩ (by kernel_rfl) rfl
  (fun f fn hf hfn=>by
   obtain rfl:f=3:=Option.some.inj ((show Tryz.prog.funcNamed "restitch/restitchlaw16.RegsLives" = some 3 by kernel_rfl).symm.trans hf) |>.symm
   obtain rfl:fn=Tryz.f3:=(Option.some.inj (Tryz.func3.symm.trans hfn)).symm
   exact⟨by kernel_rfl,fun j t ht=>by
    rw [Tryz.params3] at ht
    have hm:t∈[29,30]:=by simpa using Array.mem_of_getElem? ht
    have hall:([29,30].all fun u => !Tryz.prog.wantsStandIn u)=true:=by kernel_rfl
    exact(show Tryz.prog.wantsStandIn t=false by simpa using List.all_eq_true.1 hall t hm)⟩)
  (by kernel_rfl)
#print axioms proved
end Go.Proofs.YtnkahlloahgifaaGreatDoor.regsLives
