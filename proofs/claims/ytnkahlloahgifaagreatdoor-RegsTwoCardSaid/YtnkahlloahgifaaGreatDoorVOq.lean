/- Part. -/
import Derived.Test.YtnkahlloahgifaaGreatDoorVOn
import Derived.Test.YtnkahlloahgifaaGreatDoorVDf
set_option linter.unusedSimpArgs false
set_option linter.unusedVariables false
namespace Go.Proofs.YtnkahlloahgifaaGreatDoor
open Go.ChangeShapes Go.WideShapes Go.ChangeAt Go.RowKit Go.Deep RG
theorem weights_each {H:Type}{P:Program}:∀ {ts:List TypeId}{ds:List (DataW H)}{j:Nat}{t:TypeId}{d:DataW H},ts[j]?=some t→ds[j]?=some d→∀ x∈d.weights P t,x∈DataW.weightsEach P ts ds
 | t :: ts,d :: ds,0,_,_,h1,h2,x,hx=>by
  simp only [List.getElem?_cons_zero,Option.some.injEq] at h1 h2
  subst h1 h2
  rw [DataW.weightsEach];exact zr6 _ hx
 | t :: ts,d :: ds,j+1,_,_,h1,h2,x,hx=>by
  rw [List.getElem?_cons_succ] at h1 h2
  rw [DataW.weightsEach];exact List.mem_append_right _ (weights_each h1 h2 x hx)
 | [],_,_,_,_,h1,_,_,_=>by simp at h1
 | _ :: _,[],_,_,_,_,h2,_,_=>by simp at h2
theorem bytes70:Tryz.prog.bytesOf 70=24:=by kernel_rfl
set_option maxRecDepth 100000 in
theorem open_fun_pl {H:Type}{enc:TypeId×Value→H}{W:World}{v:Value}{d:DataW H}{p:List MemPlace}{base:Nat}(hv:Value.okWide Tryz.prog W .any base 29 v) (h:DataW.Trod enc Tryz.prog W 0 (fun _=>true) true 29 v d p)
  (hw:∀ x∈d.weights Tryz.prog 29,x≤reachBytes) {ps:List Nm} {e:TE} (hf:TFunV W v ps e):ps.length*24≤140737488355328:=by
 obtain⟨nm,op,ch,pv,va,num,site,aa,ab,ca,cb,ga,oa,gb,ob,rfl,hp,-⟩:=hf
 obtain⟨ad,c,rfl,-⟩:=hp.at'
 obtain⟨fuel,hf⟩:=h
 replace hf:DataW.trod enc Tryz.prog W 0 (fun _=>true) true fuel 29 [Value.string nm,.bool ch,.slice ad ps.length c,.int .i64 e.kind,.string e.name,.string op,.int .i64 num,.int .i64 site,va,.slice aa e.arms.length ca,.slice ab e.body.length cb]=some (d,p):=hf
 obtain⟨fs,hu,hL⟩:=under29
 obtain⟨xs,m,rfl,hx,hcl,hxl,hg⟩:=DataW.trod_struct hu hf
 have hfs:fs.toList.map (·.type)=[9,4,22,27]:=by
  have:=congrArg (List.map Prod.fst) hL
  rw [List.map_map] at this
  exact this
 have h2:fs.toList[2]?.map (fun f=>(f.type,f.offset))=some (22,2):=by rw [← List.getElem?_map,hL];rfl
 obtain⟨f2,hf2,he2⟩:=Option.map_eq_some_iff.1 h2
 simp only [Prod.mk.injEq] at he2
 rw [Array.getElem?_toList] at hf2
 have g2:=hg 2 f2 hf2
 rw [he2.1,he2.2,cells1.2.2.2.1] at g2
 replace g2:DataW.trod enc Tryz.prog W 0 (fun _=>true) true m 22 [Value.slice ad ps.length c]=xs[2]?:=g2
 have hl2:2<xs.length:=by
  have:=(zq7.1 hf2).1
  omega
 rw [zq9 hl2] at g2
 simp only [Prod.mk.injEq] at hx
 obtain⟨rfl,rfl⟩:=hx
 have hwt:∀ x∈(xs[2]'hl2).1.weights Tryz.prog 22,x≤reachBytes:=fun x hx0=>by
  refine hw x ?_
  rw [DataW.weights,hu]
  simp only []
  rw [hfs]
  refine weights_each (j:=2) (t:=22) rfl ?_ x hx0
  rw [List.getElem?_map,zq9 hl2];rfl
 rcases DataW.trod_slice Tryz.underlying22 g2 with ⟨h0,_⟩|⟨a,len,cap,elems,rest,n,_,hcs,hx2,_,_,_,hel,_⟩
 ·simp only [List.cons.injEq,Value.slice.injEq,and_true] at h0
  rw [h0.2.1];decide
 ·simp only [List.cons.injEq,Value.slice.injEq,and_true] at hcs
  obtain⟨rfl,h3,rfl⟩:=hcs
  rw [hx2] at hwt
  have h4:=hwt ((elems.length+rest.length)*24) (by
   rw [DataW.weights,Tryz.underlying22]
   simp only [List.length_map,bytes70]
   exact zr7)
  unfold reachBytes at h4
  rw [h3,← hel]
  have:elems.length*24≤(elems.length+rest.length)*24:=Nat.mul_le_mul_right _ (by omega)
  omega
set_option maxRecDepth 100000 in
theorem fn_ok {H:Type}{enc:TypeId×Value→H}{W:World}{v:Value}{d:DataW H}{p:List MemPlace}{base:Nat}(hE:Lx.Env W) (hv:Value.okWide Tryz.prog W .any base 29 v) (h:DataW.Trod enc Tryz.prog W 0 (fun _=>true) true 29 v d p)
  (hw:∀ x∈d.weights Tryz.prog 29,x≤reachBytes):∃ ps e,FnOk Lx.Env isNm W v ps e:=by
 obtain⟨ps,e,hf,hs⟩:=open_fun hv h
 exact⟨ps,e,nlaw,hE,hf,hs,open_fun_pl hv h hw hf⟩
end Go.Proofs.YtnkahlloahgifaaGreatDoor
