/- Part. -/
import Derived.Test.YtnkahlloahgifaaGreatDoorVOn
import Derived.Test.YtnkahlloahgifaaGreatDoorVLxG
set_option linter.unusedSimpArgs false
set_option linter.unusedVariables false
namespace Go.Proofs.YtnkahlloahgifaaGreatDoor
open Go.ChangeShapes Go.WideShapes Go.ChangeAt Go.RowKit Go.Deep RG
section
variable {H:Type} {enc:TypeId×Value→H} {W:World}
theorem cells61:Tryz.prog.cellsOf 61=2:=by kernel_rfl
theorem cells56:Tryz.prog.cellsOf 56=2:=by kernel_rfl
theorem cells54:Tryz.prog.cellsOf 54=1:=by kernel_rfl
theorem under61:∃ fs:Array Field,Tryz.prog.underlying 61=some (.struct fs)∧fs.toList.map (fun f=>(f.type,f.offset))=[(9,0),(3,1)]:=⟨_,Tryz.underlying61,by kernel_rfl⟩
theorem under56:∃ fs:Array Field,Tryz.prog.underlying 56=some (.struct fs)∧fs.toList.map (fun f=>(f.type,f.offset))=[(3,0),(54,1)]:=⟨_,Tryz.underlying56,by kernel_rfl⟩
def VrWf (l:List (Nm×Int)):Prop:=(∀ t∈l,t.1.size≤maxLen∧(Lit.int .i64 t.2).wf=true)∧l.length≤maxLen
theorem open_vars {n:Nat}{v:Value}{x:DataW H×List MemPlace}(h:DataW.trod enc Tryz.prog W 0 (fun _=>true) true n 54 [v]=some x):∃ l:List (Nm×Int),VarsAt W v l∧VrWf l:=by
 obtain⟨ad,len,cap,rfl,hl,hc,hat⟩:=trod_els Tryz.underlying54 h
 have key:∀ i,i<len→∃ s:Nm×Int,(s.1.size≤maxLen∧(Lit.int .i64 s.2).wf=true)∧∃ a,ad=some a∧W.cell? (a.add (i*2))=some (.string s.1)∧W.cell? ((a.add (i*2)).add 1)=some (.int .i64 s.2):=fun i hi=>by
  obtain⟨a,m,ha,_,hel⟩:=hat (by omega)
  obtain⟨cs,y,hcl,hcell,ht⟩:=hel i hi
  rw [cells61] at hcl hcell
  obtain⟨fs,hu,hL⟩:=under61
  obtain⟨m',_,_,hf⟩:=trod_field hL hu ht
  obtain⟨c0,c1,rfl⟩:=len2 hcl
  obtain⟨y0,h0⟩:=hf 0 9 0 rfl
  obtain⟨y1,h1⟩:=hf 1 3 1 rfl
  rw [cells1.1] at h0
  rw [cells1.2.1] at h1
  obtain⟨s,hs,_,hz⟩:=DataW.trod_string Tryz.underlying9 h0
  obtain⟨m1,hm,_,hwf⟩:=DataW.trod_int Tryz.underlying3 h1
  simp at hs hm
  subst hs hm
  exact⟨(s,m1),⟨hz,hwf⟩,a,ha,hcell 0 (by decide),hcell 1 (by decide)⟩
 haveI:Inhabited (Nm×Int):=⟨(⟨#[]⟩,0)⟩
 obtain⟨ns,hns,hq⟩:=pick_list key
 refine⟨ns,⟨ad,cap,by rw [hns],fun h0=>?_⟩,fun x hx=>?_,by omega⟩
 ·obtain⟨x0,hx0⟩:∃ x,ns[0]?=some x:=⟨_,zq9 h0⟩
  obtain⟨_,a,ha,hc0,_⟩:=hq 0 x0 hx0
  obtain⟨g,o,rfl⟩:∃ g o,a=⟨g,o,none⟩:=plain_of (show W.cell? a=some _ from hc0)
  refine⟨g,o,ha,fun i s hs=>?_⟩
  obtain⟨_,a',ha',hca,hcb⟩:=hq i s hs
  rw [ha,Option.some.injEq] at ha'
  subst ha'
  rw [add_plain] at hca hcb
  rw [add_plain] at hcb
  exact⟨hca,hcb⟩
 ·obtain⟨i,hi⟩:=List.mem_iff_getElem?.1 hx
  exact(hq i x hi).1
set_option maxRecDepth 100000 in
theorem open_alloc {v:Value}{d:DataW H}{p:List MemPlace}{base:Nat}(hv:Value.okWide Tryz.prog W .any base 56 v) (h:DataW.Trod enc Tryz.prog W 0 (fun _=>true) true 56 v d p) :
  ∃ (r:Int) (u:Value) (l:List (Nm×Int)),v = .agg #[.int .i64 r,u]∧(Lit.int .i64 r).wf=true∧VarsAt W u l∧VrWf l:=by
 obtain⟨cs,rfl,hsz⟩:=okWide_struct Tryz.underlying56 hv
 obtain⟨fuel,hf⟩:=h
 replace hf:DataW.trod enc Tryz.prog W 0 (fun _=>true) true fuel 56 cs.toList=some (d,p):=hf
 obtain⟨fs,hu,hL⟩:=under56
 obtain⟨m,rfl,hcl,hg⟩:=trod_field hL hu hf
 rw [cells56] at hcl
 obtain⟨a0,a1,hcs⟩:=len2 hcl
 obtain⟨y0,h0⟩:=hg 0 3 0 rfl
 obtain⟨y1,h1⟩:=hg 1 54 1 rfl
 rw [hcs] at h0 h1
 rw [cells1.2.1] at h0
 rw [cells54] at h1
 obtain⟨r,e0,_,hwf⟩:=DataW.trod_int Tryz.underlying3 h0
 simp at e0
 subst e0
 obtain⟨l,hl,hw⟩:=open_vars (show DataW.trod enc Tryz.prog W 0 (fun _=>true) true m 54 [a1]=some y1 from h1)
 refine⟨r,a1,l,?_,hwf,hl,hw⟩
 congr 1
 apply Array.toList_inj.1
 rw [hcs]
end
end Go.Proofs.YtnkahlloahgifaaGreatDoor
