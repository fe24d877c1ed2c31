/- Part. -/
import Derived.Test.YtnkahlloahgifaaGreatDoorVPr
import Derived.Test.YtnkahlloahgifaaGreatDoorVPl
import Derived.Test.YtnkahlloahgifaaGreatDoorVPf
set_option maxHeartbeats 16000000
set_option maxRecDepth 100000
set_option linter.unusedSimpArgs false
set_option linter.unusedVariables false
namespace RG
open RF
theorem dec_place {F:List Nd}(hn:(vars F).Nodup) {l:List Nm}(hl:∀ x∈l,x∈vars F) {p:Nat}(hp:p<(vars F).length):decide (p∈l.map (place F))=has l ((vars F).getD p ⟨#[]⟩):=by
 rw [Bool.eq_iff_iff,decide_eq_true_eq,zx,List.mem_map]
 constructor
 ·rintro ⟨x,hx,he⟩
  have hxv:=hl x hx
  have:x=(vars F).getD p ⟨#[]⟩:=by
   have h1:=place_at hxv
   rw [he] at h1
   rw [List.getD_eq_getElem?_getD,h1];rfl
  rw [← this];exact hx
 intro hx
 exact⟨_,hx,place_getD hn hp⟩
theorem Fo.lives_place {F:List Nd}(h:Fo F) {i:Nat}(hi:i<F.length) {p:Nat}(hp:p<(vars F).length) :
  (decide (p∈UR F i)||(((nd F i).next.any fun m=>lv F m ((vars F).getD p ⟨#[]⟩)) && !decide (p∈(bindsAt F i).map (place F))))=lv F i ((vars F).getD p ⟨#[]⟩):=by
 unfold UR
 rw [dec_place h.once (fun x hx=>h.bound i hi x (mem_usesAt.1 hx)) hp,dec_place h.once (fun x hx=>by
  obtain⟨k,hk,hx⟩:=List.mem_flatMap.1 hx
  exact binds_vars (h.nxt i hi k hk).2 hx) hp,h.lives hi]
theorem Fo.dec_binds {F:List Nd}(h:Fo F) {i:Nat}(hi:i<F.length) {p:Nat}(hp:p<(vars F).length):decide (p∈BR F i)=has (nd F i).binds ((vars F).getD p ⟨#[]⟩):=by
 unfold BR
 exact dec_place h.once (fun x hx=>binds_vars hi hx) hp
theorem any_range_succ (q:Nat→Bool) (i:Nat):(List.range (i+1)).any q=((List.range i).any q||q i):=by
 rw [List.range_succ,List.any_append];simp
def cfl (F:List Nd) (x y:Nm) (i:Nat):Bool:=(List.range i).any (clash F x y)
theorem cfl_succ (F:List Nd) (x y:Nm) (i:Nat):cfl F x y (i+1)=(cfl F x y i||clash F x y i):=any_range_succ _ _
theorem cfl_true {F:List Nd}{x y:Nm}{i:Nat}(hi:i<F.length) (h:clash F x y i=true):cfl F x y F.length=true :=
 List.any_eq_true.2 ⟨i,List.mem_range.2 hi,h⟩
theorem filter_take_succ {α:Type}(q:α→Bool) (l:List α) {i:Nat}{x:α} (h:l[i]?=some x):(l.take (i+1)).filter q=if q x=true then (l.take i).filter q++[x] else (l.take i).filter q:=by
 rw [List.take_add_one,h,List.filter_append]
 show _++List.filter q [x]=_
 cases hq:q x<;>simp [List.filter,hq]
end RG
