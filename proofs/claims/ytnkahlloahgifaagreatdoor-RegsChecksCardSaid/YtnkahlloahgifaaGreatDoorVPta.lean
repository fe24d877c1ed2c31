/- Part. -/
import Derived.Test.YtnkahlloahgifaaGreatDoorVPr
set_option maxHeartbeats 16000000
set_option maxRecDepth 100000
set_option linter.unusedSimpArgs false
set_option linter.unusedVariables false
namespace RG
theorem Fo.apart {F:List Nd}(h:Fo F) {i k m:Nat}{x:Nm}(hi:i<F.length) (hk:k∈(nd F i).next) (hm:m∈(nd F i).next) (hl:lv F k x=true) (hb:x∈(nd F m).binds):x∈(nd F k).binds:=by
 by_cases hx:x∈(nd F k).binds
 ·exact hx
 exfalso
 have h1:lv F i x=true:=by
  rw [h.live i x hi,Bool.or_eq_true]
  exact .inr (List.any_eq_true.2 ⟨k,hk,cross_iff.2 ⟨hl,hx⟩⟩)
 obtain⟨j,hj,hxj⟩:=h.live_bound i hi h1
 have h2:=h.nxt i hi m hm
 have:=h.same (by omega) h2.2 hxj hb
 omega
theorem Fo.lives {F:List Nd}(h:Fo F) {i:Nat}(hi:i<F.length) (x:Nm):lv F i x=(has (usesAt F i) x||(((nd F i).next.any fun k=>lv F k x) && !(has (bindsAt F i) x))):=by
 rw [h.live i x hi]
 congr 1
 ·rw [Bool.eq_iff_iff,zx,zx,mem_usesAt]
 rw [Bool.eq_iff_iff,List.any_eq_true,Bool.and_eq_true,List.any_eq_true,Bool.not_eq_true']
 constructor
 ·rintro ⟨k,hk,hc⟩
  obtain⟨h1,h2⟩:=cross_iff.1 hc
  refine⟨⟨k,hk,h1⟩,?_⟩
  cases hq:has (bindsAt F i) x with
  | false=>rfl
  | true =>
   obtain⟨m,hm,hx⟩:=List.mem_flatMap.1 (zx.1 hq)
   exact absurd (h.apart hi hk hm h1 hx) h2
 rintro ⟨⟨k,hk,h1⟩,h2⟩
 refine⟨k,hk,cross_iff.2 ⟨h1,fun hx=>?_⟩⟩
 have:has (bindsAt F i) x=true:=zx.2 (List.mem_flatMap.2 ⟨k,hk,hx⟩)
 rw [this] at h2
 cases h2
end RG
namespace RG
def posn (F:List Nd) (q:Nm→Bool) (n:Nat):List Nat:=(List.range n).filter fun p=>q ((vars F).getD p ⟨#[]⟩)
theorem range_getD (l:List Nm):(List.range l.length).map (fun p=>l.getD p ⟨#[]⟩)=l:=by
 apply List.ext_getElem?
 intro i
 rw [List.getElem?_map]
 by_cases hi:i<l.length
 ·rw [List.getElem?_range hi,Option.map_some,List.getD_eq_getElem?_getD,List.getElem?_eq_getElem hi];rfl
 rw [List.getElem?_eq_none (by rw [List.length_range];omega),List.getElem?_eq_none (by omega)];rfl
theorem posn_names (F:List Nd) (q:Nm→Bool):(posn F q (vars F).length).map (fun p=>(vars F).getD p ⟨#[]⟩)=named F q:=by
 unfold posn named
 conv=>rhs;rw [← range_getD (vars F)]
 rw [List.filter_map]
 rfl
theorem mem_posn {F:List Nd}{q:Nm→Bool}{n p:Nat}:p∈posn F q n↔p<n∧q ((vars F).getD p ⟨#[]⟩)=true:=by
 unfold posn
 rw [List.mem_filter,List.mem_range]
theorem posn_succ (F:List Nd) (q:Nm→Bool) (n:Nat):posn F q (n+1)=if q ((vars F).getD n ⟨#[]⟩) then posn F q n++[n] else posn F q n:=by
 unfold posn
 rw [List.range_succ,List.filter_append]
 by_cases h:q ((vars F).getD n ⟨#[]⟩)=true
 ·rw [if_pos h];congr 1;simp only [List.filter,h]
 rw [if_neg h]
 have h2:q ((vars F).getD n ⟨#[]⟩)=false:=by cases hq:q ((vars F).getD n ⟨#[]⟩) with | false=>rfl | true=>exact absurd hq h
 simp only [List.filter,h2,List.append_nil]
theorem posn_len (F:List Nd) (q:Nm→Bool) (n:Nat):(posn F q n).length≤n:=by
 have:=List.length_filter_le (fun p=>q ((vars F).getD p ⟨#[]⟩)) (List.range n)
 rw [List.length_range] at this
 exact this
end RG
namespace RG
open RF
theorem dec_place {F:List Nd}(hn:(vars F).Nodup) {l:List Nm}(hl:∀ x∈l,x∈vars F) {p:Nat}(hp:p<(vars F).length):decide (p∈l.map (place F))=has l ((vars F).getD p ⟨#[]⟩):=by
 rw [Bool.eq_iff_iff,decide_eq_true_eq,zx,List.mem_map]
 constructor
 ·rintro ⟨x,hx,he⟩
  have hxv:=hl x hx
  have:x=(vars F).getD p ⟨#[]⟩:=by
   have h1:=place_at hxv
   rw [he] at h1
   rw [List.getD_eq_getElem?_getD,h1];rfl
  rw [← this];exact hx
 intro hx
 exact⟨_,hx,place_getD hn hp⟩
theorem Fo.lives_place {F:List Nd}(h:Fo F) {i:Nat}(hi:i<F.length) {p:Nat}(hp:p<(vars F).length) :
  (decide (p∈UR F i)||(((nd F i).next.any fun m=>lv F m ((vars F).getD p ⟨#[]⟩)) && !decide (p∈(bindsAt F i).map (place F))))=lv F i ((vars F).getD p ⟨#[]⟩):=by
 unfold UR
 rw [dec_place h.once (fun x hx=>h.bound i hi x (mem_usesAt.1 hx)) hp,dec_place h.once (fun x hx=>by
  obtain⟨k,hk,hx⟩:=List.mem_flatMap.1 hx
  exact binds_vars (h.nxt i hi k hk).2 hx) hp,h.lives hi]
theorem Fo.dec_binds {F:List Nd}(h:Fo F) {i:Nat}(hi:i<F.length) {p:Nat}(hp:p<(vars F).length):decide (p∈BR F i)=has (nd F i).binds ((vars F).getD p ⟨#[]⟩):=by
 unfold BR
 exact dec_place h.once (fun x hx=>binds_vars hi hx) hp
theorem Fo.cross_posn {F:List Nd}(h:Fo F) {b:Nat}(hb:b<F.length):(posn F (lv F b) (vars F).length).filter (fun p => !decide (p∈BR F b))=posn F (cross F b) (vars F).length:=by
 unfold posn
 rw [List.filter_filter]
 refine List.filter_congr fun p hp=>?_
 have hp:=List.mem_range.1 hp
 rw [h.dec_binds hb hp]
 unfold cross
 rw [Bool.and_comm]
theorem filter_take_succ {α:Type}(q:α→Bool) (l:List α) {i:Nat}{x:α} (h:l[i]?=some x):(l.take (i+1)).filter q=if q x=true then (l.take i).filter q++[x] else (l.take i).filter q:=by
 rw [List.take_add_one,h,List.filter_append]
 show _++List.filter q [x]=_
 cases hq:q x<;>simp [List.filter,hq]
end RG
