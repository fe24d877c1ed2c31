/- Part. -/
import Derived.Test.YtnkahlloahgifaaGreatDoorVPl
set_option maxHeartbeats 16000000
set_option maxRecDepth 100000
set_option linter.unusedSimpArgs false
set_option linter.unusedVariables false
namespace RG
theorem mem_once:∀ (l s:List Nm) (x:Nm),x∈once s l↔x∈s∨x∈l
 | [],s,x=>by simp [once]
 | y :: r,s,x=>by
  rw [once]
  split
  ·rename_i hy
   rw [mem_once r s x,List.mem_cons]
   constructor
   ·rintro (h | h)
    ·exact .inl h
    exact .inr (.inr h)
   rintro (h | rfl | h)
   ·exact .inl h
   ·exact .inl (zx.1 hy)
   exact .inr h
  rw [mem_once r (s++[y]) x,List.mem_append,List.mem_singleton,List.mem_cons,or_assoc]
theorem once_nodup:∀ (l s:List Nm),s.Nodup→(once s l).Nodup
 | [],s,h=>h
 | y :: r,s,h=>by
  rw [once]
  split
  ·exact once_nodup r s h
  rename_i hy
  refine once_nodup r _ ?_
  rw [List.nodup_append]
  refine⟨h,by simp,fun a ha b hb=>?_⟩
  rw [List.mem_singleton] at hb
  subst hb
  intro e
  subst e
  exact hy (zx.2 ha)
theorem mem_usesAt {F:List Nd}{i:Nat}{x:Nm}:x∈usesAt F i↔x∈(nd F i).uses:=by
 unfold usesAt
 rw [mem_once]
 simp
theorem nodup_len:∀ {l m:List Nm},l.Nodup→(∀ x∈l,x∈m)→l.length≤m.length
 | [],m,_,_=>Nat.zero_le _
 | x :: l,m,hn,hs=>by
  have hx:=hs x List.mem_cons_self
  obtain⟨a,b,rfl⟩:=List.append_of_mem hx
  rw [List.nodup_cons] at hn
  have:=nodup_len (l:=l) (m:=a++b) hn.2 (fun y hy=>by
   have h1:=hs y (List.mem_cons_of_mem _ hy)
   rcases List.mem_append.1 h1 with h2 | h2
   ·exact List.mem_append_left _ h2
   rcases List.mem_cons.1 h2 with rfl | h3
   ·exact absurd hy hn.1
   exact List.mem_append_right _ h3)
  rw [List.length_append] at this
  rw [List.length_append,List.length_cons,List.length_cons]
  omega
end RG
namespace RG
theorem Fo.apart {F:List Nd}(h:Fo F) {i k m:Nat}{x:Nm}(hi:i<F.length) (hk:k∈(nd F i).next) (hm:m∈(nd F i).next) (hl:lv F k x=true) (hb:x∈(nd F m).binds):x∈(nd F k).binds:=by
 by_cases hx:x∈(nd F k).binds
 ·exact hx
 exfalso
 have h1:lv F i x=true:=by
  rw [h.live i x hi,Bool.or_eq_true]
  exact .inr (List.any_eq_true.2 ⟨k,hk,cross_iff.2 ⟨hl,hx⟩⟩)
 obtain⟨j,hj,hxj⟩:=h.live_bound i hi h1
 have h2:=h.nxt i hi m hm
 have:=h.same (by omega) h2.2 hxj hb
 omega
theorem Fo.lives {F:List Nd}(h:Fo F) {i:Nat}(hi:i<F.length) (x:Nm):lv F i x=(has (usesAt F i) x||(((nd F i).next.any fun k=>lv F k x) && !(has (bindsAt F i) x))):=by
 rw [h.live i x hi]
 congr 1
 ·rw [Bool.eq_iff_iff,zx,zx,mem_usesAt]
 rw [Bool.eq_iff_iff,List.any_eq_true,Bool.and_eq_true,List.any_eq_true,Bool.not_eq_true']
 constructor
 ·rintro ⟨k,hk,hc⟩
  obtain⟨h1,h2⟩:=cross_iff.1 hc
  refine⟨⟨k,hk,h1⟩,?_⟩
  cases hq:has (bindsAt F i) x with
  | false=>rfl
  | true =>
   obtain⟨m,hm,hx⟩:=List.mem_flatMap.1 (zx.1 hq)
   exact absurd (h.apart hi hk hm h1 hx) h2
 rintro ⟨⟨k,hk,h1⟩,h2⟩
 refine⟨k,hk,cross_iff.2 ⟨h1,fun hx=>?_⟩⟩
 have:has (bindsAt F i) x=true:=zx.2 (List.mem_flatMap.2 ⟨k,hk,hx⟩)
 rw [this] at h2
 cases h2
end RG

namespace RG
def posn (F:List Nd) (q:Nm→Bool) (n:Nat):List Nat:=(List.range n).filter fun p=>q ((vars F).getD p ⟨#[]⟩)
theorem range_getD (l:List Nm):(List.range l.length).map (fun p=>l.getD p ⟨#[]⟩)=l:=by
 apply List.ext_getElem?
 intro i
 rw [List.getElem?_map]
 by_cases hi:i<l.length
 ·rw [List.getElem?_range hi,Option.map_some,List.getD_eq_getElem?_getD,List.getElem?_eq_getElem hi];rfl
 rw [List.getElem?_eq_none (by rw [List.length_range];omega),List.getElem?_eq_none (by omega)];rfl
theorem posn_names (F:List Nd) (q:Nm→Bool):(posn F q (vars F).length).map (fun p=>(vars F).getD p ⟨#[]⟩)=named F q:=by
 unfold posn named
 conv=>rhs;rw [← range_getD (vars F)]
 rw [List.filter_map]
 rfl
theorem place_getD {F:List Nd}(hn:(vars F).Nodup) {p:Nat}(hp:p<(vars F).length):place F ((vars F).getD p ⟨#[]⟩)=p:=by
 refine place_of hn ?_
 rw [List.getD_eq_getElem?_getD,List.getElem?_eq_getElem hp];rfl
theorem getD_mem {F:List Nd}{p:Nat}(hp:p<(vars F).length):(vars F).getD p ⟨#[]⟩∈vars F:=by
 rw [List.getD_eq_getElem?_getD,List.getElem?_eq_getElem hp]
 exact List.getElem_mem hp
theorem mem_posn {F:List Nd}{q:Nm→Bool}{n p:Nat}:p∈posn F q n↔p<n∧q ((vars F).getD p ⟨#[]⟩)=true:=by
 unfold posn
 rw [List.mem_filter,List.mem_range]
theorem posn_succ (F:List Nd) (q:Nm→Bool) (n:Nat):posn F q (n+1)=if q ((vars F).getD n ⟨#[]⟩) then posn F q n++[n] else posn F q n:=by
 unfold posn
 rw [List.range_succ,List.filter_append]
 by_cases h:q ((vars F).getD n ⟨#[]⟩)=true
 ·rw [if_pos h];congr 1;simp only [List.filter,h]
 rw [if_neg h]
 have h2:q ((vars F).getD n ⟨#[]⟩)=false:=by cases hq:q ((vars F).getD n ⟨#[]⟩) with | false=>rfl | true=>exact absurd hq h
 simp only [List.filter,h2,List.append_nil]
theorem posn_len (F:List Nd) (q:Nm→Bool) (n:Nat):(posn F q n).length≤n:=by
 have:=List.length_filter_le (fun p=>q ((vars F).getD p ⟨#[]⟩)) (List.range n)
 rw [List.length_range] at this
 exact this
theorem clash_lives (F:List Nd) (a b:Nm) (i:Nat):clash F a b i=((has (nd F i).binds a&&has (nd F i).binds b)||((has (nd F i).binds a&&lv F i b)||(has (nd F i).binds b&&lv F i a))):=by
 unfold clash cross
 cases has (nd F i).binds a<;>cases has (nd F i).binds b<;>cases lv F i a<;>cases lv F i b<;>rfl
end RG
