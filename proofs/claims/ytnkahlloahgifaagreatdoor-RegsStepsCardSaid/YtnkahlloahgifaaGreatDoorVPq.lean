/- Part. -/
import Derived.Test.YtnkahlloahgifaaGreatDoorVPl
namespace RG
theorem Fo.first {F:List Nd}(h:Fo F) {x:Nm}(hx:x∈liveAt F 0):x∈(nd F 0).binds :=
 h.root x (List.mem_filter.1 hx).2
theorem mem_once:∀ (l s:List Nm) (x:Nm),x∈once s l↔x∈s∨x∈l
 | [],s,x=>by simp [once]
 | y :: r,s,x=>by
  rw [once]
  split
  ·rename_i hy
   rw [mem_once r s x,List.mem_cons]
   constructor
   ·rintro (h | h)
    ·exact .inl h
    ·exact .inr (.inr h)
   ·rintro (h | rfl | h)
    ·exact .inl h
    ·exact .inl (has_iff.1 hy)
    ·exact .inr h
  ·rw [mem_once r (s++[y]) x,List.mem_append,List.mem_singleton,List.mem_cons,or_assoc]
theorem once_nodup:∀ (l s:List Nm),s.Nodup→(once s l).Nodup
 | [],s,h=>h
 | y :: r,s,h=>by
  rw [once]
  split
  ·exact once_nodup r s h
  ·rename_i hy
   refine once_nodup r _ ?_
   rw [List.nodup_append]
   refine⟨h,by simp,fun a ha b hb=>?_⟩
   rw [List.mem_singleton] at hb
   subst hb
   intro e
   subst e
   exact hy (has_iff.2 ha)
theorem mem_usesAt {F:List Nd}{i:Nat}{x:Nm}:x∈usesAt F i↔x∈(nd F i).uses:=by
 unfold usesAt
 rw [mem_once]
 simp
theorem mem_liveAt {F:List Nd}{i:Nat}{x:Nm}:x∈liveAt F i↔x∈vars F∧lv F i x=true:=by
 unfold liveAt named
 exact List.mem_filter
theorem Fo.uses_live {F:List Nd}(h:Fo F) {i:Nat}(hi:i<F.length) {x:Nm}(hx:x∈usesAt F i):x∈liveAt F i:=by
 have hu:=mem_usesAt.1 hx
 refine mem_liveAt.2 ⟨h.bound i hi x hu,?_⟩
 rw [h.live i x hi,has_iff.2 hu]
 rfl
theorem nodup_len:∀ {l m:List Nm},l.Nodup→(∀ x∈l,x∈m)→l.length≤m.length
 | [],m,_,_=>Nat.zero_le _
 | x :: l,m,hn,hs=>by
  have hx:=hs x List.mem_cons_self
  obtain⟨a,b,rfl⟩:=List.append_of_mem hx
  rw [List.nodup_cons] at hn
  have:=nodup_len (l:=l) (m:=a++b) hn.2 (fun y hy=>by
   have h1:=hs y (List.mem_cons_of_mem _ hy)
   rcases List.mem_append.1 h1 with h2 | h2
   ·exact List.mem_append_left _ h2
   ·rcases List.mem_cons.1 h2 with rfl | h3
    ·exact absurd hy hn.1
    ·exact List.mem_append_right _ h3)
  rw [List.length_append] at this
  rw [List.length_append,List.length_cons,List.length_cons]
  omega
theorem Fo.leaf {F:List Nd}(h:Fo F) {i:Nat}(hi:i<F.length) (hn:(nd F i).next=[]):(liveAt F i).length=(usesAt F i).length:=by
 refine Nat.le_antisymm (nodup_len ?_ fun x hx=>?_) (nodup_len (once_nodup _ _ List.nodup_nil) fun x hx=>h.uses_live hi hx)
 ·exact h.once.sublist List.filter_sublist
 ·have h1:=(mem_liveAt.1 hx).2
  rw [h.live i x hi,hn] at h1
  simp only [List.any_nil,Bool.or_false] at h1
  exact mem_usesAt.2 (has_iff.1 h1)
theorem Fo.step {F:List Nd}(h:Fo F) {i k:Nat}(hi:i<F.length) (hk:k∈(nd F i).next) {x:Nm}(hx:x∈liveAt F k):x∈liveAt F i∨x∈bindsAt F i:=by
 obtain⟨hv,hl⟩:=mem_liveAt.1 hx
 by_cases hb:x∈(nd F k).binds
 ·exact .inr (List.mem_flatMap.2 ⟨k,hk,hb⟩)
 ·refine .inl (mem_liveAt.2 ⟨hv,?_⟩)
  rw [h.live i x hi,Bool.or_eq_true]
  exact .inr (List.any_eq_true.2 ⟨k,hk,cross_iff.2 ⟨hl,hb⟩⟩)
end RG
namespace RG
end RG
