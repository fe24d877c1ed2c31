/- Part. -/
import Derived.Test.YtnkahlloahgifaaGreatDoorVPr
set_option maxHeartbeats 16000000
set_option maxRecDepth 100000
set_option linter.unusedSimpArgs false
set_option linter.unusedVariables false
namespace RG
variable {F:List Nd}
theorem mem_around {i:Nat}{x:Nm}:x∈around F i↔x∈vars F∧(cross F i x=true∨x∈(nd F i).binds):=by
 unfold around named
 rw [List.mem_filter,Bool.or_eq_true,zx]
end RG
namespace RG
variable {F:List Nd}
theorem cross_around_len (h:Fo F) {i:Nat}(hi:i<F.length):(named F (cross F i)).length+(nd F i).binds.length=(around F i).length:=by
 -- both are parts of the variables,apart
 unfold around named
 have h1:((vars F).filter fun x=>cross F i x||has (nd F i).binds x).length=((vars F).filter (cross F i)).length+((vars F).filter (has (nd F i).binds)).length:=by
  have:∀ l:List Nm,(l.filter fun x=>cross F i x||has (nd F i).binds x).length=(l.filter (cross F i)).length+(l.filter (has (nd F i).binds)).length:=by
   intro l
   induction l with
   | nil=>rfl
   | cons a l ih =>
    have hx:¬ (cross F i a=true∧has (nd F i).binds a=true):=fun ⟨p,q⟩=>(cross_iff.1 p).2 (zx.1 q)
    rw [List.filter_cons,List.filter_cons,List.filter_cons]
    cases hc:cross F i a<;>cases hb:has (nd F i).binds a<;>simp_all<;>omega
  exact this _
 rw [h1]
 have h2:((vars F).filter (has (nd F i).binds)).length=(nd F i).binds.length:=by
  refine List.Perm.length_eq ((List.perm_ext_iff_of_nodup (h.once.filter _) (h.binds_nodup hi)).2 fun x=>?_)
  rw [List.mem_filter,zx]
  exact⟨fun h=>h.2,fun h=>⟨binds_vars hi h,h⟩⟩
 rw [h2]
theorem crowdOf_spec:∀ (l:List Nat) (o:List Nm),∃ c,crowdOf F l (some o)=some c∧(c=o∨∃ i∈l,c=around F i)∧o.length≤c.length∧∀ i∈l,(around F i).length≤c.length
 | [],o=>⟨o,rfl,.inl rfl,Nat.le_refl _,fun i hi=>absurd hi (by simp)⟩
 | i :: r,o=>by
  rw [crowdOf]
  by_cases h:o.length<(around F i).length
  ·rw [if_pos h]
   obtain⟨c,h1,h2,h3,h4⟩:=crowdOf_spec r (around F i)
   refine⟨c,h1,.inr ?_,by omega,fun j hj=>?_⟩
   ·rcases h2 with h2 | ⟨j,hj,e⟩
    ·exact⟨i,List.mem_cons_self,h2⟩
    exact⟨j,List.mem_cons_of_mem _ hj,e⟩
   rcases List.mem_cons.1 hj with rfl | hj
   ·exact h3
   exact h4 j hj
  rw [if_neg h]
  obtain⟨c,h1,h2,h3,h4⟩:=crowdOf_spec r o
  refine⟨c,h1,?_,h3,fun j hj=>?_⟩
  ·rcases h2 with h2 | ⟨j,hj,e⟩
   ·exact .inl h2
   exact .inr ⟨j,List.mem_cons_of_mem _ hj,e⟩
  rcases List.mem_cons.1 hj with rfl | hj
  ·omega
  exact h4 j hj
theorem crowd_spec (h:Fo F):(∃ i,i<F.length∧crowd F=around F i)∧∀ i,i<F.length→(around F i).length≤width F:=by
 obtain⟨n,hn⟩:∃ n,F.length=n+1:=⟨F.length - 1,by have:=h.pos;omega⟩
 have hr:List.range F.length=0 :: (List.range n).map Nat.succ:=by rw [hn,List.range_succ_eq_map]
 obtain⟨c,h1,h2,h3,h4⟩:=crowdOf_spec (F:=F) ((List.range n).map Nat.succ) (around F 0)
 have hc:crowd F=c:=by
  unfold crowd
  rw [hr,crowdOf,h1];rfl
 unfold width
 rw [hc]
 refine⟨?_,fun i hi=>?_⟩
 ·rcases h2 with h2 | ⟨i,hi,e⟩
  ·exact⟨0,h.pos,h2⟩
  obtain⟨j,hj,rfl⟩:=List.mem_map.1 hi
  exact⟨_,by simp at hj;omega,e⟩
 cases i with
 | zero=>exact h3
 | succ i=>exact h4 _ (List.mem_map.2 ⟨i,by simp;omega,rfl⟩)
theorem crowd_nodup (h:Fo F):(crowd F).Nodup:=by
 obtain⟨⟨i,_,e⟩,_⟩:=crowd_spec h
 rw [e]
 exact h.once.filter _
end RG
