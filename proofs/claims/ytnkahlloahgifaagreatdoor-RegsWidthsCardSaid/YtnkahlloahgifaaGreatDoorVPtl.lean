/- Part. -/
import Derived.Test.YtnkahlloahgifaaGreatDoorVPlh
import Derived.Test.YtnkahlloahgifaaGreatDoorVPrg
set_option maxHeartbeats 16000000
set_option maxRecDepth 100000
set_option linter.unusedSimpArgs false
set_option linter.unusedVariables false
namespace RG
open RF
theorem crowdOf_append (F:List Nd):∀ (a b:List Nat) (o:Option (List Nm)),crowdOf F (a++b) o=crowdOf F b (crowdOf F a o)
 | [],b,o=>by cases b<;>rfl
 | i :: a,b,none=>by
  rw [List.cons_append,crowdOf,crowdOf,crowdOf_append F a b]
 | i :: a,b,some o=>by
  rw [List.cons_append,crowdOf,crowdOf,crowdOf_append F a b]
def crowdP (F:List Nd) (i:Nat):Option (List Nm):=crowdOf F (List.range i) none
def mostI (o:Option (List Nm)):Int:=match o with | none => -1 | some l=>(l.length:Nat)
theorem crowdP_succ (F:List Nd) (i:Nat):crowdP F (i+1)=if mostI (crowdP F i)<((around F i).length:Nat) then some (around F i) else crowdP F i:=by
 unfold crowdP
 rw [List.range_succ,crowdOf_append]
 cases crowdOf F (List.range i) none with
 | none =>
  rw [if_pos (by unfold mostI;simp only [];omega)]
  simp [crowdOf]
 | some o =>
  have hm:mostI (some o)=(o.length:Nat):=rfl
  rw [hm]
  show crowdOf F [] _=_
  by_cases h:o.length<(around F i).length
  ·rw [if_pos h,if_pos (by omega)];rfl
  rw [if_neg h,if_neg (by omega)];rfl
theorem crowdP_end {F:List Nd}(h:0<F.length):∃ l,crowdP F F.length=some l∧crowd F=l:=by
 obtain⟨n,hn⟩:∃ n,F.length=n+1:=⟨F.length - 1,by omega⟩
 have:∃ l,crowdP F F.length=some l:=by
  rw [hn,crowdP_succ]
  by_cases h:mostI (crowdP F n)<((around F n).length:Nat)
  ·rw [if_pos h];exact⟨_,rfl⟩
  rw [if_neg h]
  cases hq:crowdP F n with
  | none=>rw [hq] at h;unfold mostI at h;simp only [] at h;omega
  | some l=>exact⟨_,rfl⟩
 obtain⟨l,hl⟩:=this
 refine⟨l,hl,?_⟩
 unfold crowd
 unfold crowdP at hl
 rw [hl];rfl
theorem mostI_le {F:List Nd}{N:Nat}(hN:(vars F).length≤N) (i:Nat):mostI (crowdP F i)≤N:=by
 induction i with
 | zero=>show (-1:Int)≤N;omega
 | succ i ih =>
  rw [crowdP_succ]
  by_cases h:mostI (crowdP F i)<((around F i).length:Nat)
  ·rw [if_pos h]
   have:(around F i).length≤(vars F).length:=List.length_filter_le _ _
   show ((around F i).length:Int)≤N
   omega
  rw [if_neg h];exact ih
theorem mostI_ge (o:Option (List Nm)) : -1≤mostI o:=by
 cases o with
 | none=>exact Int.le_refl _
 | some l=>show (-1:Int)≤(l.length:Nat);omega
theorem Fo.around_dec {F:List Nd}(h:Fo F) {i:Nat}(hi:i<F.length) {p:Nat}(hp:p<(vars F).length) :
  (decide (p∈posn F (cross F i) (vars F).length)||decide (p∈BR F i))=(fun x=>cross F i x||has (nd F i).binds x) ((vars F).getD p ⟨#[]⟩):=by
 rw [h.dec_binds hi hp]
 congr 1
 rw [Bool.eq_iff_iff,decide_eq_true_eq,mem_posn]
 simp [hp]
def gstep (F:List Nd) (s:List Nat×List Nat×Nat) (x:Nm):List Nat×List Nat×Nat:=(s.1++[low s.1],s.2.1.set (place F x) (low s.1),max s.2.2 (low s.1+1))
theorem giveRegs_fold (F:List Nd):∀ (xs:List Nm) (taken:List Nat) (st:List Nat×Nat),giveRegs F xs taken st=(xs.foldl (gstep F) (taken,st.1,st.2)).2
 | [],taken,(a,b)=>rfl
 | x :: r,taken,(regs,most)=>by
  rw [giveRegs,giveRegs_fold F r,List.foldl_cons];rfl
theorem gfold_succ (F:List Nd) (xs:List Nm) (s:List Nat×List Nat×Nat) {k:Nat}{x:Nm}(h:xs[k]?=some x):(xs.take (k+1)).foldl (gstep F) s=gstep F ((xs.take k).foldl (gstep F) s) x:=by
 rw [List.take_add_one,h,List.foldl_append];rfl
theorem gfold_len (F:List Nd):∀ (xs:List Nm) (s:List Nat×List Nat×Nat),(xs.foldl (gstep F) s).1.length=s.1.length+xs.length∧(xs.foldl (gstep F) s).2.1.length=s.2.1.length
 | [],s=>⟨rfl,rfl⟩
 | x :: r,s=>by
  obtain⟨h1,h2⟩:=gfold_len F r (gstep F s x)
  have e1:(gstep F s x).1.length=s.1.length+1:=by unfold gstep;simp only [List.length_append,List.length_cons,List.length_nil]
  have e2:(gstep F s x).2.1.length=s.2.1.length:=by unfold gstep;simp only [List.length_set]
  rw [List.foldl_cons,h1,h2,e1,e2,List.length_cons]
  exact⟨by omega,rfl⟩
theorem set_small {l:List Nat}{N p r:Nat}(h:∀ x∈l,x≤N) (hr:r≤N):∀ x∈l.set p r,x≤N:=fun x hx=>by
 rcases List.mem_or_eq_of_mem_set hx with h1 | h1
 ·exact h x h1
 rw [h1];exact hr
end RG
