/- Part. -/
import Derived.Test.YtnkahlloahgifaaGreatDoorVEc
import Derived.Test.YtnkahlloahgifaaGreatDoorVLxG
import Derived.Test.YtnkahlloahgifaaGreatDoorVLxN
import Derived.Test.YtnkahlloahgifaaGreatDoorVLxE
import Derived.Test.YtnkahlloahgifaaGreatDoorVLxL0
set_option linter.unusedSimpArgs false
set_option linter.unusedVariables false
namespace Go.Proofs.YtnkahlloahgifaaGreatDoor.Lx
namespace LX
theorem run_take (p:Nat→Bool):∀ (l:List Nat) (k:Nat),run p (l.take k)=min (run p l) k
 | [],k=>by simp [run]
 | c :: t,0=>by simp [run]
 | c :: t,k+1=>by
  rw [List.take_succ_cons,run,run,run_take p t k]
  split<;>omega
theorem nameLen_take {l:List Nat}{k:Nat}(h:nameLen l≤k):nameLen (l.take k)=nameLen l:=by
 have hge:=nameLen_ge l
 have hr:run part (l.take k)=run part l:=by rw [run_take];omega
 unfold nameLen at h ⊢
 simp only [hr] at h ⊢
 rw [List.drop_take]
 cases hd:l.drop (run part l) with
 | nil=>rw [List.take_nil]
 | cons c t =>
  rw [hd] at h
  simp only [] at h
  cases hk:k - run part l with
  | zero =>
   simp only [List.take_zero]
   split at h
   ·omega
   ·rename_i hc;rw [if_neg hc]
  | succ q =>
   rw [List.take_succ_cons]
   simp only []
   rw [run_take]
   split at h
   ·rename_i hc
    have:min (run digit t) q=run digit t:=by omega
    rw [this]
   ·rename_i hc
    by_cases h39:c=39
    ·have h0:run digit t=0:=by
      rcases Nat.eq_zero_or_pos (run digit t) with h0 | h0
      ·exact h0
      ·exact absurd ⟨h39,h0⟩ hc
     rw [h0];simp
    ·rw [if_neg (fun e=>h39 e.1),if_neg (fun e=>h39 e.1)]
theorem number_take {l:List Nat}{n k d v':Nat}{v:Int}(h:number l n = .tok v' v d) (hk:d≤k):number (l.take k) n = .tok v' v d:=by
 have h0:=number_ok h
 unfold number at h ⊢
 have hr:n+run digit ((l.take k).drop n)=d:=by rw [List.drop_take,run_take];omega
 simp only [hr,← h0.2.1] at h ⊢
 rw [List.take_take,Nat.min_eq_left hk]
 cases hn:num (l.take d) with
 | none=>rw [hn] at h;cases h
 | some x =>
  rw [hn] at h
  simp only [] at h ⊢
  rw [List.drop_take]
  cases hd:l.drop d with
  | nil=>rw [hd] at h;rw [List.take_nil];exact h
  | cons c t =>
   rw [hd] at h
   cases hq:k - d with
   | zero =>
    simp only [List.take_zero]
    simp only [] at h
    split at h
    ·cases h
    ·exact h
   | succ q=>rw [List.take_succ_cons];exact h
theorem named_take {l:List Nat}{k0 k k' m:Nat}{v:Int}(h:named k0 l = .tok k' v m) (hk:m≤k):named k0 (l.take k) = .tok k' v m:=by
 have h0:=named_ok h
 have hn:=nameLen_take (l:=l) (k:=k) (by omega)
 unfold named at h ⊢
 rw [hn]
 cases hm:made k0 (nameLen l) with
 | bad e=>rw [hm] at h;cases h
 | tok a b c =>
  rw [hm] at h
  have h1:=made_ok hm
  simp only [] at h ⊢
  rw [List.take_take,Nat.min_eq_left (by omega)]
  exact h
theorem token_take {l:List Nat}{k k' m:Nat}{v:Int}(h:token l = .tok k' v m) (hk:m≤k):token (l.take k) = .tok k' v m:=by
 have hm:=token_len h
 cases l with
 | nil=>cases h
 | cons c t =>
  obtain⟨q,rfl⟩:∃ q,k=q+1:=⟨k - 1,by omega⟩
  have hd0:∀ x,head0 (t.take q)=x→x≠0→head0 t=x:=fun x hx h0=>by
   cases t with
   | nil=>simp [head0] at hx ⊢;exact hx
   | cons a t =>
    cases q with
    | zero=>simp [head0] at hx;exact absurd hx.symm h0
    | succ q=>simpa [head0] using hx
  have hd1:∀ x,head0 t=x→1≤q→head0 (t.take q)=x:=fun x hx hq=>by
   cases t with
   | nil=>simpa [head0] using hx
   | cons a t =>
    cases q with
    | zero=>omega
    | succ q=>simpa [head0] using hx
  have e:(c :: t).take (q+1)=c :: t.take q:=List.take_succ_cons
  rw [e]
  unfold token at h ⊢
  simp only [] at h ⊢
  split at h
  ·rename_i hc
   rw [if_pos hc,← e]
   exact number_take h hk
  ·rename_i hc
   rw [if_neg hc]
   split at h
   ·rename_i hc;rw [if_pos hc,← e];exact named_take h hk
   ·rename_i hc
    rw [if_neg hc]
    split at h
    ·rename_i hc;rw [if_pos hc,← e];exact named_take h hk
    ·rename_i hc
     rw [if_neg hc]
     split at h
     ·rename_i hc
      have h1:=made_ok h
      have hs:small (head0 (t.take q))=true:=by
       have:head0 (t.take q)=head0 t:=by
        have hp:0<run part t:=by
         cases t with
         | nil=>exact absurd hc.2 (by decide)
         | cons a t=>exact run_pos (part_small hc.2)
        exact hd1 _ rfl (by omega)
       rw [this];exact hc.2
      rw [if_pos ⟨hc.1,hs⟩,run_take]
      have:min (run part t) q=run part t:=by omega
      rw [this];exact h
     ·rename_i hc
      rw [if_neg (fun e2=>by
       have h2:head0 (t.take q)≠0:=fun e0=>by rw [e0] at e2;exact absurd e2.2 (by decide)
       rw [← hd0 _ rfl h2] at e2
       exact hc e2)]
      split at h
      ·rename_i hs
       cases h
       rw [if_pos ⟨hs.1,hd1 _ hs.2 (by omega)⟩]
      ·rename_i hs
       rw [if_neg (fun e2=>hs ⟨e2.1,hd0 _ e2.2 (by decide)⟩)]
       exact h
theorem opens_take {l:List Nat}{k:Nat}(hk:2≤k):opens (l.take k)=opens l:=by
 obtain⟨q,rfl⟩:∃ q,k=q+2:=⟨k - 2,by omega⟩
 match l with
 | []=>rfl
 | [_]=>rfl
 | a :: b :: t =>
  rw [List.take_succ_cons,List.take_succ_cons]
  unfold opens
  by_cases h:a=40∧b=42
  ·obtain⟨rfl,rfl⟩:=h;rfl
  ·split
   ·rename_i heq;simp only [List.cons.injEq] at heq;exact absurd ⟨heq.1,heq.2.1⟩ h
   ·split
    ·rename_i heq;simp only [List.cons.injEq] at heq;exact absurd ⟨heq.1,heq.2.1⟩ h
    ·rfl
theorem opens_take_false {l:List Nat}{k:Nat}(h:opens l=false):opens (l.take k)=false:=by
 match k with
 | 0=>rfl
 | 1 =>
  match l with
  | []=>rfl
  | a :: t =>
   show opens [a]=false
   unfold opens
   split
   ·rename_i heq;simp at heq
   ·rfl
 | k+2=>rw [opens_take (by omega)];exact h
end LX
end Go.Proofs.YtnkahlloahgifaaGreatDoor.Lx

namespace Go.Proofs.YtnkahlloahgifaaGreatDoor.Lx
namespace LX
def rfold:List Nat→Int→Option Int
 | [],n=>some n
 | c :: t,n=>if digit c=false then none else if 10*n - ((c:Int) - 48) < -9223372036854775808 then none else rfold t (10*n - ((c:Int) - 48))
def refNum (l:List Nat):Option Int :=
 let i:=if l.headD 0=126 then 1 else 0
 if l.length=i∨30<l.length∨(l.getD i 0=48∧1<l.length) then none
 else match rfold (l.drop i) 0 with
  | none=>none
  | some n=>if i=1 then some n else if n = -9223372036854775808 then none else some (-n)
def allDig (l:List Nat):Prop:=∀ c∈l,48≤c∧c≤57
theorem digit_iff {c:Nat}:digit c=true↔48≤c∧c≤57:=by simp [digit]
theorem foldl_mag (t:List Nat):∀ a:Nat,t.foldl (fun a c=>10*a+(c - 48)) a=a*10 ^ t.length+mag t:=by
 induction t with
 | nil=>intro a;simp [mag]
 | cons c t ih =>
  intro a
  have h1:mag (c :: t)=t.foldl (fun a c=>10*a+(c - 48)) (10*0+(c - 48)):=rfl
  rw [h1,List.foldl_cons,ih,ih,List.length_cons,Nat.pow_succ]
  rw [Nat.mul_zero,Nat.zero_add,Nat.add_mul,← Nat.add_assoc]
  congr 2
  rw [Nat.mul_comm 10 a,Nat.mul_assoc,Nat.mul_comm 10]
theorem mag_cons (c:Nat) (t:List Nat):mag (c :: t)=(c - 48)*10 ^ t.length+mag t:=by
 have h1:mag (c :: t)=t.foldl (fun a c=>10*a+(c - 48)) (10*0+(c - 48)):=rfl
 rw [h1,foldl_mag,Nat.mul_zero,Nat.zero_add]
theorem rfold_dig:∀ (t:List Nat) (m:Nat),allDig t→m≤9223372036854775808→rfold t (-(m:Int))=if m*10 ^ t.length+mag t≤9223372036854775808 then some (-((m*10 ^ t.length+mag t:Nat):Int)) else none
 | [],m,_,hm=>by simp [rfold,mag,hm]
 | c :: t,m,h,hm=>by
  have hc:=h c List.mem_cons_self
  have ht:allDig t:=fun x hx=>h x (List.mem_cons_of_mem _ hx)
  rw [rfold,if_neg (by simp [digit_iff.2 hc])]
  have e:(10:Int)*(-(m:Int)) - ((c:Int) - 48) = -((10*m+(c - 48):Nat):Int):=by omega
  have e2:m*10 ^ (c :: t).length+mag (c :: t)=(10*m+(c - 48))*10 ^ t.length+mag t:=by
   rw [mag_cons,List.length_cons,Nat.pow_succ,Nat.add_mul,← Nat.add_assoc,Nat.mul_comm 10 m,Nat.mul_assoc,Nat.mul_comm 10]
  rw [e,e2]
  have hp:1≤10 ^ t.length:=Nat.one_le_pow _ _ (by decide)
  have hle:10*m+(c - 48)≤(10*m+(c - 48))*10 ^ t.length:=Nat.le_mul_of_pos_right _ hp
  by_cases h2:10*m+(c - 48)≤9223372036854775808
  ·rw [if_neg (by omega)]
   exact rfold_dig t _ ht h2
  ·rw [if_pos (by omega),if_neg (by omega)]
theorem rfold_some:∀ (t:List Nat) (n v:Int),rfold t n=some v→allDig t
 | [],_,_,_=>fun c hc=>by cases hc
 | c :: t,n,v,h=>by
  rw [rfold] at h
  by_cases hc:digit c=false
  ·rw [if_pos hc] at h;cases h
  ·rw [if_neg hc] at h
   split at h
   ·cases h
   ·intro x hx
    rcases List.mem_cons.1 hx with rfl | hx
    ·exact digit_iff.1 (by simpa using hc)
    ·exact rfold_some t _ _ h x hx
theorem nat10_mag:∀ (f:Nat) (t:List Nat),allDig t→t≠[]→(t.headD 0=48→t.length=1)→mag t<10 ^ f→1≤f→nat10 f (mag t)=t
 | 0,_,_,_,_,_,h=>by omega
 | f+1,t,hd,hne,hz,hm,_=>by
  obtain⟨r,c,rfl⟩:∃ r c,t=r++[c]:=⟨t.dropLast,t.getLast hne,(List.dropLast_concat_getLast hne).symm⟩
  have hc:=hd c (by simp)
  rw [mag_append] at hm ⊢
  rw [nat10]
  by_cases hr:r=[]
  ·subst hr
   have:mag []=0:=rfl
   rw [this,if_pos (by omega)]
   simp
   omega
  ·have hr0:(r++[c]).headD 0=r.headD 0:=by cases r with
    | nil=>exact absurd rfl hr
    | cons a r=>rfl
   have hlen:(r++[c]).length≠1:=by
    cases r with
    | nil=>exact absurd rfl hr
    | cons a r=>simp
   have hz':r.headD 0≠48:=fun e=>hlen (hz (hr0.trans e))
   have hdr:allDig r:=fun x hx=>hd x (by simp [hx])
   have hpos:1≤mag r:=by
    cases r with
    | nil=>exact absurd rfl hr
    | cons a r =>
     rw [mag_cons]
     have ha:=hdr a List.mem_cons_self
     have hz2:a≠48:=hz'
     have hp:1≤10 ^ r.length:=Nat.one_le_pow _ _ (by decide)
     have h3:1*1≤(a - 48)*10 ^ r.length:=Nat.mul_le_mul (by omega) hp
     omega
   have hf:1≤f:=by
    rcases Nat.eq_zero_or_pos f with rfl | h0
    ·simp at hm;omega
    ·exact h0
   rw [if_neg (by omega),show (10*mag r+(c - 48)) / 10=mag r from by omega,nat10_mag f r hdr hr (fun e=>absurd e hz') (by rw [Nat.pow_succ] at hm;omega) hf]
   congr 2
   omega
theorem nat10_ne (f u:Nat) (h:1≤f):nat10 f u≠[]:=by
 obtain⟨g,rfl⟩:∃ g,f=g+1:=⟨f - 1,by omega⟩
 rw [nat10]
 split<;>simp
theorem nat10_head:∀ (f u:Nat),1≤f→10≤u→u<10 ^ f→(nat10 f u).headD 0≠48
 | 0,_,h,_,_=>by omega
 | f+1,u,_,h10,hu=>by
  have hf:1≤f:=by
   rcases Nat.eq_zero_or_pos f with rfl | h0
   ·simp at hu;omega
   ·exact h0
  rw [nat10,if_neg (by omega)]
  have hne:=nat10_ne f (u / 10) hf
  have e:(nat10 f (u / 10)++[48+u % 10]).headD 0=(nat10 f (u / 10)).headD 0:=by
   cases hq:nat10 f (u / 10) with
   | nil=>exact absurd hq hne
   | cons a r=>rfl
  rw [e]
  by_cases h100:10≤u / 10
  ·exact nat10_head f (u / 10) hf h100 (by rw [Nat.pow_succ] at hu;omega)
  ·obtain⟨g,rfl⟩:∃ g,f=g+1:=⟨f - 1,by omega⟩
   rw [nat10,if_pos (by omega)]
   show 48+u / 10≠48
   omega
theorem nat10_zero (f u:Nat) (h:1≤f) (hu:u<10 ^ f):(nat10 f u).headD 0=48→(nat10 f u).length=1:=by
 intro e
 rcases Nat.lt_or_ge u 10 with h1 | h1
 ·obtain⟨g,rfl⟩:∃ g,f=g+1:=⟨f - 1,by omega⟩
  rw [nat10,if_pos h1];rfl
 ·exact absurd e (nat10_head f u h h1 hu)
theorem nat10_length:∀ (f u:Nat),(nat10 f u).length≤f
 | 0,_=>Nat.le_refl _
 | f+1,u=>by
  rw [nat10]
  split
  ·simp
  ·have:=nat10_length f (u / 10);simp;omega
theorem nat10_fuel:∀ (f g u:Nat),1≤f→1≤g→u<10 ^ f→u<10 ^ g→nat10 f u=nat10 g u
 | 0,_,_,h,_,_,_=>by omega
 | _+1,0,_,_,h,_,_=>by omega
 | f+1,g+1,u,_,_,hf,hg=>by
  rw [nat10,nat10]
  by_cases h10:u<10
  ·rw [if_pos h10,if_pos h10]
  ·rw [if_neg h10,if_neg h10]
   have hf1:1≤f:=by
    rcases Nat.eq_zero_or_pos f with rfl | h0
    ·simp at hf;omega
    ·exact h0
   have hg1:1≤g:=by
    rcases Nat.eq_zero_or_pos g with rfl | h0
    ·simp at hg;omega
    ·exact h0
   rw [nat10_fuel f g (u / 10) hf1 hg1 (by rw [Nat.pow_succ] at hf;omega) (by rw [Nat.pow_succ] at hg;omega)]
theorem pow30:(10:Nat) ^ 30=1000000000000000000000000000000:=by decide
theorem pow19:(10:Nat) ^ 19=10000000000000000000:=by decide
theorem nat10_short {u:Nat}(h:u≤9223372036854775808):(nat10 30 u).length≤19:=by
 rw [nat10_fuel 30 19 u (by decide) (by decide) (by rw [pow30];omega) (by rw [pow19];omega)]
 exact nat10_length 19 u
theorem ref_some {l:List Nat}{v:Int}(h:refNum l=some v):num l=some v:=by
 unfold refNum at h
 simp only [] at h
 by_cases h126:l.headD 0=126
 ·rw [if_pos h126] at h
  by_cases hb:l.length=1∨30<l.length∨(l.getD 1 0=48∧1<l.length)
  ·rw [if_pos hb] at h;cases h
  ·rw [if_neg hb] at h
   obtain⟨t,rfl⟩:∃ t,l=126 :: t:=by
    cases l with
    | nil=>cases h126
    | cons a t=>exact⟨t,by rw [show a=126 from h126]⟩
   simp only [List.drop_succ_cons,List.drop_zero] at h
   cases hq:rfold t 0 with
   | none=>rw [hq] at h;cases h
   | some n =>
    rw [hq] at h
    simp only [if_true,Option.some.injEq] at h
    subst h
    have hd:=rfold_some _ _ _ hq
    have hr:=rfold_dig t 0 hd (by decide)
    rw [show (-((0:Nat):Int))=0 from rfl,hq,Nat.zero_mul,Nat.zero_add] at hr
    by_cases hm:mag t≤9223372036854775808
    ·rw [if_pos hm] at hr
     simp only [Option.some.injEq] at hr
     subst hr
     have hne:t≠[]:=fun e=>hb (.inl (by rw [e];rfl))
     have hz:t.headD 0=48→t.length=1:=fun e=>by
      exfalso
      refine hb (.inr (.inr ⟨?_,?_⟩))
      ·cases t with
       | nil=>exact absurd rfl hne
       | cons a t=>exact e
      ·cases t with
       | nil=>exact absurd rfl hne
       | cons a t=>simp
     have h1:=nat10_mag 30 t hd hne hz (by rw [pow30];omega) (by decide)
     have hpos:1≤mag t:=by
      rcases Nat.eq_zero_or_pos (mag t) with h0 | h0
      ·rw [h0] at h1
       have:t=[48]:=by rw [← h1];rfl
       exfalso
       rw [this] at hb
       exact hb (.inr (.inr ⟨rfl,by decide⟩))
      ·exact h0
     have h2:digs (-(mag t:Int))=126 :: t:=by
      unfold digs
      rw [if_pos (by omega),show (-(mag t:Int)).natAbs=mag t from by omega,h1]
     rw [← h2]
     exact num_digs _ (by omega) (by omega)
    ·rw [if_neg hm] at hr;cases hr
 ·rw [if_neg h126] at h
  by_cases hb:l.length=0∨30<l.length∨(l.getD 0 0=48∧1<l.length)
  ·rw [if_pos hb] at h;cases h
  ·rw [if_neg hb] at h
   simp only [List.drop_zero] at h
   cases hq:rfold l 0 with
   | none=>rw [hq] at h;cases h
   | some n =>
    rw [hq] at h
    simp only [show ¬ (0:Nat)=1 from by decide,if_false] at h
    have hd:=rfold_some _ _ _ hq
    have hr:=rfold_dig l 0 hd (by decide)
    rw [show (-((0:Nat):Int))=0 from rfl,hq,Nat.zero_mul,Nat.zero_add] at hr
    by_cases hm:mag l≤9223372036854775808
    ·rw [if_pos hm] at hr
     simp only [Option.some.injEq] at hr
     subst hr
     by_cases hl : -(mag l:Int) = -9223372036854775808
     ·rw [if_pos hl] at h;cases h
     ·rw [if_neg hl] at h
      simp only [Option.some.injEq] at h
      subst h
      have hne:l≠[]:=fun e=>hb (.inl (by rw [e];rfl))
      have hz:l.headD 0=48→l.length=1:=fun e=>by
       rcases Nat.lt_or_ge 1 l.length with h3 | h3
       ·exfalso
        refine hb (.inr (.inr ⟨?_,h3⟩))
        cases l with
        | nil=>exact absurd rfl hne
        | cons a t=>exact e
       ·cases l with
        | nil=>exact absurd rfl hne
        | cons a t=>simp at h3 ⊢;exact h3
      have h1:=nat10_mag 30 l hd hne hz (by rw [pow30];omega) (by decide)
      have h2:digs (mag l:Int)=l:=by
       unfold digs
       rw [if_neg (by omega),show ((mag l:Int)).natAbs=mag l from by omega,h1]
      conv=>lhs;rw [← h2]
      rw [show (- -(mag l:Int))=(mag l:Int) from by omega]
      exact num_digs _ (by omega) (by omega)
    ·rw [if_neg hm] at hr;cases hr
theorem ref_digs (v : Int) (h0 : -9223372036854775808 ≤ v) (h1 : v ≤ 9223372036854775807) : refNum (digs v) = some v := by
  have hn : v.natAbs < 10 ^ 30 := by rw [pow30]; omega
  have hm := mag_nat10 30 v.natAbs (by decide) hn
  have hd : allDig (nat10 30 v.natAbs) := nat10_digit 30 v.natAbs
  have hs := nat10_short (u := v.natAbs) (by omega)
  have hne := nat10_ne 30 v.natAbs (by decide)
  have hz := nat10_zero 30 v.natAbs (by decide) hn
  have hr := rfold_dig (nat10 30 v.natAbs) 0 hd (by decide)
  rw [Nat.zero_mul, Nat.zero_add, hm, if_pos (by omega)] at hr
  unfold digs
  generalize hg : nat10 30 v.natAbs = t at *
  have hlen : 0 < t.length := List.length_pos_iff.2 hne
  by_cases hv : v < 0
  · rw [if_pos hv]
    unfold refNum
    have h48 : ¬ (t.headD 0 = 48) := fun e => by
      have e1 := hz e
      match t, e1, e with
      | [a], _, e =>
        have e' : a = 48 := e
        subst e'
        have : mag [48] = 0 := rfl
        omega
    have hg2 : (126 :: t).getD 1 0 = t.headD 0 := by cases t <;> rfl
    simp only [List.headD_cons, if_true, List.length_cons, List.drop_succ_cons, List.drop_zero, hg2]
    rw [if_neg (by intro e; rcases e with e | e | ⟨e, _⟩; · omega
                   · omega
                   · exact h48 e)]
    rw [show rfold t 0 = rfold t (-((0 : Nat) : Int)) from rfl, hr]
    simp only [Option.some.injEq]
    omega
  · rw [if_neg hv]
    have h126 : ¬ t.headD 0 = 126 := by
      cases t with
      | nil => exact absurd rfl hne
      | cons a t => have := hd a List.mem_cons_self; show ¬ a = 126; omega
    have hg2 : t.getD 0 0 = t.headD 0 := by cases t <;> rfl
    unfold refNum
    simp only [if_neg h126, List.drop_zero, hg2]
    rw [if_neg (by intro e; rcases e with e | e | ⟨e, e2⟩; · omega
                   · omega
                   · have := hz e; omega)]
    rw [show rfold t 0 = rfold t (-((0 : Nat) : Int)) from rfl, hr]
    simp only [show ¬ (0 : Nat) = 1 from by decide, if_false]
    rw [if_neg (by omega)]
    simp only [Option.some.injEq]
    omega
theorem refNum_eq (l:List Nat):refNum l=num l:=by
 cases h:num l with
 | some v =>
  obtain⟨h0,h1,h2⟩:=num_some h
  rw [← h2];exact ref_digs v h0 h1
 | none =>
  cases h2:refNum l with
  | none=>rfl
  | some v=>rw [ref_some h2] at h;cases h
end LX
end Go.Proofs.YtnkahlloahgifaaGreatDoor.Lx

namespace Go.Proofs.YtnkahlloahgifaaGreatDoor.Lx
namespace LX
theorem sc_forall (T:List Nat) (P:Tok→Prop) (hP:∀ j k v m,j<T.length→space (T.getD j 0)=false→opens (T.drop j)=false→token (T.drop j) = .tok k v m→P ⟨k,v,(T.drop j).take m,j⟩) :
  ∀ (n j:Nat),T.length - j=n→∀ ts cs,sc T j = .ok ts cs→∀ t∈ts,P t:=by
 intro n
 induction n using Nat.strongRecOn with
 | ind n ih =>
  intro j hn ts cs h
  rcases Nat.lt_or_ge j T.length with hj | hj
  ·rw [sc_step hj] at h
   split at h
   ·exact ih _ (by omega) (j+1) rfl ts cs h
   ·rename_i hsp
    split at h
    ·cases hc:cmt (T.drop j) 0 0 with
     | fin m =>
      rw [hc] at h
      simp only [] at h
      have h0:=cmt_fin hc
      cases hs:sc T (j+m) with
      | ok t2 c2 =>
       rw [hs] at h
       simp only [Res.app,Res.ok.injEq,List.nil_append] at h
       rw [← h.1]
       exact ih _ (by omega) (j+m) rfl t2 c2 hs
      | bad p e=>rw [hs] at h;cases h
     | deep m=>rw [hc] at h;cases h
     | never=>rw [hc] at h;cases h
    ·rename_i hop
     cases hc:token (T.drop j) with
     | tok k v m =>
      rw [hc] at h
      simp only [] at h
      have h0:=token_len hc
      cases hs:sc T (j+m) with
      | ok t2 c2 =>
       rw [hs] at h
       simp only [Res.app,Res.ok.injEq,List.cons_append,List.nil_append] at h
       rw [← h.1]
       intro t ht
       rcases List.mem_cons.1 ht with rfl | ht
       ·exact hP j k v m hj (by simpa using hsp) (by simpa using hop) hc
       ·exact ih _ (by omega) (j+m) rfl t2 c2 hs t ht
      | bad p e=>rw [hs] at h;cases h
     | bad e=>rw [hc] at h;cases h
  ·rw [sc_end hj] at h
   cases h
   intro t ht
   cases ht
theorem token_kind {l:List Nat}{k m:Nat}{v:Int}(h:token l = .tok k v m):k≠0∧m≤24∧((k=1∧num (l.take m)=some v)∨(k≠1∧v=0)):=by
 cases l with
 | nil=>cases h
 | cons c t =>
  unfold token at h
  simp only [] at h
  split at h
  ·obtain⟨h1,h2,h3⟩:=number_ok h
   obtain⟨a0,a1,a2⟩:=num_some h3
   have hl:=nat10_short (u:=v.natAbs) (by omega)
   have hm:=token_len (l:=c :: t) (k:=k) (m:=m) (v:=v) (by unfold token;simp only [];rename_i hc;rw [if_pos hc];exact h)
   have hd:(digs v).length≤20:=by
    unfold digs
    split
    ·simp only [List.length_cons];omega
    ·omega
   rw [a2,List.length_take] at hd
   exact⟨by omega,by omega,.inl ⟨h1,h3⟩⟩
  ·split at h
   ·obtain⟨h1,h2,h3,h4⟩:=named_ok h
    refine⟨?_,h3,.inr ⟨?_,h2⟩⟩<;>(rw [h4];split<;>decide)
   ·split at h
    ·obtain⟨h1,h2,h3,h4⟩:=named_ok h
     refine⟨?_,h3,.inr ⟨?_,h2⟩⟩<;>(rw [h4];split<;>decide)
    ·split at h
     ·obtain⟨h1,h2,h3,h4⟩:=made_ok h
      refine⟨by omega,by omega,.inr ⟨by omega,h3⟩⟩
     ·split at h
      ·cases h;exact⟨by decide,by decide,.inr ⟨by decide,rfl⟩⟩
      ·split at h
       ·cases h;exact⟨by decide,by decide,.inr ⟨by decide,rfl⟩⟩
       ·cases h
structure Good (t:Tok):Prop where
 kind:kindOf t.text=t.kind
 some:t.kind≠0
 num:t.num=if t.kind=1 then (LX.num t.text).getD 0 else 0
 alone:scan t.text = .ok [⟨t.kind,t.num,t.text,0⟩] []
 pos:0<t.text.length
 short:t.text.length≤24
 digs:t.kind=1→LX.digs t.num=t.text
theorem sc_good (T:List Nat) {j:Nat}{ts:List Tok}{cs:List (Nat×Nat)}(h:sc T j = .ok ts cs):∀ t∈ts,Good t:=by
 refine sc_forall T Good (fun j k v m hj hsp hop hc=>?_) _ j rfl ts cs h
 have h0:=token_len hc
 rw [List.length_drop] at h0
 have hlen:((T.drop j).take m).length=m:=by rw [List.length_take,List.length_drop];omega
 have hk:=token_kind hc
 have hal:scan ((T.drop j).take m) = .ok [⟨k,v,(T.drop j).take m,0⟩] []:=by
  rw [scan_sc,sc_step (by omega)]
  have e0:((T.drop j).take m).getD 0 0=T.getD j 0:=by
   rw [List.getD_eq_getElem?_getD,List.getElem?_take,if_pos (by omega),List.getElem?_drop,List.getD_eq_getElem?_getD,Nat.add_zero]
  rw [e0,hsp,if_neg (by decide),List.drop_zero,opens_take_false hop,if_neg (by decide),token_take hc (Nat.le_refl _)]
  simp only [Nat.zero_add]
  rw [sc_end (by omega),List.take_of_length_le (by omega)]
  rfl
 refine⟨?_,hk.1,?_,hal,by show 0<((T.drop j).take m).length;omega,by show ((T.drop j).take m).length≤24;omega,?_⟩
 ·show kindOf ((T.drop j).take m)=k
  unfold kindOf
  rw [hal,if_neg (by omega)]
  simp only []
  rw [if_pos trivial]
 ·show v=if k=1 then (LX.num ((T.drop j).take m)).getD 0 else 0
  rcases hk.2.2 with ⟨h1,h2⟩|⟨h1,h2⟩
  ·rw [if_pos h1,h2];rfl
  ·rw [if_neg h1];exact h2
 ·intro h1
  show LX.digs v=(T.drop j).take m
  rcases hk.2.2 with ⟨_,h2⟩|⟨h3,_⟩
  ·exact(num_some h2).2.2
  ·exact absurd h1 h3
theorem Good.place {t:Tok}(h:Good t) (p:Nat):Good { t with place:=p }:=⟨h.kind,h.some,h.num,h.alone,h.pos,h.short,h.digs⟩
theorem good_of_kind {l:List Nat}{k:Nat}(h:kindOf l=k) (hk:k≠0):∃ v,Good ⟨k,v,l,0⟩:=by
 unfold kindOf at h
 split at h
 ·exact absurd h.symm hk
 ·split at h
  ·rename_i t cs hs
   split at h
   ·rename_i ht
    have hg:=sc_good l (j:=0) hs t List.mem_cons_self
    obtain⟨k',v',x',p'⟩:=t
    simp only [] at ht h
    subst ht h
    exact⟨v',hg.place 0⟩
   ·exact absurd h.symm hk
  ·exact absurd h.symm hk
def pre (ts:List Tok) (i:Nat):Nat:=((ts.take i).map fun t=>t.text.length+1).sum
end LX
end Go.Proofs.YtnkahlloahgifaaGreatDoor.Lx

namespace Go.Proofs.YtnkahlloahgifaaGreatDoor.Lx
namespace LX
def gap (S T:List Nat) (i:Nat):Prop:=space (S.getD i 0)=true∧(S.getD i 0=10↔T.getD i 0=10)
def Lies (S T:List Nat):Nat→List Tok→Prop
 | at',[]=>∀ i,at'≤i→i<T.length→gap S T i
 | at',t :: ts=>at'≤t.place∧t.place+t.text.length≤T.length∧(S.drop t.place).take t.text.length=t.text∧(T.drop t.place).take t.text.length=t.text∧(∀ i,at'≤i→i<t.place→gap S T i)∧Lies S T (t.place+t.text.length) ts
theorem opens_two {l:List Nat}(h:opens l=true):l.getD 0 0=40∧l.getD 1 0=42:=by
 unfold opens at h
 split at h
 ·exact⟨rfl,rfl⟩
 ·cases h
theorem opens_of {l:List Nat}(h0:l.getD 0 0=40) (h1:l.getD 1 0=42):opens l=true:=by
 match l with
 | []=>cases h0
 | [c]=>cases h1
 | a :: b :: t =>
  have e0:a=40:=h0
  have e1:b=42:=h1
  subst e0 e1
  rfl
end LX
end Go.Proofs.YtnkahlloahgifaaGreatDoor.Lx

namespace Go.Proofs.YtnkahlloahgifaaGreatDoor.Lx
namespace LX
theorem sc_lo (T:List Nat):∀ (n j:Nat),T.length - j=n→∀ ts cs,sc T j = .ok ts cs→∀ t∈ts,j≤t.place∧t.place+t.text.length≤T.length:=by
 intro n
 induction n using Nat.strongRecOn with
 | ind n ih =>
  intro j hn ts cs h
  rcases Nat.lt_or_ge j T.length with hj | hj
  ·rw [sc_step hj] at h
   split at h
   ·intro t ht
    have:=ih _ (by omega) (j+1) rfl ts cs h t ht
    omega
   ·split at h
    ·cases hc:cmt (T.drop j) 0 0 with
     | fin m =>
      rw [hc] at h
      simp only [] at h
      have h0:=cmt_fin hc
      cases hs:sc T (j+m) with
      | ok t2 c2 =>
       rw [hs] at h
       simp only [Res.app,Res.ok.injEq,List.nil_append] at h
       rw [← h.1]
       intro t ht
       have:=ih _ (by omega) (j+m) rfl t2 c2 hs t ht
       omega
      | bad p e=>rw [hs] at h;cases h
     | deep m=>rw [hc] at h;cases h
     | never=>rw [hc] at h;cases h
    ·cases hc:token (T.drop j) with
     | tok k v m =>
      rw [hc] at h
      simp only [] at h
      have h0:=token_len hc
      rw [List.length_drop] at h0
      cases hs:sc T (j+m) with
      | ok t2 c2 =>
       rw [hs] at h
       simp only [Res.app,Res.ok.injEq,List.cons_append,List.nil_append] at h
       rw [← h.1]
       intro t ht
       rcases List.mem_cons.1 ht with rfl | ht
       ·refine⟨Nat.le_refl _,?_⟩
        show j+((T.drop j).take m).length≤T.length
        rw [List.length_take,List.length_drop];omega
       ·have:=ih _ (by omega) (j+m) rfl t2 c2 hs t ht
        omega
      | bad p e=>rw [hs] at h;cases h
     | bad e=>rw [hc] at h;cases h
  ·rw [sc_end hj] at h
   cases h
   intro t ht
   cases ht
def refKind (l:List Nat):Nat:=if l=[]∨100<l.length then 0 else if space (l.headD 0)=true∨opens l=true then 0 else match token l with
 | .tok k _ n=>if n=l.length then k else 0
 | .bad _=>0
theorem headD_getD (l:List Nat):l.headD 0=l.getD 0 0:=by cases l<;>rfl
theorem good_token {t:Tok}(h:Good t):space (t.text.headD 0)=false∧opens t.text=false∧token t.text = .tok t.kind t.num t.text.length:=by
 have hs:=h.alone
 have hp:=h.pos
 rw [scan_sc,sc_step hp,List.drop_zero] at hs
 split at hs
 ·exfalso
  have:=sc_lo t.text _ (0+1) rfl _ _ hs _ List.mem_cons_self
  have h2:=this.1
  simp at h2
 ·rename_i hsp
  split at hs
  ·exfalso
   cases hc:cmt t.text 0 0 with
   | fin m =>
    rw [hc] at hs
    simp only [] at hs
    have h0:=cmt_fin hc
    cases hq:sc t.text (0+m) with
    | ok t2 c2 =>
     rw [hq] at hs
     simp [Res.app] at hs
    | bad p e=>rw [hq] at hs;cases hs
   | deep m=>rw [hc] at hs;cases hs
   | never=>rw [hc] at hs;cases hs
  ·rename_i hop
   cases hc:token t.text with
   | tok k v m =>
    rw [hc] at hs
    simp only [] at hs
    have h0:=token_len hc
    cases hq:sc t.text (0+m) with
    | ok t2 c2 =>
     rw [hq] at hs
     simp only [Res.app,Res.ok.injEq,List.cons_append,List.nil_append,List.cons.injEq,Tok.mk.injEq] at hs
     obtain⟨⟨⟨e1,e2,e3,_⟩,_⟩,_⟩:=hs
     have hm:m=t.text.length:=by
      have:=congrArg List.length e3
      rw [List.length_take] at this
      omega
     refine⟨by rw [headD_getD];simpa using hsp,by simpa using hop,by rw [e1,e2,hm]⟩
    | bad p e=>rw [hq] at hs;cases hs
   | bad e=>rw [hc] at hs;cases hs
theorem refKind_eq (l : List Nat) : refKind l = kindOf l := by
  by_cases hk : kindOf l = 0
  · rw [hk]
    unfold refKind
    split
    · rfl
    · rename_i h1
      split
      · rfl
      · rename_i h2
        cases hc : token l with
        | bad e => rfl
        | tok k v n =>
          simp only []
          split
          · rename_i hn
            exfalso
            have hkk := token_kind hc
            have h3 : scan l = .ok [⟨k, v, l, 0⟩] [] := by
              rw [scan_sc, sc_step (List.length_pos_iff.2 (fun e => h1 (.inl e)))]
              rw [← headD_getD, if_neg (fun e => h2 (.inl e)), List.drop_zero, if_neg (fun e => h2 (.inr e)), hc]
              simp only []
              rw [Nat.zero_add, sc_end (by omega), List.take_of_length_le (by omega)]
              rfl
            unfold kindOf at hk
            rw [if_neg (by omega), h3] at hk
            simp only [] at hk
            rw [if_pos trivial] at hk
            exact hkk.1 hk
          · rfl
  · obtain ⟨v, hg⟩ := good_of_kind (l := l) rfl hk
    obtain ⟨h1, h2, h3⟩ := good_token hg
    have h1' : space (l.headD 0) = false := h1
    have h2' : opens l = false := h2
    have h3' : token l = .tok (kindOf l) v l.length := h3
    have hs : l.length ≤ 24 := hg.short
    have hp : 0 < l.length := hg.pos
    unfold refKind
    rw [if_neg (fun e => by rcases e with e | e; · rw [e] at hp; simp at hp
                            · omega), if_neg (fun e => by rcases e with e | e; · rw [h1'] at e; cases e
                                                          · rw [h2'] at e; cases e), h3']
    simp only []
    rw [if_pos trivial]
end LX
end Go.Proofs.YtnkahlloahgifaaGreatDoor.Lx

namespace Go.Proofs.YtnkahlloahgifaaGreatDoor.Lx
open Go.RowKit
theorem slice_mid (s:ByteArray) (i n:Nat) (h:i+n≤s.size) (m:World):(Instr.slice 9 (.string s) (some (.int .i64 i)) (some (.int .i64 ((i:Int)+(n:Int)))) none).run Tryz.prog m = .ok (.string (s.extract i (i+n))) m:=by
 have:=run_slice_string (P:=Tryz.prog) m 9 s .i64 .i64 i ((i:Int)+(n:Int)) Tryz.underlying9 (by omega) (by omega) (by omega)
 rw [this]
 have e:((i:Int)+(n:Int)).toNat=i+n:=by omega
 rw [e]
 simp
theorem byte_at (s:ByteArray) {i c:Nat}(h:i<s.size) (hc:(bts s).getD i 0=c) (m:World):(Instr.index 9 (.string s) (.int .i64 i)).run Tryz.prog m = .ok (.int .u8 (c:Int)) m:=by
 rw [run_byte s i i rfl h m,hc]
end Go.Proofs.YtnkahlloahgifaaGreatDoor.Lx

namespace Go.Proofs.YtnkahlloahgifaaGreatDoor.Lx
open Go.RowKit
theorem rdigit_any (w:World) (c:Nat):Calls Tryz.prog 97 #[.int .u8 c] w fun e w'=>e = .returned (.bool (LX.digit c))∧w'=w:=by
 by_cases h1:48≤c
 ·have k1:(48:Int)≤(c:Int):=by omega
  have e:LX.digit c=decide ((c:Int)≤57):=by unfold LX.digit;rw [decide_eq_true h1,Bool.true_and];exact decide_eq_decide.2 (by omega)
  rw [e]
  go_enter Tryz.func97,Tryz.ntmps97
  go_wp2
  go_ret
  exact⟨rfl,rfl⟩
 ·have k1:(c:Int)<48:=by omega
  have e:LX.digit c=false:=by unfold LX.digit;rw [decide_eq_false h1,Bool.false_and]
  rw [e]
  go_enter Tryz.func97,Tryz.ntmps97
  go_wp2
  go_ret
  exact⟨rfl,rfl⟩
def RN (r:Option Int) (w:World) (e:Ending) (w':World):Prop:=e = .returned (.tuple #[.int .i64 (r.getD 0),.int .i64 (if r.isSome then 0 else 13)])∧w'=w
def rOut (i:Nat) (r:Option Int):Option Int:=match r with | none=>none | some n=>if i=1 then some n else if n = -9223372036854775808 then none else some (-n)
theorem rn_none (i:Nat) (w:World):RN (rOut i none) w (.returned (.tuple #[.int .i64 0,.int .i64 13])) w:=⟨rfl,rfl⟩
theorem w64_in (n:Int) (h : -9223372036854775808≤n∧n≤9223372036854775807):wrap64 n=n:=by unfold wrap64;omega
theorem tdiv_lt {v d:Int}(h0:0≤d) (h1:d≤9):v<(-9223372036854775808+d).tdiv 10↔10*v - d < -9223372036854775808:=by
 have e:(-9223372036854775808+d).tdiv 10 = -((9223372036854775808 - d) / 10):=by
  rw [show (-9223372036854775808+d:Int) = -(9223372036854775808 - d) from by omega,Int.neg_tdiv,Int.tdiv_eq_ediv_of_nonneg (by omega)]
 rw [e]
 omega
set_option maxHeartbeats 2000000 in
set_option maxRecDepth 20000 in
theorem refNumber_pos (w:World) (s:ByteArray) (hz:s.size≤30) (c0:Nat) (h0:(bts s).getD 0 0=c0) (hpos:0<s.size) (h126:c0≠126) (h48:c0≠48∨s.size=1) :
  Calls Tryz.prog 98 #[.string s] w (RN (rOut 0 (LX.rfold ((bts s).drop 0) 0)) w):=by
 have b0:∀ m,(Instr.index 9 (.string s) (.int .i64 0)).run Tryz.prog m = .ok (.int .u8 c0) m:=byte_at s hpos h0
 have z0:(0:Int)<(s.size:Int):=by omega
 have z30:(s.size:Int)≤30:=by omega
 have z00:((s.size:Int)==0)=false:=beq_false_of_ne (by omega)
 have z01:(s.size==0)=false:=beq_false_of_ne (by omega)
 have k126:((c0:Int)==126)=false:=beq_false_of_ne (fun e=>h126 (by omega))
 obtain⟨r,hr⟩:∃ r,r=LX.rfold ((bts s).drop 0) 0:=⟨_,rfl⟩
 rw [← hr]
 have HR:=zh hr
 have HZ:=zh hz
 have HP:Hid (0≤s.size):=Nat.zero_le _
 by_cases h:c0=48
 ·have k48:((c0:Int)==48)=true:=by rw [h];rfl
  have z1:(s.size:Int)≤1:=by omega
  clear h hz h0 hpos h126 h48 hr
  go_enter Tryz.func98,Tryz.ntmps98
  go_wp2_with fail
  clear b0 k126 k48 z00 z0 z01
  go_loop [5,7] (fun n j=>∃ (k:Nat) (v:Int),0≤k∧k≤s.size∧j = .int .i64 k∧n = .int .i64 v ∧ -9223372036854775808≤v∧v≤0∧r=LX.rfold ((bts s).drop k) v) (fun _ j=>s.size - (intOf j).toNat)
  case atStart=>exact⟨0,0,Nat.le_refl _,HP.out,rfl,rfl,by decide,by decide,HR.out⟩
  case round =>
   obtain⟨k,v,hki,hk,rfl,rfl,hv1,hv2,hrr⟩:=hrel
   have HRR:=zh hrr
   have HKI:=zh hki
   clear hrr hki
   by_cases hlt:k<s.size
   ·have hltz:(k:Int)<(s.size:Int):=by omega
    obtain⟨c,hc⟩:∃ c,(bts s).getD k 0=c:=⟨_,rfl⟩
    have bk:=byte_at s hlt hc
    have hdrop:(bts s).drop k=c :: (bts s).drop (k+1):=by rw [LX.drop_get (by rw [bts_length];exact hlt),hc]
    have HD:=zh hdrop
    have HLT:=zh hlt
    have DC:=rdigit_any w c
    cases hd:LX.digit c with
    | false =>
     have hn:r=none:=by rw [HRR.out,HD.out,LX.rfold,if_pos hd]
     have HN:=zh hn
     rw [hd] at DC
     have DG:=zh DC
     clear hd DC hc hdrop hn hlt hk
     go_wp2_with fail
     refine DG.out.mono ?_
     rintro e w1 ⟨rfl,rfl⟩
     go_wp2_with fail
     go_ret2
     rw [HN.out]
     exact rn_none 0 _
    | true =>
     obtain⟨h1,h2⟩:=LX.digit_iff.1 hd
     have c1:(48:Int)≤(c:Int):=by omega
     have c2:(c:Int)≤57:=by omega
     have HD2:=zh hd
     rw [hd] at DC
     have DG:=zh DC
     have HV:=zh (And.intro hv1 hv2)
     clear hd DC hc hdrop hlt hk h1 h2
     go_wp2_with fail
     refine DG.out.mono ?_
     rintro e w1 ⟨rfl,rfl⟩
     go_wp2_with fail
     ·have hq:v<(-9223372036854775808+((c:Int) - 48)).tdiv 10:=by assumption
      rw [tdiv_lt (by omega) (by omega)] at hq
      have hn:r=none:=by rw [HRR.out,HD.out,LX.rfold,if_neg (by rw [HD2.out];decide),if_pos hq]
      go_ret2
      rw [hn]
      exact rn_none 0 _
     ·have hq:(-9223372036854775808+((c:Int) - 48)).tdiv 10≤v:=by assumption
      have hq2:¬ 10*v - ((c:Int) - 48) < -9223372036854775808:=by
       rw [← tdiv_lt (by omega) (by omega)];omega
      go_round
      case rel=>exact⟨k+1,10*v - ((c:Int) - 48),by have:=HKI.out;omega,HLT.out,by go_num,by first | rfl | (rw [w64_in (10*v) (by omega),w64_in _ (by omega)]),by omega,by have:=HV.out;omega,by rw [HRR.out,HD.out,LX.rfold,if_neg (by rw [HD2.out];decide),if_neg hq2]⟩
      case measure=>have:=HLT.out;simp [intOf];omega
   ·have hge:(s.size:Int)≤(k:Int):=by omega
    have hv:r=some v:=by rw [HRR.out,List.drop_of_length_le (by rw [bts_length];omega)];rfl
    have HVR:=zh hv
    clear hv hlt hk
    by_cases hm:v = -9223372036854775808
    ·have km:(v == -9223372036854775808)=true:=by simpa using hm
     have HM:=zh hm
     clear hm
     go_wp2_with fail
     go_ret2
     rw [HVR.out]
     exact⟨by unfold rOut;simp only [show ¬ (0:Nat)=1 from by decide,if_false,if_pos HM.out];rfl,rfl⟩
    ·have km:(v == -9223372036854775808)=false:=by simpa using hm
     have hng:IntKind.i64.wrap (-v) = -v:=wrap_in _ (by omega)
     have HM:=zh hm
     clear hm
     go_wp2_with fail
     go_ret2
     rw [HVR.out]
     exact⟨by unfold rOut;simp only [show ¬ (0:Nat)=1 from by decide,if_false,if_neg HM.out];rfl,rfl⟩
 ·have k48:((c0:Int)==48)=false:=beq_false_of_ne (fun e=>h (by omega))
  clear h hz h0 hpos h126 h48 hr
  go_enter Tryz.func98,Tryz.ntmps98
  go_wp2_with fail
  clear b0 k126 k48 z00 z0 z01
  go_loop [5,7] (fun n j=>∃ (k:Nat) (v:Int),0≤k∧k≤s.size∧j = .int .i64 k∧n = .int .i64 v ∧ -9223372036854775808≤v∧v≤0∧r=LX.rfold ((bts s).drop k) v) (fun _ j=>s.size - (intOf j).toNat)
  case atStart=>exact⟨0,0,Nat.le_refl _,HP.out,rfl,rfl,by decide,by decide,HR.out⟩
  case round =>
   obtain⟨k,v,hki,hk,rfl,rfl,hv1,hv2,hrr⟩:=hrel
   have HRR:=zh hrr
   have HKI:=zh hki
   clear hrr hki
   by_cases hlt:k<s.size
   ·have hltz:(k:Int)<(s.size:Int):=by omega
    obtain⟨c,hc⟩:∃ c,(bts s).getD k 0=c:=⟨_,rfl⟩
    have bk:=byte_at s hlt hc
    have hdrop:(bts s).drop k=c :: (bts s).drop (k+1):=by rw [LX.drop_get (by rw [bts_length];exact hlt),hc]
    have HD:=zh hdrop
    have HLT:=zh hlt
    have DC:=rdigit_any w c
    cases hd:LX.digit c with
    | false =>
     have hn:r=none:=by rw [HRR.out,HD.out,LX.rfold,if_pos hd]
     have HN:=zh hn
     rw [hd] at DC
     have DG:=zh DC
     clear hd DC hc hdrop hn hlt hk
     go_wp2_with fail
     refine DG.out.mono ?_
     rintro e w1 ⟨rfl,rfl⟩
     go_wp2_with fail
     go_ret2
     rw [HN.out]
     exact rn_none 0 _
    | true =>
     obtain⟨h1,h2⟩:=LX.digit_iff.1 hd
     have c1:(48:Int)≤(c:Int):=by omega
     have c2:(c:Int)≤57:=by omega
     have HD2:=zh hd
     rw [hd] at DC
     have DG:=zh DC
     have HV:=zh (And.intro hv1 hv2)
     clear hd DC hc hdrop hlt hk h1 h2
     go_wp2_with fail
     refine DG.out.mono ?_
     rintro e w1 ⟨rfl,rfl⟩
     go_wp2_with fail
     ·have hq:v<(-9223372036854775808+((c:Int) - 48)).tdiv 10:=by assumption
      rw [tdiv_lt (by omega) (by omega)] at hq
      have hn:r=none:=by rw [HRR.out,HD.out,LX.rfold,if_neg (by rw [HD2.out];decide),if_pos hq]
      go_ret2
      rw [hn]
      exact rn_none 0 _
     ·have hq:(-9223372036854775808+((c:Int) - 48)).tdiv 10≤v:=by assumption
      have hq2:¬ 10*v - ((c:Int) - 48) < -9223372036854775808:=by
       rw [← tdiv_lt (by omega) (by omega)];omega
      go_round
      case rel=>exact⟨k+1,10*v - ((c:Int) - 48),by have:=HKI.out;omega,HLT.out,by go_num,by first | rfl | (rw [w64_in (10*v) (by omega),w64_in _ (by omega)]),by omega,by have:=HV.out;omega,by rw [HRR.out,HD.out,LX.rfold,if_neg (by rw [HD2.out];decide),if_neg hq2]⟩
      case measure=>have:=HLT.out;simp [intOf];omega
   ·have hge:(s.size:Int)≤(k:Int):=by omega
    have hv:r=some v:=by rw [HRR.out,List.drop_of_length_le (by rw [bts_length];omega)];rfl
    have HVR:=zh hv
    clear hv hlt hk
    by_cases hm:v = -9223372036854775808
    ·have km:(v == -9223372036854775808)=true:=by simpa using hm
     have HM:=zh hm
     clear hm
     go_wp2_with fail
     go_ret2
     rw [HVR.out]
     exact⟨by unfold rOut;simp only [show ¬ (0:Nat)=1 from by decide,if_false,if_pos HM.out];rfl,rfl⟩
    ·have km:(v == -9223372036854775808)=false:=by simpa using hm
     have hng:IntKind.i64.wrap (-v) = -v:=wrap_in _ (by omega)
     have HM:=zh hm
     clear hm
     go_wp2_with fail
     go_ret2
     rw [HVR.out]
     exact⟨by unfold rOut;simp only [show ¬ (0:Nat)=1 from by decide,if_false,if_neg HM.out];rfl,rfl⟩
set_option maxHeartbeats 2000000 in
set_option maxRecDepth 20000 in
theorem refNumber_neg (w:World) (s:ByteArray) (hz:s.size≤30) (c0:Nat) (h0:(bts s).getD 1 0=c0) (hpos:1<s.size) (h126:(bts s).getD 0 0=126) (h48:c0≠48) :
  Calls Tryz.prog 98 #[.string s] w (RN (rOut 1 (LX.rfold ((bts s).drop 1) 0)) w):=by
 have b0:∀ m,(Instr.index 9 (.string s) (.int .i64 0)).run Tryz.prog m = .ok (.int .u8 126) m:=byte_at (i:=0) s (by omega) h126
 have b1:∀ m,(Instr.index 9 (.string s) (.int .i64 1)).run Tryz.prog m = .ok (.int .u8 c0) m:=byte_at s hpos h0
 have z0:(0:Int)<(s.size:Int):=by omega
 have z1:(1:Int)<(s.size:Int):=by omega
 have z30:(s.size:Int)≤30:=by omega
 have z00:((s.size:Int)==1)=false:=beq_false_of_ne (by omega)
 have z01:(s.size==1)=false:=beq_false_of_ne (by omega)
 obtain⟨r,hr⟩:∃ r,r=LX.rfold ((bts s).drop 1) 0:=⟨_,rfl⟩
 rw [← hr]
 have HR:=zh hr
 have HZ:=zh hz
 have HP:Hid (1≤s.size):=by show 1≤s.size;omega
 first
 | (exfalso;exact absurd rfl h48)
 | skip
 ·have k48:((c0:Int)==48)=false:=beq_false_of_ne (fun e=>h48 (by omega))
  clear hz h0 hpos h126 h48 hr
  go_enter Tryz.func98,Tryz.ntmps98
  go_wp2_with fail
  clear b0 b1 k48 z00 z0 z01 z1
  go_loop [5,7] (fun n j=>∃ (k:Nat) (v:Int),1≤k∧k≤s.size∧j = .int .i64 k∧n = .int .i64 v ∧ -9223372036854775808≤v∧v≤0∧r=LX.rfold ((bts s).drop k) v) (fun _ j=>s.size - (intOf j).toNat)
  case atStart=>exact⟨1,0,Nat.le_refl _,HP.out,rfl,rfl,by decide,by decide,HR.out⟩
  case round =>
   obtain⟨k,v,hki,hk,rfl,rfl,hv1,hv2,hrr⟩:=hrel
   have HRR:=zh hrr
   have HKI:=zh hki
   clear hrr hki
   by_cases hlt:k<s.size
   ·have hltz:(k:Int)<(s.size:Int):=by omega
    obtain⟨c,hc⟩:∃ c,(bts s).getD k 0=c:=⟨_,rfl⟩
    have bk:=byte_at s hlt hc
    have hdrop:(bts s).drop k=c :: (bts s).drop (k+1):=by rw [LX.drop_get (by rw [bts_length];exact hlt),hc]
    have HD:=zh hdrop
    have HLT:=zh hlt
    have DC:=rdigit_any w c
    cases hd:LX.digit c with
    | false =>
     have hn:r=none:=by rw [HRR.out,HD.out,LX.rfold,if_pos hd]
     have HN:=zh hn
     rw [hd] at DC
     have DG:=zh DC
     clear hd DC hc hdrop hn hlt hk
     go_wp2_with fail
     refine DG.out.mono ?_
     rintro e w1 ⟨rfl,rfl⟩
     go_wp2_with fail
     go_ret2
     rw [HN.out]
     exact rn_none 1 _
    | true =>
     obtain⟨h1,h2⟩:=LX.digit_iff.1 hd
     have c1:(48:Int)≤(c:Int):=by omega
     have c2:(c:Int)≤57:=by omega
     have HD2:=zh hd
     rw [hd] at DC
     have DG:=zh DC
     have HV:=zh (And.intro hv1 hv2)
     clear hd DC hc hdrop hlt hk h1 h2
     go_wp2_with fail
     refine DG.out.mono ?_
     rintro e w1 ⟨rfl,rfl⟩
     go_wp2_with fail
     ·have hq:v<(-9223372036854775808+((c:Int) - 48)).tdiv 10:=by assumption
      rw [tdiv_lt (by omega) (by omega)] at hq
      have hn:r=none:=by rw [HRR.out,HD.out,LX.rfold,if_neg (by rw [HD2.out];decide),if_pos hq]
      go_ret2
      rw [hn]
      exact rn_none 1 _
     ·have hq:(-9223372036854775808+((c:Int) - 48)).tdiv 10≤v:=by assumption
      have hq2:¬ 10*v - ((c:Int) - 48) < -9223372036854775808:=by
       rw [← tdiv_lt (by omega) (by omega)];omega
      go_round
      case rel=>exact⟨k+1,10*v - ((c:Int) - 48),by have:=HKI.out;omega,HLT.out,by go_num,by first | rfl | (rw [w64_in (10*v) (by omega),w64_in _ (by omega)]),by omega,by have:=HV.out;omega,by rw [HRR.out,HD.out,LX.rfold,if_neg (by rw [HD2.out];decide),if_neg hq2]⟩
      case measure=>have:=HLT.out;simp [intOf];omega
   ·have hge:(s.size:Int)≤(k:Int):=by omega
    have hv:r=some v:=by rw [HRR.out,List.drop_of_length_le (by rw [bts_length];omega)];rfl
    have HVR:=zh hv
    clear hv hlt hk
    go_wp2_with fail
    go_ret2
    rw [HVR.out]
    exact⟨rfl,rfl⟩
set_option maxRecDepth 20000 in
theorem refNumber_bad (w:World) (s:ByteArray) (h:s.size=(if (bts s).headD 0=126 then 1 else 0)∨30<s.size∨((bts s).getD (if (bts s).headD 0=126 then 1 else 0) 0=48∧1<s.size)) :
  Calls Tryz.prog 98 #[.string s] w (RN none w):=by
 have hh:(bts s).headD 0=(bts s).getD 0 0:=by cases bts s<;>rfl
 rw [hh] at h
 have fin:Hid (RN none w (.returned (.tuple #[.int .i64 0,.int .i64 13])) w):=rn_none 0 w
 by_cases h0:s.size=0
 ·have z0:¬ (0:Int)<(s.size:Int):=by omega
  have z1:(s.size:Int)=0:=by omega
  clear h hh h0
  go_enter Tryz.func98,Tryz.ntmps98
  go_wp2_with fail
  go_ret2
  exact fin.out
 ·have hpos:0<s.size:=by omega
  have zp:(0:Int)<(s.size:Int):=by omega
  obtain⟨c0,hc0⟩:∃ c,(bts s).getD 0 0=c:=⟨_,rfl⟩
  have b0:∀ m,(Instr.index 9 (.string s) (.int .i64 0)).run Tryz.prog m = .ok (.int .u8 c0) m:=byte_at s hpos hc0
  rw [hc0] at h
  by_cases h126:c0=126
  ·rw [if_pos h126] at h
   have k126:((c0:Int)==126)=true:=by rw [h126];rfl
   by_cases h1:s.size=1
   ·have z1:((s.size:Int)==1)=true:=by rw [h1];rfl
    clear h h1 h126 hc0 hpos h0 hh
    go_enter Tryz.func98,Tryz.ntmps98
    go_wp2_with fail
    go_ret2
    exact fin.out
   ·have z1:((s.size:Int)==1)=false:=beq_false_of_ne (by omega)
    have z1':(s.size==1)=false:=beq_false_of_ne (by omega)
    by_cases h30:30<s.size
    ·have z30:(30:Int)<(s.size:Int):=by omega
     clear h h1 h126 hc0 hpos h0 hh h30
     go_enter Tryz.func98,Tryz.ntmps98
     go_wp2_with fail
     go_ret2
     exact fin.out
    ·have z30:(s.size:Int)≤30:=by omega
     have g48:(bts s).getD 1 0=48:=by
      rcases h with h | h | h
      ·omega
      ·omega
      ·exact h.1
     have b1:∀ m,(Instr.index 9 (.string s) (.int .i64 1)).run Tryz.prog m = .ok (.int .u8 48) m:=byte_at (i:=1) s (by omega) g48
     have z2:(1:Int)<(s.size:Int):=by omega
     clear h h1 h126 hc0 hpos h0 hh h30 g48
     go_enter Tryz.func98,Tryz.ntmps98
     go_wp2_with fail
     go_ret2
     exact fin.out
  ·rw [if_neg h126] at h
   have k126:((c0:Int)==126)=false:=beq_false_of_ne (fun e=>h126 (by omega))
   have z1:((s.size:Int)==0)=false:=beq_false_of_ne (by omega)
   have z1':(s.size==0)=false:=beq_false_of_ne (by omega)
   by_cases h30:30<s.size
   ·have z30:(30:Int)<(s.size:Int):=by omega
    clear h h126 hc0 hpos h0 hh h30
    go_enter Tryz.func98,Tryz.ntmps98
    go_wp2_with fail
    go_ret2
    exact fin.out
   ·have z30:(s.size:Int)≤30:=by omega
    obtain rfl:c0=48:=by omega
    have z2:(1:Int)<(s.size:Int):=by omega
    clear h h126 hc0 hpos h0 hh h30 k126
    go_enter Tryz.func98,Tryz.ntmps98
    go_wp2_with fail
    go_ret2
    exact fin.out
theorem rOut_ref (l:List Nat):LX.refNum l=if l.length=(if l.headD 0=126 then 1 else 0)∨30<l.length∨(l.getD (if l.headD 0=126 then 1 else 0) 0=48∧1<l.length) then none else rOut (if l.headD 0=126 then 1 else 0) (LX.rfold (l.drop (if l.headD 0=126 then 1 else 0)) 0):=by
 unfold LX.refNum rOut
 rfl
theorem refNumber_any (w:World) (s:ByteArray):Calls Tryz.prog 98 #[.string s] w (RN (LX.num (bts s)) w):=by
 rw [← LX.refNum_eq,rOut_ref,bts_length]
 by_cases h:s.size=(if (bts s).headD 0=126 then 1 else 0)∨30<s.size∨((bts s).getD (if (bts s).headD 0=126 then 1 else 0) 0=48∧1<s.size)
 ·rw [if_pos h];exact refNumber_bad w s h
 ·rw [if_neg h]
  have hh:(bts s).headD 0=(bts s).getD 0 0:=by cases bts s<;>rfl
  rw [hh] at h ⊢
  by_cases h126:(bts s).getD 0 0=126
  ·rw [if_pos h126] at h ⊢
   have h0:0<s.size:=by
    rcases Nat.eq_zero_or_pos s.size with h0 | h0
    ·have:bts s=[]:=List.length_eq_zero_iff.1 (by rw [bts_length];exact h0)
     rw [this] at h126;cases h126
    ·exact h0
   exact refNumber_neg w s (by omega) _ rfl (by omega) h126 (fun e=>h (.inr (.inr ⟨e,by omega⟩)))
  ·rw [if_neg h126] at h ⊢
   refine refNumber_pos w s (by omega) _ rfl (by omega) h126 ?_
   by_cases h48:(bts s).getD 0 0=48
   ·right
    by_cases h1:s.size=1
    ·exact h1
    ·exact absurd (.inr (.inr ⟨h48,by omega⟩)) h
   ·exact .inl h48
end Go.Proofs.YtnkahlloahgifaaGreatDoor.Lx

namespace Go.Proofs.YtnkahlloahgifaaGreatDoor.Lx
open Go.RowKit
theorem rsmall_any (w:World) (c:Nat):Calls Tryz.prog 100 #[.int .u8 c] w fun e w'=>e = .returned (.bool (LX.small c))∧w'=w:=by
 by_cases h1:97≤c
 ·have k1:(97:Int)≤(c:Int):=by omega
  have e:LX.small c=decide ((c:Int)≤122):=by unfold LX.small;rw [decide_eq_true h1,Bool.true_and];exact decide_eq_decide.2 (by omega)
  rw [e]
  go_enter Tryz.func100,Tryz.ntmps100
  go_wp2
  go_ret
  exact⟨rfl,rfl⟩
 ·have k1:(c:Int)<97:=by omega
  have e:LX.small c=false:=by unfold LX.small;rw [decide_eq_false h1,Bool.false_and]
  rw [e]
  go_enter Tryz.func100,Tryz.ntmps100
  go_wp2
  go_ret
  exact⟨rfl,rfl⟩
theorem rgreat_any (w:World) (c:Nat):Calls Tryz.prog 102 #[.int .u8 c] w fun e w'=>e = .returned (.bool (LX.great c))∧w'=w:=by
 by_cases h1:65≤c
 ·have k1:(65:Int)≤(c:Int):=by omega
  have e:LX.great c=decide ((c:Int)≤90):=by unfold LX.great;rw [decide_eq_true h1,Bool.true_and];exact decide_eq_decide.2 (by omega)
  rw [e]
  go_enter Tryz.func102,Tryz.ntmps102
  go_wp2
  go_ret
  exact⟨rfl,rfl⟩
 ·have k1:(c:Int)<65:=by omega
  have e:LX.great c=false:=by unfold LX.great;rw [decide_eq_false h1,Bool.false_and]
  rw [e]
  go_enter Tryz.func102,Tryz.ntmps102
  go_wp2
  go_ret
  exact⟨rfl,rfl⟩
theorem rinner_any (w:World) (c:Nat):Calls Tryz.prog 99 #[.int .u8 c] w fun e w'=>e = .returned (.bool (LX.part c))∧w'=w:=by
 unfold LX.part
 have s:=rsmall_any w c
 have g:=rgreat_any w c
 have d:=rdigit_any w c
 cases hs:LX.small c with
 | true =>
  rw [hs] at s
  go_enter Tryz.func99,Tryz.ntmps99
  go_wp2_with (go_at_call 100;refine s.mono ?_;rintro e w' ⟨rfl,rfl⟩)
  go_ret
  exact⟨rfl,rfl⟩
 | false =>
  rw [hs] at s
  cases hg:LX.great c with
  | true =>
   rw [hg] at g
   go_enter Tryz.func99,Tryz.ntmps99
   go_wp2_with (first
    | (go_at_call 100;refine s.mono ?_;rintro e w' ⟨rfl,rfl⟩)
    | (go_at_call 102;refine g.mono ?_;rintro e w' ⟨rfl,rfl⟩))
   go_ret
   exact⟨rfl,rfl⟩
  | false =>
   rw [hg] at g
   cases hd:LX.digit c with
   | true =>
    rw [hd] at d
    go_enter Tryz.func99,Tryz.ntmps99
    go_wp2_with (first
     | (go_at_call 100;refine s.mono ?_;rintro e w' ⟨rfl,rfl⟩)
     | (go_at_call 102;refine g.mono ?_;rintro e w' ⟨rfl,rfl⟩)
     | (go_at_call 97;refine d.mono ?_;rintro e w' ⟨rfl,rfl⟩))
    go_ret
    exact⟨rfl,rfl⟩
   | false =>
    rw [hd] at d
    go_enter Tryz.func99,Tryz.ntmps99
    go_wp2_with (first
     | (go_at_call 100;refine s.mono ?_;rintro e w' ⟨rfl,rfl⟩)
     | (go_at_call 102;refine g.mono ?_;rintro e w' ⟨rfl,rfl⟩)
     | (go_at_call 97;refine d.mono ?_;rintro e w' ⟨rfl,rfl⟩))
    go_ret
    refine⟨?_,rfl⟩
    show Ending.returned (Value.bool _)=_
    congr 2
    by_cases h:c=95
    ·subst h;rfl
    ·rw [show (c==95)=false from by simp [h]];simp;omega
theorem rspace_any (w:World) (c:Nat):Calls Tryz.prog 83 #[.int .u8 c] w fun e w'=>e = .returned (.bool (LX.space c))∧w'=w:=by
 by_cases h2:c=9
 ·subst h2
  go_enter Tryz.func83,Tryz.ntmps83
  go_wp2
  go_ret
  exact⟨rfl,rfl⟩
 ·by_cases h3:c=10
  ·subst h3
   go_enter Tryz.func83,Tryz.ntmps83
   go_wp2
   go_ret
   exact⟨rfl,rfl⟩
  ·by_cases h4:c=13
   ·subst h4
    go_enter Tryz.func83,Tryz.ntmps83
    go_wp2
    go_ret
    exact⟨rfl,rfl⟩
   ·by_cases h1:c=32
    ·subst h1
     go_enter Tryz.func83,Tryz.ntmps83
     go_wp2
     go_ret
     exact⟨rfl,rfl⟩
    ·have k1:((c:Int)==32)=false:=beq_false_of_ne (by omega)
     have k2:((c:Int)==9)=false:=beq_false_of_ne (by omega)
     have k3:((c:Int)==10)=false:=beq_false_of_ne (by omega)
     have k4:((c:Int)==13)=false:=beq_false_of_ne (by omega)
     have e:LX.space c=false:=by
      unfold LX.space
      rw [show (c==32)=false from beq_false_of_ne h1,show (c==9)=false from beq_false_of_ne h2,show (c==10)=false from beq_false_of_ne h3,show (c==13)=false from beq_false_of_ne h4]
      rfl
     rw [e]
     clear e h1 h2 h3 h4
     go_enter Tryz.func83,Tryz.ntmps83
     go_wp2
     go_ret
     exact⟨rfl,rfl⟩
theorem rplain_any (w:World) (s:ByteArray) (hs:s.size≤400000) (i:Nat) (hi:i≤s.size):Calls Tryz.prog 101 #[.string s,.int .i64 i] w fun e w'=>e = .returned (.int .i64 ((i+LX.run LX.part ((bts s).drop i):Nat):Int))∧w'=w:=by
 have hz:(s.size:Int)≤400000:=by omega
 have HI:Hid (i≤s.size):=hi
 obtain⟨r,hr0⟩:∃ r,r=i+LX.run LX.part ((bts s).drop i):=⟨_,rfl⟩
 rw [← hr0]
 have HR0:=zh hr0
 clear hs hi hr0
 go_enter Tryz.func101,Tryz.ntmps101
 go_wp2_with fail
 go_loop [5] (fun j=>∃ k:Nat,i≤k∧k≤s.size∧j = .int .i64 k∧r=k+LX.run LX.part ((bts s).drop k)) (fun j=>s.size - (intOf j).toNat)
 case atStart=>exact⟨i,Nat.le_refl _,HI.out,rfl,HR0.out⟩
 case round =>
  obtain⟨k,hk1,hk2,rfl,hr⟩:=hrel
  have HR:=zh hr
  have HK:=zh hk1
  clear hr hk1
  by_cases hlt:k<s.size
  ·have hlz:(k:Int)<(s.size:Int):=by omega
   obtain⟨c,hc⟩:∃ c,(bts s).getD k 0=c:=⟨_,rfl⟩
   have bk:=byte_at s hlt hc
   have hrun:=run_drop LX.part (bts s) k (by rw [bts_length];exact hlt)
   rw [hc] at hrun
   have HRUN:=zh hrun
   have HLT:=zh hlt
   have D:=rinner_any w c
   cases hp:LX.part c with
   | true =>
    rw [hp] at D
    have HD:=zh D
    have HP:=zh hp
    clear hrun hc D hp hlt hk2
    go_wp2_with fail
    refine HD.out.mono ?_
    rintro e w1 ⟨rfl,rfl⟩
    go_wp2_with fail
    go_round
    case rel=>exact⟨k+1,by have:=HK.out;omega,HLT.out,by go_num,by rw [HR.out,HRUN.out,if_pos HP.out];omega⟩
    case measure=>have:=HLT.out;simp [intOf];omega
   | false =>
    rw [hp] at D
    have HD:=zh D
    have HP:=zh hp
    clear hrun hc D hp hlt hk2
    go_wp2_with fail
    refine HD.out.mono ?_
    rintro e w1 ⟨rfl,rfl⟩
    go_wp2_with fail
    go_ret
    refine⟨?_,rfl⟩
    rw [HR.out,HRUN.out,if_neg (by rw [HP.out];decide)]
    rfl
  ·have hge:(s.size:Int)≤(k:Int):=by omega
   have hend:LX.run LX.part ((bts s).drop k)=0:=by rw [List.drop_of_length_le (by rw [bts_length];omega)];rfl
   have HE:=zh hend
   clear hend hlt hk2
   go_wp2_with fail
   go_ret
   refine⟨?_,rfl⟩
   rw [HR.out,HE.out]
   rfl
end Go.Proofs.YtnkahlloahgifaaGreatDoor.Lx
