/- Part. -/
import Derived.Test.YtnkahlloahgifaaGreatDoorVA
set_option maxHeartbeats 16000000
set_option maxRecDepth 100000
set_option linter.unusedSimpArgs false
set_option linter.unusedVariables false
namespace RG
abbrev Nm:=ByteArray
mutual
inductive TE where
 | mk (kind:Int) (name:Nm) (args:List Nm) (arms:TA) (body:TB)
inductive TA where
 | nil
 | cons (vars:List Nm) (e:TE) (r:TA)
inductive TB where
 | nil
 | cons (e:TE) (r:TB)
end
def TE.kind:TE→Int | .mk k _ _ _ _=>k
def TE.name:TE→Nm | .mk _ n _ _ _=>n
def TE.args:TE→List Nm | .mk _ _ a _ _=>a
def TE.arms:TE→TA | .mk _ _ _ a _=>a
def TE.body:TE→TB | .mk _ _ _ _ b=>b
def TA.length:TA→Nat
 | .nil=>0
 | .cons _ _ r=>r.length+1
def TB.length:TB→Nat
 | .nil=>0
 | .cons _ r=>r.length+1
mutual
def TE.size:TE→Nat
 | .mk _ _ _ arms body=>body.size+arms.size+1
def TA.size:TA→Nat
 | .nil=>0
 | .cons _ e r=>e.size+r.size
def TB.size:TB→Nat
 | .nil=>0
 | .cons e r=>e.size+r.size
end
def TA.kids:TA→List (List Nm×TE)
 | .nil=>[]
 | .cons vs e r=>(vs,e) :: r.kids
def TB.kids (n:Nm):TB→List (List Nm×TE)
 | .nil=>[]
 | .cons e r=>([n],e) :: r.kids n
def TE.kids (e:TE):List (List Nm×TE):=e.body.kids e.name++e.arms.kids
def sizes (l:List (List Nm×TE)):Nat:=(l.map fun p=>p.2.size).foldr (· + ·) 0
theorem zw:sizes []=0:=rfl
theorem zg (p:List Nm×TE) (l:List (List Nm×TE)):sizes (p :: l)=p.2.size+sizes l:=rfl
theorem zr (a b:List (List Nm×TE)):sizes (a++b)=sizes a+sizes b:=by
 induction a with
 | nil=>simp [zw]
 | cons p r ih=>rw [List.cons_append,zg,zg,ih,Nat.add_assoc]
theorem TA.sizes_kids:∀ a:TA,sizes a.kids=a.size
 | .nil=>by simp [TA.kids,TA.size,zw]
 | .cons vs e r=>by rw [TA.kids,zg,TA.size,TA.sizes_kids r]
theorem TB.sizes_kids (n:Nm):∀ b:TB,sizes (b.kids n)=b.size
 | .nil=>by simp [TB.kids,TB.size,zw]
 | .cons e r=>by rw [TB.kids,zg,TB.size,TB.sizes_kids n r]
theorem TE.size_kids (e:TE):e.size=sizes e.kids+1:=by
 obtain⟨k,n,as,arms,body⟩:=e;unfold TE.kids;rw [zr,TB.sizes_kids,TA.sizes_kids,TE.size];rfl
theorem TE.size_pos (e:TE):0<e.size:=by rw [TE.size_kids];exact Nat.succ_pos _
structure Nd where
 binds:List Nm
 e:TE
 next:List Nat
def Nd.uses (d:Nd):List Nm:=d.e.args.filter fun n=>n.size != 0
def nums:Nat→List (List Nm×TE)→List Nat
 | _,[]=>[]
 | n,p :: r=>n :: nums (n+p.2.size) r
def lay:Nat→Nat→List (List Nm×TE)→List Nd
 | 0,_,_=>[]
 | _+1,_,[]=>[]
 | f+1,n,(bs,e) :: r=>⟨bs,e,nums (n+1) e.kids⟩ :: lay f (n+1) (e.kids++r)
def layS (n:Nat) (l:List (List Nm×TE)):List Nd:=lay (sizes l) n l
theorem lay_fuel:∀ (f g n:Nat) (l:List (List Nm×TE)),sizes l≤f→sizes l≤g→lay f n l=lay g n l
 | 0,0,_,_,_,_=>rfl
 | 0,g+1,n,[],_,_=>rfl
 | 0,g+1,n,(bs,e) :: r,h,_=>by rw [zg] at h;have:=e.size_pos;simp only [] at h;omega
 | f+1,0,n,[],_,_=>rfl
 | f+1,0,n,(bs,e) :: r,_,h=>by rw [zg] at h;have:=e.size_pos;simp only [] at h;omega
 | f+1,g+1,n,[],_,_=>rfl
 | f+1,g+1,n,(bs,e) :: r,h1,h2=>by
  rw [zg] at h1 h2;have hk:=e.size_kids;simp only [] at h1 h2;rw [lay,lay,lay_fuel f g (n+1) (e.kids++r) (by rw [zr];omega) (by rw [zr];omega)]
theorem layS_nil (n:Nat):layS n []=[]:=rfl
theorem layS_cons (n:Nat) (bs:List Nm) (e:TE) (r:List (List Nm×TE)):layS n ((bs,e) :: r)=⟨bs,e,nums (n+1) e.kids⟩ :: layS (n+1) (e.kids++r):=by
 have hk:=e.size_kids;unfold layS;rw [zg];obtain⟨f,hf⟩:∃ f,e.size+sizes r=f+1:=⟨e.size+sizes r - 1,by omega⟩
 simp only [];rw [hf,lay,lay_fuel f _ (n+1) (e.kids++r) (by rw [zr];omega) (Nat.le_refl _)]
theorem layS_length:∀ (f n:Nat) (l:List (List Nm×TE)),sizes l≤f→(layS n l).length=sizes l
 | _,n,[],_=>rfl
 | 0,n,(bs,e) :: r,h=>by rw [zg] at h;have:=e.size_pos;simp only [] at h;omega
 | f+1,n,(bs,e) :: r,h=>by
  have hk:=e.size_kids;rw [zg] at h;simp only [] at h;rw [layS_cons,List.length_cons,layS_length f (n+1) (e.kids++r) (by rw [zr];omega),zr,zg]
  simp only [];omega
theorem layS_append:∀ (f n:Nat) (a b:List (List Nm×TE)),sizes a≤f→layS n (a++b)=layS n a++layS (n+sizes a) b
 | _,n,[],b,_=>by simp [layS_nil,zw]
 | 0,n,(bs,e) :: r,b,h=>by rw [zg] at h;have:=e.size_pos;simp only [] at h;omega
 | f+1,n,(bs,e) :: r,b,h=>by
  have hk:=e.size_kids;rw [zg] at h;simp only [] at h;rw [List.cons_append,layS_cons,layS_cons,← List.append_assoc,layS_append f (n+1) (e.kids++r) b (by rw [zr];omega),List.cons_append,zr,zg]
  simp only [];rw [show n+1+(sizes e.kids+sizes r)=n+(e.size+sizes r) from by omega]
def isRest (k:Int):Bool:=decide (1≤k)&&decide (k≤6)
def TE.form (e:TE):Bool :=
 decide (1≤e.kind)&&decide (e.kind≤10)&&(isRest e.kind==(e.body.length==1))&&decide (e.body.length≤1) &&
  (if e.kind=7 then e.args.length==1&&((e.args.headD ⟨#[]⟩).size != 0)&&decide (1≤e.arms.length)&&decide (e.arms.length≤16)
   else e.arms.length==0&&decide (e.args.length≤16))
def has (l:List Nm) (x:Nm):Bool:=l.any fun y=>decide (y=x)
theorem zx {l:List Nm}{x:Nm}:has l x=true↔x∈l:=by simp [has]
def vars (F:List Nd):List Nm:=F.flatMap Nd.binds
def nd (F:List Nd) (i:Nat):Nd:=F.getD i ⟨[],.mk 0 ⟨#[]⟩ [] .nil .nil,[]⟩
def lvN (F:List Nd):Nat→Nat→Nm→Bool
 | 0,_,_=>false
 | f+1,i,x=>has (nd F i).uses x||((nd F i).next.any fun k=>lvN F f k x && !(has (nd F k).binds x))
mutual
def TE.live (x:Nm):TE→Bool
 | .mk _ n as arms body=>has (as.filter fun n=>n.size != 0) x||body.live n x||arms.live x
def TA.live (x:Nm):TA→Bool
 | .nil=>false
 | .cons vs e r=>(e.live x && !(has vs x))||r.live x
def TB.live (n:Nm) (x:Nm):TB→Bool
 | .nil=>false
 | .cons e r=>(e.live x && !(has [n] x))||r.live n x
end
theorem TA.live_kids (x:Nm):∀ a:TA,a.live x=a.kids.any fun p=>p.2.live x && !(has p.1 x)
 | .nil=>rfl
 | .cons vs e r=>by rw [TA.live,TA.kids,List.any_cons,TA.live_kids x r]
theorem TB.live_kids (n x:Nm):∀ b:TB,b.live n x=(b.kids n).any fun p=>p.2.live x && !(has p.1 x)
 | .nil=>rfl
 | .cons e r=>by rw [TB.live,TB.kids,List.any_cons,TB.live_kids n x r]
theorem TE.live_kids (x:Nm) (e:TE):e.live x=(has (e.args.filter fun n=>n.size != 0) x||e.kids.any fun p=>p.2.live x && !(has p.1 x)):=by
 obtain⟨k,n,as,arms,body⟩:=e;rw [TE.live,TB.live_kids,TA.live_kids];unfold TE.kids;rw [List.any_append,Bool.or_assoc];rfl
mutual
def TE.inScope (s:List Nm):TE→Bool
 | .mk _ n as arms body=>((as.filter fun n=>n.size != 0).all fun x=>has s x)&&body.inScope n s&&arms.inScope s
def TA.inScope (s:List Nm):TA→Bool
 | .nil=>true
 | .cons vs e r=>e.inScope (vs++s)&&r.inScope s
def TB.inScope (n:Nm) (s:List Nm):TB→Bool
 | .nil=>true
 | .cons e r=>e.inScope ([n]++s)&&r.inScope n s
end
theorem has_append (a b:List Nm) (x:Nm):has (a++b) x=(has a x||has b x):=by unfold has;rw [List.any_append]
mutual
theorem TE.inScope_live (s:List Nm):∀ e:TE,e.inScope s=true↔∀ x,e.live x=true→has s x=true
 | .mk k n as arms body=>by
  rw [TE.inScope,Bool.and_eq_true,Bool.and_eq_true,TB.inScope_live n s body,TA.inScope_live s arms,List.all_eq_true];constructor
  ·rintro ⟨⟨h1,h2⟩,h3⟩ x hx
   rw [TE.live,Bool.or_eq_true,Bool.or_eq_true] at hx;rcases hx with (hx | hx) | hx
   ·exact h1 x (zx.1 hx)
   ·exact h2 x hx
   exact h3 x hx
  intro h;refine⟨⟨fun x hx=>h x ?_,fun x hx=>h x ?_⟩,fun x hx=>h x ?_⟩
  ·rw [TE.live,Bool.or_eq_true,Bool.or_eq_true];exact .inl (.inl (zx.2 hx))
  ·rw [TE.live,Bool.or_eq_true,Bool.or_eq_true];exact .inl (.inr hx)
  rw [TE.live,Bool.or_eq_true];exact .inr hx
theorem TA.inScope_live (s:List Nm):∀ a:TA,a.inScope s=true↔∀ x,a.live x=true→has s x=true
 | .nil=>by simp [TA.inScope,TA.live]
 | .cons vs e r=>by
  rw [TA.inScope,Bool.and_eq_true,TE.inScope_live (vs++s) e,TA.inScope_live s r];constructor
  ·rintro ⟨h1,h2⟩ x hx
   rw [TA.live,Bool.or_eq_true,Bool.and_eq_true] at hx;rcases hx with ⟨hx,hn⟩ | hx
   ·have:=h1 x hx
    rw [has_append,Bool.or_eq_true] at this;rcases this with h | h
    ·rw [h] at hn;cases hn
    exact h
   exact h2 x hx
  intro h;refine⟨fun x hx=>?_,fun x hx=>h x ?_⟩
  ·rw [has_append,Bool.or_eq_true]
   cases hv:has vs x with
   | true=>exact .inl rfl
   | false=>exact .inr (h x (by rw [TA.live,Bool.or_eq_true,Bool.and_eq_true];exact .inl ⟨hx,by rw [hv];rfl⟩))
  rw [TA.live,Bool.or_eq_true];exact .inr hx
theorem TB.inScope_live (n:Nm) (s:List Nm):∀ b:TB,b.inScope n s=true↔∀ x,b.live n x=true→has s x=true
 | .nil=>by simp [TB.inScope,TB.live]
 | .cons e r=>by
  rw [TB.inScope,Bool.and_eq_true,TE.inScope_live ([n]++s) e,TB.inScope_live n s r];constructor
  ·rintro ⟨h1,h2⟩ x hx
   rw [TB.live,Bool.or_eq_true,Bool.and_eq_true] at hx;rcases hx with ⟨hx,hn⟩ | hx
   ·have:=h1 x hx
    rw [has_append,Bool.or_eq_true] at this;rcases this with h | h
    ·rw [h] at hn;cases hn
    exact h
   exact h2 x hx
  intro h;refine⟨fun x hx=>?_,fun x hx=>h x ?_⟩
  ·rw [has_append,Bool.or_eq_true]
   cases hv:has [n] x with
   | true=>exact .inl rfl
   | false=>exact .inr (h x (by rw [TB.live,Bool.or_eq_true,Bool.and_eq_true];exact .inl ⟨hx,by rw [hv];rfl⟩))
  rw [TB.live,Bool.or_eq_true];exact .inr hx
end
theorem nums_length:∀ (n:Nat) (l:List (List Nm×TE)),(nums n l).length=l.length
 | _,[]=>rfl
 | n,p :: r=>by rw [nums,List.length_cons,List.length_cons,nums_length]
def Lies (F:List Nd) (n:Nat) (l:List (List Nm×TE)):Prop:=∃ r,F.drop n=layS n l++r
theorem Lies.head {F:List Nd}{n:Nat}{bs:List Nm}{e:TE}{l:List (List Nm×TE)}(h:Lies F n ((bs,e) :: l)):nd F n=⟨bs,e,nums (n+1) e.kids⟩:=by
 obtain⟨r,hr⟩:=h;rw [layS_cons,List.cons_append] at hr;have:F[n]?=some ⟨bs,e,nums (n+1) e.kids⟩:=by
  have:=congrArg (fun l=>l[0]?) hr
  simpa using this
 unfold nd;rw [List.getD_eq_getElem?_getD,this];rfl
theorem Lies.kids {F:List Nd}{n:Nat}{bs:List Nm}{e:TE}{l:List (List Nm×TE)}(h:Lies F n ((bs,e) :: l)):Lies F (n+1) (e.kids++l):=by
 obtain⟨r,hr⟩:=h;rw [layS_cons,List.cons_append] at hr;refine⟨r,?_⟩;have:=congrArg (fun l=>l.drop 1) hr
 simp only [List.drop_drop,List.drop_succ_cons,List.drop_zero] at this;rw [show n+1=1+n from by omega] at this ⊢
 first
  | exact this
  | (rw [show 1+n=n+1 from by omega] at this ⊢;exact this)
theorem Lies.left {F:List Nd}{n:Nat}{a b:List (List Nm×TE)}(h:Lies F n (a++b)):Lies F n a:=by
 obtain⟨r,hr⟩:=h;rw [layS_append _ _ _ _ (Nat.le_refl _),List.append_assoc] at hr;exact⟨_,hr⟩
theorem Lies.tail {F:List Nd}{n:Nat}{p:List Nm×TE}{l:List (List Nm×TE)}(h:Lies F n (p :: l)):Lies F (n+p.2.size) l:=by
 obtain⟨r,hr⟩:=h;rw [show p :: l=[p]++l from rfl,layS_append _ _ _ _ (Nat.le_refl _)] at hr
 have hl:(layS n [p]).length=p.2.size:=by rw [layS_length _ _ _ (Nat.le_refl _),zg,zw];rfl
 have hs:sizes [p]=p.2.size:=by rw [zg,zw];rfl
 refine⟨r,?_⟩;rw [← List.drop_drop,hr,List.append_assoc,List.drop_append,List.drop_of_length_le (by omega),hl,Nat.sub_self,List.drop_zero,List.nil_append,hs]
theorem lvN_kids (F:List Nd) (x:Nm) (f:Nat) (ih:∀ (n:Nat) (bs:List Nm) (e:TE) (l:List (List Nm×TE)),Lies F n ((bs,e) :: l)→e.size≤f→lvN F f n x=e.live x) :
  ∀ (l:List (List Nm×TE)) (n:Nat),Lies F n l→sizes l≤f→((nums n l).any fun k=>lvN F f k x && !(has (nd F k).binds x))=l.any fun p=>p.2.live x && !(has p.1 x)
 | [],n,_,_=>rfl
 | (bs,e) :: r,n,h,hs=>by
  rw [zg] at hs;simp only [] at hs;rw [nums,List.any_cons,List.any_cons,ih n bs e r h (by omega),h.head,lvN_kids F x f ih r (n+e.size) h.tail (by omega)]
theorem lvN_live (F:List Nd) (x:Nm):∀ (f n:Nat) (bs:List Nm) (e:TE) (l:List (List Nm×TE)),Lies F n ((bs,e) :: l)→e.size≤f→lvN F f n x=e.live x
 | 0,n,bs,e,l,h,hs=>by have:=e.size_pos;omega
 | f+1,n,bs,e,l,h,hs=>by
  have hk:=e.size_kids;rw [lvN,h.head,TE.live_kids];simp only [Nd.uses];rw [lvN_kids F x f (lvN_live F x f) e.kids (n+1) h.kids.left (by omega)]
def lv (F:List Nd) (i:Nat) (x:Nm):Bool:=lvN F (F.length - i) i x
def cross (F:List Nd) (i:Nat) (x:Nm):Bool:=lv F i x && !(has (nd F i).binds x)
def named (F:List Nd) (p:Nm→Bool):List Nm:=(vars F).filter p
def bindOk (isName:Nm→Bool):List Nm→List Nm→Option (List Nm)
 | s,[]=>some s
 | s,n :: r=>if has s n || !isName n then none else bindOk isName (s++[n]) r
def fresh (isName:Nm→Bool) (s l:List Nm):Prop:=(∀ x,x∈l→isName x=true∧x∉s)∧l.Nodup
theorem bindOk_some {isName:Nm→Bool}:∀ {l s s':List Nm},bindOk isName s l=some s'→fresh isName s l∧s'=s++l
 | [],s,s',h=>by cases h;exact⟨⟨fun x hx=>absurd hx (by simp),List.nodup_nil⟩,by simp⟩
 | n :: r,s,s',h=>by
  rw [bindOk] at h
  split at h
  ·cases h
  rename_i hc;simp only [Bool.or_eq_true,Bool.not_eq_true',not_or,Bool.not_eq_true,Bool.not_eq_false] at hc;obtain⟨⟨h1,h2⟩,rfl⟩:=bindOk_some h;have hs:n∉s:=fun hx=>by rw [zx.2 hx] at hc;cases hc.1
  refine⟨⟨fun x hx=>?_,?_⟩,by simp⟩
  ·rcases List.mem_cons.1 hx with rfl | hx
   ·exact⟨hc.2,hs⟩
   exact⟨(h1 x hx).1,fun hm=>(h1 x hx).2 (List.mem_append_left _ hm)⟩
  exact List.nodup_cons.2 ⟨fun hx=>(h1 n hx).2 (by simp),h2⟩
theorem bindOk_fresh {isName:Nm→Bool}:∀ {l s:List Nm},fresh isName s l→bindOk isName s l=some (s++l)
 | [],s,_=>by simp [bindOk]
 | n :: r,s,⟨h1,h2⟩=>by
  obtain⟨a,b⟩:=h1 n List.mem_cons_self;obtain⟨c,d⟩:=List.nodup_cons.1 h2;have hn:has s n=false:=by
   cases hq:has s n with
   | false=>rfl
   | true=>exact absurd (zx.1 hq) b
  rw [bindOk,hn,a];simp only [Bool.not_true,Bool.or_self,Bool.false_eq_true,if_false];rw [bindOk_fresh (l:=r) (s:=s++[n]) ⟨fun x hx=>⟨(h1 x (List.mem_cons_of_mem _ hx)).1,fun hm=>?_⟩,d⟩]
  ·simp
  rcases List.mem_append.1 hm with hm | hm
  ·exact(h1 x (List.mem_cons_of_mem _ hx)).2 hm
  simp at hm;subst hm;exact c hx
def nodeOk (e:TE):Bool:=e.form&&e.kids.all fun p=>decide (p.1.length≤16)
def rd (isName:Nm→Bool):Nat→Nat→List Nm→List (List Nm×TE)→Option (List Nm)
 | 0,_,s,_=>some s
 | _+1,_,s,[]=>some s
 | f+1,c,s,(bs,e) :: r =>
  if c=20000 then none else if e.form=false then none else
   match bindOk isName s bs with
   | none=>none
   | some s'=>if (e.kids.all fun p=>decide (p.1.length≤16))=false then none else rd isName f (c+1) s' (e.kids++r)
theorem vars_cons (d:Nd) (F:List Nd):vars (d :: F)=d.binds++vars F:=by simp [vars]
theorem fresh_append {isName:Nm→Bool}{s a b:List Nm}:fresh isName s (a++b)↔fresh isName s a∧fresh isName (s++a) b:=by
 unfold fresh;constructor
 ·rintro ⟨h1,h2⟩
  obtain⟨n1,n2,n3⟩:=List.nodup_append.1 h2;refine⟨⟨fun x hx=>h1 x (List.mem_append_left _ hx),n1⟩,fun x hx=>⟨(h1 x (List.mem_append_right _ hx)).1,fun hm=>?_⟩,n2⟩
  rcases List.mem_append.1 hm with hm | hm
  ·exact(h1 x (List.mem_append_right _ hx)).2 hm
  exact n3 x hm x hx rfl
 rintro ⟨⟨h1,h2⟩,h3,h4⟩;refine⟨fun x hx=>?_,List.nodup_append.2 ⟨h2,h4,fun x hx y hy e=>?_⟩⟩
 ·rcases List.mem_append.1 hx with hx | hx
  ·exact h1 x hx
  exact⟨(h3 x hx).1,fun hm=>(h3 x hx).2 (List.mem_append_left _ hm)⟩
 subst e;exact(h3 x hy).2 (List.mem_append_right _ hx)
theorem rd_some {isName:Nm→Bool}:∀ (f c:Nat) (s:List Nm) (l:List (List Nm×TE)) (s':List Nm),sizes l≤f→rd isName f c s l=some s'→(c≤20000→c+sizes l≤20000)∧(∀ d∈layS c l,nodeOk d.e=true)∧fresh isName s (vars (layS c l))∧s'=s++vars (layS c l)
 | f,c,s,[],s',_,h=>by
  have e:s'=s:=by
   cases f<;>(simp only [rd,Option.some.injEq] at h;exact h.symm)
  subst e;exact⟨fun h=>by rw [zw];exact h,fun d hd=>absurd hd (by simp [layS_nil]),⟨fun x hx=>absurd hx (by simp [layS_nil,vars]),by simp [layS_nil,vars]⟩,by simp [layS_nil,vars]⟩
 | 0,c,s,(bs,e) :: r,s',hs,h=>by rw [zg] at hs;have:=e.size_pos;simp only [] at hs;omega
 | f+1,c,s,(bs,e) :: r,s',hs,h=>by
  have hk:=e.size_kids;rw [zg] at hs;simp only [] at hs;rw [rd] at h
  split at h
  ·cases h
  rename_i hc
  split at h
  ·cases h
  rename_i hf;cases hb:bindOk isName s bs with
  | none=>rw [hb] at h;cases h
  | some s1 =>
   rw [hb] at h;simp only [] at h
   split at h
   ·cases h
   rename_i hm;obtain⟨b1,rfl⟩:=bindOk_some hb;obtain⟨a1,a2,a3,rfl⟩:=rd_some f (c+1) (s++bs) (e.kids++r) s' (by rw [zr];omega) h
   rw [zr] at a1;rw [layS_cons,vars_cons];refine⟨fun h20=>by rw [zg];have:=a1 (by omega);simp only [];omega,fun d hd=>?_,fresh_append.2 ⟨b1,a3⟩,by simp⟩
   rcases List.mem_cons.1 hd with rfl | hd
   ·unfold nodeOk
    simp only [Bool.not_eq_false] at hf hm;rw [hf,hm];rfl
   exact a2 d hd
theorem rd_ok {isName:Nm→Bool}:∀ (f c:Nat) (s:List Nm) (l:List (List Nm×TE)),sizes l≤f→c+sizes l≤20000→(∀ d∈layS c l,nodeOk d.e=true)→fresh isName s (vars (layS c l))→rd isName f c s l=some (s++vars (layS c l))
 | f,c,s,[],_,_,_,_=>by cases f<;>simp [rd,layS_nil,vars]
 | 0,c,s,(bs,e) :: r,hs,_,_,_=>by rw [zg] at hs;have:=e.size_pos;simp only [] at hs;omega
 | f+1,c,s,(bs,e) :: r,hs,h1,h2,h3=>by
  have hk:=e.size_kids;have hp:=e.size_pos
  rw [zg] at hs h1;simp only [] at hs h1;rw [layS_cons,vars_cons] at h3 ⊢;rw [layS_cons] at h2;obtain⟨b1,b2⟩:=fresh_append.1 h3;have hn:=h2 _ List.mem_cons_self;unfold nodeOk at hn;rw [Bool.and_eq_true] at hn;rw [rd,if_neg (by omega),if_neg (by rw [hn.1];decide),bindOk_fresh b1]
  simp only [];rw [if_neg (by rw [hn.2];decide),rd_ok f (c+1) (s++bs) (e.kids++r) (by rw [zr];omega) (by rw [zr];omega) (fun d hd=>h2 d (List.mem_cons_of_mem _ hd)) b2]
  simp
def place (F:List Nd) (x:Nm):Nat:=(vars F).findIdx fun y=>decide (y=x)
def bindsAt (F:List Nd) (i:Nat):List Nm:=(nd F i).next.flatMap fun k=>(nd F k).binds
def once:List Nm→List Nm→List Nm
 | s,[]=>s
 | s,x :: r=>if has s x then once s r else once (s++[x]) r
def usesAt (F:List Nd) (i:Nat):List Nm:=once [] (nd F i).uses
def liveAt (F:List Nd) (i:Nat):List Nm:=named F (lv F i)
def clash (F:List Nd) (a b:Nm) (i:Nat):Bool :=
 (has (nd F i).binds a&&(has (nd F i).binds b||cross F i b))||(has (nd F i).binds b&&cross F i a)
def conflict (F:List Nd) (a b:Nm):Bool:=if a=b then false else (List.range F.length).any (clash F a b)
def around (F:List Nd) (i:Nat):List Nm:=named F fun x=>cross F i x||has (nd F i).binds x
def crowdOf (F:List Nd):List Nat→Option (List Nm)→Option (List Nm)
 | [],out=>out
 | i :: r,none=>crowdOf F r (some (around F i))
 | i :: r,some out=>crowdOf F r (if out.length<(around F i).length then some (around F i) else some out)
def crowd (F:List Nd):List Nm:=(crowdOf F (List.range F.length) none).getD []
def width (F:List Nd):Nat:=(crowd F).length
def lowest (taken:List Nat):Nat→Nat→Nat
 | 0,r=>r
 | f+1,r=>if taken.any (· == r) then lowest taken f (r+1) else r
def low (taken:List Nat):Nat:=lowest taken (taken.length+1) 0
def giveRegs (F:List Nd):List Nm→List Nat→List Nat×Nat→List Nat×Nat
 | [],_,st=>st
 | x :: r,taken,(regs,most)=>giveRegs F r (taken++[low taken]) (regs.set (place F x) (low taken),max most (low taken+1))
def allocStep (F:List Nd) (st:List Nat×Nat) (i:Nat):List Nat×Nat :=
 giveRegs F (nd F i).binds ((named F (cross F i)).map fun x=>st.1.getD (place F x) 0) st
def alloc (F:List Nd):List Nat×Nat:=(List.range F.length).foldl (allocStep F) ((vars F).map fun _=>0,0)
def apart (F:List Nd) (reg:Nm→Int):List Nm→List Int→Bool
 | [],_=>true
 | x :: r,taken => !(taken.any fun t=>decide (t=reg x))&&apart F reg r (taken++[reg x])
def rightAt (F:List Nd) (reg:Nm→Int) (i:Nat):Bool:=apart F reg (nd F i).binds ((named F (cross F i)).map reg)
def right (F:List Nd) (params:Nat) (regs:Int) (vs:List (Nm×Int)):Bool :=
 decide (0≤regs)&&decide (regs≤20000)&&(vs.length==(vars F).length) &&
  ((List.range vs.length).all fun i=>decide ((vs.getD i (⟨#[]⟩,0)).1=(vars F).getD i ⟨#[]⟩)&&decide (0≤(vs.getD i (⟨#[]⟩,0)).2)&&decide ((vs.getD i (⟨#[]⟩,0)).2<regs)&&(decide (params≤i)||decide ((vs.getD i (⟨#[]⟩,0)).2=i))) &&
  ((List.range F.length).all (rightAt F fun x=>(vs.getD (place F x) (⟨#[]⟩,0)).2))
theorem lay_binds:∀ (f n:Nat) (l:List (List Nm×TE)),sizes l≤f→∀ p∈l,∀ x∈p.1,x∈vars (layS n l)
 | _,n,[],_,p,hp=>absurd hp (by simp)
 | 0,n,(bs,e) :: r,h,_,_=>by rw [zg] at h;have:=e.size_pos;simp only [] at h;omega
 | f+1,n,(bs,e) :: r,h,p,hp=>by
  have hk:=e.size_kids;rw [zg] at h;simp only [] at h;rw [layS_cons,vars_cons];intro x hx;rcases List.mem_cons.1 hp with rfl | hp
  ·exact List.mem_append_left _ hx
  exact List.mem_append_right _ (lay_binds f (n+1) (e.kids++r) (by rw [zr];omega) p (List.mem_append_right _ hp) x hx)
theorem TA.inScope_kids (s:List Nm):∀ a:TA,a.inScope s=true→∀ p∈a.kids,p.2.inScope (p.1++s)=true
 | .nil,_,p,hp=>absurd hp (by simp [TA.kids])
 | .cons vs e r,h,p,hp=>by
  rw [TA.inScope,Bool.and_eq_true] at h;rw [TA.kids] at hp;rcases List.mem_cons.1 hp with rfl | hp
  ·exact h.1
  exact TA.inScope_kids s r h.2 p hp
theorem TB.inScope_kids (n:Nm) (s:List Nm):∀ b:TB,b.inScope n s=true→∀ p∈b.kids n,p.2.inScope (p.1++s)=true
 | .nil,_,p,hp=>absurd hp (by simp [TB.kids])
 | .cons e r,h,p,hp=>by
  rw [TB.inScope,Bool.and_eq_true] at h;rw [TB.kids] at hp;rcases List.mem_cons.1 hp with rfl | hp
  ·exact h.1
  exact TB.inScope_kids n s r h.2 p hp
theorem TE.inScope_kids (s:List Nm) (e:TE) (h:e.inScope s=true):(∀ x∈e.args.filter (fun n=>n.size != 0),x∈s)∧∀ p∈e.kids,p.2.inScope (p.1++s)=true:=by
 obtain⟨k,n,as,arms,body⟩:=e;rw [TE.inScope,Bool.and_eq_true,Bool.and_eq_true,List.all_eq_true] at h;refine⟨fun x hx=>zx.1 (h.1.1 x hx),fun p hp=>?_⟩
 unfold TE.kids at hp;rcases List.mem_append.1 hp with hp | hp
 ·exact TB.inScope_kids n s body h.1.2 p hp
 exact TA.inScope_kids s arms h.2 p hp
theorem uses_in {V:List Nm}:∀ (f n:Nat) (l:List (List Nm×TE)),sizes l≤f→(∀ p∈l,∃ s,p.2.inScope s=true∧∀ x∈s,x∈V)→(∀ x∈vars (layS n l),x∈V)→∀ d∈layS n l,∀ x∈d.uses,x∈V
 | _,n,[],_,_,_,d,hd=>absurd hd (by simp [layS_nil])
 | 0,n,(bs,e) :: r,h,_,_,_,_=>by rw [zg] at h;have:=e.size_pos;simp only [] at h;omega
 | f+1,n,(bs,e) :: r,h,h1,h2,d,hd=>by
  have hk:=e.size_kids;rw [zg] at h;simp only [] at h;rw [layS_cons] at hd;rw [layS_cons,vars_cons] at h2;obtain⟨s,hs,hV⟩:=h1 (bs,e) List.mem_cons_self;obtain⟨hu,hkid⟩:=e.inScope_kids s hs;have h2':∀ x∈vars (layS (n+1) (e.kids++r)),x∈V:=fun x hx=>h2 x (List.mem_append_right _ hx)
  rcases List.mem_cons.1 hd with rfl | hd
  ·exact fun x hx=>hV x (hu x hx)
  refine uses_in f (n+1) (e.kids++r) (by rw [zr];omega) (fun p hp=>?_) h2' d hd
  rcases List.mem_append.1 hp with hp' | hp'
  ·refine⟨p.1++s,hkid p hp',fun x hx=>?_⟩
   rcases List.mem_append.1 hx with hx | hx
   ·exact h2' x (lay_binds f (n+1) (e.kids++r) (by rw [zr];omega) p hp x hx)
   exact hV x hx
  exact h1 p (List.mem_cons_of_mem _ hp')
def F0 (ps:List Nm) (e:TE):List Nd:=layS 0 [(ps,e)]
theorem F0_length (ps:List Nm) (e:TE):(F0 ps e).length=e.size:=by
 unfold F0;rw [layS_length _ _ _ (Nat.le_refl _),zg,zw];rfl
theorem F0_lies (ps:List Nm) (e:TE):Lies (F0 ps e) 0 [(ps,e)]:=⟨[],by simp [F0]⟩
theorem F0_nd0 (ps:List Nm) (e:TE):nd (F0 ps e) 0=⟨ps,e,nums 1 e.kids⟩:=(F0_lies ps e).head
theorem F0_live (ps:List Nm) (e:TE) (x:Nm):lv (F0 ps e) 0 x=e.live x:=by
 unfold lv;rw [Nat.sub_zero,F0_length];exact lvN_live _ _ _ _ _ _ _ (F0_lies ps e) (Nat.le_refl _)
def flowB (F:List Nd):Bool:=(F.all fun d=>d.uses.all (has (vars F)))&&(vars F).all fun x => !(cross F 0 x)
theorem live_uses {x:Nm}:∀ (f n:Nat) (l:List (List Nm×TE)),sizes l≤f→(∃ p∈l,p.2.live x=true)→∃ d∈layS n l,x∈d.uses
 | _,n,[],_,h=>by obtain⟨p,hp,_⟩:=h;cases hp
 | 0,n,(bs,e) :: r,h,_=>by rw [zg] at h;have:=e.size_pos;simp only [] at h;omega
 | f+1,n,(bs,e) :: r,h,hx=>by
  have hk:=e.size_kids;rw [zg] at h;simp only [] at h;rw [layS_cons];have go:(∃ p∈e.kids++r,p.2.live x=true)→∃ d∈(⟨bs,e,nums (n+1) e.kids⟩:Nd) :: layS (n+1) (e.kids++r),x∈d.uses:=fun hq=>by
   obtain⟨d,hd,hu⟩:=live_uses f (n+1) (e.kids++r) (by rw [zr];omega) hq
   exact⟨d,List.mem_cons_of_mem _ hd,hu⟩
  obtain⟨p,hp,hl⟩:=hx;rcases List.mem_cons.1 hp with rfl | hp
  ·rw [TE.live_kids,Bool.or_eq_true,List.any_eq_true] at hl
   rcases hl with hl | ⟨q,hq,hl⟩
   ·exact⟨_,List.mem_cons_self,zx.1 hl⟩
   rw [Bool.and_eq_true] at hl;exact go ⟨q,List.mem_append_left _ hq,hl.1⟩
  exact go ⟨p,List.mem_append_right _ hp,hl⟩
theorem flow_inScope (ps:List Nm) (e:TE):flowB (F0 ps e)=true↔e.inScope ps=true:=by
 unfold flowB;rw [Bool.and_eq_true,List.all_eq_true,List.all_eq_true];have h0:=F0_nd0 ps e;have hc:∀ x,cross (F0 ps e) 0 x=(e.live x && !(has ps x)):=fun x=>by unfold cross;rw [F0_live,h0]
 constructor
 ·rintro ⟨h1,h2⟩
  rw [TE.inScope_live];intro x hx;obtain⟨d,hd,hu⟩:=live_uses (x:=x) _ 0 [(ps,e)] (Nat.le_refl _) ⟨_,List.mem_singleton.2 rfl,hx⟩;have:=h1 d hd;rw [List.all_eq_true] at this;have hv:=h2 x (zx.1 (this x hu))
  rw [hc,hx] at hv;simpa using hv
 intro h;refine⟨fun d hd=>?_,fun x _=>?_⟩
 ·rw [List.all_eq_true]
  intro x hx;refine zx.2 (uses_in _ 0 [(ps,e)] (Nat.le_refl _) (fun p hp=>?_) (fun x hx=>hx) d hd x hx)
  obtain rfl:=List.mem_singleton.1 hp;exact⟨ps,h,fun x hx=>lay_binds _ 0 [(ps,e)] (Nat.le_refl _) _ (List.mem_singleton.2 rfl) x hx⟩
 rw [hc];cases hl:e.live x with
 | false=>rfl
 | true=>rw [(TE.inScope_live ps e).1 h x hl];rfl
structure Good (isName:Nm→Bool) (ps:List Nm) (e:TE):Prop where
 params:ps.length≤16
 size:e.size≤20000
 form:∀ d∈F0 ps e,nodeOk d.e=true
 names:∀ x∈vars (F0 ps e),isName x=true
 nodup:(vars (F0 ps e)).Nodup
 inScope:e.inScope ps=true
theorem good_rd {isName:Nm→Bool}{ps:List Nm}{e:TE}:Good isName ps e↔ps.length≤16∧rd isName e.size 0 [] [(ps,e)]=some (vars (F0 ps e))∧flowB (F0 ps e)=true:=by
 have hs:sizes [(ps,e)]=e.size:=by rw [zg,zw];rfl
 constructor
 ·intro h
  refine⟨h.params,?_,(flow_inScope ps e).2 h.inScope⟩;have:=rd_ok (isName:=isName) e.size 0 [] [(ps,e)] (by rw [hs];exact Nat.le_refl _) (by rw [hs];have:=h.size;omega) h.form ⟨fun x hx=>⟨h.names x hx,by simp⟩,h.nodup⟩
  rw [List.nil_append] at this;exact this
 rintro ⟨h1,h2,h3⟩;obtain⟨a,b,⟨c,d⟩,_⟩:=rd_some e.size 0 [] [(ps,e)] _ (by rw [hs];exact Nat.le_refl _) h2
 have:=a (by omega)
 rw [hs] at this;exact⟨h1,by omega,b,fun x hx=>(c x hx).1,d,(flow_inScope ps e).1 h3⟩
section
structure Fo (F:List Nd):Prop where
 pos:0<F.length
 par:∀ j,0<j→j<F.length→∃ i,i<j∧j∈(nd F i).next
 nxt:∀ i,i<F.length→∀ k∈(nd F i).next,i<k∧k<F.length
 live:∀ i x,i<F.length→lv F i x=(has (nd F i).uses x||(nd F i).next.any fun k=>lv F k x && !(has (nd F k).binds x))
 once:(vars F).Nodup
 root:∀ x,lv F 0 x=true→x∈(nd F 0).binds
 bound:∀ i,i<F.length→∀ x∈(nd F i).uses,x∈vars F
theorem lv_lies {F:List Nd}{n:Nat}{bs:List Nm}{e:TE}{l:List (List Nm×TE)}(h:Lies F n ((bs,e) :: l)) (hs:n+e.size≤F.length) (x:Nm):lv F n x=e.live x :=
 lvN_live F x _ n bs e l h (by omega)
theorem lv_kids {F:List Nd}(x:Nm):∀ (l:List (List Nm×TE)) (n:Nat),Lies F n l→n+sizes l≤F.length→((nums n l).any fun k=>lv F k x && !(has (nd F k).binds x))=l.any fun p=>p.2.live x && !(has p.1 x)
 | [],n,_,_=>rfl
 | (bs,e) :: r,n,h,hs=>by
  rw [zg] at hs;simp only [] at hs;rw [nums,List.any_cons,List.any_cons,lv_lies h (by omega),h.head,lv_kids x r (n+e.size) h.tail (by omega)]
theorem nums_mem:∀ (l:List (List Nm×TE)) (n m:Nat),m∈nums n l↔∃ pre q post,l=pre++q :: post∧m=n+sizes pre
 | [],n,m=>by simp [nums]
 | p :: r,n,m=>by
  rw [nums,List.mem_cons,nums_mem r];constructor
  ·rintro (rfl | ⟨pre,q,post,rfl,rfl⟩)
   ·exact⟨[],p,r,rfl,by simp [zw]⟩
   exact⟨p :: pre,q,post,rfl,by rw [zg];omega⟩
  rintro ⟨pre,q,post,h,rfl⟩;cases pre with
  | nil=>exact .inl (by simp [zw])
  | cons p' pre =>
   simp only [List.cons_append,List.cons.injEq] at h;obtain⟨rfl,rfl⟩:=h;exact .inr ⟨pre,q,post,rfl,by rw [zg];omega⟩
structure Stk (F:List Nd) (i:Nat) (l:List (List Nm×TE)):Prop where
 lies:Lies F i l
 size:i+sizes l=F.length
 par:∀ pre q post,l=pre++q :: post→i+sizes pre=0∨∃ p,p<i∧(i+sizes pre)∈(nd F p).next
theorem stk_at (ps:List Nm) (e:TE):∀ i,i≤(F0 ps e).length→∃ l,Stk (F0 ps e) i l
 | 0,_=>⟨[(ps,e)],F0_lies ps e,by rw [F0_length,zg,zw];simp,fun pre q post h=>by
   cases pre with
   | nil=>exact .inl (by simp [zw])
   | cons a pre=>simp at h⟩
 | i+1,hi=>by
  obtain⟨l,hl,hs,hp⟩:=stk_at ps e i (by omega)
  match l,hl,hs,hp with
  | [],_,hs,_=>rw [zw] at hs;omega
  | (bs,e1) :: r,hl,hs,hp =>
   have hk:=e1.size_kids;rw [zg] at hs;simp only [] at hs;refine⟨e1.kids++r,hl.kids,by rw [zr];omega,fun pre q post h=>?_⟩
   rcases List.append_eq_append_iff.1 h with ⟨a,h1,h2⟩|⟨a,h1,h2⟩
   ·-- in the rest
    rw [h1,zr];have:=hp ((bs,e1) :: a) q post (by rw [h2];rfl)
    rw [zg] at this;simp only [] at this;rcases this with h0 | ⟨p,hpi,hm⟩
    ·have:=e1.size_pos;omega
    exact .inr ⟨p,by omega,by rw [show i+1+(sizes e1.kids+sizes a)=i+(e1.size+sizes a) from by omega];exact hm⟩
   cases a with
   | nil =>
    rw [List.append_nil] at h1;have:=hp [(bs,e1)] q post (by simp only [List.nil_append] at h2;rw [← h2];rfl)
    rw [zg,zw] at this;simp only [] at this;rcases this with h0 | ⟨p,hpi,hm⟩
    ·have:=e1.size_pos;omega
    exact .inr ⟨p,by omega,by rw [← h1,show i+1+sizes e1.kids=i+(e1.size+0) from by omega];exact hm⟩
   | cons b a =>
    simp only [List.cons_append,List.cons.injEq] at h2;obtain⟨rfl,h2⟩:=h2;refine .inr ⟨i,Nat.lt_succ_self i,?_⟩;rw [hl.head];exact(nums_mem _ _ _).2 ⟨pre,q,a,h1,rfl⟩
theorem stk_head {F:List Nd}{i:Nat}{l:List (List Nm×TE)}(h:Stk F i l) (hi:i<F.length):∃ bs e r,l=(bs,e) :: r∧nd F i=⟨bs,e,nums (i+1) e.kids⟩∧i+e.size≤F.length:=by
 obtain⟨hl,hs,hp⟩:=h
 match l,hl,hs,hp with
 | [],_,hs,_=>rw [zw] at hs;omega
 | (bs,e1) :: r,hl,hs,hp=>exact⟨bs,e1,r,rfl,hl.head,by rw [zg] at hs;simp only [] at hs;omega⟩
theorem nd_mem {F:List Nd}{i:Nat}(hi:i<F.length):nd F i∈F:=by
 unfold nd;rw [List.getD_eq_getElem?_getD,List.getElem?_eq_getElem hi];exact List.getElem_mem hi
theorem good_fo {isName:Nm→Bool}{ps:List Nm}{e:TE}(h:Good isName ps e):Fo (F0 ps e):=by
 refine⟨by rw [F0_length];exact e.size_pos,fun j hj hl=>?_,fun i hi k hk=>?_,fun i x hi=>?_,h.nodup,fun x hx=>?_,fun i hi x hx=>?_⟩
 ·obtain⟨l,hs⟩:=stk_at ps e j (by omega)
  obtain⟨bs,e1,r,rfl,_,_⟩:=stk_head hs hl;rcases hs.par [] (bs,e1) r rfl with h0 | ⟨p,hp,hm⟩
  ·rw [zw] at h0;omega
  exact⟨p,hp,by rw [zw,Nat.add_zero] at hm;exact hm⟩
 ·obtain⟨l,hs⟩:=stk_at ps e i (by omega)
  obtain⟨bs,e1,r,rfl,hn,hz⟩:=stk_head hs hi;rw [hn] at hk;obtain⟨pre,q,post,hq,rfl⟩:=(nums_mem _ _ _).1 hk;have h1:=e1.size_kids;rw [hq,zr,zg] at h1;have:=q.2.size_pos
  omega
 ·obtain⟨l,hs⟩:=stk_at ps e i (by omega)
  obtain⟨bs,e1,r,rfl,hn,hz⟩:=stk_head hs hi;have h1:=e1.size_kids;rw [lv_lies hs.lies hz,TE.live_kids,hn];simp only [Nd.uses];rw [lv_kids x e1.kids (i+1) hs.lies.kids.left (by omega)]
 ·rw [F0_live] at hx
  rw [F0_nd0];exact zx.1 ((TE.inScope_live ps e).1 h.inScope x hx)
 have:=((good_rd.1 h).2.2);unfold flowB at this;rw [Bool.and_eq_true,List.all_eq_true] at this;have:=this.1 _ (nd_mem hi)
 rw [List.all_eq_true] at this;exact zx.1 (this x hx)
variable {F:List Nd}
theorem nd_some {i:Nat}(hi:i<F.length):F[i]?=some (nd F i):=by
 unfold nd;rw [List.getD_eq_getElem?_getD,List.getElem?_eq_getElem hi];rfl
theorem binds_vars {i:Nat}{x:Nm}(hi:i<F.length) (hx:x∈(nd F i).binds):x∈vars F:=List.mem_flatMap.2 ⟨_,nd_mem hi,hx⟩
theorem once_at:∀ {F:List Nd},(vars F).Nodup→∀ {i j:Nat}{a b:Nd}{x:Nm},F[i]?=some a→F[j]?=some b→x∈a.binds→x∈b.binds→i=j
 | [],_,i,j,a,b,x,h,_,_,_=>by simp at h
 | d :: F,hn,i,j,a,b,x,h1,h2,h3,h4=>by
  rw [vars_cons] at hn;obtain⟨n1,n2,n3⟩:=List.nodup_append.1 hn;have mem:∀ {k:Nat} {c:Nd},F[k]?=some c→x∈c.binds→x∈vars F:=fun hk hx=>List.mem_flatMap.2 ⟨_,List.mem_of_getElem? hk,hx⟩
  cases i with
  | zero =>
   cases j with
   | zero=>rfl
   | succ j =>
    simp only [List.getElem?_cons_zero,List.getElem?_cons_succ,Option.some.injEq] at h1 h2;subst h1;exact absurd rfl (n3 x h3 x (mem h2 h4))
  | succ i =>
   cases j with
   | zero =>
    simp only [List.getElem?_cons_zero,List.getElem?_cons_succ,Option.some.injEq] at h1 h2;subst h2;exact absurd rfl (n3 x h4 x (mem h1 h3))
   | succ j =>
    simp only [List.getElem?_cons_succ] at h1 h2;rw [once_at n2 h1 h2 h3 h4]
theorem Fo.same (h:Fo F) {i j:Nat}{x:Nm}(hi:i<F.length) (hj:j<F.length) (h1:x∈(nd F i).binds) (h2:x∈(nd F j).binds):i=j :=
 once_at h.once (nd_some hi) (nd_some hj) h1 h2
end
section
variable {F:List Nd}
theorem place_lt {x:Nm}(hx:x∈vars F):place F x<(vars F).length:=by
 unfold place;rw [List.findIdx_lt_length];exact⟨x,hx,by simp⟩
theorem place_at {x:Nm}(hx:x∈vars F):(vars F)[place F x]?=some x:=by
 have h:=place_lt hx;rw [List.getElem?_eq_getElem h];have:=List.findIdx_getElem (w:=h)
 exact congrArg some (of_decide_eq_true this)
theorem place_inj {x y:Nm}(hx:x∈vars F) (hy:y∈vars F) (h:place F x=place F y):x=y:=by
 have a:=place_at hx;have b:=place_at hy
 rw [h,b] at a;simpa using a.symm
theorem place_of (hn:(vars F).Nodup) {i:Nat}{x:Nm}(h:(vars F)[i]?=some x):place F x=i:=by
 have hx:x∈vars F:=List.mem_of_getElem? h;have hp:=place_at hx
 have hl:=place_lt hx;have hi:=(List.getElem?_eq_some_iff.1 h).1
 exact(List.getElem?_inj hl hn).1 (hp.trans h.symm)
theorem mem_named {p:Nm→Bool}{x:Nm}:x∈named F p↔x∈vars F∧p x=true:=List.mem_filter
theorem nodup_map_inj {α β:Type}{f:α→β}:∀ {l:List α},l.Nodup→(∀ x∈l,∀ y∈l,f x=f y→x=y)→(l.map f).Nodup
 | [],_,_=>by simp
 | a :: l,h,hf=>by
  rw [List.nodup_cons] at h;rw [List.map_cons,List.nodup_cons];refine⟨fun hm=>?_,nodup_map_inj h.2 fun x hx y hy=>hf x (List.mem_cons_of_mem _ hx) y (List.mem_cons_of_mem _ hy)⟩
  obtain⟨y,hy,e⟩:=List.mem_map.1 hm;have:=hf y (List.mem_cons_of_mem _ hy) a List.mem_cons_self e;subst this;exact h.1 hy
theorem nodup_of_map {α β:Type}{f:α→β}:∀ {l:List α},(l.map f).Nodup→∀ x∈l,∀ y∈l,f x=f y→x=y
 | [],_,x,hx,_,_,_=>absurd hx (by simp)
 | a :: l,h,x,hx,y,hy,e=>by
  rw [List.map_cons,List.nodup_cons] at h;rcases List.mem_cons.1 hx with h1 | hx
  ·rcases List.mem_cons.1 hy with h2 | hy
   ·rw [h1,h2]
   exact absurd (List.mem_map.2 ⟨y,hy,by rw [← e,h1]⟩) h.1
  rcases List.mem_cons.1 hy with h2 | hy
  ·exact absurd (List.mem_map.2 ⟨x,hx,by rw [e,h2]⟩) h.1
  exact nodup_of_map h.2 x hx y hy e
theorem lowest_spec (taken:List Nat):∀ (f r:Nat),(∀ k,k<r→k∈taken)→r≤lowest taken f r∧(∀ k,k<lowest taken f r→k∈taken)∧(lowest taken f r∉taken∨lowest taken f r=r+f)
 | 0,r,h=>⟨Nat.le_refl _,h,.inr rfl⟩
 | f+1,r,h=>by
  rw [lowest]
  by_cases hc:(taken.any (· == r))=true
  ·rw [if_pos hc]
   have hm:r∈taken:=by rw [List.any_eq_true] at hc;obtain⟨x,hx,e⟩:=hc;simp at e;exact e ▸ hx
   obtain⟨a,b,c⟩:=lowest_spec taken f (r+1) (fun k hk=>by
    by_cases e:k=r
    ·exact e ▸ hm
    exact h k (by omega))
   exact⟨by omega,b,by rcases c with c | c;exact .inl c;exact .inr (by omega)⟩
  rw [if_neg hc];refine⟨Nat.le_refl _,h,.inl fun hm=>hc ?_⟩
  rw [List.any_eq_true];exact⟨r,hm,by simp⟩
theorem all_in_len {taken:List Nat}{n:Nat}(h:∀ k,k<n→k∈taken):n≤taken.length:=by
 induction n generalizing taken with
 | zero=>omega
 | succ n ih =>
  have hm:=h n (Nat.lt_succ_self n);have:=ih (taken:=taken.erase n) fun k hk=>(List.mem_erase_of_ne (by omega)).2 (h k (by omega))
  rw [List.length_erase_of_mem hm] at this;have:0<taken.length:=List.length_pos_of_mem hm;omega
theorem low_spec (taken:List Nat):low taken∉taken∧(∀ k,k<low taken→k∈taken)∧low taken≤taken.length:=by
 obtain⟨a,b,c⟩:=lowest_spec taken (taken.length+1) 0 (fun k hk=>absurd hk (Nat.not_lt_zero _))
 have hl:=all_in_len b;refine⟨?_,b,hl⟩;rcases c with c | c
 ·exact c
 unfold low at *;omega
theorem low_unique {taken:List Nat}{r:Nat}(h1:r∉taken) (h2:∀ k,k<r→k∈taken):r=low taken:=by
 obtain⟨a,b,_⟩:=low_spec taken;rcases Nat.lt_trichotomy r (low taken) with h | h | h
 ·exact absurd (b r h) h1
 ·exact h
 exact absurd (h2 _ h) a
def regIn (F:List Nd) (l:List Nat) (x:Nm):Nat:=l.getD (place F x) 0
def pairs (F:List Nd) (l:List Nat):List (Nm×Int):=(vars F).map fun x=>(x,(regIn F l x:Int))
theorem pairs_at {l:List Nat}{i:Nat}{x:Nm}{r:Int}(h:(pairs F l)[i]?=some (x,r)):(vars F)[i]?=some x∧r=regIn F l x:=by
 unfold pairs at h;rw [List.getElem?_map] at h;cases hv:(vars F)[i]? with
 | none=>rw [hv] at h;cases h
 | some y =>
  rw [hv] at h;simp only [Option.map_some,Option.some.injEq,Prod.mk.injEq] at h;obtain⟨rfl,rfl⟩:=h;exact⟨rfl,rfl⟩
end
end RG
namespace RM
abbrev Mv:=Int×Int
def isReg (r:Int):Bool:=decide (0≤r)&&decide (r≤20000)
def rightFrom (spare:Int):List Int→List Mv→Bool
 | _,[]=>true
 | s,m :: r=>if isReg m.1&&isReg m.2 && !decide (m.1=spare) && !decide (m.2=spare) && !(s.any fun x=>decide (x=m.1)) then rightFrom spare (m.1 :: s) r else false
def areMoves (l:List Mv) (spare:Int):Bool:=decide (l.length≤16)&&isReg spare&&rightFrom spare [] l
theorem rightFrom_iff {spare:Int}:∀ {l:List Mv}{s:List Int},rightFrom spare s l=true↔(∀ m∈l,isReg m.1=true∧isReg m.2=true∧m.1≠spare∧m.2≠spare∧m.1∉s)∧(l.map (·.1)).Nodup
 | [],s=>by simp [rightFrom]
 | m :: r,s=>by
  rw [rightFrom];have hany:(s.any fun x=>decide (x=m.1))=decide (m.1∈s):=by
   rw [Bool.eq_iff_iff];simp
  rw [hany]
  split
  ·rename_i h
   simp only [Bool.and_eq_true,Bool.not_eq_true',decide_eq_false_iff_not] at h;obtain⟨⟨⟨⟨h1,h2⟩,h3⟩,h4⟩,h5⟩:=h;rw [rightFrom_iff];constructor
   ·rintro ⟨a,b⟩
    refine⟨fun x hx=>?_,?_⟩
    ·rcases List.mem_cons.1 hx with rfl | hx
     ·exact⟨h1,h2,h3,h4,h5⟩
     obtain⟨a1,a2,a3,a4,a5⟩:=a x hx;exact⟨a1,a2,a3,a4,fun hm=>a5 (List.mem_cons_of_mem _ hm)⟩
    rw [List.map_cons,List.nodup_cons];refine⟨fun hm=>?_,b⟩
    obtain⟨x,hx,e⟩:=List.mem_map.1 hm;exact(a x hx).2.2.2.2 (by rw [e];exact List.mem_cons_self)
   rintro ⟨a,b⟩;rw [List.map_cons,List.nodup_cons] at b;refine⟨fun x hx=>?_,b.2⟩
   obtain⟨a1,a2,a3,a4,a5⟩:=a x (List.mem_cons_of_mem _ hx);refine⟨a1,a2,a3,a4,fun hm=>?_⟩
   rcases List.mem_cons.1 hm with e | hm
   ·exact b.1 (List.mem_map.2 ⟨x,hx,e⟩)
   exact a5 hm
  rename_i h;constructor
  ·intro h;cases h
  rintro ⟨a,b⟩;obtain⟨a1,a2,a3,a4,a5⟩:=a m List.mem_cons_self;exact absurd (by simp [a1,a2,a3,a4,a5]) h
def step (σ:Int→Int) (m:Mv):Int→Int:=fun r=>if r=m.1 then σ m.2 else σ r
def run (σ:Int→Int) (ms:List Mv):Int→Int:=ms.foldl step σ
def free (rest:List Mv) (m:Mv):Bool := !(rest.any fun o=>decide (o.2=m.1))
def ordN (spare:Int):Nat→List Mv→List Mv→List Mv
 | 0,_,out=>out
 | _+1,[],out=>out
 | f+1,m :: r,out =>
  if (m :: r).findIdx (free (m :: r))<(m :: r).length then
   ordN spare f ((m :: r).eraseIdx ((m :: r).findIdx (free (m :: r)))) (out++[(m :: r).getD ((m :: r).findIdx (free (m :: r))) (0,0)])
  else ordN spare f ((m :: r).map fun o=>if o.2=m.1 then (o.1,spare) else o) (out++[(spare,m.1)])
def anyFree (rest:List Mv):Bool:=rest.any (free rest)
def mu (rest:List Mv):Nat:=2*rest.length+if anyFree rest then 0 else 1
structure Fit (spare:Int) (rest:List Mv):Prop where
 nodup:(rest.map (·.1)).Nodup
 tos:∀ m∈rest,m.1≠spare
 self:∀ m∈rest,m.1≠m.2
theorem perm_of_sub:∀ {a b:List Int},a.Nodup→(∀ x∈a,x∈b)→b.length≤a.length→b.Perm a
 | [],b,_,_,h=>by
  have:b=[]:=List.eq_nil_of_length_eq_zero (by simpa using h)
  subst this;exact .refl _
 | x :: a,b,hn,hs,hl=>by
  rw [List.nodup_cons] at hn;have hx:=hs x List.mem_cons_self;have hp:=List.perm_cons_erase hx
  refine hp.trans (.cons _ (perm_of_sub hn.2 (fun y hy=>?_) ?_))
  ·have:=hs y (List.mem_cons_of_mem _ hy)
   exact(List.mem_erase_of_ne (fun e:y=x=>hn.1 (by rw [← e];exact hy))).2 this
  rw [List.length_erase_of_mem hx];simp at hl;omega
theorem froms_perm {spare:Int}{rest:List Mv}(h:Fit spare rest) (hf:anyFree rest=false):(rest.map (·.2)).Perm (rest.map (·.1)):=by
 refine perm_of_sub h.nodup (fun x hx=>?_) (by simp)
 obtain⟨m,hm,rfl⟩:=List.mem_map.1 hx;unfold anyFree at hf;rw [List.any_eq_false] at hf;have:=hf m hm;unfold free at this;simp only [Bool.not_eq_true',Bool.not_eq_false,List.any_eq_true,decide_eq_true_eq] at this;obtain⟨o,ho,e⟩:=this;exact List.mem_map.2 ⟨o,ho,e⟩
theorem findIdx_lt_iff (rest:List Mv):rest.findIdx (free rest)<rest.length↔anyFree rest=true:=by
 unfold anyFree;rw [List.findIdx_lt_length,List.any_eq_true]
theorem Fit.erase {spare:Int}{rest:List Mv}(h:Fit spare rest) (i:Nat):Fit spare (rest.eraseIdx i):=by
 have hs:(rest.eraseIdx i).Sublist rest:=List.eraseIdx_sublist ..;exact⟨h.nodup.sublist (hs.map _),fun m hm=>h.tos m (hs.subset hm),fun m hm=>h.self m (hs.subset hm)⟩
def turn (spare k:Int) (rest:List Mv):List Mv:=rest.map fun o=>if o.2=k then (o.1,spare) else o
theorem turn_tos (spare k:Int) (rest:List Mv):(turn spare k rest).map (·.1)=rest.map (·.1):=by
 unfold turn;rw [List.map_map];apply List.map_congr_left;intro m _;simp only [Function.comp]
 split<;>rfl
theorem turn_length (spare k:Int) (rest:List Mv):(turn spare k rest).length=rest.length:=List.length_map ..
theorem Fit.turn {spare:Int}{rest:List Mv}(h:Fit spare rest) (k:Int):Fit spare (turn spare k rest):=by
 refine⟨by rw [turn_tos];exact h.nodup,fun m hm=>?_,fun m hm=>?_⟩
 ·obtain⟨o,ho,rfl⟩:=List.mem_map.1 hm
  split
  ·exact h.tos o ho
  exact h.tos o ho
 obtain⟨o,ho,rfl⟩:=List.mem_map.1 hm
 split
 ·exact h.tos o ho
 exact h.self o ho
theorem turn_free {spare:Int}{m:Mv}{r:List Mv}(h:Fit spare (m :: r)):∃ m' r',turn spare m.1 (m :: r)=m' :: r'∧m'.1=m.1∧m'.2=m.2∧free (turn spare m.1 (m :: r)) m'=true:=by
 have hs:=h.self m List.mem_cons_self;refine⟨m,turn spare m.1 r,?_,rfl,rfl,?_⟩
 ·unfold turn
  rw [List.map_cons,if_neg (Ne.symm hs)]
 unfold free;rw [Bool.not_eq_true',List.any_eq_false];intro o ho;obtain⟨x,hx,rfl⟩:=List.mem_map.1 ho;simp only [decide_eq_true_eq]
 split
 ·exact fun e=>h.tos m List.mem_cons_self e.symm
 assumption
theorem turn_anyFree {spare:Int}{m:Mv}{r:List Mv}(h:Fit spare (m :: r)):anyFree (turn spare m.1 (m :: r))=true:=by
 obtain⟨m',r',e,_,_,hf⟩:=turn_free h;unfold anyFree;rw [List.any_eq_true];exact⟨m',by rw [e];exact List.mem_cons_self,hf⟩
theorem mu_erase {rest:List Mv}{i:Nat}(hi:i<rest.length):mu (rest.eraseIdx i)<mu rest:=by
 unfold mu;rw [List.length_eraseIdx_of_lt hi]
 split<;>split<;>omega
theorem mu_turn {spare:Int}{m:Mv}{r:List Mv}(h:Fit spare (m :: r)) (hf:anyFree (m :: r)=false):mu (turn spare m.1 (m :: r))<mu (m :: r):=by
 unfold mu;rw [turn_length,turn_anyFree h,hf];simp
theorem ordN_fuel {spare:Int}:∀ (f g:Nat) (rest out:List Mv),Fit spare rest→mu rest<f→mu rest<g→ordN spare f rest out=ordN spare g rest out
 | 0,_,_,_,_,h,_=>by omega
 | _+1,0,_,_,_,_,h=>by omega
 | f+1,g+1,[],out,_,_,_=>rfl
 | f+1,g+1,m :: r,out,hF,h1,h2=>by
  rw [ordN,ordN]
  split
  ·rename_i hi
   have:=mu_erase hi;exact ordN_fuel f g _ _ (hF.erase _) (by omega) (by omega)
  rename_i hi;have hf:anyFree (m :: r)=false:=by
   cases hq:anyFree (m :: r) with
   | false=>rfl
   | true=>exact absurd ((findIdx_lt_iff _).2 hq) hi
  have:=mu_turn hF hf;exact ordN_fuel f g _ _ (hF.turn _) (by unfold turn at this;omega) (by unfold turn at this;omega)
structure Way (W σ:Int→Int) (spare:Int) (l:List Mv):Prop where
 rest:∀ m∈l,σ m.2=W m.1
 done:∀ r,r≠spare→(∀ m∈l,m.1≠r)→σ r=W r
theorem mem_eraseIdx {rest:List Mv}{i:Nat}{m o:Mv}(hi:rest[i]?=some m) (ho:o∈rest):o=m∨o∈rest.eraseIdx i:=by
 obtain⟨j,hj⟩:=List.getElem?_of_mem ho
 by_cases e:j=i
 ·subst e;rw [hi] at hj;simp only [Option.some.injEq] at hj;exact .inl hj.symm
 right;rcases Nat.lt_or_gt_of_ne e with h | h
 ·exact List.mem_of_getElem? (i:=j) (by rw [List.getElem?_eraseIdx];simp [h,hj])
 refine List.mem_of_getElem? (i:=j - 1) ?_;rw [List.getElem?_eraseIdx,if_neg (by omega),show j - 1+1=j from by omega];exact hj
theorem Way.free {W σ:Int→Int}{spare:Int}{rest:List Mv}(hF:Fit spare rest) (h:Way W σ spare rest) {i:Nat}{m:Mv}(hi:rest[i]?=some m) (hf:RM.free rest m=true):Way W (step σ m) spare (rest.eraseIdx i):=by
 have hs:(rest.eraseIdx i).Sublist rest:=List.eraseIdx_sublist ..;have hm:m∈rest:=List.mem_of_getElem? hi
 have hne:∀ o∈rest,o.2≠m.1:=by
  intro o ho e;unfold RM.free at hf;rw [Bool.not_eq_true',List.any_eq_false] at hf;exact hf o ho (by simp [e])
 refine⟨fun o ho=>?_,fun r hr hn=>?_⟩
 ·unfold step
  rw [if_neg (hne o (hs.subset ho))];exact h.rest o (hs.subset ho)
 unfold step
 by_cases e:r=m.1
 ·subst e
  rw [if_pos rfl];exact h.rest m hm
 rw [if_neg e];refine h.done r hr fun o ho=>?_
 rcases mem_eraseIdx hi ho with rfl | ho
 ·exact Ne.symm e
 exact hn o ho
theorem Way.turn {W σ:Int→Int}{spare:Int}{m:Mv}{r:List Mv}(hF:Fit spare (m :: r)) (h:Way W σ spare (m :: r)) (hf:anyFree (m :: r)=false):Way W (step σ (spare,m.1)) spare (turn spare m.1 (m :: r)):=by
 have hp:=froms_perm hF hf;refine⟨fun o ho=>?_,fun x hx hn=>?_⟩
 ·obtain⟨q,hq,rfl⟩:=List.mem_map.1 ho
  unfold step
  split
  ·rename_i e
   simp only [if_true];rw [← e];exact h.rest q hq
  have hne:q.2≠spare:=fun e=>by
   have:q.2∈(m :: r).map (·.1):=hp.subset (List.mem_map.2 ⟨q,hq,rfl⟩);obtain⟨z,hz,ez⟩:=List.mem_map.1 this;exact hF.tos z hz (ez.trans e)
  rw [if_neg hne];exact h.rest q hq
 unfold step;rw [if_neg hx];refine h.done x hx fun o ho e=>?_
 have:o.1∈(RM.turn spare m.1 (m :: r)).map (·.1):=by rw [turn_tos];exact List.mem_map.2 ⟨o,ho,rfl⟩
 obtain⟨z,hz,ez⟩:=List.mem_map.1 this;exact hn z hz (ez.trans e)
theorem getD_some {rest:List Mv}{i:Nat}(hi:i<rest.length):rest[i]?=some (rest.getD i (0,0)):=by
 rw [List.getD_eq_getElem?_getD,List.getElem?_eq_getElem hi];rfl
theorem ordN_free (spare:Int) {f:Nat}{m:Mv}{r out:List Mv}(h:anyFree (m :: r)=true):ordN spare (f+1) (m :: r) out=ordN spare f ((m :: r).eraseIdx ((m :: r).findIdx (free (m :: r)))) (out++[(m :: r).getD ((m :: r).findIdx (free (m :: r))) (0,0)]):=by
 rw [ordN,if_pos ((findIdx_lt_iff _).2 h)]
theorem ordN_turn (spare:Int) {f:Nat}{m:Mv}{r out:List Mv}(h:anyFree (m :: r)=false):ordN spare (f+1) (m :: r) out=ordN spare f (turn spare m.1 (m :: r)) (out++[(spare,m.1)]):=by
 rw [ordN,if_neg (fun hi=>by rw [(findIdx_lt_iff _).1 hi] at h;cases h)]
 rfl
def rest0 (l:List Mv):List Mv:=l.filter fun m => !decide (m.1=m.2)
def order (l:List Mv) (spare:Int):List Mv:=ordN spare (mu (rest0 l)+1) (rest0 l) []
theorem areMoves_iff {l:List Mv}{spare:Int}:areMoves l spare=true↔l.length≤16∧isReg spare=true∧(∀ m∈l,isReg m.1=true∧isReg m.2=true∧m.1≠spare∧m.2≠spare)∧(l.map (·.1)).Nodup:=by
 unfold areMoves;rw [Bool.and_eq_true,Bool.and_eq_true,rightFrom_iff,decide_eq_true_eq];simp [and_assoc]
theorem rest0_fit {l:List Mv}{spare:Int}(h:areMoves l spare=true):Fit spare (rest0 l):=by
 obtain⟨h1,h2,h3,h4⟩:=areMoves_iff.1 h;have hs:(rest0 l).Sublist l:=List.filter_sublist;refine⟨h4.sublist (hs.map _),fun m hm=>(h3 m (hs.subset hm)).2.2.1,fun m hm=>?_⟩
 have:=(List.mem_filter.1 hm).2;simpa using this
end RM
namespace RG
section
mutual
def TE.ren (ρ:Nm→Nm):TE→TE
 | .mk k n as arms body => .mk k (if n.size=0 then n else ρ n) (as.map fun a=>if a.size=0 then a else ρ a) (arms.ren ρ) (body.ren ρ)
def TA.ren (ρ:Nm→Nm):TA→TA
 | .nil => .nil
 | .cons vs e r => .cons (vs.map ρ) (e.ren ρ) (r.ren ρ)
def TB.ren (ρ:Nm→Nm):TB→TB
 | .nil => .nil
 | .cons e r => .cons (e.ren ρ) (r.ren ρ)
end
def renP (ρ:Nm→Nm) (p:List Nm×TE):List Nm×TE:=(p.1.map ρ,p.2.ren ρ)
def Nd.ren (ρ:Nm→Nm) (d:Nd):Nd:=⟨d.binds.map ρ,d.e.ren ρ,d.next⟩
mutual
theorem TE.size_ren (ρ:Nm→Nm):∀ e:TE,(e.ren ρ).size=e.size
 | .mk k n as arms body=>by rw [TE.ren,TE.size,TE.size,TA.size_ren ρ arms,TB.size_ren ρ body]
theorem TA.size_ren (ρ:Nm→Nm):∀ a:TA,(a.ren ρ).size=a.size
 | .nil=>rfl
 | .cons vs e r=>by rw [TA.ren,TA.size,TA.size,TE.size_ren ρ e,TA.size_ren ρ r]
theorem TB.size_ren (ρ:Nm→Nm):∀ b:TB,(b.ren ρ).size=b.size
 | .nil=>rfl
 | .cons e r=>by rw [TB.ren,TB.size,TB.size,TE.size_ren ρ e,TB.size_ren ρ r]
end
theorem TA.kids_ren (ρ:Nm→Nm):∀ a:TA,(a.ren ρ).kids=a.kids.map (renP ρ)
 | .nil=>rfl
 | .cons vs e r=>by rw [TA.ren,TA.kids,TA.kids,TA.kids_ren ρ r];rfl
theorem TB.kids_ren (ρ:Nm→Nm) {n:Nm}(hn:n.size≠0):∀ b:TB,(b.ren ρ).kids (if n.size=0 then n else ρ n)=(b.kids n).map (renP ρ)
 | .nil=>rfl
 | .cons e r=>by rw [TB.ren,TB.kids,TB.kids,TB.kids_ren ρ hn r,if_neg hn];rfl
theorem TA.length_ren (ρ:Nm→Nm):∀ a:TA,(a.ren ρ).length=a.length
 | .nil=>rfl
 | .cons vs e r=>by rw [TA.ren,TA.length,TA.length,TA.length_ren ρ r]
theorem TB.length_ren (ρ:Nm→Nm):∀ b:TB,(b.ren ρ).length=b.length
 | .nil=>rfl
 | .cons e r=>by rw [TB.ren,TB.length,TB.length,TB.length_ren ρ r]
theorem TE.kids_ren (ρ:Nm→Nm) (e:TE) (h:∀ p∈e.kids,∀ x∈p.1,x.size≠0):(e.ren ρ).kids=e.kids.map (renP ρ):=by
 obtain⟨k,n,as,arms,body⟩:=e;unfold TE.kids;show (body.ren ρ).kids (if n.size=0 then n else ρ n)++(arms.ren ρ).kids=_
 rw [TA.kids_ren,List.map_append]
 congr 1
 cases body with
 | nil=>rfl
 | cons e r =>
  refine TB.kids_ren ρ ?_ _;exact h ([n],e) (List.mem_append_left _ List.mem_cons_self) n List.mem_cons_self
theorem nums_ren (ρ:Nm→Nm):∀ (n:Nat) (l:List (List Nm×TE)),nums n (l.map (renP ρ))=nums n l
 | _,[]=>rfl
 | n,p :: l=>by rw [List.map_cons,nums,nums];show n :: nums (n+(p.2.ren ρ).size) _=_;rw [TE.size_ren,nums_ren ρ _ l]
theorem layS_ren (ρ:Nm→Nm):∀ (f n:Nat) (l:List (List Nm×TE)),sizes l≤f→(∀ x∈vars (layS n l),x.size≠0)→layS n (l.map (renP ρ))=(layS n l).map (Nd.ren ρ)
 | _,n,[],_,_=>rfl
 | 0,n,(bs,e) :: r,h,_=>by rw [zg] at h;have:=e.size_pos;simp at h;omega
 | f+1,n,(bs,e) :: r,h,hn=>by
  rw [zg] at h;have hs:sizes (e.kids++r)≤f:=by rw [zr];have:=e.size_kids;simp at h;omega
  rw [layS_cons,vars_cons] at hn;have hk:∀ p∈e.kids,∀ x∈p.1,x.size≠0:=fun p hp x hx=>hn x (List.mem_append_right _ (lay_binds f (n+1) (e.kids++r) hs p (List.mem_append_left _ hp) x hx))
  rw [List.map_cons];show layS n ((bs.map ρ,e.ren ρ) :: _)=_;rw [layS_cons,layS_cons,List.map_cons,TE.kids_ren ρ e hk,nums_ren,← List.map_append,layS_ren ρ f (n+1) (e.kids++r) hs (fun x hx=>hn x (List.mem_append_right _ hx))]
  rfl
theorem F0_ren (ρ:Nm→Nm) (ps:List Nm) (e:TE) (h:∀ x∈vars (F0 ps e),x.size≠0):F0 (ps.map ρ) (e.ren ρ)=(F0 ps e).map (Nd.ren ρ) :=
 layS_ren ρ _ 0 [(ps,e)] (Nat.le_refl _) h
variable {ρ:Nm→Nm} {F:List Nd}
theorem vars_ren (ρ:Nm→Nm) (F:List Nd):vars (F.map (Nd.ren ρ))=(vars F).map ρ:=by
 unfold vars;rw [List.flatMap_map,List.map_flatMap];rfl
theorem nd_ren {i:Nat}(hi:i<F.length):nd (F.map (Nd.ren ρ)) i=(nd F i).ren ρ:=by
 unfold nd;rw [List.getD_eq_getElem?_getD,List.getD_eq_getElem?_getD,List.getElem?_map,List.getElem?_eq_getElem hi];rfl
theorem uses_ren (d:Nd) (hne:∀ x∈d.uses,(ρ x).size≠0):(d.ren ρ).uses=d.uses.map ρ:=by
 obtain⟨bs,⟨k,n,as,arms,body⟩,nx⟩:=d;unfold Nd.uses at hne ⊢;show (as.map fun a=>if a.size=0 then a else ρ a).filter _=(as.filter _).map ρ
 replace hne:∀ x∈as.filter (fun n=>n.size != 0),(ρ x).size≠0:=hne
 induction as with
 | nil=>rfl
 | cons a as ih =>
  by_cases ha:a.size=0
  ·have h1:(a.size != 0)=false:=by simp [ha]
   rw [List.map_cons,if_pos ha,List.filter_cons_of_neg (by simp [ha]),List.filter_cons_of_neg (by simp [ha])]
   exact ih (fun x hx=>hne x (by rw [List.filter_cons_of_neg (by simp [ha])];exact hx))
  have h2:=hne a (by rw [List.filter_cons_of_pos (by simp [ha])];exact List.mem_cons_self)
  rw [List.map_cons,if_neg ha,List.filter_cons_of_pos (by simp [h2]),List.filter_cons_of_pos (by simp [ha]),List.map_cons]
  rw [ih (fun x hx=>hne x (by rw [List.filter_cons_of_pos (by simp [ha])];exact List.mem_cons_of_mem _ hx))]
structure Ren (ρ:Nm→Nm) (F:List Nd):Prop where
 inj:∀ x∈vars F,∀ y∈vars F,ρ x=ρ y→x=y
 ne:∀ x∈vars F,(ρ x).size≠0
theorem has_ren {l:List Nm}{x:Nm}(h:Ren ρ F) (hl:∀ y∈l,y∈vars F) (hx:x∈vars F):has (l.map ρ) (ρ x)=has l x:=by
 rw [Bool.eq_iff_iff,zx,zx,List.mem_map];constructor
 ·rintro ⟨y,hy,e⟩
  rw [← h.inj y (hl y hy) x hx e];exact hy
 exact fun h=>⟨x,h,rfl⟩
theorem lvN_ren (hr:Ren ρ F) (hF:Fo F) {x:Nm}(hx:x∈vars F):∀ (f i:Nat),i<F.length→lvN (F.map (Nd.ren ρ)) f i (ρ x)=lvN F f i x
 | 0,i,_=>rfl
 | f+1,i,hi=>by
  rw [lvN,lvN,nd_ren hi,uses_ren _ (fun y hy=>hr.ne y (hF.bound i hi y hy)),has_ren hr (fun y hy=>hF.bound i hi y hy) hx]
  congr 1
  show (nd F i).next.any _=_;have hk:∀ k∈(nd F i).next,(lvN (F.map (Nd.ren ρ)) f k (ρ x) && !has (nd (F.map (Nd.ren ρ)) k).binds (ρ x))=(lvN F f k x && !has (nd F k).binds x):=fun k hk=>by
   have hkl:=(hF.nxt i hi k hk).2;rw [lvN_ren hr hF hx f k hkl,nd_ren hkl];show (_ && !has ((nd F k).binds.map ρ) (ρ x))=_;rw [has_ren hr (fun y hy=>binds_vars hkl hy) hx]
  rw [Bool.eq_iff_iff,List.any_eq_true,List.any_eq_true];constructor
  ·rintro ⟨k,h1,h2⟩;exact⟨k,h1,by rw [← hk k h1];exact h2⟩
  rintro ⟨k,h1,h2⟩;exact⟨k,h1,by rw [hk k h1];exact h2⟩
theorem lv_ren (hr:Ren ρ F) (hF:Fo F) {x:Nm}(hx:x∈vars F) {i:Nat}(hi:i<F.length):lv (F.map (Nd.ren ρ)) i (ρ x)=lv F i x:=by
 unfold lv;rw [List.length_map];exact lvN_ren hr hF hx _ i hi
theorem cross_ren (hr:Ren ρ F) (hF:Fo F) {x:Nm}(hx:x∈vars F) {i:Nat}(hi:i<F.length):cross (F.map (Nd.ren ρ)) i (ρ x)=cross F i x:=by
 unfold cross;rw [lv_ren hr hF hx hi,nd_ren hi];show (_ && !has ((nd F i).binds.map ρ) (ρ x))=_;rw [has_ren hr (fun y hy=>binds_vars hi hy) hx]
theorem named_ren {q q':Nm→Bool}(h:∀ x∈vars F,q' (ρ x)=q x):named (F.map (Nd.ren ρ)) q'=(named F q).map ρ:=by
 unfold named;rw [vars_ren,List.filter_map]
 congr 1
 exact List.filter_congr fun x hx=>h x hx
theorem place_ren (hr:Ren ρ F) (hF:Fo F) {x:Nm}(hx:x∈vars F):place (F.map (Nd.ren ρ)) (ρ x)=place F x:=by
 refine(place_of ?_ ?_)
 ·rw [vars_ren]
  exact nodup_map_inj hF.once hr.inj
 rw [vars_ren,List.getElem?_map,place_at hx];rfl
theorem giveRegs_ren (hr:Ren ρ F) (hF:Fo F):∀ (xs:List Nm) (taken:List Nat) (st:List Nat×Nat),(∀ x∈xs,x∈vars F)→giveRegs (F.map (Nd.ren ρ)) (xs.map ρ) taken st=giveRegs F xs taken st
 | [],taken,st,_=>rfl
 | x :: r,taken,(regs,most),h=>by
  rw [List.map_cons,giveRegs,giveRegs,place_ren hr hF (h x List.mem_cons_self),giveRegs_ren hr hF r _ _ (fun y hy=>h y (List.mem_cons_of_mem _ hy))]
theorem allocStep_ren (hr:Ren ρ F) (hF:Fo F) (st:List Nat×Nat) {i:Nat}(hi:i<F.length):allocStep (F.map (Nd.ren ρ)) st i=allocStep F st i:=by
 unfold allocStep;rw [nd_ren hi,named_ren (q:=cross F i) (fun x hx=>cross_ren hr hF hx hi),List.map_map]
 show giveRegs _ ((nd F i).binds.map ρ) _ st=_;rw [giveRegs_ren hr hF _ _ _ (fun x hx=>binds_vars hi hx)]
 congr 1
 refine List.map_congr_left fun x hx=>?_
 show st.1.getD (place _ (ρ x)) 0=_;rw [place_ren hr hF (mem_named.1 hx).1]
theorem foldl_ren {σ:Type}{f g:σ→Nat→σ}:∀ (l:List Nat) (s:σ),(∀ s,∀ i∈l,f s i=g s i)→l.foldl f s=l.foldl g s
 | [],_,_=>rfl
 | i :: l,s,h=>by rw [List.foldl_cons,List.foldl_cons,h s i List.mem_cons_self,foldl_ren l _ (fun s j hj=>h s j (List.mem_cons_of_mem _ hj))]
theorem alloc_ren (hr:Ren ρ F) (hF:Fo F):alloc (F.map (Nd.ren ρ))=alloc F:=by
 unfold alloc;rw [List.length_map,vars_ren,List.map_map];have e0:(fun _=>(0:Nat)) ∘ ρ=fun _=>0:=rfl
 rw [e0];exact foldl_ren _ _ fun s i hi=>allocStep_ren hr hF s (List.mem_range.1 hi)
theorem TE.form_ren (ρ:Nm→Nm) (e:TE) (hne:∀ x∈e.args,x.size≠0→(ρ x).size≠0):(e.ren ρ).form=e.form:=by
 obtain⟨k,n,as,arms,body⟩:=e;unfold TE.form;show (decide (1≤k)&&decide (k≤10)&&(isRest k==((body.ren ρ).length==1))&&decide ((body.ren ρ).length≤1) &&
  (if k=7 then (as.map fun a=>if a.size=0 then a else ρ a).length==1&&(((as.map fun a=>if a.size=0 then a else ρ a).headD ⟨#[]⟩).size != 0)&&decide (1≤(arms.ren ρ).length)&&decide ((arms.ren ρ).length≤16)
   else (arms.ren ρ).length==0&&decide ((as.map fun a=>if a.size=0 then a else ρ a).length≤16)))=_
 rw [TA.length_ren,TB.length_ren,List.length_map];have hh:(((as.map fun a=>if a.size=0 then a else ρ a).headD ⟨#[]⟩).size != 0)=((as.headD ⟨#[]⟩).size != 0):=by
  cases as with
  | nil=>rfl
  | cons a as =>
   show ((if a.size=0 then a else ρ a).size != 0)=(a.size != 0)
   by_cases ha:a.size=0
   ·rw [if_pos ha]
   have:=hne a List.mem_cons_self ha;rw [if_neg ha];have h1:((ρ a).size != 0)=true:=by simpa using this
   have h2:(a.size != 0)=true:=by simpa using ha
   rw [h1,h2]
 rw [hh];rfl
theorem has_map (ρ:Nm→Nm) {l:List Nm}{x:Nm}(h:has l x=true):has (l.map ρ) (ρ x)=true:=zx.2 (List.mem_map.2 ⟨x,zx.1 h,rfl⟩)
theorem uses_scope (ρ:Nm→Nm) {s as:List Nm}(h:((as.filter fun n=>n.size != 0).all fun x=>has s x)=true) (hne:∀ x∈s,(ρ x).size≠0) :
  (((as.map fun a=>if a.size=0 then a else ρ a).filter fun n=>n.size != 0).all fun x=>has (s.map ρ) x)=true:=by
 rw [List.all_eq_true] at h ⊢;intro x hx;obtain⟨h1,h2⟩:=List.mem_filter.1 hx;obtain⟨a,ha,rfl⟩:=List.mem_map.1 h1
 by_cases e:a.size=0
 ·rw [if_pos e] at h2;simp [e] at h2
 rw [if_neg e];exact has_map ρ (h a (List.mem_filter.2 ⟨ha,by simpa using e⟩))
mutual
def TE.named:TE→Prop
 | .mk _ n _ arms body=>arms.named∧body.named n
def TA.named:TA→Prop
 | .nil=>True
 | .cons vs e r=>(∀ x∈vs,x.size≠0)∧e.named∧r.named
def TB.named (n:Nm):TB→Prop
 | .nil=>True
 | .cons e r=>n.size≠0∧e.named∧r.named n
end
mutual
theorem TE.inScope_ren (ρ:Nm→Nm) (hne:∀ x,x.size≠0→(ρ x).size≠0):∀ (e:TE) (s:List Nm),e.named→(∀ x∈s,x.size≠0)→e.inScope s=true→(e.ren ρ).inScope (s.map ρ)=true
 | .mk k n as arms body,s,hn,hs,h=>by
  rw [TE.inScope,Bool.and_eq_true,Bool.and_eq_true] at h;rw [TE.named] at hn;rw [TE.ren,TE.inScope,Bool.and_eq_true,Bool.and_eq_true];exact⟨⟨uses_scope ρ h.1.1 (fun x hx=>hne x (hs x hx)),TB.inScope_ren ρ hne body n s hn.2 hs h.1.2⟩,TA.inScope_ren ρ hne arms s hn.1 hs h.2⟩
theorem TA.inScope_ren (ρ:Nm→Nm) (hne:∀ x,x.size≠0→(ρ x).size≠0):∀ (a:TA) (s:List Nm),a.named→(∀ x∈s,x.size≠0)→a.inScope s=true→(a.ren ρ).inScope (s.map ρ)=true
 | .nil,s,_,_,_=>rfl
 | .cons vs e r,s,hn,hs,h=>by
  rw [TA.inScope,Bool.and_eq_true] at h;rw [TA.named] at hn;rw [TA.ren,TA.inScope,Bool.and_eq_true];refine⟨?_,TA.inScope_ren ρ hne r s hn.2.2 hs h.2⟩;rw [← List.map_append];exact TE.inScope_ren ρ hne e (vs++s) hn.2.1 (fun x hx=>by rcases List.mem_append.1 hx with hx | hx;exact hn.1 x hx;exact hs x hx) h.1
theorem TB.inScope_ren (ρ:Nm→Nm) (hne:∀ x,x.size≠0→(ρ x).size≠0):∀ (b:TB) (n:Nm) (s:List Nm),b.named n→(∀ x∈s,x.size≠0)→b.inScope n s=true→(b.ren ρ).inScope (if n.size=0 then n else ρ n) (s.map ρ)=true
 | .nil,n,s,_,_,_=>rfl
 | .cons e r,n,s,hn,hs,h=>by
  rw [TB.inScope,Bool.and_eq_true] at h;rw [TB.named] at hn;rw [TB.ren,TB.inScope,Bool.and_eq_true];refine⟨?_,TB.inScope_ren ρ hne r n s hn.2.2 hs h.2⟩;rw [if_neg hn.1];exact TE.inScope_ren ρ hne e ([n]++s) hn.2.1 (fun x hx=>by rcases List.mem_append.1 hx with hx | hx;exact(List.mem_singleton.1 hx) ▸ hn.1;exact hs x hx) h.1
end
theorem TA.named_kids:∀ a:TA,(∀ p∈a.kids,(∀ x∈p.1,x.size≠0)∧p.2.named)→a.named
 | .nil,_=>trivial
 | .cons vs e r,h=>by
  rw [TA.named];have h0:=h (vs,e) (by rw [TA.kids];exact List.mem_cons_self)
  exact⟨h0.1,h0.2,TA.named_kids r fun p hp=>h p (by rw [TA.kids];exact List.mem_cons_of_mem _ hp)⟩
theorem TB.named_kids (n:Nm):∀ b:TB,(∀ p∈b.kids n,(∀ x∈p.1,x.size≠0)∧p.2.named)→b.named n
 | .nil,_=>trivial
 | .cons e r,h=>by
  rw [TB.named];have h0:=h ([n],e) (by rw [TB.kids];exact List.mem_cons_self)
  exact⟨h0.1 n List.mem_cons_self,h0.2,TB.named_kids n r fun p hp=>h p (by rw [TB.kids];exact List.mem_cons_of_mem _ hp)⟩
theorem TE.named_kids (e:TE) (h:∀ p∈e.kids,(∀ x∈p.1,x.size≠0)∧p.2.named):e.named:=by
 obtain⟨k,n,as,arms,body⟩:=e;rw [TE.named];exact⟨TA.named_kids arms fun p hp=>h p (List.mem_append_right _ hp),TB.named_kids n body fun p hp=>h p (List.mem_append_left _ hp)⟩
theorem stack_named:∀ (f n:Nat) (l:List (List Nm×TE)),sizes l≤f→(∀ x∈vars (layS n l),x.size≠0)→∀ p∈l,(∀ x∈p.1,x.size≠0)∧p.2.named
 | _,n,[],_,_,p,hp=>absurd hp (by simp)
 | 0,n,(bs,e) :: r,h,_,_,_=>by rw [zg] at h;have:=e.size_pos;simp at h;omega
 | f+1,n,(bs,e) :: r,h,hn,p,hp=>by
  rw [zg] at h;have hs:sizes (e.kids++r)≤f:=by rw [zr];have:=e.size_kids;simp at h;omega
  rw [layS_cons,vars_cons] at hn;have ih:=stack_named f (n+1) (e.kids++r) hs (fun x hx=>hn x (List.mem_append_right _ hx))
  rcases List.mem_cons.1 hp with rfl | hp
  ·exact⟨fun x hx=>hn x (List.mem_append_left _ hx),TE.named_kids e fun q hq=>ih q (List.mem_append_left _ hq)⟩
  exact ih p (List.mem_append_right _ hp)
theorem good_ren {isName:Nm→Bool}{ps:List Nm}{e:TE}(h:Good isName ps e) (h0:∀ x,isName x=true→x.size≠0) (hr:Ren ρ (F0 ps e)) (hn:∀ x∈vars (F0 ps e),isName (ρ x)=true) (hne:∀ x,x.size≠0→(ρ x).size≠0) :
  Good isName (ps.map ρ) (e.ren ρ)∧F0 (ps.map ρ) (e.ren ρ)=(F0 ps e).map (Nd.ren ρ):=by
 have hv:∀ x∈vars (F0 ps e),x.size≠0:=fun x hx=>h0 x (h.names x hx)
 have hF:=F0_ren ρ ps e hv;have hst:=stack_named _ 0 [(ps,e)] (Nat.le_refl _) hv (ps,e) List.mem_cons_self
 refine⟨⟨by rw [List.length_map];exact h.params,by rw [TE.size_ren];exact h.size,fun d hd=>?_,fun x hx=>?_,?_,TE.inScope_ren ρ hne e ps hst.2 hst.1 h.inScope⟩,hF⟩
 ·rw [hF] at hd
  obtain⟨d0,hd0,rfl⟩:=List.mem_map.1 hd;have h1:=h.form d0 hd0;unfold nodeOk at h1 ⊢;rw [Bool.and_eq_true] at h1 ⊢;have hkn:∀ p∈d0.e.kids,∀ x∈p.1,x.size≠0:=fun p hp x hx=>by
   obtain⟨i,hi⟩:=List.getElem?_of_mem hd0;have hil:=(List.getElem?_eq_some_iff.1 hi).1;obtain⟨l,hs⟩:=stk_at ps e i (by omega)
   obtain⟨bs,e1,r,rfl,hnd,hz⟩:=stk_head hs hil;have:d0=nd (F0 ps e) i:=by unfold nd;rw [List.getD_eq_getElem?_getD,hi];rfl
   rw [this,hnd] at hp;have hk:=hs.lies.kids;obtain⟨rest,hrest⟩:=hk.left;refine hv x ?_;have hx2:=lay_binds _ (i+1) e1.kids (Nat.le_refl _) p hp x hx
   unfold vars at hx2 ⊢;obtain⟨d,hd,hxd⟩:=List.mem_flatMap.1 hx2;refine List.mem_flatMap.2 ⟨d,?_,hxd⟩;refine List.mem_of_mem_drop (i:=i+1) ?_;rw [hrest];exact List.mem_append_left _ hd
  refine⟨?_,?_⟩
  ·show (d0.e.ren ρ).form=true
   rw [TE.form_ren ρ d0.e (fun x _ hx=>hne x hx)];exact h1.1
  show ((d0.e.ren ρ).kids.all _)=true;rw [TE.kids_ren ρ d0.e hkn,List.all_map];have h2:=h1.2;rw [List.all_eq_true] at h2 ⊢;intro p hp;show decide ((p.1.map ρ).length≤16)=true;rw [List.length_map];exact h2 p hp
 ·rw [hF,vars_ren] at hx
  obtain⟨y,hy,rfl⟩:=List.mem_map.1 hx;exact hn y hy
 rw [hF,vars_ren];exact nodup_map_inj h.nodup hr.inj
end
end RG
namespace RM
def sp (spare x:Int):Int:=if x=spare then -1 else x
end RM
namespace RF
section
open RG
def look:List (Nm×Nat)→Nm→Option Nat
 | [],_=>none
 | p :: r,x=>if p.1=x then some p.2 else look r x
def usesR (sc:List (Nm×Nat)):List Nm→List Nat→Option (List Nat)
 | [],acc=>some acc
 | a :: as,acc=>if a.size=0 then usesR sc as acc else
   match look sc a with
   | none=>none
   | some n=>usesR sc as (if n∈acc then acc else acc++[n])
def scope (k:Nat):List Nm→List (Nm×Nat)→List (Nm×Nat)
 | [],sc=>sc
 | n :: ns,sc=>scope (k+1) ns ((n,k) :: sc)
structure St where
 vars:List Nm
 uses:List (List Nat)
 next:List (List Nat)
 binds:List (List Nat)
def St.bind (st:St) (bs:List Nm):St:={ st with vars:=st.vars++bs,binds:=st.binds++[List.range' st.vars.length bs.length] }
def St.link (st:St) (i:Nat):St:={ st with next:=st.next.modify i (· ++ [st.binds.length - 1]) }
def St.node (st:St) (u:List Nat):St:={ st with uses:=st.uses++[u],next:=st.next++[[]] }
def goR:Nat→Nat→List (Nm×Nat)→List (List Nm×TE)→St→Option St
 | _,_,_,[],st=>some st
 | 0,_,_,_ :: _,_=>none
 | f+1,i,sc,(bs,e) :: r,st =>
  if nodeOk e=false then none else
   match usesR (scope st.vars.length bs sc) e.args [] with
   | none=>none
   | some u =>
    match goR f st.uses.length (scope st.vars.length bs sc) e.kids (((st.bind bs).link i).node u) with
    | none=>none
    | some st'=>goR f i sc r st'
theorem goR_fuel:∀ (f g i:Nat) (sc:List (Nm×Nat)) (l:List (List Nm×TE)) (st:St),sizes l≤f→sizes l≤g→goR f i sc l st=goR g i sc l st
 | 0,0,_,_,_,_,_,_=>rfl
 | 0,g+1,i,sc,[],st,_,_=>rfl
 | f+1,0,i,sc,[],st,_,_=>rfl
 | f+1,g+1,i,sc,[],st,_,_=>rfl
 | 0,g+1,i,sc,(bs,e) :: r,st,h,_=>by rw [zg] at h;have:=e.size_pos;simp only [] at h;omega
 | f+1,0,i,sc,(bs,e) :: r,st,_,h=>by rw [zg] at h;have:=e.size_pos;simp only [] at h;omega
 | f+1,g+1,i,sc,(bs,e) :: r,st,h1,h2=>by
  rw [zg] at h1 h2;have hk:=e.size_kids;have hp:=e.size_pos
  simp only [] at h1 h2;rw [goR,goR]
  split
  ·rfl
  cases usesR (scope st.vars.length bs sc) e.args [] with
  | none=>rfl
  | some u =>
   simp only [];rw [goR_fuel f g _ _ e.kids _ (by omega) (by omega)]
   cases goR g st.uses.length (scope st.vars.length bs sc) e.kids (((st.bind bs).link i).node u) with
   | none=>rfl
   | some st'=>simp only [];exact goR_fuel f g i sc r st' (by omega) (by omega)
def fR (i:Nat) (sc:List (Nm×Nat)) (l:List (List Nm×TE)) (st:St):Option St:=goR (sizes l) i sc l st
def bodyR (e:TE) (sc:List (Nm×Nat)) (st:St):Option St :=
 if nodeOk e=false then none else
  match usesR sc e.args [] with
  | none=>none
  | some u=>fR st.uses.length sc e.kids (st.node u)
theorem fR_cons (i:Nat) (sc:List (Nm×Nat)) (bs:List Nm) (e:TE) (r:List (List Nm×TE)) (st:St) :
  fR i sc ((bs,e) :: r) st=match bodyR e (scope st.vars.length bs sc) ((st.bind bs).link i) with
   | none=>none
   | some st'=>fR i sc r st':=by
 have hk:=e.size_kids;unfold fR bodyR fR;rw [zg];obtain⟨f,hf⟩:∃ f,e.size+sizes r=f+1:=⟨e.size+sizes r - 1,by omega⟩
 simp only [];rw [hf,goR]
 split
 ·rfl
 cases usesR (scope st.vars.length bs sc) e.args [] with
 | none=>rfl
 | some u =>
  simp only [];rw [goR_fuel f (sizes e.kids) _ _ e.kids _ (by omega) (by omega)]
  have hl:((st.bind bs).link i).uses.length=st.uses.length:=rfl;rw [hl];cases goR (sizes e.kids) st.uses.length (scope st.vars.length bs sc) e.kids (((st.bind bs).link i).node u) with
  | none=>rfl
  | some st'=>simp only [];exact goR_fuel f _ i sc r st' (by omega) (by omega)
def names (sc:List (Nm×Nat)):List Nm:=sc.map (·.1)
theorem look_some {sc:List (Nm×Nat)}{x:Nm}{n:Nat}(h:look sc x=some n):(x,n)∈sc:=by
 induction sc with
 | nil=>cases h
 | cons p r ih =>
  rw [look] at h
  split at h
  ·rename_i e
   simp only [Option.some.injEq] at h;rw [← e,← h];exact List.mem_cons_self
  exact List.mem_cons_of_mem _ (ih h)
theorem look_none {sc:List (Nm×Nat)}{x:Nm}:look sc x=none↔x∉names sc:=by
 induction sc with
 | nil=>simp [look,names]
 | cons p r ih =>
  rw [look];unfold names at *;rw [List.map_cons,List.mem_cons]
  by_cases e:p.1=x
  ·rw [if_pos e];simp [e]
  rw [if_neg e,ih];constructor
  ·rintro h (h' | h')
   ·exact e h'.symm
   exact h h'
  exact fun h h'=>h (.inr h')
theorem usesR_none {sc:List (Nm×Nat)}:∀ {l:List Nm}{acc:List Nat},usesR sc l acc=none↔∃ a∈l,a.size≠0∧a∉names sc
 | [],acc=>by simp [usesR]
 | a :: as,acc=>by
  rw [usesR]
  by_cases h0:a.size=0
  ·rw [if_pos h0,usesR_none]
   constructor
   ·rintro ⟨x,hx,h⟩;exact⟨x,List.mem_cons_of_mem _ hx,h⟩
   rintro ⟨x,hx,h⟩;rcases List.mem_cons.1 hx with rfl | hx
   ·exact absurd h0 h.1
   exact⟨x,hx,h⟩
  rw [if_neg h0];cases hl:look sc a with
  | none=>simp only [true_iff];exact⟨a,List.mem_cons_self,h0,look_none.1 hl⟩
  | some n =>
   simp only [];rw [usesR_none];have hm:a∈names sc:=by
    have:=look_some hl;exact List.mem_map.2 ⟨_,this,rfl⟩
   constructor
   ·rintro ⟨x,hx,h⟩;exact⟨x,List.mem_cons_of_mem _ hx,h⟩
   rintro ⟨x,hx,h⟩;rcases List.mem_cons.1 hx with rfl | hx
   ·exact absurd hm h.2
   exact⟨x,hx,h⟩
theorem mem_scope:∀ {k:Nat}{bs:List Nm}{sc:List (Nm×Nat)}{x:Nm},x∈names (scope k bs sc)↔x∈bs∨x∈names sc
 | k,[],sc,x=>by simp [scope]
 | k,b :: bs,sc,x=>by
  rw [scope,mem_scope];unfold names;rw [List.map_cons,List.mem_cons,List.mem_cons];constructor
  ·rintro (h | h | h)
   ·exact .inl (.inr h)
   ·exact .inl (.inl h)
   exact .inr h
  rintro ((h | h) | h)
  ·exact .inr (.inl h)
  ·exact .inl h
  exact .inr (.inr h)
theorem inScope_congr {s t:List Nm}(h:∀ x,x∈s↔x∈t) (e:TE):e.inScope s=e.inScope t:=by
 rw [Bool.eq_iff_iff,TE.inScope_live,TE.inScope_live];have:∀ x,has s x=has t x:=fun x=>by rw [Bool.eq_iff_iff,zx,zx];exact h x
 simp only [this]
theorem inScope_kids_mk {s:List Nm}{e:TE}(h1:∀ x∈e.args,x.size≠0→x∈s) (h2:∀ p∈e.kids,p.2.inScope (p.1++s)=true):e.inScope s=true:=by
 rw [TE.inScope_live];intro x hx;rw [TE.live_kids,Bool.or_eq_true,List.any_eq_true] at hx;rcases hx with hx | ⟨p,hp,hx⟩
 ·have:=zx.1 hx
  rw [List.mem_filter] at this;exact zx.2 (h1 x this.1 (by simpa using this.2))
 rw [Bool.and_eq_true,Bool.not_eq_true'] at hx;have:=(TE.inScope_live _ _).1 (h2 p hp) x hx.1;rw [has_append,hx.2] at this;simpa using this
def Fine (s:List Nm) (l:List (List Nm×TE)):Prop:=(∀ n,∀ d∈layS n l,nodeOk d.e=true)∧∀ p∈l,p.2.inScope (p.1++s)=true
theorem lay_e:∀ (f n m:Nat) (l:List (List Nm×TE)),sizes l≤f→(∀ d∈layS n l,nodeOk d.e=true)→∀ d∈layS m l,nodeOk d.e=true
 | _,n,m,[],_,_=>fun d hd=>by rw [layS_nil] at hd;cases hd
 | 0,n,m,(bs,e) :: r,h,_=>by rw [zg] at h;have:=e.size_pos;simp only [] at h;omega
 | f+1,n,m,(bs,e) :: r,h,hx=>by
  have hk:=e.size_kids;rw [zg] at h;simp only [] at h;rw [layS_cons] at hx ⊢;intro d hd;rcases List.mem_cons.1 hd with rfl | hd
  ·exact hx ⟨bs,e,nums (n+1) e.kids⟩ List.mem_cons_self
  exact lay_e f (n+1) (m+1) (e.kids++r) (by rw [zr];omega) (fun d hd=>hx d (List.mem_cons_of_mem _ hd)) d hd
theorem fine_cons {s:List Nm}{bs:List Nm}{e:TE}{r:List (List Nm×TE)}:Fine s ((bs,e) :: r)↔nodeOk e=true∧(∀ x∈e.args,x.size≠0→x∈bs++s)∧Fine (bs++s) e.kids∧Fine s r:=by
 have happ:∀ n,layS n (e.kids++r)=layS n e.kids++layS (n+sizes e.kids) r:=fun n=>layS_append _ n _ _ (Nat.le_refl _)
 constructor
 ·rintro ⟨h1,h2⟩
  have hs:=TE.inScope_kids _ _ (h2 _ List.mem_cons_self);simp only [layS_cons,happ] at h1;refine⟨h1 0 _ List.mem_cons_self,fun x hx h0=>hs.1 x (List.mem_filter.2 ⟨hx,by simpa using h0⟩),⟨lay_any (n:=0+1) fun d hd=>?_,hs.2⟩,⟨lay_any (n:=0+1+sizes e.kids) fun d hd=>?_,fun p hp=>h2 p (List.mem_cons_of_mem _ hp)⟩⟩
  ·exact h1 0 d (List.mem_cons_of_mem _ (List.mem_append_left _ hd))
  exact h1 0 d (List.mem_cons_of_mem _ (List.mem_append_right _ hd))
 rintro ⟨h1,h2,⟨h3,h4⟩,h5,h6⟩;refine⟨fun n d hd=>?_,fun p hp=>?_⟩
 ·rw [layS_cons,happ] at hd
  rcases List.mem_cons.1 hd with rfl | hd
  ·exact h1
  rcases List.mem_append.1 hd with hd | hd
  ·exact h3 _ d hd
  exact h5 _ d hd
 rcases List.mem_cons.1 hp with rfl | hp
 ·exact inScope_kids_mk h2 h4
 exact h6 p hp
where
 lay_any {n:Nat} {l:List (List Nm×TE)} (h:∀ d∈layS n l,nodeOk d.e=true):∀ m,∀ d∈layS m l,nodeOk d.e=true:=fun m=>lay_e _ n m l (Nat.le_refl _) h
theorem fine_congr {s t:List Nm}(h:∀ x,x∈s↔x∈t) {l:List (List Nm×TE)}:Fine s l↔Fine t l:=by
 unfold Fine;have:∀ p:List Nm×TE,p.2.inScope (p.1++s)=p.2.inScope (p.1++t):=fun p=>inScope_congr (fun x=>by simp [h]) _
 simp only [this]
theorem goR_fine:∀ (f i:Nat) (sc:List (Nm×Nat)) (l:List (List Nm×TE)) (st:St),sizes l≤f→((goR f i sc l st).isSome=true↔Fine (names sc) l)
 | f,i,sc,[],st,_=>by
  have:goR f i sc [] st=some st:=by cases f<;>rfl
  rw [this];simp only [Option.isSome_some,true_iff];exact⟨fun n d hd=>(by rw [layS_nil] at hd;cases hd),fun p hp=>absurd hp (by simp)⟩
 | 0,i,sc,(bs,e) :: r,st,h=>by rw [zg] at h;have:=e.size_pos;simp only [] at h;omega
 | f+1,i,sc,(bs,e) :: r,st,h=>by
  have hk:=e.size_kids;have hp:=e.size_pos
  rw [zg] at h;simp only [] at h;rw [goR,fine_cons];cases hn:nodeOk e with
  | false=>simp
  | true =>
   rw [if_neg (by simp)]
   cases hu:usesR (scope st.vars.length bs sc) e.args [] with
   | none =>
    obtain⟨a,ha,h0,h1⟩:=usesR_none.1 hu;simp only [Option.isSome_none,Bool.false_eq_true,false_iff];rintro ⟨_,h2,_⟩;exact h1 (mem_scope.2 (List.mem_append.1 (h2 a ha h0)))
   | some u =>
    have h2:∀ x∈e.args,x.size≠0→x∈bs++names sc:=fun x hx h0=>by
     refine List.mem_append.2 ((mem_scope (k:=st.vars.length)).1 (Classical.byContradiction fun h1=>?_))
     rw [usesR_none.2 ⟨x,hx,h0,h1⟩] at hu;cases hu
    have ih:=goR_fine f st.uses.length (scope st.vars.length bs sc) e.kids (((st.bind bs).link i).node u) (by omega)
    rw [fine_congr (t:=bs++names sc) (fun x=>by rw [mem_scope,List.mem_append])] at ih
    simp only [];cases hg:goR f st.uses.length (scope st.vars.length bs sc) e.kids (((st.bind bs).link i).node u) with
    | none =>
     rw [hg] at ih;simp only [Option.isSome_none,Bool.false_eq_true,false_iff] at ih ⊢;exact fun h=>ih h.2.2.1
    | some st' =>
     rw [hg] at ih;simp only [Option.isSome_some,true_iff] at ih;simp only [];rw [goR_fine f i sc r st' (by omega)]
     exact⟨fun h=>⟨trivial,h2,ih,h⟩,fun h=>h.2.2.2⟩
theorem fR_fine {i:Nat}{sc:List (Nm×Nat)}{l:List (List Nm×TE)}{st:St}:(fR i sc l st).isSome=true↔Fine (names sc) l:=goR_fine _ i sc l st (Nat.le_refl _)
theorem bodyR_fine {e:TE}{bs:List Nm}{k:Nat}{st:St}:(bodyR e (scope k bs []) st).isSome=true↔Fine [] [(bs,e)]:=by
 rw [fine_cons];unfold bodyR;cases hn:nodeOk e with
 | false=>simp
 | true =>
  rw [if_neg (by simp)]
  cases hu:usesR (scope k bs []) e.args [] with
  | none =>
   obtain⟨a,ha,h0,h1⟩:=usesR_none.1 hu;simp only [Option.isSome_none,Bool.false_eq_true,false_iff];rintro ⟨_,h2,_⟩;exact h1 (mem_scope.2 (.inl (by simpa using h2 a ha h0)))
  | some u =>
   have h2:∀ x∈e.args,x.size≠0→x∈bs++[]:=fun x hx h0=>by
    have:x∈names (scope k bs []):=Classical.byContradiction fun h1=>by rw [usesR_none.2 ⟨x,hx,h0,h1⟩] at hu;cases hu
    rcases mem_scope.1 this with h | h
    ·simpa using h
    simp [names] at h
   simp only [];rw [fR_fine,fine_congr (t:=bs++[]) (fun x=>by rw [mem_scope,List.mem_append];simp [names])]
   exact⟨fun h=>⟨trivial,h2,h,⟨fun n d hd=>(by rw [layS_nil] at hd;cases hd),fun p hp=>absurd hp (by simp)⟩⟩,fun h=>h.2.2.1⟩
def UR (F:List Nd) (i:Nat):List Nat:=(usesAt F i).map (place F)
def BR (F:List Nd) (i:Nat):List Nat:=(nd F i).binds.map (place F)
def NR (F:List Nd) (i:Nat):List Nat:=(nd F i).next
def ScOk (F:List Nd) (sc:List (Nm×Nat)):Prop:=∀ p∈sc,(vars F)[p.2]?=some p.1
structure Stage (F:List Nd) (st:St) (n:Nat):Prop where
 vars:st.vars=RG.vars (F.take n)
 uses:st.uses=(List.range n).map (UR F)
 binds:st.binds=(List.range n).map (BR F)
 next:st.next.length=n
theorem usesR_once {F:List Nd}{sc:List (Nm×Nat)}(hn:(vars F).Nodup) (hs:ScOk F sc):∀ (l:List Nm) (acc:List Nm) (u:List Nat),(∀ x∈acc,x∈vars F)→usesR sc l (acc.map (place F))=some u →
  u=(once acc (l.filter fun n=>n.size != 0)).map (place F)
 | [],acc,u,_,h=>by
  rw [usesR,Option.some.injEq] at h;rw [List.filter_nil,once];exact h.symm
 | a :: as,acc,u,hv,h=>by
  rw [usesR] at h
  by_cases h0:a.size=0
  ·rw [if_pos h0] at h
   rw [List.filter_cons_of_neg (by simp [h0])]
   exact usesR_once hn hs as acc u hv h
  rw [if_neg h0] at h;rw [List.filter_cons_of_pos (by simpa using h0),once]
  cases hl:look sc a with
  | none=>rw [hl] at h;cases h
  | some n =>
   rw [hl] at h;simp only [] at h;have ha:=hs _ (look_some hl);have hp:place F a=n:=place_of hn ha
   have hav:a∈vars F:=List.mem_of_getElem? ha;have hc:(n∈acc.map (place F))↔has acc a=true:=by
    rw [zx,List.mem_map];constructor
    ·rintro ⟨y,hy,e⟩
     rw [← place_inj (hv y hy) hav (by rw [e,hp])];exact hy
    exact fun hm=>⟨a,hm,hp⟩
   by_cases hm:has acc a=true
   ·rw [if_pos hm]
    rw [if_pos (hc.2 hm)] at h;exact usesR_once hn hs as acc u hv h
   rw [if_neg hm];rw [if_neg (fun x=>hm (hc.1 x))] at h
   refine usesR_once hn hs as (acc++[a]) u (fun x hx=>?_) (by rw [List.map_append,List.map_cons,List.map_nil,hp];exact h)
   rcases List.mem_append.1 hx with hx | hx
   ·exact hv x hx
   simp at hx;rw [hx];exact hav
theorem vars_take {F:List Nd}{n:Nat}(h:n<F.length):vars (F.take (n+1))=vars (F.take n)++(nd F n).binds:=by
 unfold vars;rw [List.take_add_one,nd_some h,List.flatMap_append];simp
theorem vars_split {F:List Nd}(n:Nat):vars F=vars (F.take n)++vars (F.drop n):=by
 unfold vars;rw [← List.flatMap_append,List.take_append_drop]
theorem binds_at {F:List Nd}{n j:Nat}{x:Nm}(h:n<F.length) (hx:(nd F n).binds[j]?=some x):(vars F)[(vars (F.take n)).length+j]?=some x:=by
 rw [vars_split (n+1),vars_take h,List.append_assoc,List.getElem?_append_right (by omega)]
 rw [show (vars (F.take n)).length+j - (vars (F.take n)).length=j from by omega,List.getElem?_append_left ((List.getElem?_eq_some_iff.1 hx).1)]
 exact hx
theorem bind_row {F:List Nd}(hn:(vars F).Nodup) {n:Nat}(h:n<F.length):List.range' (vars (F.take n)).length (nd F n).binds.length=BR F n:=by
 apply List.ext_getElem?;intro j;unfold BR;rw [List.getElem?_map]
 by_cases hj:j<(nd F n).binds.length
 ·obtain⟨x,hx⟩:∃ x,(nd F n).binds[j]?=some x:=⟨_,List.getElem?_eq_getElem hj⟩
  rw [hx,List.getElem?_range' hj,Option.map_some,place_of hn (binds_at h hx)];simp
 rw [List.getElem?_eq_none (by simp;omega),List.getElem?_eq_none (by omega)];rfl
theorem scOk_scope {F:List Nd}:∀ (bs:List Nm) (k:Nat) (sc:List (Nm×Nat)),ScOk F sc→(∀ (j:Nat) (x:Nm),bs[j]?=some x→(vars F)[k+j]?=some x)→ScOk F (scope k bs sc)
 | [],k,sc,h,_=>h
 | b :: bs,k,sc,h,hb=>by
  rw [scope];refine scOk_scope bs (k+1) ((b,k) :: sc) (fun p hp=>?_) (fun j x hx=>?_)
  ·rcases List.mem_cons.1 hp with rfl | hp
   ·exact hb 0 b rfl
   exact h p hp
  have:=hb (j+1) x (by rw [List.getElem?_cons_succ];exact hx)
  rw [show k+1+j=k+(j+1) from by omega];exact this
theorem modify_append_left {α:Type}(f:α→α):∀ (a b:List α) (i:Nat),i<a.length→(a++b).modify i f=a.modify i f++b
 | [],b,i,h=>by simp at h
 | x :: a,b,0,h=>by simp [List.modify]
 | x :: a,b,i+1,h=>by
  have:=modify_append_left f a b i (by simpa using h)
  simp only [List.cons_append,List.modify_succ_cons,this]
theorem modify_append_last {α:Type}(f:α→α) (a:List α) (x:α):(a++[x]).modify a.length f=a++[f x]:=by
 induction a with
 | nil=>simp [List.modify]
 | cons y a ih=>simp only [List.cons_append,List.length_cons,List.modify_succ_cons,ih]
theorem modify_modify {α:Type}(f g:α→α):∀ (a:List α) (i:Nat),(a.modify i f).modify i g=a.modify i (fun x=>g (f x))
 | [],i=>by simp
 | x :: a,0=>by simp [List.modify]
 | x :: a,i+1=>by simp only [List.modify_succ_cons,modify_modify f g a i]
theorem goR_stage {F:List Nd}(hN:(vars F).Nodup):∀ (f i:Nat) (sc:List (Nm×Nat)) (l:List (List Nm×TE)) (st st':St) (n:Nat),sizes l≤f→Lies F n l→n+sizes l≤F.length→Stage F st n→i<n→ScOk F sc →
  goR f i sc l st=some st'→Stage F st' (n+sizes l)∧st'.next=st.next.modify i (· ++ nums n l)++(List.range' n (sizes l)).map (NR F)
 | f,i,sc,[],st,st',n,_,_,_,hs,hi,hsc,h=>by
  have h0:goR f i sc [] st=some st:=by cases f<;>rfl
  rw [h0,Option.some.injEq] at h;subst h;refine⟨hs,?_⟩;rw [zw,nums];simp only [List.append_nil,List.range'_zero,List.map_nil];exact(List.modify_id _ _).symm
 | 0,i,sc,(bs,e) :: r,st,st',n,h,_,_,_,_,_,_=>by rw [zg] at h;have:=e.size_pos;simp only [] at h;omega
 | f+1,i,sc,(bs,e) :: r,st,st',n,h,hl,hlen,hs,hi,hsc,hg=>by
  have hk:=e.size_kids;have hp:=e.size_pos
  rw [zg] at h hlen;simp only [] at h hlen;have hnF:n<F.length:=by omega
  have hnd:=hl.head;rw [goR] at hg
  split at hg
  ·cases hg
  cases hu:usesR (scope st.vars.length bs sc) e.args [] with
  | none=>rw [hu] at hg;cases hg
  | some u =>
   rw [hu] at hg;simp only [] at hg;have hvl:st.vars.length=(vars (F.take n)).length:=by rw [hs.vars]
   have hsc':ScOk F (scope st.vars.length bs sc):=scOk_scope bs _ sc hsc fun j x hx=>by
    rw [hvl];exact binds_at hnF (by rw [hnd];exact hx)
   have hur:u=UR F n:=by
    have:=usesR_once hN hsc' e.args [] u (fun x hx=>by cases hx) (by simpa using hu)
    rw [this];unfold UR usesAt Nd.uses;rw [hnd]
   have hs1:Stage F (((st.bind bs).link i).node u) (n+1):=by
    refine⟨?_,?_,?_,?_⟩
    ·show st.vars++bs=_
     rw [vars_take hnF,hs.vars,hnd]
    ·show st.uses++[u]=_
     rw [hs.uses,hur,List.range_succ,List.map_append];rfl
    ·show st.binds++[List.range' st.vars.length bs.length]=_
     rw [hs.binds,List.range_succ,List.map_append,hvl];have:=bind_row hN hnF;rw [hnd] at this;simp only [] at this;rw [this];rfl
    show (st.next.modify i _++[[]]).length=_;rw [List.length_append,List.length_modify,hs.next];rfl
   have hul:st.uses.length=n:=by rw [hs.uses];simp
   cases hg2:goR f st.uses.length (scope st.vars.length bs sc) e.kids (((st.bind bs).link i).node u) with
   | none=>rw [hg2] at hg;cases hg
   | some st2 =>
    rw [hg2] at hg;simp only [] at hg;rw [hul] at hg2;obtain⟨hs2,hn2⟩:=goR_stage hN f n _ e.kids _ st2 (n+1) (by omega) hl.kids.left (by omega) hs1 (Nat.lt_succ_self n) hsc' hg2
    rw [show n+1+sizes e.kids=n+e.size from by omega] at hs2
    obtain⟨hs3,hn3⟩:=goR_stage hN f i sc r st2 st' (n+e.size) (by omega) hl.tail (by omega) hs2 (by omega) hsc hg
    rw [zg];simp only [];rw [show n+(e.size+sizes r)=n+e.size+sizes r from by omega]
    refine⟨hs3,?_⟩;have hbl:(st.bind bs).binds.length - 1=n:=by
     show (st.binds++[_]).length - 1=n;rw [List.length_append,hs.binds];simp
    have hnx:(((st.bind bs).link i).node u).next=st.next.modify i (· ++ [n])++[[]]:=by
     show st.next.modify i (· ++ [(st.bind bs).binds.length - 1])++[[]]=_;rw [hbl]
    have hml:(st.next.modify i (· ++ [n])).length=n:=by rw [List.length_modify,hs.next]
    have e1:st2.next=st.next.modify i (· ++ [n])++(List.range' n e.size).map (NR F):=by
     rw [hn2,hnx];have:=modify_append_last (· ++ nums (n+1) e.kids) (st.next.modify i (· ++ [n])) [];rw [hml] at this;rw [this,List.append_assoc]
     congr 1
     rw [hk,Nat.add_comm,Nat.add_comm 1,List.range'_succ,List.map_cons,List.singleton_append]
     congr 1
     unfold NR;rw [hnd];rfl
    rw [hn3,e1,modify_append_left _ _ _ _ (by rw [hml];exact hi),modify_modify,nums,List.append_assoc,← List.map_append]
    simp only [List.append_assoc,List.singleton_append];rw [List.range'_append_1]
structure Whole (F:List Nd) (st:St):Prop where
 vars:st.vars=RG.vars F
 uses:st.uses=(List.range F.length).map (UR F)
 binds:st.binds=(List.range F.length).map (BR F)
 next:st.next=(List.range F.length).map (NR F)
def st0 (ps:List Nm):St:=St.bind ⟨[],[],[],[]⟩ ps
theorem body_whole {ps:List Nm}{e:TE}{st:St}(hN:(vars (F0 ps e)).Nodup) (h:bodyR e (scope 0 ps []) (st0 ps)=some st):Whole (F0 ps e) st:=by
 unfold bodyR at h
 split at h
 ·cases h
 have hp:=e.size_pos;have hk:=e.size_kids
 have hlen:(F0 ps e).length=e.size:=F0_length ps e;have h0:0<(F0 ps e).length:=by omega
 have hl:=F0_lies ps e;have hnd:=hl.head
 cases hu:usesR (scope 0 ps []) e.args [] with
 | none=>rw [hu] at h;cases h
 | some u =>
  rw [hu] at h;simp only [] at h;have hsc:ScOk (F0 ps e) (scope 0 ps []):=scOk_scope ps 0 [] (fun p hp=>by cases hp) fun j x hx=>by
   have:=binds_at (F:=F0 ps e) (n:=0) h0 (by rw [hnd];exact hx)
   simpa [vars] using this
  have hur:u=UR (F0 ps e) 0:=by
   have:=usesR_once hN hsc e.args [] u (fun x hx=>by cases hx) (by simpa using hu)
   rw [this];unfold UR usesAt Nd.uses;rw [hnd]
  have hs1:Stage (F0 ps e) ((st0 ps).node u) 1:=by
   refine⟨?_,?_,?_,rfl⟩
   ·have:=vars_take (F:=F0 ps e) h0
    rw [this,hnd];simp [vars,st0,St.bind,St.node]
   ·rw [hur];rfl
   have:=bind_row hN h0;rw [hnd] at this;simp [vars] at this;show [List.range' 0 ps.length]=_;rw [this];rfl
  obtain⟨a,b⟩:=goR_stage hN _ 0 _ e.kids _ st 1 (Nat.le_refl _) hl.kids.left (by omega) hs1 Nat.one_pos hsc h
  rw [show 1+sizes e.kids=(F0 ps e).length from by omega] at a
  refine⟨by rw [a.vars,List.take_length],a.uses,a.binds,?_⟩
  rw [b];have e1:((st0 ps).node u).next.modify 0 (· ++ nums 1 e.kids)=[NR (F0 ps e) 0]:=by
   show [[]++nums 1 e.kids]=_;unfold NR;rw [hnd];rfl
  rw [e1,hlen,hk,List.range_eq_range',List.range'_succ,List.map_cons];rfl
theorem goR_vars:∀ (f i:Nat) (sc:List (Nm×Nat)) (l:List (List Nm×TE)) (st st':St) (n:Nat),sizes l≤f→goR f i sc l st=some st'→st'.vars=st.vars++vars (layS n l)∧st'.uses.length=st.uses.length+sizes l
 | f,i,sc,[],st,st',n,_,h=>by
  have h0:goR f i sc [] st=some st:=by cases f<;>rfl
  rw [h0,Option.some.injEq] at h;subst h;simp [layS_nil,vars,zw]
 | 0,i,sc,(bs,e) :: r,st,st',n,h,_=>by rw [zg] at h;have:=e.size_pos;simp only [] at h;omega
 | f+1,i,sc,(bs,e) :: r,st,st',n,h,hg=>by
  have hk:=e.size_kids;rw [zg] at h;simp only [] at h;rw [goR] at hg
  split at hg
  ·cases hg
  cases hu:usesR (scope st.vars.length bs sc) e.args [] with
  | none=>rw [hu] at hg;cases hg
  | some u =>
   rw [hu] at hg;simp only [] at hg;cases hg2:goR f st.uses.length (scope st.vars.length bs sc) e.kids (((st.bind bs).link i).node u) with
   | none=>rw [hg2] at hg;cases hg
   | some st2 =>
    rw [hg2] at hg;simp only [] at hg;obtain⟨a1,a2⟩:=goR_vars f _ _ e.kids _ st2 (n+1) (by omega) hg2
    obtain⟨b1,b2⟩:=goR_vars f i sc r st2 st' (n+1+sizes e.kids) (by omega) hg
    rw [layS_cons,vars_cons,layS_append _ (n+1) e.kids r (Nat.le_refl _),zg];constructor
    ·rw [b1,a1]
     show (st.vars++bs)++vars (layS (n+1) e.kids)++vars (layS (n+1+sizes e.kids) r)=_;simp [vars,List.append_assoc]
    rw [b2,a2];show (st.uses++[u]).length+sizes e.kids+sizes r=_;rw [List.length_append,List.length_singleton];simp only [];omega
theorem body_vars {ps:List Nm}{e:TE}{st:St}(h:bodyR e (scope 0 ps []) (st0 ps)=some st):st.vars=vars (F0 ps e)∧st.uses.length=e.size:=by
 unfold bodyR at h
 split at h
 ·cases h
 cases hu:usesR (scope 0 ps []) e.args [] with
 | none=>rw [hu] at h;cases h
 | some u =>
  rw [hu] at h;simp only [] at h;obtain⟨a,b⟩:=goR_vars _ _ _ e.kids _ st 1 (Nat.le_refl _) h;have hk:=e.size_kids;constructor
  ·rw [a]
   unfold F0;rw [layS_cons,vars_cons,List.append_nil];rfl
  rw [b];show ([]++[u]).length+sizes e.kids=e.size;simp;omega
theorem good_ref {isName:Nm→Bool}{ps:List Nm}{e:TE}:Good isName ps e↔ps.length≤16∧e.size≤20000∧∃ st,bodyR e (scope 0 ps []) (st0 ps)=some st∧(∀ x∈st.vars,isName x=true)∧st.vars.Nodup:=by
 have hf:(bodyR e (scope 0 ps []) (st0 ps)).isSome=true↔(∀ d∈F0 ps e,nodeOk d.e=true)∧e.inScope ps=true:=by
  rw [bodyR_fine];constructor
  ·rintro ⟨h1,h2⟩
   exact⟨h1 0,by have:=h2 _ List.mem_cons_self;simpa using this⟩
  rintro ⟨h1,h2⟩;refine⟨fun n=>lay_e _ 0 n _ (Nat.le_refl _) h1,fun p hp=>?_⟩
  rw [List.mem_singleton] at hp;subst hp;simpa using h2
 constructor
 ·intro h
  obtain⟨st,hst⟩:=Option.isSome_iff_exists.1 (hf.2 ⟨h.form,h.inScope⟩);refine⟨h.params,h.size,st,hst,?_⟩;rw [(body_vars hst).1];exact⟨h.names,h.nodup⟩
 rintro ⟨h1,h2,st,hst,h3,h4⟩;rw [(body_vars hst).1] at h3 h4;obtain⟨h5,h6⟩:=hf.1 (by rw [hst];rfl)
 exact⟨h1,h2,h5,h3,h4,h6⟩
end
end RF
namespace RG
theorem nodup_len:∀ {l m:List Nm},l.Nodup→(∀ x∈l,x∈m)→l.length≤m.length
 | [],m,_,_=>Nat.zero_le _
 | x :: l,m,hn,hs=>by
  have hx:=hs x List.mem_cons_self;obtain⟨a,b,rfl⟩:=List.append_of_mem hx;rw [List.nodup_cons] at hn;have:=nodup_len (l:=l) (m:=a++b) hn.2 (fun y hy=>by
   have h1:=hs y (List.mem_cons_of_mem _ hy);rcases List.mem_append.1 h1 with h2 | h2
   ·exact List.mem_append_left _ h2
   rcases List.mem_cons.1 h2 with rfl | h3
   ·exact absurd hy hn.1
   exact List.mem_append_right _ h3)
  rw [List.length_append] at this;rw [List.length_append,List.length_cons,List.length_cons];omega
end RG
namespace RF
section
open RG
structure Bal (st:St):Prop where
 binds:st.binds.length=st.uses.length
 next:st.next.length=st.uses.length
 vars:st.vars.length≤16*st.binds.length
theorem nodeOk_kids {e:TE}(h:nodeOk e=true):∀ p∈e.kids,p.1.length≤16:=fun p hp=>by
 unfold nodeOk at h;rw [Bool.and_eq_true,List.all_eq_true] at h;simpa using h.2 p hp
theorem goR_bal:∀ (f i:Nat) (sc:List (Nm×Nat)) (l:List (List Nm×TE)) (st st':St),sizes l≤f→goR f i sc l st=some st'→(∀ p∈l,p.1.length≤16)→Bal st→Bal st'∧st'.uses.length=st.uses.length+sizes l
 | f,i,sc,[],st,st',_,h,_,hb=>by
  have h0:goR f i sc [] st=some st:=by cases f<;>rfl
  rw [h0,Option.some.injEq] at h;subst h;exact⟨hb,by rw [zw];rfl⟩
 | 0,i,sc,(bs,e) :: r,st,st',h,_,_,_=>by rw [zg] at h;have:=e.size_pos;simp only [] at h;omega
 | f+1,i,sc,(bs,e) :: r,st,st',h,hg,hl,hb=>by
  have hk:=e.size_kids;rw [zg] at h;simp only [] at h;rw [goR] at hg
  split at hg
  ·cases hg
  rename_i hno;have hok:nodeOk e=true:=by simpa using hno
  cases hu:usesR (scope st.vars.length bs sc) e.args [] with
  | none=>rw [hu] at hg;cases hg
  | some u =>
   rw [hu] at hg;simp only [] at hg;cases hg2:goR f st.uses.length (scope st.vars.length bs sc) e.kids (((st.bind bs).link i).node u) with
   | none=>rw [hg2] at hg;cases hg
   | some st2 =>
    rw [hg2] at hg;simp only [] at hg;have hbs:bs.length≤16:=hl _ List.mem_cons_self;have b1:Bal (((st.bind bs).link i).node u):=by
     obtain⟨x1,x2,x3⟩:=hb;refine⟨?_,?_,?_⟩
     ·show (st.binds++[_]).length=(st.uses++[u]).length
      rw [List.length_append,List.length_append,x1];rfl
     ·show (st.next.modify i _++[[]]).length=(st.uses++[u]).length
      rw [List.length_append,List.length_append,List.length_modify,x2];rfl
     show (st.vars++bs).length≤16*(st.binds++[_]).length;rw [List.length_append,List.length_append,List.length_singleton];omega
    obtain⟨a1,a2⟩:=goR_bal f _ _ e.kids _ st2 (by omega) hg2 (nodeOk_kids hok) b1
    obtain⟨c1,c2⟩:=goR_bal f i sc r st2 st' (by omega) hg (fun p hp=>hl p (List.mem_cons_of_mem _ hp)) a1
    refine⟨c1,?_⟩;rw [c2,a2,zg];show (st.uses++[u]).length+sizes e.kids+sizes r=_;rw [List.length_append,List.length_singleton];simp only [];omega
theorem fR_bal {i:Nat}{sc:List (Nm×Nat)}{l:List (List Nm×TE)}{st st':St}(h:fR i sc l st=some st') (hl:∀ p∈l,p.1.length≤16) (hb:Bal st):Bal st'∧st'.uses.length=st.uses.length+sizes l:=goR_bal _ i sc l st st' (Nat.le_refl _) h hl hb
structure Bal1 (st:St):Prop where
 binds:st.binds.length=st.uses.length+1
 next:st.next.length=st.uses.length
 vars:st.vars.length≤16*st.binds.length
theorem Bal1.node {st:St}(h:Bal1 st) (u:List Nat):Bal (st.node u):=by
 obtain⟨a,b,c⟩:=h;refine⟨?_,?_,c⟩
 ·show st.binds.length=(st.uses++[u]).length
  rw [List.length_append,a];rfl
 show (st.next++[[]]).length=(st.uses++[u]).length;rw [List.length_append,List.length_append,b];rfl
theorem Bal.bind {st:St}(h:Bal st) {bs:List Nm}(hb:bs.length≤16) (i:Nat):Bal1 ((st.bind bs).link i):=by
 obtain⟨a,b,c⟩:=h;refine⟨?_,?_,?_⟩
 ·show (st.binds++[_]).length=st.uses.length+1
  rw [List.length_append,a];rfl
 ·show (st.next.modify i _).length=st.uses.length
  rw [List.length_modify,b]
 show (st.vars++bs).length≤16*(st.binds++[_]).length;rw [List.length_append,List.length_append,List.length_singleton];omega
theorem bodyR_no {e:TE}{sc:List (Nm×Nat)}{st:St}(h:nodeOk e=false):bodyR e sc st=none:=by unfold bodyR;rw [if_pos h]
theorem bodyR_lost {e:TE}{sc:List (Nm×Nat)}{st:St}(hu:usesR sc e.args []=none):bodyR e sc st=none:=by
 unfold bodyR
 split
 ·rfl
 rw [hu]
theorem bodyR_on {e:TE}{sc:List (Nm×Nat)}{st:St}{u:List Nat}(h:nodeOk e=true) (hu:usesR sc e.args []=some u):bodyR e sc st=fR st.uses.length sc e.kids (st.node u):=by
 unfold bodyR;rw [if_neg (by simp [h]),hu]
theorem body_bal {e:TE}{sc:List (Nm×Nat)}{st st':St}(h:bodyR e sc st=some st') (hb:Bal1 st):Bal st'∧st'.uses.length=st.uses.length+e.size:=by
 unfold bodyR at h
 split at h
 ·cases h
 rename_i hno;cases hu:usesR sc e.args [] with
 | none=>rw [hu] at h;cases h
 | some u =>
  rw [hu] at h;simp only [] at h;obtain⟨a,b⟩:=fR_bal h (nodeOk_kids (by simpa using hno)) (hb.node u)
  refine⟨a,?_⟩;rw [b,e.size_kids];show (st.uses++[u]).length+_=_;rw [List.length_append,List.length_singleton];omega
theorem usesR_skip {sc:List (Nm×Nat)}{l:List Nm}{i:Nat}{a:Nm}{acc:List Nat}(h:l[i]?=some a) (h0:a.size=0):usesR sc (l.drop i) acc=usesR sc (l.drop (i+1)) acc:=by
 have hil:=(List.getElem?_eq_some_iff.1 h).1;rw [List.drop_eq_getElem_cons hil,usesR,if_pos];rw [List.getElem?_eq_getElem hil,Option.some.injEq] at h;rw [h];exact h0
theorem usesR_miss {sc:List (Nm×Nat)}{l:List Nm}{i:Nat}{a:Nm}{acc:List Nat}(h:l[i]?=some a) (h0:a.size≠0) (hl:look sc a=none):usesR sc (l.drop i) acc=none:=by
 have hil:=(List.getElem?_eq_some_iff.1 h).1;rw [List.getElem?_eq_getElem hil,Option.some.injEq] at h;rw [List.drop_eq_getElem_cons hil,usesR,h,if_neg h0,hl]
theorem usesR_hit {sc:List (Nm×Nat)}{l:List Nm}{i:Nat}{a:Nm}{acc:List Nat}{n:Nat}(h:l[i]?=some a) (h0:a.size≠0) (hl:look sc a=some n):usesR sc (l.drop i) acc=usesR sc (l.drop (i+1)) (if n∈acc then acc else acc++[n]):=by
 have hil:=(List.getElem?_eq_some_iff.1 h).1;rw [List.getElem?_eq_getElem hil,Option.some.injEq] at h;rw [List.drop_eq_getElem_cons hil,usesR,h,if_neg h0,hl]
theorem fR_at {i : Nat} {sc : List (Nm × Nat)} {l : List (List Nm × TE)} {j : Nat} {p : List Nm × TE} {st : St} (h : l[j]? = some p) : fR i sc (l.drop j) st = match bodyR p.2 (scope st.vars.length p.1 sc) ((st.bind p.1).link i) with
      | none => none
      | some st' => fR i sc (l.drop (j + 1)) st' := by
  have hil := (List.getElem?_eq_some_iff.1 h).1;rw [List.getElem?_eq_getElem hil, Option.some.injEq] at h;rw [List.drop_eq_getElem_cons hil, h];obtain ⟨bs, e⟩ := p;exact fR_cons i sc bs e _ st
theorem sizes_drop {l:List (List Nm×TE)}{j:Nat}{p:List Nm×TE}(h:l[j]?=some p):sizes (l.drop j)=p.2.size+sizes (l.drop (j+1)):=by
 have hil:=(List.getElem?_eq_some_iff.1 h).1;rw [List.getElem?_eq_getElem hil,Option.some.injEq] at h;rw [List.drop_eq_getElem_cons hil,h,zg]
end
section
open RG
theorem goR_next:∀ (f i:Nat) (sc:List (Nm×Nat)) (l:List (List Nm×TE)) (st st':St),sizes l≤f→goR f i sc l st=some st'→st.next.length=st.uses.length→∀ j,j<st.next.length→j≠i→st'.next[j]?=st.next[j]?
 | f,i,sc,[],st,st',_,h,_=>fun j hj hji=>by
  have h0:goR f i sc [] st=some st:=by cases f<;>rfl
  rw [h0,Option.some.injEq] at h;rw [h]
 | 0,i,sc,(bs,e) :: r,st,st',h,_,_=>by rw [zg] at h;have:=e.size_pos;simp only [] at h;omega
 | f+1,i,sc,(bs,e) :: r,st,st',h,hg,hb=>fun j hj hji=>by
  have hk:=e.size_kids;rw [zg] at h;simp only [] at h;rw [goR] at hg
  split at hg
  ·cases hg
  cases hu:usesR (scope st.vars.length bs sc) e.args [] with
  | none=>rw [hu] at hg;cases hg
  | some u =>
   rw [hu] at hg;simp only [] at hg;cases hg2:goR f st.uses.length (scope st.vars.length bs sc) e.kids (((st.bind bs).link i).node u) with
   | none=>rw [hg2] at hg;cases hg
   | some st2 =>
    rw [hg2] at hg;simp only [] at hg;have hnl:(((st.bind bs).link i).node u).next.length=st.next.length+1:=by
     show (st.next.modify i _++[[]]).length=_;rw [List.length_append,List.length_modify];rfl
    have hul:(((st.bind bs).link i).node u).uses.length=st.uses.length+1:=by
     show (st.uses++[u]).length=_;rw [List.length_append];rfl
    have h1:=goR_next f _ _ e.kids _ st2 (by omega) hg2 (by omega) j (by omega) (by omega)
    have h2l:st2.next.length=st2.uses.length:=(goR_len f _ _ e.kids _ st2 (by omega) hg2 (by omega)).1
    have h2g:=(goR_len f _ _ e.kids _ st2 (by omega) hg2 (by omega)).2
    have h2:=goR_next f i sc r st2 st' (by omega) hg h2l j (by omega) hji
    rw [h2,h1];show (st.next.modify i _++[[]])[j]?=_;rw [List.getElem?_append_left (by rw [List.length_modify];exact hj),List.getElem?_modify]
    have hij:¬ i=j:=fun e=>hji e.symm
    cases st.next[j]? with
    | none=>rfl
    | some y=>simp [hij]
where
 goR_len:∀ (f i:Nat) (sc:List (Nm×Nat)) (l:List (List Nm×TE)) (st st':St),sizes l≤f→goR f i sc l st=some st'→st.next.length=st.uses.length→st'.next.length=st'.uses.length∧st.next.length≤st'.next.length
  | f,i,sc,[],st,st',_,h,hb=>by
   have h0:goR f i sc [] st=some st:=by cases f<;>rfl
   rw [h0,Option.some.injEq] at h;subst h;exact⟨hb,Nat.le_refl _⟩
  | 0,i,sc,(bs,e) :: r,st,st',h,_,_=>by rw [zg] at h;have:=e.size_pos;simp only [] at h;omega
  | f+1,i,sc,(bs,e) :: r,st,st',h,hg,hb=>by
   have hk:=e.size_kids;rw [zg] at h;simp only [] at h;rw [goR] at hg
   split at hg
   ·cases hg
   cases hu:usesR (scope st.vars.length bs sc) e.args [] with
   | none=>rw [hu] at hg;cases hg
   | some u =>
    rw [hu] at hg;simp only [] at hg;cases hg2:goR f st.uses.length (scope st.vars.length bs sc) e.kids (((st.bind bs).link i).node u) with
    | none=>rw [hg2] at hg;cases hg
    | some st2 =>
     rw [hg2] at hg;simp only [] at hg;have hnl:(((st.bind bs).link i).node u).next.length=st.next.length+1:=by
      show (st.next.modify i _++[[]]).length=_;rw [List.length_append,List.length_modify];rfl
     have hul:(((st.bind bs).link i).node u).uses.length=st.uses.length+1:=by
      show (st.uses++[u]).length=_;rw [List.length_append];rfl
     have h1:=goR_len f _ _ e.kids _ st2 (by omega) hg2 (by omega)
     have h2:=goR_len f i sc r st2 st' (by omega) hg h1.1
     exact⟨h2.1,by have:=h1.2;have:=h2.2;omega⟩
theorem body_next {e:TE}{sc:List (Nm×Nat)}{st st':St}(h:bodyR e sc st=some st') (hb:st.next.length=st.uses.length) {j:Nat}(hj:j<st.next.length):st'.next[j]?=st.next[j]?:=by
 unfold bodyR at h
 split at h
 ·cases h
 cases hu:usesR sc e.args [] with
 | none=>rw [hu] at h;cases h
 | some u =>
  rw [hu] at h;simp only [] at h;have hnl:(st.node u).next.length=st.next.length+1:=by show (st.next++[[]]).length=_;rw [List.length_append];rfl
  have hul:(st.node u).uses.length=st.uses.length+1:=by show (st.uses++[u]).length=_;rw [List.length_append];rfl
  have:=goR_next _ _ sc e.kids _ st' (Nat.le_refl _) h (by omega) j (by omega) (by omega)
  rw [this];show (st.next++[[]])[j]?=_;rw [List.getElem?_append_left hj]
end
end RF
