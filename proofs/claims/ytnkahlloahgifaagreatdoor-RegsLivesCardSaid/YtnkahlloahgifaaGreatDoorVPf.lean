/- Part. -/
import Derived.Test.YtnkahlloahgifaaGreatDoorVPl
set_option maxHeartbeats 16000000
set_option maxRecDepth 100000
set_option linter.unusedSimpArgs false
set_option linter.unusedVariables false
namespace RF
open RG
def look:List (Nm×Nat)→Nm→Option Nat
 | [],_=>none
 | p :: r,x=>if p.1=x then some p.2 else look r x
def usesR (sc:List (Nm×Nat)):List Nm→List Nat→Option (List Nat)
 | [],acc=>some acc
 | a :: as,acc=>if a.size=0 then usesR sc as acc else
   match look sc a with
   | none=>none
   | some n=>usesR sc as (if n∈acc then acc else acc++[n])
def scope (k:Nat):List Nm→List (Nm×Nat)→List (Nm×Nat)
 | [],sc=>sc
 | n :: ns,sc=>scope (k+1) ns ((n,k) :: sc)
structure St where
 vars:List Nm
 uses:List (List Nat)
 next:List (List Nat)
 binds:List (List Nat)
def St.bind (st:St) (bs:List Nm):St:={ st with vars:=st.vars++bs,binds:=st.binds++[List.range' st.vars.length bs.length] }
def St.link (st:St) (i:Nat):St:={ st with next:=st.next.modify i (· ++ [st.binds.length - 1]) }
def St.node (st:St) (u:List Nat):St:={ st with uses:=st.uses++[u],next:=st.next++[[]] }
def goR:Nat→Nat→List (Nm×Nat)→List (List Nm×TE)→St→Option St
 | _,_,_,[],st=>some st
 | 0,_,_,_ :: _,_=>none
 | f+1,i,sc,(bs,e) :: r,st =>
  if nodeOk e=false then none else
   match usesR (scope st.vars.length bs sc) e.args [] with
   | none=>none
   | some u =>
    match goR f st.uses.length (scope st.vars.length bs sc) e.kids (((st.bind bs).link i).node u) with
    | none=>none
    | some st'=>goR f i sc r st'
theorem goR_fuel:∀ (f g i:Nat) (sc:List (Nm×Nat)) (l:List (List Nm×TE)) (st:St),sizes l≤f→sizes l≤g→goR f i sc l st=goR g i sc l st
 | 0,0,_,_,_,_,_,_=>rfl
 | 0,g+1,i,sc,[],st,_,_=>rfl
 | f+1,0,i,sc,[],st,_,_=>rfl
 | f+1,g+1,i,sc,[],st,_,_=>rfl
 | 0,g+1,i,sc,(bs,e) :: r,st,h,_=>by rw [zg] at h;have:=e.size_pos;simp only [] at h;omega
 | f+1,0,i,sc,(bs,e) :: r,st,_,h=>by rw [zg] at h;have:=e.size_pos;simp only [] at h;omega
 | f+1,g+1,i,sc,(bs,e) :: r,st,h1,h2=>by
  rw [zg] at h1 h2
  have hk:=e.size_kids
  have hp:=e.size_pos
  simp only [] at h1 h2
  rw [goR,goR]
  split
  ·rfl
  cases usesR (scope st.vars.length bs sc) e.args [] with
  | none=>rfl
  | some u =>
   simp only []
   rw [goR_fuel f g _ _ e.kids _ (by omega) (by omega)]
   cases goR g st.uses.length (scope st.vars.length bs sc) e.kids (((st.bind bs).link i).node u) with
   | none=>rfl
   | some st'=>simp only [];exact goR_fuel f g i sc r st' (by omega) (by omega)
def fR (i:Nat) (sc:List (Nm×Nat)) (l:List (List Nm×TE)) (st:St):Option St:=goR (sizes l) i sc l st
def bodyR (e:TE) (sc:List (Nm×Nat)) (st:St):Option St :=
 if nodeOk e=false then none else
  match usesR sc e.args [] with
  | none=>none
  | some u=>fR st.uses.length sc e.kids (st.node u)
theorem fR_cons (i:Nat) (sc:List (Nm×Nat)) (bs:List Nm) (e:TE) (r:List (List Nm×TE)) (st:St) :
  fR i sc ((bs,e) :: r) st=match bodyR e (scope st.vars.length bs sc) ((st.bind bs).link i) with
   | none=>none
   | some st'=>fR i sc r st':=by
 have hk:=e.size_kids
 unfold fR bodyR fR
 rw [zg]
 obtain⟨f,hf⟩:∃ f,e.size+sizes r=f+1:=⟨e.size+sizes r - 1,by omega⟩
 simp only []
 rw [hf,goR]
 split
 ·rfl
 cases usesR (scope st.vars.length bs sc) e.args [] with
 | none=>rfl
 | some u =>
  simp only []
  rw [goR_fuel f (sizes e.kids) _ _ e.kids _ (by omega) (by omega)]
  have hl:((st.bind bs).link i).uses.length=st.uses.length:=rfl
  rw [hl]
  cases goR (sizes e.kids) st.uses.length (scope st.vars.length bs sc) e.kids (((st.bind bs).link i).node u) with
  | none=>rfl
  | some st'=>simp only [];exact goR_fuel f _ i sc r st' (by omega) (by omega)
def names (sc:List (Nm×Nat)):List Nm:=sc.map (·.1)
theorem look_some {sc:List (Nm×Nat)}{x:Nm}{n:Nat}(h:look sc x=some n):(x,n)∈sc:=by
 induction sc with
 | nil=>cases h
 | cons p r ih =>
  rw [look] at h
  split at h
  ·rename_i e
   simp only [Option.some.injEq] at h
   rw [← e,← h];exact List.mem_cons_self
  exact List.mem_cons_of_mem _ (ih h)
theorem look_none {sc:List (Nm×Nat)}{x:Nm}:look sc x=none↔x∉names sc:=by
 induction sc with
 | nil=>simp [look,names]
 | cons p r ih =>
  rw [look]
  unfold names at *
  rw [List.map_cons,List.mem_cons]
  by_cases e:p.1=x
  ·rw [if_pos e];simp [e]
  rw [if_neg e,ih]
  constructor
  ·rintro h (h' | h')
   ·exact e h'.symm
   exact h h'
  exact fun h h'=>h (.inr h')
theorem usesR_none {sc:List (Nm×Nat)}:∀ {l:List Nm}{acc:List Nat},usesR sc l acc=none↔∃ a∈l,a.size≠0∧a∉names sc
 | [],acc=>by simp [usesR]
 | a :: as,acc=>by
  rw [usesR]
  by_cases h0:a.size=0
  ·rw [if_pos h0,usesR_none]
   constructor
   ·rintro ⟨x,hx,h⟩;exact⟨x,List.mem_cons_of_mem _ hx,h⟩
   rintro ⟨x,hx,h⟩
   rcases List.mem_cons.1 hx with rfl | hx
   ·exact absurd h0 h.1
   exact⟨x,hx,h⟩
  rw [if_neg h0]
  cases hl:look sc a with
  | none=>simp only [true_iff];exact⟨a,List.mem_cons_self,h0,look_none.1 hl⟩
  | some n =>
   simp only []
   rw [usesR_none]
   have hm:a∈names sc:=by
    have:=look_some hl
    exact List.mem_map.2 ⟨_,this,rfl⟩
   constructor
   ·rintro ⟨x,hx,h⟩;exact⟨x,List.mem_cons_of_mem _ hx,h⟩
   rintro ⟨x,hx,h⟩
   rcases List.mem_cons.1 hx with rfl | hx
   ·exact absurd hm h.2
   exact⟨x,hx,h⟩
theorem mem_scope:∀ {k:Nat}{bs:List Nm}{sc:List (Nm×Nat)}{x:Nm},x∈names (scope k bs sc)↔x∈bs∨x∈names sc
 | k,[],sc,x=>by simp [scope]
 | k,b :: bs,sc,x=>by
  rw [scope,mem_scope]
  unfold names
  rw [List.map_cons,List.mem_cons,List.mem_cons]
  constructor
  ·rintro (h | h | h)
   ·exact .inl (.inr h)
   ·exact .inl (.inl h)
   exact .inr h
  rintro ((h | h) | h)
  ·exact .inr (.inl h)
  ·exact .inl h
  exact .inr (.inr h)
theorem inScope_congr {s t:List Nm}(h:∀ x,x∈s↔x∈t) (e:TE):e.inScope s=e.inScope t:=by
 rw [Bool.eq_iff_iff,TE.inScope_live,TE.inScope_live]
 have:∀ x,has s x=has t x:=fun x=>by rw [Bool.eq_iff_iff,zx,zx];exact h x
 simp only [this]
theorem inScope_kids_mk {s:List Nm}{e:TE}(h1:∀ x∈e.args,x.size≠0→x∈s) (h2:∀ p∈e.kids,p.2.inScope (p.1++s)=true):e.inScope s=true:=by
 rw [TE.inScope_live]
 intro x hx
 rw [TE.live_kids,Bool.or_eq_true,List.any_eq_true] at hx
 rcases hx with hx | ⟨p,hp,hx⟩
 ·have:=zx.1 hx
  rw [List.mem_filter] at this
  exact zx.2 (h1 x this.1 (by simpa using this.2))
 rw [Bool.and_eq_true,Bool.not_eq_true'] at hx
 have:=(TE.inScope_live _ _).1 (h2 p hp) x hx.1
 rw [has_append,hx.2] at this
 simpa using this
def Fine (s:List Nm) (l:List (List Nm×TE)):Prop:=(∀ n,∀ d∈layS n l,nodeOk d.e=true)∧∀ p∈l,p.2.inScope (p.1++s)=true
theorem lay_e:∀ (f n m:Nat) (l:List (List Nm×TE)),sizes l≤f→(∀ d∈layS n l,nodeOk d.e=true)→∀ d∈layS m l,nodeOk d.e=true
 | _,n,m,[],_,_=>fun d hd=>by rw [layS_nil] at hd;cases hd
 | 0,n,m,(bs,e) :: r,h,_=>by rw [zg] at h;have:=e.size_pos;simp only [] at h;omega
 | f+1,n,m,(bs,e) :: r,h,hx=>by
  have hk:=e.size_kids
  rw [zg] at h
  simp only [] at h
  rw [layS_cons] at hx ⊢
  intro d hd
  rcases List.mem_cons.1 hd with rfl | hd
  ·exact hx ⟨bs,e,nums (n+1) e.kids⟩ List.mem_cons_self
  exact lay_e f (n+1) (m+1) (e.kids++r) (by rw [zr];omega) (fun d hd=>hx d (List.mem_cons_of_mem _ hd)) d hd
theorem fine_cons {s:List Nm}{bs:List Nm}{e:TE}{r:List (List Nm×TE)}:Fine s ((bs,e) :: r)↔nodeOk e=true∧(∀ x∈e.args,x.size≠0→x∈bs++s)∧Fine (bs++s) e.kids∧Fine s r:=by
 have happ:∀ n,layS n (e.kids++r)=layS n e.kids++layS (n+sizes e.kids) r:=fun n=>layS_append _ n _ _ (Nat.le_refl _)
 constructor
 ·rintro ⟨h1,h2⟩
  have hs:=TE.inScope_kids _ _ (h2 _ List.mem_cons_self)
  simp only [layS_cons,happ] at h1
  refine⟨h1 0 _ List.mem_cons_self,fun x hx h0=>hs.1 x (List.mem_filter.2 ⟨hx,by simpa using h0⟩),⟨lay_any (n:=0+1) fun d hd=>?_,hs.2⟩,⟨lay_any (n:=0+1+sizes e.kids) fun d hd=>?_,fun p hp=>h2 p (List.mem_cons_of_mem _ hp)⟩⟩
  ·exact h1 0 d (List.mem_cons_of_mem _ (List.mem_append_left _ hd))
  exact h1 0 d (List.mem_cons_of_mem _ (List.mem_append_right _ hd))
 rintro ⟨h1,h2,⟨h3,h4⟩,h5,h6⟩
 refine⟨fun n d hd=>?_,fun p hp=>?_⟩
 ·rw [layS_cons,happ] at hd
  rcases List.mem_cons.1 hd with rfl | hd
  ·exact h1
  rcases List.mem_append.1 hd with hd | hd
  ·exact h3 _ d hd
  exact h5 _ d hd
 rcases List.mem_cons.1 hp with rfl | hp
 ·exact inScope_kids_mk h2 h4
 exact h6 p hp
where
 lay_any {n:Nat} {l:List (List Nm×TE)} (h:∀ d∈layS n l,nodeOk d.e=true):∀ m,∀ d∈layS m l,nodeOk d.e=true:=fun m=>lay_e _ n m l (Nat.le_refl _) h
theorem fine_congr {s t:List Nm}(h:∀ x,x∈s↔x∈t) {l:List (List Nm×TE)}:Fine s l↔Fine t l:=by
 unfold Fine
 have:∀ p:List Nm×TE,p.2.inScope (p.1++s)=p.2.inScope (p.1++t):=fun p=>inScope_congr (fun x=>by simp [h]) _
 simp only [this]
theorem goR_fine:∀ (f i:Nat) (sc:List (Nm×Nat)) (l:List (List Nm×TE)) (st:St),sizes l≤f→((goR f i sc l st).isSome=true↔Fine (names sc) l)
 | f,i,sc,[],st,_=>by
  have:goR f i sc [] st=some st:=by cases f<;>rfl
  rw [this]
  simp only [Option.isSome_some,true_iff]
  exact⟨fun n d hd=>(by rw [layS_nil] at hd;cases hd),fun p hp=>absurd hp (by simp)⟩
 | 0,i,sc,(bs,e) :: r,st,h=>by rw [zg] at h;have:=e.size_pos;simp only [] at h;omega
 | f+1,i,sc,(bs,e) :: r,st,h=>by
  have hk:=e.size_kids
  have hp:=e.size_pos
  rw [zg] at h
  simp only [] at h
  rw [goR,fine_cons]
  cases hn:nodeOk e with
  | false=>simp
  | true =>
   rw [if_neg (by simp)]
   cases hu:usesR (scope st.vars.length bs sc) e.args [] with
   | none =>
    obtain⟨a,ha,h0,h1⟩:=usesR_none.1 hu
    simp only [Option.isSome_none,Bool.false_eq_true,false_iff]
    rintro ⟨_,h2,_⟩
    exact h1 (mem_scope.2 (List.mem_append.1 (h2 a ha h0)))
   | some u =>
    have h2:∀ x∈e.args,x.size≠0→x∈bs++names sc:=fun x hx h0=>by
     refine List.mem_append.2 ((mem_scope (k:=st.vars.length)).1 (Classical.byContradiction fun h1=>?_))
     rw [usesR_none.2 ⟨x,hx,h0,h1⟩] at hu
     cases hu
    have ih:=goR_fine f st.uses.length (scope st.vars.length bs sc) e.kids (((st.bind bs).link i).node u) (by omega)
    rw [fine_congr (t:=bs++names sc) (fun x=>by rw [mem_scope,List.mem_append])] at ih
    simp only []
    cases hg:goR f st.uses.length (scope st.vars.length bs sc) e.kids (((st.bind bs).link i).node u) with
    | none =>
     rw [hg] at ih
     simp only [Option.isSome_none,Bool.false_eq_true,false_iff] at ih ⊢
     exact fun h=>ih h.2.2.1
    | some st' =>
     rw [hg] at ih
     simp only [Option.isSome_some,true_iff] at ih
     simp only []
     rw [goR_fine f i sc r st' (by omega)]
     exact⟨fun h=>⟨trivial,h2,ih,h⟩,fun h=>h.2.2.2⟩
theorem fR_fine {i:Nat}{sc:List (Nm×Nat)}{l:List (List Nm×TE)}{st:St}:(fR i sc l st).isSome=true↔Fine (names sc) l:=goR_fine _ i sc l st (Nat.le_refl _)
theorem bodyR_fine {e:TE}{bs:List Nm}{k:Nat}{st:St}:(bodyR e (scope k bs []) st).isSome=true↔Fine [] [(bs,e)]:=by
 rw [fine_cons]
 unfold bodyR
 cases hn:nodeOk e with
 | false=>simp
 | true =>
  rw [if_neg (by simp)]
  cases hu:usesR (scope k bs []) e.args [] with
  | none =>
   obtain⟨a,ha,h0,h1⟩:=usesR_none.1 hu
   simp only [Option.isSome_none,Bool.false_eq_true,false_iff]
   rintro ⟨_,h2,_⟩
   exact h1 (mem_scope.2 (.inl (by simpa using h2 a ha h0)))
  | some u =>
   have h2:∀ x∈e.args,x.size≠0→x∈bs++[]:=fun x hx h0=>by
    have:x∈names (scope k bs []):=Classical.byContradiction fun h1=>by rw [usesR_none.2 ⟨x,hx,h0,h1⟩] at hu;cases hu
    rcases mem_scope.1 this with h | h
    ·simpa using h
    simp [names] at h
   simp only []
   rw [fR_fine,fine_congr (t:=bs++[]) (fun x=>by rw [mem_scope,List.mem_append];simp [names])]
   exact⟨fun h=>⟨trivial,h2,h,⟨fun n d hd=>(by rw [layS_nil] at hd;cases hd),fun p hp=>absurd hp (by simp)⟩⟩,fun h=>h.2.2.1⟩
def UR (F:List Nd) (i:Nat):List Nat:=(usesAt F i).map (place F)
def BR (F:List Nd) (i:Nat):List Nat:=(nd F i).binds.map (place F)
def NR (F:List Nd) (i:Nat):List Nat:=(nd F i).next
def ScOk (F:List Nd) (sc:List (Nm×Nat)):Prop:=∀ p∈sc,(vars F)[p.2]?=some p.1
structure Stage (F:List Nd) (st:St) (n:Nat):Prop where
 vars:st.vars=RG.vars (F.take n)
 uses:st.uses=(List.range n).map (UR F)
 binds:st.binds=(List.range n).map (BR F)
 next:st.next.length=n
theorem usesR_once {F:List Nd}{sc:List (Nm×Nat)}(hn:(vars F).Nodup) (hs:ScOk F sc):∀ (l:List Nm) (acc:List Nm) (u:List Nat),(∀ x∈acc,x∈vars F)→usesR sc l (acc.map (place F))=some u →
  u=(once acc (l.filter fun n=>n.size != 0)).map (place F)
 | [],acc,u,_,h=>by
  rw [usesR,Option.some.injEq] at h
  rw [List.filter_nil,once];exact h.symm
 | a :: as,acc,u,hv,h=>by
  rw [usesR] at h
  by_cases h0:a.size=0
  ·rw [if_pos h0] at h
   rw [List.filter_cons_of_neg (by simp [h0])]
   exact usesR_once hn hs as acc u hv h
  rw [if_neg h0] at h
  rw [List.filter_cons_of_pos (by simpa using h0),once]
  cases hl:look sc a with
  | none=>rw [hl] at h;cases h
  | some n =>
   rw [hl] at h
   simp only [] at h
   have ha:=hs _ (look_some hl)
   have hp:place F a=n:=place_of hn ha
   have hav:a∈vars F:=List.mem_of_getElem? ha
   have hc:(n∈acc.map (place F))↔has acc a=true:=by
    rw [zx,List.mem_map]
    constructor
    ·rintro ⟨y,hy,e⟩
     rw [← place_inj (hv y hy) hav (by rw [e,hp])];exact hy
    exact fun hm=>⟨a,hm,hp⟩
   by_cases hm:has acc a=true
   ·rw [if_pos hm]
    rw [if_pos (hc.2 hm)] at h
    exact usesR_once hn hs as acc u hv h
   rw [if_neg hm]
   rw [if_neg (fun x=>hm (hc.1 x))] at h
   refine usesR_once hn hs as (acc++[a]) u (fun x hx=>?_) (by rw [List.map_append,List.map_cons,List.map_nil,hp];exact h)
   rcases List.mem_append.1 hx with hx | hx
   ·exact hv x hx
   simp at hx;rw [hx];exact hav
theorem vars_take {F:List Nd}{n:Nat}(h:n<F.length):vars (F.take (n+1))=vars (F.take n)++(nd F n).binds:=by
 unfold vars
 rw [List.take_add_one,nd_some h,List.flatMap_append]
 simp
theorem vars_split {F:List Nd}(n:Nat):vars F=vars (F.take n)++vars (F.drop n):=by
 unfold vars
 rw [← List.flatMap_append,List.take_append_drop]
theorem binds_at {F:List Nd}{n j:Nat}{x:Nm}(h:n<F.length) (hx:(nd F n).binds[j]?=some x):(vars F)[(vars (F.take n)).length+j]?=some x:=by
 rw [vars_split (n+1),vars_take h,List.append_assoc,List.getElem?_append_right (by omega)]
 rw [show (vars (F.take n)).length+j - (vars (F.take n)).length=j from by omega,List.getElem?_append_left ((List.getElem?_eq_some_iff.1 hx).1)]
 exact hx
theorem bind_row {F:List Nd}(hn:(vars F).Nodup) {n:Nat}(h:n<F.length):List.range' (vars (F.take n)).length (nd F n).binds.length=BR F n:=by
 apply List.ext_getElem?
 intro j
 unfold BR
 rw [List.getElem?_map]
 by_cases hj:j<(nd F n).binds.length
 ·obtain⟨x,hx⟩:∃ x,(nd F n).binds[j]?=some x:=⟨_,List.getElem?_eq_getElem hj⟩
  rw [hx,List.getElem?_range' hj,Option.map_some,place_of hn (binds_at h hx)]
  simp
 rw [List.getElem?_eq_none (by simp;omega),List.getElem?_eq_none (by omega)];rfl
theorem scOk_scope {F:List Nd}:∀ (bs:List Nm) (k:Nat) (sc:List (Nm×Nat)),ScOk F sc→(∀ (j:Nat) (x:Nm),bs[j]?=some x→(vars F)[k+j]?=some x)→ScOk F (scope k bs sc)
 | [],k,sc,h,_=>h
 | b :: bs,k,sc,h,hb=>by
  rw [scope]
  refine scOk_scope bs (k+1) ((b,k) :: sc) (fun p hp=>?_) (fun j x hx=>?_)
  ·rcases List.mem_cons.1 hp with rfl | hp
   ·exact hb 0 b rfl
   exact h p hp
  have:=hb (j+1) x (by rw [List.getElem?_cons_succ];exact hx)
  rw [show k+1+j=k+(j+1) from by omega];exact this
theorem modify_append_left {α:Type}(f:α→α):∀ (a b:List α) (i:Nat),i<a.length→(a++b).modify i f=a.modify i f++b
 | [],b,i,h=>by simp at h
 | x :: a,b,0,h=>by simp [List.modify]
 | x :: a,b,i+1,h=>by
  have:=modify_append_left f a b i (by simpa using h)
  simp only [List.cons_append,List.modify_succ_cons,this]
theorem modify_append_last {α:Type}(f:α→α) (a:List α) (x:α):(a++[x]).modify a.length f=a++[f x]:=by
 induction a with
 | nil=>simp [List.modify]
 | cons y a ih=>simp only [List.cons_append,List.length_cons,List.modify_succ_cons,ih]
theorem modify_modify {α:Type}(f g:α→α):∀ (a:List α) (i:Nat),(a.modify i f).modify i g=a.modify i (fun x=>g (f x))
 | [],i=>by simp
 | x :: a,0=>by simp [List.modify]
 | x :: a,i+1=>by simp only [List.modify_succ_cons,modify_modify f g a i]
theorem goR_stage {F:List Nd}(hN:(vars F).Nodup):∀ (f i:Nat) (sc:List (Nm×Nat)) (l:List (List Nm×TE)) (st st':St) (n:Nat),sizes l≤f→Lies F n l→n+sizes l≤F.length→Stage F st n→i<n→ScOk F sc →
  goR f i sc l st=some st'→Stage F st' (n+sizes l)∧st'.next=st.next.modify i (· ++ nums n l)++(List.range' n (sizes l)).map (NR F)
 | f,i,sc,[],st,st',n,_,_,_,hs,hi,hsc,h=>by
  have h0:goR f i sc [] st=some st:=by cases f<;>rfl
  rw [h0,Option.some.injEq] at h
  subst h
  refine⟨hs,?_⟩
  rw [zw,nums]
  simp only [List.append_nil,List.range'_zero,List.map_nil]
  exact(List.modify_id _ _).symm
 | 0,i,sc,(bs,e) :: r,st,st',n,h,_,_,_,_,_,_=>by rw [zg] at h;have:=e.size_pos;simp only [] at h;omega
 | f+1,i,sc,(bs,e) :: r,st,st',n,h,hl,hlen,hs,hi,hsc,hg=>by
  have hk:=e.size_kids
  have hp:=e.size_pos
  rw [zg] at h hlen
  simp only [] at h hlen
  have hnF:n<F.length:=by omega
  have hnd:=hl.head
  rw [goR] at hg
  split at hg
  ·cases hg
  cases hu:usesR (scope st.vars.length bs sc) e.args [] with
  | none=>rw [hu] at hg;cases hg
  | some u =>
   rw [hu] at hg
   simp only [] at hg
   have hvl:st.vars.length=(vars (F.take n)).length:=by rw [hs.vars]
   have hsc':ScOk F (scope st.vars.length bs sc):=scOk_scope bs _ sc hsc fun j x hx=>by
    rw [hvl];exact binds_at hnF (by rw [hnd];exact hx)
   have hur:u=UR F n:=by
    have:=usesR_once hN hsc' e.args [] u (fun x hx=>by cases hx) (by simpa using hu)
    rw [this];unfold UR usesAt Nd.uses;rw [hnd]
   have hs1:Stage F (((st.bind bs).link i).node u) (n+1):=by
    refine⟨?_,?_,?_,?_⟩
    ·show st.vars++bs=_
     rw [vars_take hnF,hs.vars,hnd]
    ·show st.uses++[u]=_
     rw [hs.uses,hur,List.range_succ,List.map_append];rfl
    ·show st.binds++[List.range' st.vars.length bs.length]=_
     rw [hs.binds,List.range_succ,List.map_append,hvl]
     have:=bind_row hN hnF
     rw [hnd] at this
     simp only [] at this
     rw [this];rfl
    show (st.next.modify i _++[[]]).length=_
    rw [List.length_append,List.length_modify,hs.next];rfl
   have hul:st.uses.length=n:=by rw [hs.uses];simp
   cases hg2:goR f st.uses.length (scope st.vars.length bs sc) e.kids (((st.bind bs).link i).node u) with
   | none=>rw [hg2] at hg;cases hg
   | some st2 =>
    rw [hg2] at hg
    simp only [] at hg
    rw [hul] at hg2
    obtain⟨hs2,hn2⟩:=goR_stage hN f n _ e.kids _ st2 (n+1) (by omega) hl.kids.left (by omega) hs1 (Nat.lt_succ_self n) hsc' hg2
    rw [show n+1+sizes e.kids=n+e.size from by omega] at hs2
    obtain⟨hs3,hn3⟩:=goR_stage hN f i sc r st2 st' (n+e.size) (by omega) hl.tail (by omega) hs2 (by omega) hsc hg
    rw [zg]
    simp only []
    rw [show n+(e.size+sizes r)=n+e.size+sizes r from by omega]
    refine⟨hs3,?_⟩
    have hbl:(st.bind bs).binds.length - 1=n:=by
     show (st.binds++[_]).length - 1=n
     rw [List.length_append,hs.binds];simp
    have hnx:(((st.bind bs).link i).node u).next=st.next.modify i (· ++ [n])++[[]]:=by
     show st.next.modify i (· ++ [(st.bind bs).binds.length - 1])++[[]]=_
     rw [hbl]
    have hml:(st.next.modify i (· ++ [n])).length=n:=by rw [List.length_modify,hs.next]
    have e1:st2.next=st.next.modify i (· ++ [n])++(List.range' n e.size).map (NR F):=by
     rw [hn2,hnx]
     have:=modify_append_last (· ++ nums (n+1) e.kids) (st.next.modify i (· ++ [n])) []
     rw [hml] at this
     rw [this,List.append_assoc]
     congr 1
     rw [hk,Nat.add_comm,Nat.add_comm 1,List.range'_succ,List.map_cons,List.singleton_append]
     congr 1
     unfold NR
     rw [hnd];rfl
    rw [hn3,e1,modify_append_left _ _ _ _ (by rw [hml];exact hi),modify_modify,nums,List.append_assoc,← List.map_append]
    simp only [List.append_assoc,List.singleton_append]
    rw [List.range'_append_1]
structure Whole (F:List Nd) (st:St):Prop where
 vars:st.vars=RG.vars F
 uses:st.uses=(List.range F.length).map (UR F)
 binds:st.binds=(List.range F.length).map (BR F)
 next:st.next=(List.range F.length).map (NR F)
def st0 (ps:List Nm):St:=St.bind ⟨[],[],[],[]⟩ ps
theorem body_whole {ps:List Nm}{e:TE}{st:St}(hN:(vars (F0 ps e)).Nodup) (h:bodyR e (scope 0 ps []) (st0 ps)=some st):Whole (F0 ps e) st:=by
 unfold bodyR at h
 split at h
 ·cases h
 have hp:=e.size_pos
 have hk:=e.size_kids
 have hlen:(F0 ps e).length=e.size:=F0_length ps e
 have h0:0<(F0 ps e).length:=by omega
 have hl:=F0_lies ps e
 have hnd:=hl.head
 cases hu:usesR (scope 0 ps []) e.args [] with
 | none=>rw [hu] at h;cases h
 | some u =>
  rw [hu] at h
  simp only [] at h
  have hsc:ScOk (F0 ps e) (scope 0 ps []):=scOk_scope ps 0 [] (fun p hp=>by cases hp) fun j x hx=>by
   have:=binds_at (F:=F0 ps e) (n:=0) h0 (by rw [hnd];exact hx)
   simpa [vars] using this
  have hur:u=UR (F0 ps e) 0:=by
   have:=usesR_once hN hsc e.args [] u (fun x hx=>by cases hx) (by simpa using hu)
   rw [this];unfold UR usesAt Nd.uses;rw [hnd]
  have hs1:Stage (F0 ps e) ((st0 ps).node u) 1:=by
   refine⟨?_,?_,?_,rfl⟩
   ·have:=vars_take (F:=F0 ps e) h0
    rw [this,hnd];simp [vars,st0,St.bind,St.node]
   ·rw [hur];rfl
   have:=bind_row hN h0
   rw [hnd] at this
   simp [vars] at this
   show [List.range' 0 ps.length]=_
   rw [this];rfl
  obtain⟨a,b⟩:=goR_stage hN _ 0 _ e.kids _ st 1 (Nat.le_refl _) hl.kids.left (by omega) hs1 Nat.one_pos hsc h
  rw [show 1+sizes e.kids=(F0 ps e).length from by omega] at a
  refine⟨by rw [a.vars,List.take_length],a.uses,a.binds,?_⟩
  rw [b]
  have e1:((st0 ps).node u).next.modify 0 (· ++ nums 1 e.kids)=[NR (F0 ps e) 0]:=by
   show [[]++nums 1 e.kids]=_
   unfold NR
   rw [hnd];rfl
  rw [e1,hlen,hk,List.range_eq_range',List.range'_succ,List.map_cons]
  rfl
theorem goR_vars:∀ (f i:Nat) (sc:List (Nm×Nat)) (l:List (List Nm×TE)) (st st':St) (n:Nat),sizes l≤f→goR f i sc l st=some st'→st'.vars=st.vars++vars (layS n l)∧st'.uses.length=st.uses.length+sizes l
 | f,i,sc,[],st,st',n,_,h=>by
  have h0:goR f i sc [] st=some st:=by cases f<;>rfl
  rw [h0,Option.some.injEq] at h
  subst h
  simp [layS_nil,vars,zw]
 | 0,i,sc,(bs,e) :: r,st,st',n,h,_=>by rw [zg] at h;have:=e.size_pos;simp only [] at h;omega
 | f+1,i,sc,(bs,e) :: r,st,st',n,h,hg=>by
  have hk:=e.size_kids
  rw [zg] at h
  simp only [] at h
  rw [goR] at hg
  split at hg
  ·cases hg
  cases hu:usesR (scope st.vars.length bs sc) e.args [] with
  | none=>rw [hu] at hg;cases hg
  | some u =>
   rw [hu] at hg
   simp only [] at hg
   cases hg2:goR f st.uses.length (scope st.vars.length bs sc) e.kids (((st.bind bs).link i).node u) with
   | none=>rw [hg2] at hg;cases hg
   | some st2 =>
    rw [hg2] at hg
    simp only [] at hg
    obtain⟨a1,a2⟩:=goR_vars f _ _ e.kids _ st2 (n+1) (by omega) hg2
    obtain⟨b1,b2⟩:=goR_vars f i sc r st2 st' (n+1+sizes e.kids) (by omega) hg
    rw [layS_cons,vars_cons,layS_append _ (n+1) e.kids r (Nat.le_refl _),zg]
    constructor
    ·rw [b1,a1]
     show (st.vars++bs)++vars (layS (n+1) e.kids)++vars (layS (n+1+sizes e.kids) r)=_
     simp [vars,List.append_assoc]
    rw [b2,a2]
    show (st.uses++[u]).length+sizes e.kids+sizes r=_
    rw [List.length_append,List.length_singleton]
    simp only []
    omega
theorem body_vars {ps:List Nm}{e:TE}{st:St}(h:bodyR e (scope 0 ps []) (st0 ps)=some st):st.vars=vars (F0 ps e)∧st.uses.length=e.size:=by
 unfold bodyR at h
 split at h
 ·cases h
 cases hu:usesR (scope 0 ps []) e.args [] with
 | none=>rw [hu] at h;cases h
 | some u =>
  rw [hu] at h
  simp only [] at h
  obtain⟨a,b⟩:=goR_vars _ _ _ e.kids _ st 1 (Nat.le_refl _) h
  have hk:=e.size_kids
  constructor
  ·rw [a]
   unfold F0
   rw [layS_cons,vars_cons,List.append_nil];rfl
  rw [b]
  show ([]++[u]).length+sizes e.kids=e.size
  simp;omega
theorem good_ref {isName:Nm→Bool}{ps:List Nm}{e:TE}:Good isName ps e↔ps.length≤16∧e.size≤20000∧∃ st,bodyR e (scope 0 ps []) (st0 ps)=some st∧(∀ x∈st.vars,isName x=true)∧st.vars.Nodup:=by
 have hf:(bodyR e (scope 0 ps []) (st0 ps)).isSome=true↔(∀ d∈F0 ps e,nodeOk d.e=true)∧e.inScope ps=true:=by
  rw [bodyR_fine]
  constructor
  ·rintro ⟨h1,h2⟩
   exact⟨h1 0,by have:=h2 _ List.mem_cons_self;simpa using this⟩
  rintro ⟨h1,h2⟩
  refine⟨fun n=>lay_e _ 0 n _ (Nat.le_refl _) h1,fun p hp=>?_⟩
  rw [List.mem_singleton] at hp
  subst hp
  simpa using h2
 constructor
 ·intro h
  obtain⟨st,hst⟩:=Option.isSome_iff_exists.1 (hf.2 ⟨h.form,h.inScope⟩)
  refine⟨h.params,h.size,st,hst,?_⟩
  rw [(body_vars hst).1]
  exact⟨h.names,h.nodup⟩
 rintro ⟨h1,h2,st,hst,h3,h4⟩
 rw [(body_vars hst).1] at h3 h4
 obtain⟨h5,h6⟩:=hf.1 (by rw [hst];rfl)
 exact⟨h1,h2,h5,h3,h4,h6⟩
end RF
