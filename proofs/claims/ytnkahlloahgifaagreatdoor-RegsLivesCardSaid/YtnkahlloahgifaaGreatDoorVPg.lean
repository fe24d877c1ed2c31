/- Part. -/
import Derived.Test.YtnkahlloahgifaaGreatDoorVPf
set_option maxHeartbeats 16000000
set_option maxRecDepth 100000
set_option linter.unusedSimpArgs false
set_option linter.unusedVariables false
namespace RF
open RG
structure Bal (st:St):Prop where
 binds:st.binds.length=st.uses.length
 next:st.next.length=st.uses.length
 vars:st.vars.length≤16*st.binds.length
theorem nodeOk_kids {e:TE}(h:nodeOk e=true):∀ p∈e.kids,p.1.length≤16:=fun p hp=>by
 unfold nodeOk at h
 rw [Bool.and_eq_true,List.all_eq_true] at h
 simpa using h.2 p hp
theorem goR_bal:∀ (f i:Nat) (sc:List (Nm×Nat)) (l:List (List Nm×TE)) (st st':St),sizes l≤f→goR f i sc l st=some st'→(∀ p∈l,p.1.length≤16)→Bal st→Bal st'∧st'.uses.length=st.uses.length+sizes l
 | f,i,sc,[],st,st',_,h,_,hb=>by
  have h0:goR f i sc [] st=some st:=by cases f<;>rfl
  rw [h0,Option.some.injEq] at h
  subst h
  exact⟨hb,by rw [zw];rfl⟩
 | 0,i,sc,(bs,e) :: r,st,st',h,_,_,_=>by rw [zg] at h;have:=e.size_pos;simp only [] at h;omega
 | f+1,i,sc,(bs,e) :: r,st,st',h,hg,hl,hb=>by
  have hk:=e.size_kids
  rw [zg] at h
  simp only [] at h
  rw [goR] at hg
  split at hg
  ·cases hg
  rename_i hno
  have hok:nodeOk e=true:=by simpa using hno
  cases hu:usesR (scope st.vars.length bs sc) e.args [] with
  | none=>rw [hu] at hg;cases hg
  | some u =>
   rw [hu] at hg
   simp only [] at hg
   cases hg2:goR f st.uses.length (scope st.vars.length bs sc) e.kids (((st.bind bs).link i).node u) with
   | none=>rw [hg2] at hg;cases hg
   | some st2 =>
    rw [hg2] at hg
    simp only [] at hg
    have hbs:bs.length≤16:=hl _ List.mem_cons_self
    have b1:Bal (((st.bind bs).link i).node u):=by
     obtain⟨x1,x2,x3⟩:=hb
     refine⟨?_,?_,?_⟩
     ·show (st.binds++[_]).length=(st.uses++[u]).length
      rw [List.length_append,List.length_append,x1];rfl
     ·show (st.next.modify i _++[[]]).length=(st.uses++[u]).length
      rw [List.length_append,List.length_append,List.length_modify,x2];rfl
     show (st.vars++bs).length≤16*(st.binds++[_]).length
     rw [List.length_append,List.length_append,List.length_singleton];omega
    obtain⟨a1,a2⟩:=goR_bal f _ _ e.kids _ st2 (by omega) hg2 (nodeOk_kids hok) b1
    obtain⟨c1,c2⟩:=goR_bal f i sc r st2 st' (by omega) hg (fun p hp=>hl p (List.mem_cons_of_mem _ hp)) a1
    refine⟨c1,?_⟩
    rw [c2,a2,zg]
    show (st.uses++[u]).length+sizes e.kids+sizes r=_
    rw [List.length_append,List.length_singleton]
    simp only []
    omega
theorem fR_bal {i:Nat}{sc:List (Nm×Nat)}{l:List (List Nm×TE)}{st st':St}(h:fR i sc l st=some st') (hl:∀ p∈l,p.1.length≤16) (hb:Bal st):Bal st'∧st'.uses.length=st.uses.length+sizes l:=goR_bal _ i sc l st st' (Nat.le_refl _) h hl hb
structure Bal1 (st:St):Prop where
 binds:st.binds.length=st.uses.length+1
 next:st.next.length=st.uses.length
 vars:st.vars.length≤16*st.binds.length
theorem Bal1.node {st:St}(h:Bal1 st) (u:List Nat):Bal (st.node u):=by
 obtain⟨a,b,c⟩:=h
 refine⟨?_,?_,c⟩
 ·show st.binds.length=(st.uses++[u]).length
  rw [List.length_append,a];rfl
 show (st.next++[[]]).length=(st.uses++[u]).length
 rw [List.length_append,List.length_append,b];rfl
theorem Bal.bind {st:St}(h:Bal st) {bs:List Nm}(hb:bs.length≤16) (i:Nat):Bal1 ((st.bind bs).link i):=by
 obtain⟨a,b,c⟩:=h
 refine⟨?_,?_,?_⟩
 ·show (st.binds++[_]).length=st.uses.length+1
  rw [List.length_append,a];rfl
 ·show (st.next.modify i _).length=st.uses.length
  rw [List.length_modify,b]
 show (st.vars++bs).length≤16*(st.binds++[_]).length
 rw [List.length_append,List.length_append,List.length_singleton];omega
theorem bodyR_no {e:TE}{sc:List (Nm×Nat)}{st:St}(h:nodeOk e=false):bodyR e sc st=none:=by unfold bodyR;rw [if_pos h]
theorem bodyR_lost {e:TE}{sc:List (Nm×Nat)}{st:St}(hu:usesR sc e.args []=none):bodyR e sc st=none:=by
 unfold bodyR
 split
 ·rfl
 rw [hu]
theorem bodyR_on {e:TE}{sc:List (Nm×Nat)}{st:St}{u:List Nat}(h:nodeOk e=true) (hu:usesR sc e.args []=some u):bodyR e sc st=fR st.uses.length sc e.kids (st.node u):=by
 unfold bodyR
 rw [if_neg (by simp [h]),hu]
theorem body_bal {e:TE}{sc:List (Nm×Nat)}{st st':St}(h:bodyR e sc st=some st') (hb:Bal1 st):Bal st'∧st'.uses.length=st.uses.length+e.size:=by
 unfold bodyR at h
 split at h
 ·cases h
 rename_i hno
 cases hu:usesR sc e.args [] with
 | none=>rw [hu] at h;cases h
 | some u =>
  rw [hu] at h
  simp only [] at h
  obtain⟨a,b⟩:=fR_bal h (nodeOk_kids (by simpa using hno)) (hb.node u)
  refine⟨a,?_⟩
  rw [b,e.size_kids]
  show (st.uses++[u]).length+_=_
  rw [List.length_append,List.length_singleton];omega
theorem usesR_skip {sc:List (Nm×Nat)}{l:List Nm}{i:Nat}{a:Nm}{acc:List Nat}(h:l[i]?=some a) (h0:a.size=0):usesR sc (l.drop i) acc=usesR sc (l.drop (i+1)) acc:=by
 have hil:=(List.getElem?_eq_some_iff.1 h).1
 rw [List.drop_eq_getElem_cons hil,usesR,if_pos]
 rw [List.getElem?_eq_getElem hil,Option.some.injEq] at h
 rw [h];exact h0
theorem usesR_miss {sc:List (Nm×Nat)}{l:List Nm}{i:Nat}{a:Nm}{acc:List Nat}(h:l[i]?=some a) (h0:a.size≠0) (hl:look sc a=none):usesR sc (l.drop i) acc=none:=by
 have hil:=(List.getElem?_eq_some_iff.1 h).1
 rw [List.getElem?_eq_getElem hil,Option.some.injEq] at h
 rw [List.drop_eq_getElem_cons hil,usesR,h,if_neg h0,hl]
theorem usesR_hit {sc:List (Nm×Nat)}{l:List Nm}{i:Nat}{a:Nm}{acc:List Nat}{n:Nat}(h:l[i]?=some a) (h0:a.size≠0) (hl:look sc a=some n):usesR sc (l.drop i) acc=usesR sc (l.drop (i+1)) (if n∈acc then acc else acc++[n]):=by
 have hil:=(List.getElem?_eq_some_iff.1 h).1
 rw [List.getElem?_eq_getElem hil,Option.some.injEq] at h
 rw [List.drop_eq_getElem_cons hil,usesR,h,if_neg h0,hl]
theorem fR_at {i : Nat} {sc : List (Nm × Nat)} {l : List (List Nm × TE)} {j : Nat} {p : List Nm × TE} {st : St} (h : l[j]? = some p) : fR i sc (l.drop j) st = match bodyR p.2 (scope st.vars.length p.1 sc) ((st.bind p.1).link i) with
      | none => none
      | some st' => fR i sc (l.drop (j + 1)) st' := by
  have hil := (List.getElem?_eq_some_iff.1 h).1
  rw [List.getElem?_eq_getElem hil, Option.some.injEq] at h
  rw [List.drop_eq_getElem_cons hil, h]
  obtain ⟨bs, e⟩ := p
  exact fR_cons i sc bs e _ st
theorem sizes_drop {l:List (List Nm×TE)}{j:Nat}{p:List Nm×TE}(h:l[j]?=some p):sizes (l.drop j)=p.2.size+sizes (l.drop (j+1)):=by
 have hil:=(List.getElem?_eq_some_iff.1 h).1
 rw [List.getElem?_eq_getElem hil,Option.some.injEq] at h
 rw [List.drop_eq_getElem_cons hil,h,zg]
end RF
namespace RF
open RG
theorem goR_next:∀ (f i:Nat) (sc:List (Nm×Nat)) (l:List (List Nm×TE)) (st st':St),sizes l≤f→goR f i sc l st=some st'→st.next.length=st.uses.length→∀ j,j<st.next.length→j≠i→st'.next[j]?=st.next[j]?
 | f,i,sc,[],st,st',_,h,_=>fun j hj hji=>by
  have h0:goR f i sc [] st=some st:=by cases f<;>rfl
  rw [h0,Option.some.injEq] at h
  rw [h]
 | 0,i,sc,(bs,e) :: r,st,st',h,_,_=>by rw [zg] at h;have:=e.size_pos;simp only [] at h;omega
 | f+1,i,sc,(bs,e) :: r,st,st',h,hg,hb=>fun j hj hji=>by
  have hk:=e.size_kids
  rw [zg] at h
  simp only [] at h
  rw [goR] at hg
  split at hg
  ·cases hg
  cases hu:usesR (scope st.vars.length bs sc) e.args [] with
  | none=>rw [hu] at hg;cases hg
  | some u =>
   rw [hu] at hg
   simp only [] at hg
   cases hg2:goR f st.uses.length (scope st.vars.length bs sc) e.kids (((st.bind bs).link i).node u) with
   | none=>rw [hg2] at hg;cases hg
   | some st2 =>
    rw [hg2] at hg
    simp only [] at hg
    have hnl:(((st.bind bs).link i).node u).next.length=st.next.length+1:=by
     show (st.next.modify i _++[[]]).length=_
     rw [List.length_append,List.length_modify];rfl
    have hul:(((st.bind bs).link i).node u).uses.length=st.uses.length+1:=by
     show (st.uses++[u]).length=_
     rw [List.length_append];rfl
    have h1:=goR_next f _ _ e.kids _ st2 (by omega) hg2 (by omega) j (by omega) (by omega)
    have h2l:st2.next.length=st2.uses.length:=(goR_len f _ _ e.kids _ st2 (by omega) hg2 (by omega)).1
    have h2g:=(goR_len f _ _ e.kids _ st2 (by omega) hg2 (by omega)).2
    have h2:=goR_next f i sc r st2 st' (by omega) hg h2l j (by omega) hji
    rw [h2,h1]
    show (st.next.modify i _++[[]])[j]?=_
    rw [List.getElem?_append_left (by rw [List.length_modify];exact hj),List.getElem?_modify]
    have hij:¬ i=j:=fun e=>hji e.symm
    cases st.next[j]? with
    | none=>rfl
    | some y=>simp [hij]
where
 goR_len:∀ (f i:Nat) (sc:List (Nm×Nat)) (l:List (List Nm×TE)) (st st':St),sizes l≤f→goR f i sc l st=some st'→st.next.length=st.uses.length→st'.next.length=st'.uses.length∧st.next.length≤st'.next.length
  | f,i,sc,[],st,st',_,h,hb=>by
   have h0:goR f i sc [] st=some st:=by cases f<;>rfl
   rw [h0,Option.some.injEq] at h
   subst h
   exact⟨hb,Nat.le_refl _⟩
  | 0,i,sc,(bs,e) :: r,st,st',h,_,_=>by rw [zg] at h;have:=e.size_pos;simp only [] at h;omega
  | f+1,i,sc,(bs,e) :: r,st,st',h,hg,hb=>by
   have hk:=e.size_kids
   rw [zg] at h
   simp only [] at h
   rw [goR] at hg
   split at hg
   ·cases hg
   cases hu:usesR (scope st.vars.length bs sc) e.args [] with
   | none=>rw [hu] at hg;cases hg
   | some u =>
    rw [hu] at hg
    simp only [] at hg
    cases hg2:goR f st.uses.length (scope st.vars.length bs sc) e.kids (((st.bind bs).link i).node u) with
    | none=>rw [hg2] at hg;cases hg
    | some st2 =>
     rw [hg2] at hg
     simp only [] at hg
     have hnl:(((st.bind bs).link i).node u).next.length=st.next.length+1:=by
      show (st.next.modify i _++[[]]).length=_
      rw [List.length_append,List.length_modify];rfl
     have hul:(((st.bind bs).link i).node u).uses.length=st.uses.length+1:=by
      show (st.uses++[u]).length=_
      rw [List.length_append];rfl
     have h1:=goR_len f _ _ e.kids _ st2 (by omega) hg2 (by omega)
     have h2:=goR_len f i sc r st2 st' (by omega) hg h1.1
     exact⟨h2.1,by have:=h1.2;have:=h2.2;omega⟩
theorem body_next {e:TE}{sc:List (Nm×Nat)}{st st':St}(h:bodyR e sc st=some st') (hb:st.next.length=st.uses.length) {j:Nat}(hj:j<st.next.length):st'.next[j]?=st.next[j]?:=by
 unfold bodyR at h
 split at h
 ·cases h
 cases hu:usesR sc e.args [] with
 | none=>rw [hu] at h;cases h
 | some u =>
  rw [hu] at h
  simp only [] at h
  have hnl:(st.node u).next.length=st.next.length+1:=by show (st.next++[[]]).length=_;rw [List.length_append];rfl
  have hul:(st.node u).uses.length=st.uses.length+1:=by show (st.uses++[u]).length=_;rw [List.length_append];rfl
  have:=goR_next _ _ sc e.kids _ st' (Nat.le_refl _) h (by omega) j (by omega) (by omega)
  rw [this]
  show (st.next++[[]])[j]?=_
  rw [List.getElem?_append_left hj]
end RF
