/- Part. -/
import Derived.Test.YtnkahlloahgifaaGreatDoorVPlh
import Derived.Test.YtnkahlloahgifaaGreatDoorVPtf
set_option maxHeartbeats 16000000
set_option maxRecDepth 100000
set_option linter.unusedSimpArgs false
set_option linter.unusedVariables false
namespace RG
variable {F:List Nd}
theorem vars_binds {x:Nm}(hx:x∈vars F):∃ i,i<F.length∧x∈(nd F i).binds:=by
 obtain⟨d,hd,h⟩:=List.mem_flatMap.1 hx
 obtain⟨i,hi⟩:=List.getElem?_of_mem hd
 have hl:=(List.getElem?_eq_some_iff.1 hi).1
 rw [nd_some hl] at hi
 simp only [Option.some.injEq] at hi
 exact⟨i,hl,by rw [hi];exact h⟩
theorem Fo.cross_bound (h:Fo F) {i:Nat}{x:Nm}(hi:i<F.length) (hc:cross F i x=true):∃ j,j<i∧x∈(nd F j).binds:=by
 obtain⟨p,hp,_,hl⟩:=h.up hi hc
 obtain⟨j,hj,hx⟩:=h.live_bound p (by omega) hl
 exact⟨j,by omega,hx⟩
theorem Fo.live_vars (h:Fo F) {i:Nat}{x:Nm}(hi:i<F.length) (hl:lv F i x=true):x∈vars F:=by
 obtain⟨j,hj,hx⟩:=h.live_bound i hi hl
 exact binds_vars (by omega) hx
theorem Fo.clash (h:Fo F) {a b:Nm}:∀ (i:Nat),i<F.length→lv F i a=true→lv F i b=true→∃ j,j<F.length∧clash F a b j=true:=by
 intro i
 induction i using Nat.strongRecOn with
 | _ i ih =>
  intro hi ha hb
  by_cases h1:a∈(nd F i).binds
  ·refine⟨i,hi,?_⟩
   unfold RG.clash
   rw [zx.2 h1]
   by_cases h2:b∈(nd F i).binds
   ·rw [zx.2 h2];rfl
   rw [cross_iff.2 ⟨hb,h2⟩];simp
  by_cases h2:b∈(nd F i).binds
  ·refine⟨i,hi,?_⟩
   unfold RG.clash
   rw [zx.2 h2,cross_iff.2 ⟨ha,h1⟩]
   simp
  obtain⟨p,hp,hm,hla⟩:=h.up hi (cross_iff.2 ⟨ha,h1⟩)
  refine ih p hp (by omega) hla ?_
  rw [h.live p b (by omega),Bool.or_eq_true]
  exact .inr (List.any_eq_true.2 ⟨i,hm,cross_iff.2 ⟨hb,h2⟩⟩)
theorem Fo.around_clash (h:Fo F) {i:Nat}{a b:Nm}(hi:i<F.length) (ha:a∈around F i) (hb:b∈around F i):∃ j,j<F.length∧RG.clash F a b j=true:=by
 obtain⟨_,ha⟩:=mem_around.1 ha
 obtain⟨_,hb⟩:=mem_around.1 hb
 rcases ha with ha | ha
 ·rcases hb with hb | hb
  ·exact h.clash i hi (cross_iff.1 ha).1 (cross_iff.1 hb).1
  exact⟨i,hi,by unfold RG.clash;rw [zx.2 hb,ha];simp⟩
 rcases hb with hb | hb
 ·exact⟨i,hi,by unfold RG.clash;rw [zx.2 ha,hb];simp⟩
 exact⟨i,hi,by unfold RG.clash;rw [zx.2 ha,zx.2 hb];rfl⟩
theorem conflict_iff {a b:Nm}:conflict F a b=true↔a≠b∧∃ j,j<F.length∧clash F a b j=true:=by
 unfold conflict
 by_cases e:a=b
 ·rw [if_pos e];simp [e]
 rw [if_neg e,List.any_eq_true]
 simp [e]
end RG
namespace RG
variable {F:List Nd}
theorem right_clash (h:Fo F) {reg:Nm→Int}{i:Nat}(hi:i<F.length) (hr:rightAt F reg i=true) {a b:Nm}(hab:a≠b) (hc:clash F a b i=true):reg a≠reg b:=by
 unfold rightAt at hr
 obtain⟨h1,h2⟩:=apart_iff.1 hr
 have key:∀ x∈(nd F i).binds,∀ y,cross F i y=true→reg x≠reg y:=fun x hx y hy e =>
  h1 x hx (List.mem_map.2 ⟨y,mem_named.2 ⟨h.live_vars hi (cross_iff.1 hy).1,hy⟩,e.symm⟩)
 unfold clash at hc
 rw [Bool.or_eq_true,Bool.and_eq_true,Bool.or_eq_true,Bool.and_eq_true,zx,zx] at hc
 rcases hc with ⟨ha,hb | hb⟩|⟨hb,ha⟩
 ·intro e
  exact hab (nodup_of_map h2 a ha b hb e)
 ·exact key a ha b hb
 exact fun e=>key b hb a ha e.symm
theorem regIn_set_same {l:List Nat}{x:Nm}{r:Nat}(h:place F x<l.length):regIn F (l.set (place F x) r) x=r:=by
 unfold regIn
 rw [List.getD_eq_getElem?_getD,List.getElem?_set,if_pos rfl,if_pos h];rfl
theorem regIn_set_other {l:List Nat}{x y:Nm}{r:Nat}(h:place F x≠place F y):regIn F (l.set (place F x) r) y=regIn F l y:=by
 unfold regIn
 rw [List.getD_eq_getElem?_getD,List.getElem?_set,if_neg h,← List.getD_eq_getElem?_getD]
theorem giveRegs_spec:∀ (xs:List Nm) (taken:List Nat) (st:List Nat×Nat),(∀ x∈xs,x∈vars F)→xs.Nodup→st.1.length=(vars F).length →
  (giveRegs F xs taken st).1.length=(vars F).length ∧
  (∀ y∈vars F,y∉xs→regIn F (giveRegs F xs taken st).1 y=regIn F st.1 y) ∧
  (∀ x∈xs,regIn F (giveRegs F xs taken st).1 x∉taken∧regIn F (giveRegs F xs taken st).1 x<(giveRegs F xs taken st).2) ∧
  (∀ x∈xs,∀ y∈xs,regIn F (giveRegs F xs taken st).1 x=regIn F (giveRegs F xs taken st).1 y→x=y) ∧
  st.2≤(giveRegs F xs taken st).2∧(giveRegs F xs taken st).2≤max st.2 (taken.length+xs.length)
 | [],taken,st,_,_,hl=>⟨hl,fun _ _ _=>rfl,fun x hx=>absurd hx (by simp),fun x hx=>absurd hx (by simp),Nat.le_refl _,Nat.le_max_left _ _⟩
 | x :: r,taken,(regs,most),hv,hn,hl=>by
  rw [List.nodup_cons] at hn
  have hx:=hv x List.mem_cons_self
  have hpx:=place_lt hx
  simp only [] at hl
  have hpl:place F x<regs.length:=by omega
  obtain⟨a,b,c,d,e,f⟩:=giveRegs_spec r (taken++[low taken]) (regs.set (place F x) (low taken),max most (low taken+1)) (fun y hy=>hv y (List.mem_cons_of_mem _ hy)) hn.2 (by simpa using hl)
  obtain⟨l1,l2,l3⟩:=low_spec taken
  rw [giveRegs]
  simp only [] at a b c d e f ⊢
  have hrx:regIn F (giveRegs F r (taken++[low taken]) (regs.set (place F x) (low taken),max most (low taken+1))).1 x=low taken:=by
   rw [b x hx hn.1,regIn_set_same hpl]
  refine⟨a,fun y hy hm=>?_,fun y hy=>?_,fun y hy z hz eq=>?_,by omega,by simp only [List.length_append,List.length_cons,List.length_nil] at f ⊢;omega⟩
  ·rw [b y hy (fun h=>hm (List.mem_cons_of_mem _ h)),regIn_set_other (fun e=>hm (by rw [place_inj hx hy e];exact List.mem_cons_self))]
  ·rcases List.mem_cons.1 hy with rfl | hy
   ·rw [hrx];exact⟨l1,by omega⟩
   obtain⟨c1,c2⟩:=c y hy
   exact⟨fun hm=>c1 (List.mem_append_left _ hm),c2⟩
  rcases List.mem_cons.1 hy with h1 | hy
  ·rcases List.mem_cons.1 hz with h2 | hz
   ·rw [h1,h2]
   rw [h1,hrx] at eq
   exact absurd (List.mem_append_right _ (by rw [← eq];simp)) (c z hz).1
  rcases List.mem_cons.1 hz with h2 | hz
  ·rw [h2,hrx] at eq
   exact absurd (List.mem_append_right _ (by rw [eq];simp)) (c y hy).1
  exact d y hy z hz eq
theorem giveRegs_rise:∀ (xs:List Nm) (n:Nat) (st:List Nat×Nat),(∀ x∈xs,x∈vars F)→xs.Nodup→st.1.length=(vars F).length →
  ∀ i x,xs[i]?=some x→regIn F (giveRegs F xs (List.range n) st).1 x=n+i
 | [],n,st,_,_,_,i,x,h=>by simp at h
 | y :: r,n,(regs,most),hv,hn,hl,i,x,h=>by
  rw [List.nodup_cons] at hn
  have hy:=hv y List.mem_cons_self
  have hlow:low (List.range n)=n:=(low_unique (by simp) (fun k hk=>by simpa using hk)).symm
  simp only [] at hl
  rw [giveRegs,hlow,← List.range_succ]
  have hpl:place F y<regs.length:=by have:=place_lt hy;omega
  cases i with
  | zero =>
   simp only [List.getElem?_cons_zero,Option.some.injEq] at h
   subst h
   obtain⟨_,b,_⟩:=giveRegs_spec r (List.range (n+1)) (regs.set (place F y) n,max most (n+1)) (fun y hy=>hv y (List.mem_cons_of_mem _ hy)) hn.2 (by simpa using hl)
   rw [b y hy hn.1,regIn_set_same hpl,Nat.add_zero]
  | succ i =>
   simp only [List.getElem?_cons_succ] at h
   rw [giveRegs_rise r (n+1) _ (fun y hy=>hv y (List.mem_cons_of_mem _ hy)) hn.2 (by simpa using hl) i x h]
   omega
theorem crowd_clash (h:Fo F) {a b:Nm}(ha:a∈crowd F) (hb:b∈crowd F) (hab:a≠b):conflict F a b=true:=by
 obtain⟨⟨i,hi,e⟩,_⟩:=crowd_spec h
 rw [e] at ha hb
 exact conflict_iff.2 ⟨hab,h.around_clash hi ha hb⟩
structure AllocTo (F:List Nd) (n:Nat) (st:List Nat×Nat):Prop where
 len:st.1.length=(vars F).length
 right:∀ i,i<n→rightAt F (fun x=>(regIn F st.1 x:Int)) i=true
 lt:∀ i,i<n→∀ x∈(nd F i).binds,regIn F st.1 x<st.2
 most:st.2≤width F
 params:0<n→∀ i x,(nd F 0).binds[i]?=some x→regIn F st.1 x=i
theorem rightAt_congr {reg reg':Nm→Int}{i:Nat}(h:∀ x,x∈(nd F i).binds∨(x∈vars F∧cross F i x=true)→reg x=reg' x):rightAt F reg i=rightAt F reg' i:=by
 have h1:(named F (cross F i)).map reg=(named F (cross F i)).map reg':=List.map_congr_left fun x hx=>h x (.inr (mem_named.1 hx))
 have h2:(nd F i).binds.map reg=(nd F i).binds.map reg':=List.map_congr_left fun x hx=>h x (.inl hx)
 rw [Bool.eq_iff_iff]
 unfold rightAt
 rw [apart_iff,apart_iff,h1,h2]
 constructor
 ·rintro ⟨a,b⟩;exact⟨fun x hx=>by rw [← h x (.inl hx)];exact a x hx,b⟩
 rintro ⟨a,b⟩;exact⟨fun x hx=>by rw [h x (.inl hx)];exact a x hx,b⟩
theorem alloc_step (h:Fo F) {n:Nat}(hn:n<F.length) {st:List Nat×Nat}(hs:AllocTo F n st):AllocTo F (n+1) (allocStep F st n):=by
 obtain⟨a,b,c,d,e,f⟩:=giveRegs_spec (F:=F) (nd F n).binds ((named F (cross F n)).map fun x=>st.1.getD (place F x) 0) st (fun x hx=>binds_vars hn hx) (h.binds_nodup hn) hs.len
 -- what was bound before keeps its register
 have keep:∀ x,(∃ j,j<n∧x∈(nd F j).binds)→regIn F (allocStep F st n).1 x=regIn F st.1 x:=fun x ⟨j,hj,hx⟩ =>
  b x (binds_vars (by omega) hx) fun hx2=>by have:=h.same (by omega) hn hx hx2;omega
 have keepc:∀ i,i≤n→∀ x,cross F i x=true→regIn F (allocStep F st n).1 x=regIn F st.1 x:=fun i hi x hx=>by
  obtain⟨j,hj,hb⟩:=h.cross_bound (by omega) hx
  exact keep x ⟨j,by omega,hb⟩
 refine⟨a,fun i hi=>?_,fun i hi x hx=>?_,?_,fun _ i x hx=>?_⟩
 ·by_cases hin:i=n
  ·subst hin
   unfold rightAt
   rw [apart_iff]
   refine⟨fun x hx hm=>?_,nodup_map_inj (h.binds_nodup hn) fun x hx y hy e=>d x hx y hy (by exact_mod_cast e)⟩
   obtain⟨y,hy,e⟩:=List.mem_map.1 hm
   have e':regIn F (allocStep F st i).1 y=regIn F (allocStep F st i).1 x:=by exact_mod_cast e
   rw [keepc i (Nat.le_refl _) y (mem_named.1 hy).2] at e'
   exact(c x hx).1 (List.mem_map.2 ⟨y,hy,e'⟩)
  rw [rightAt_congr (reg':=fun x=>(regIn F st.1 x:Int))]
  ·exact hs.right i (by omega)
  rintro x (hx | ⟨_,hx⟩)
  ·simp only [Int.natCast_inj]
   exact keep x ⟨i,by omega,hx⟩
  simp only [Int.natCast_inj]
  exact keepc i (by omega) x hx
 ·by_cases hin:i=n
  ·subst hin
   exact(c x hx).2
  rw [keep x ⟨i,by omega,hx⟩]
  have:=hs.lt i (by omega) x hx
  have:st.2≤(allocStep F st n).2:=e
  omega
 ·have hw:=(crowd_spec h).2 n hn
  rw [← cross_around_len h hn] at hw
  have hm:=hs.most
  have:(allocStep F st n).2≤max st.2 (((named F (cross F n)).map fun x=>st.1.getD (place F x) 0).length+(nd F n).binds.length):=f
  rw [List.length_map] at this
  omega
 by_cases h0:n=0
 ·subst h0
  have hc0:named F (cross F 0)=[]:=by
   rw [List.eq_nil_iff_forall_not_mem]
   intro y hy
   obtain⟨_,hc⟩:=mem_named.1 hy
   exact(cross_iff.1 hc).2 (h.root y (cross_iff.1 hc).1)
  unfold allocStep
  rw [hc0]
  have:=giveRegs_rise (F:=F) (nd F 0).binds 0 st (fun x hx=>binds_vars hn hx) (h.binds_nodup hn) hs.len i x hx
  simpa using this
 rw [keep x ⟨0,by omega,List.mem_of_getElem? hx⟩]
 exact hs.params (by omega) i x hx
theorem alloc_upto (h:Fo F):∀ n,n≤F.length→AllocTo F n ((List.range n).foldl (allocStep F) ((vars F).map fun _=>0,0))
 | 0,_=>⟨by simp,fun i hi=>absurd hi (Nat.not_lt_zero _),fun i hi=>absurd hi (Nat.not_lt_zero _),Nat.zero_le _,fun h=>absurd h (Nat.lt_irrefl _)⟩
 | n+1,hn=>by
  rw [List.range_succ,List.foldl_append]
  exact alloc_step h (by omega) (alloc_upto h n (by omega))
theorem alloc_spec (h:Fo F):AllocTo F F.length (alloc F):=alloc_upto h _ (Nat.le_refl _)
theorem regOf_pairs {l:List Nat}{x:Nm}(hx:x∈vars F):regOf F (pairs F l) x=regIn F l x:=by
 unfold regOf pairs
 rw [List.getD_eq_getElem?_getD,List.getElem?_map,place_at hx];rfl
theorem alloc_right (h:Fo F) {params:Nat}(hp:params=(nd F 0).binds.length) (hv:(vars F).length≤20000):right F params ((alloc F).2:Int) (pairs F (alloc F).1)=true:=by
 have hA:=alloc_spec h
 have hw:width F≤(vars F).length:=by
  obtain⟨⟨i,_,e⟩,_⟩:=crowd_spec h
  unfold width
  rw [e]
  exact List.length_filter_le _ _
 have hm:=hA.most
 rw [right_iff]
 refine⟨by omega,by omega,by simp [pairs],fun i x r hx=>?_,fun i hi=>?_⟩
 ·obtain⟨hxi,rfl⟩:=pairs_at hx
  obtain⟨j,hj,hb⟩:=vars_binds (List.mem_of_getElem? hxi)
  have:=hA.lt j hj x hb
  refine⟨hxi,by omega,by omega,fun hip=>?_⟩
  -- a param's place is its number
  have h0:(nd F 0).binds[i]?=(vars F)[i]?:=by
   have hF:F=nd F 0 :: F.drop 1:=by
    have:=nd_some h.pos
    cases hq:F with
    | nil=>rw [hq] at this;simp at this
    | cons d r=>rfl
   have hvs:vars F=(nd F 0).binds++vars (F.drop 1):=by
    conv=>lhs;rw [hF]
    exact vars_cons _ _
   rw [hvs,List.getElem?_append_left (by omega)]
  have:=hA.params h.pos i x (h0.trans hxi)
  omega
 rw [rightAt_congr (reg':=fun x=>(regIn F (alloc F).1 x:Int))]
 ·exact hA.right i hi
 rintro x (hx | ⟨hx,_⟩)
 ·exact regOf_pairs (binds_vars hi hx)
 exact regOf_pairs hx
theorem nodup_below:∀ (n:Nat) (l:List Nat),l.Nodup→(∀ x∈l,x<n)→l.length≤n
 | 0,l,_,h=>by
  cases l with
  | nil=>simp
  | cons a l=>exact absurd (h a List.mem_cons_self) (Nat.not_lt_zero _)
 | n+1,l,hn,h=>by
  have:=nodup_below n (l.erase n) (hn.erase _) fun x hx=>by
   have h1:=h x (List.mem_of_mem_erase hx)
   have:x≠n:=fun e=>by subst e;exact(List.Nodup.not_mem_erase hn) hx
   omega
  by_cases hm:n∈l
  ·rw [List.length_erase_of_mem hm] at this;omega
  rw [List.erase_of_not_mem hm] at this;omega
theorem right_width (h:Fo F) {params:Nat}{regs:Int}{vs:List (Nm×Int)}(hr:right F params regs vs=true):(width F:Int)≤regs:=by
 obtain⟨h1,h2,h3,h4,h5⟩:=right_iff.1 hr
 have hb:∀ x∈vars F,0≤regOf F vs x∧regOf F vs x<regs:=fun x hx=>by
  have hp:=place_lt hx
  have hx':vs[place F x]?=some ((vs[place F x]'(by omega)).1,(vs[place F x]'(by omega)).2):=by rw [List.getElem?_eq_getElem (by omega)]
  obtain⟨_,b,c,_⟩:=h4 _ _ _ hx'
  unfold regOf
  rw [List.getD_eq_getElem?_getD,hx']
  exact⟨b,c⟩
 have hcv:∀ x∈crowd F,x∈vars F:=fun x hx=>by
  obtain⟨⟨i,_,e⟩,_⟩:=crowd_spec h
  rw [e] at hx
  exact(mem_around.1 hx).1
 have hn:((crowd F).map fun x=>(regOf F vs x).toNat).Nodup:=nodup_map_inj (crowd_nodup h) fun x hx y hy e=>by
  refine Classical.byContradiction fun hne=>?_
  obtain⟨_,j,hj,hc⟩:=conflict_iff.1 (crowd_clash h hx hy hne)
  refine right_clash h hj (h5 j hj) hne hc ?_
  have a:=hb x (hcv x hx)
  have b:=hb y (hcv y hy)
  omega
 have:=nodup_below regs.toNat _ hn fun r hr=>by
  obtain⟨x,hx,rfl⟩:=List.mem_map.1 hr
  have:=hb x (hcv x hx)
  omega
 rw [List.length_map] at this
 unfold width
 omega
theorem alloc_regs (h:Fo F) (hv:(vars F).length≤20000):(alloc F).2=width F:=by
 have h1:=(alloc_spec h).most
 have h2:=right_width h (alloc_right h rfl hv)
 omega
end RG
namespace RG
open RF
def Held (F:List Nd) (reg:Nm→Int) (held:Int→Int) (i:Nat):Prop:=∀ x,lv F i x=true→held (reg x)=(place F x:Nat)
def HeldK (F:List Nd) (reg:Nm→Int) (held:Int→Int) (b k:Nat):Prop:=(∀ x,cross F b x=true→held (reg x)=(place F x:Nat))∧∀ j x,j<k→(nd F b).binds[j]?=some x→held (reg x)=(place F x:Nat)
theorem heldK_set {F:List Nd}{reg:Nm→Int}{held held':Int→Int}{b k:Nat}{x:Nm}(h:Fo F) (hb:b<F.length) (hr:rightAt F reg b=true) (hk:HeldK F reg held b k) (hx:(nd F b).binds[k]?=some x)
  (he:∀ r,held' r=if r=reg x then ((place F x:Nat):Int) else held r):HeldK F reg held' b (k+1):=by
 have hA:=apI_end.1 hr
 have hkl:=(List.getElem?_eq_some_iff.1 hx).1
 obtain⟨a1,a2⟩:=hA k x hkl hx
 refine⟨fun y hy=>?_,fun j y hj hy=>?_⟩
 ·have hyl:=cross_iff.1 hy
  rw [he,if_neg (a1 y (mem_named.2 ⟨h.live_vars hb hyl.1,hy⟩))]
  exact hk.1 y hy
 by_cases e:j=k
 ·subst e
  rw [hx] at hy
  obtain rfl:=Option.some.inj hy
  rw [he,if_pos rfl]
 rw [he,if_neg (a2 j y (by omega) hy)]
 exact hk.2 j y (by omega) hy
theorem heldK_end {F:List Nd}{reg:Nm→Int}{held:Int→Int}{b:Nat}(hk:HeldK F reg held b (nd F b).binds.length):Held F reg held b:=fun x hx=>by
 by_cases hm:x∈(nd F b).binds
 ·obtain⟨j,hj⟩:=List.getElem?_of_mem hm
  exact hk.2 j x (List.getElem?_eq_some_iff.1 hj).1 hj
 exact hk.1 x (cross_iff.2 ⟨hx,hm⟩)
theorem held_next {F:List Nd}{reg:Nm→Int}{held:Int→Int}{i b:Nat}(h:Fo F) (hi:i<F.length) (hb:b∈(nd F i).next) (hh:Held F reg held i):HeldK F reg held b 0 :=
 ⟨fun x hx=>hh x (by rw [h.live i x hi,Bool.or_eq_true];exact .inr (List.any_eq_true.2 ⟨b,hb,hx⟩)),fun j x hj=>absurd hj (Nat.not_lt_zero _)⟩
theorem held_start {F:List Nd}{reg:Nm→Int}{held:Int→Int}(h:Fo F):HeldK F reg held 0 0 :=
 ⟨fun x hx=>absurd (h.root x (cross_iff.1 hx).1) (cross_iff.1 hx).2,fun j x hj=>absurd hj (Nat.not_lt_zero _)⟩
theorem held_uses {F:List Nd}{reg:Nm→Int}{held:Int→Int}{i:Nat}(h:Fo F) (hi:i<F.length) (hh:Held F reg held i) {x:Nm}(hx:x∈usesAt F i):held (reg x)=(place F x:Nat) :=
 hh x (by rw [h.live i x hi,zx.2 (mem_usesAt.1 hx)];rfl)
end RG
