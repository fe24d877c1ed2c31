/- Part. -/
import Derived.Test.YtnkahlloahgifaaGreatDoorVPr
set_option maxHeartbeats 16000000
set_option maxRecDepth 100000
set_option linter.unusedSimpArgs false
set_option linter.unusedVariables false
namespace RG
variable {F:List Nd}
theorem apart_iff {reg:Nm→Int}:∀ {xs:List Nm}{taken:List Int},apart F reg xs taken=true↔(∀ x∈xs,reg x∉taken)∧(xs.map reg).Nodup
 | [],taken=>by simp [apart]
 | x :: r,taken=>by
  rw [apart,Bool.and_eq_true,apart_iff,List.map_cons,List.nodup_cons]
  have h0:(!(taken.any fun t=>decide (t=reg x)))=true↔reg x∉taken:=by
   rw [Bool.not_eq_true',List.any_eq_false];simp only [decide_eq_true_eq];exact⟨fun h hm=>h _ hm rfl,fun h t ht e=>h (e ▸ ht)⟩
  rw [h0]
  constructor
  ·rintro ⟨a,b,c⟩
   refine⟨fun y hy=>?_,fun hm=>?_,c⟩
   ·rcases List.mem_cons.1 hy with rfl | hy
    ·exact a
    exact fun hm=>b y hy (List.mem_append_left _ hm)
   obtain⟨y,hy,e⟩:=List.mem_map.1 hm
   exact b y hy (List.mem_append_right _ (by rw [e];simp))
  rintro ⟨a,b,c⟩
  refine⟨a x List.mem_cons_self,fun y hy hm=>?_,c⟩
  rcases List.mem_append.1 hm with hm | hm
  ·exact a y (List.mem_cons_of_mem _ hy) hm
  simp only [List.mem_singleton] at hm
  exact b (List.mem_map.2 ⟨y,hy,hm⟩)
def regOf (F:List Nd) (vs:List (Nm×Int)) (x:Nm):Int:=(vs.getD (place F x) (⟨#[]⟩,0)).2
theorem right_iff {params:Nat}{regs:Int}{vs:List (Nm×Int)}:right F params regs vs=true↔0≤regs∧regs≤20000∧vs.length=(vars F).length ∧
  (∀ i x r,vs[i]?=some (x,r)→(vars F)[i]?=some x∧0≤r∧r<regs∧(i<params→r=i))∧∀ i,i<F.length→rightAt F (regOf F vs) i=true:=by
 unfold right
 simp only [Bool.and_eq_true,decide_eq_true_eq,beq_iff_eq,List.all_eq_true,List.mem_range,Bool.or_eq_true]
 constructor
 ·rintro ⟨⟨⟨⟨h1,h2⟩,h3⟩,h4⟩,h5⟩
  refine⟨h1,h2,h3,fun i x r hx=>?_,h5⟩
  have hi:=(List.getElem?_eq_some_iff.1 hx).1
  obtain⟨⟨⟨a,b⟩,c⟩,d⟩:=h4 i hi
  have hg:vs.getD i (⟨#[]⟩,0)=(x,r):=by rw [List.getD_eq_getElem?_getD,hx];rfl
  rw [hg] at a b c d
  simp only [] at a b c d
  refine⟨?_,b,c,fun hp=>?_⟩
  ·rw [List.getD_eq_getElem?_getD,List.getElem?_eq_getElem (by omega)] at a
   rw [List.getElem?_eq_getElem (by omega),a];rfl
  rcases d with d | d
  ·omega
  exact d
 rintro ⟨h1,h2,h3,h4,h5⟩
 refine⟨⟨⟨⟨h1,h2⟩,h3⟩,fun i hi=>?_⟩,h5⟩
 have hx:vs[i]?=some ((vs[i]'hi).1,(vs[i]'hi).2):=by rw [List.getElem?_eq_getElem hi]
 obtain⟨a,b,c,d⟩:=h4 i _ _ hx
 have hg:vs.getD i (⟨#[]⟩,0)=((vs[i]'hi).1,(vs[i]'hi).2):=by rw [List.getD_eq_getElem?_getD,hx];rfl
 rw [hg]
 refine⟨⟨⟨?_,b⟩,c⟩,?_⟩
 ·rw [List.getD_eq_getElem?_getD,a];rfl
 by_cases hp:params≤i
 ·exact .inl hp
 exact .inr (d (by omega))
end RG
namespace RG
def OkAt (F:List Nd) (params:Nat) (regs:Int) (vs:List (Nm×Int)) (i:Nat):Prop :=
 ∀ x r,vs[i]?=some (x,r)→(vars F)[i]?=some x∧0≤r∧r<regs∧(i<params→r=i)
theorem right_done {F:List Nd}{params:Nat}{regs:Int}{vs:List (Nm×Int)}(h1:0≤regs) (h2:regs≤20000) (h3:vs.length=(vars F).length) (h4:∀ i,i<vs.length→OkAt F params regs vs i)
  (h5:∀ i,i<F.length→rightAt F (regOf F vs) i=true):right F params regs vs=true :=
 right_iff.2 ⟨h1,h2,h3,fun i x r h=>h4 i (List.getElem?_eq_some_iff.1 h).1 x r h,h5⟩
theorem right_not {F:List Nd}{params:Nat}{regs:Int}{vs:List (Nm×Int)}(h:¬ (0≤regs∧regs≤20000∧vs.length=(vars F).length ∧
  (∀ i x r,vs[i]?=some (x,r)→(vars F)[i]?=some x∧0≤r∧r<regs∧(i<params→r=i))∧∀ i,i<F.length→rightAt F (regOf F vs) i=true)):right F params regs vs=false:=by
 cases hq:right F params regs vs with
 | false=>rfl
 | true=>exact absurd (right_iff.1 hq) h
theorem apart_in {F:List Nd}{reg:Nm→Int}{x:Nm}{r:List Nm}{T:List Int}(h:reg x∈T):apart F reg (x :: r) T=false:=by
 rw [apart]
 have:(T.any fun t=>decide (t=reg x))=true:=List.any_eq_true.2 ⟨_,h,by simp⟩
 rw [this];rfl
theorem apart_out {F:List Nd}{reg:Nm→Int}{x:Nm}{r:List Nm}{T:List Int}(h:reg x∉T):apart F reg (x :: r) T=apart F reg r (T++[reg x]):=by
 rw [apart]
 have:(T.any fun t=>decide (t=reg x))=false:=by
  cases hq:T.any fun t=>decide (t=reg x) with
  | false=>rfl
  | true =>
   obtain⟨t,ht,e⟩:=List.any_eq_true.1 hq
   have:t=reg x:=by simpa using e
   exact absurd (this ▸ ht) h
 rw [this];rfl
def TxI (F:List Nd) (i:Nat) (reg:Nm→Int) (todo:Int→Bool):List Int:=((named F (cross F i)).filter fun x => !todo (place F x:Nat)).map reg
theorem TxI_start (F:List Nd) (i:Nat) (reg:Nm→Int) (todo:Int→Bool) (h:∀ x∈named F (cross F i),todo (place F x:Nat)=true):TxI F i reg todo=[]:=by
 unfold TxI
 rw [List.filter_eq_nil_iff.2 (fun x hx=>by rw [h x hx];decide)];rfl
theorem TxI_end (F:List Nd) (i:Nat) (reg:Nm→Int) (todo:Int→Bool) (h:∀ k,todo k=false):TxI F i reg todo=(named F (cross F i)).map reg:=by
 unfold TxI
 rw [List.filter_eq_self.2 (fun x hx=>by rw [h];rfl)]
theorem TxI_len (F:List Nd) (i:Nat) (reg:Nm→Int) (todo:Int→Bool):(TxI F i reg todo).length≤(vars F).length:=by
 unfold TxI
 rw [List.length_map]
 exact Nat.le_trans (List.length_filter_le _ _) (List.length_filter_le _ _)
theorem TxI_step {F:List Nd}{i:Nat}{reg:Nm→Int}{todo:Int→Bool}{y:Nm}(hy:y∈vars F) (hc:cross F i y=true) (ht:todo (place F y:Nat)=true) (t:Int) :
  t∈TxI F i reg todo++[reg y]↔t∈TxI F i reg fun k=>todo k && !decide (k=(place F y:Nat)):=by
 unfold TxI
 simp only [List.mem_append,List.mem_map,List.mem_filter,List.mem_singleton]
 constructor
 ·rintro (⟨x,⟨hx,h1⟩,rfl⟩ | rfl)
  ·exact⟨x,⟨hx,by simp at h1;simp [h1]⟩,rfl⟩
  exact⟨y,⟨mem_named.2 ⟨hy,hc⟩,by simp⟩,rfl⟩
 rintro ⟨x,⟨hx,h1⟩,rfl⟩
 by_cases e:place F x=place F y
 ·right;rw [place_inj (mem_named.1 hx).1 hy e]
 left
 have h2:todo (place F x:Nat)=false:=by
  simp at h1
  rcases h1 with h1 | h1
  ·exact h1
  exact absurd (by exact_mod_cast h1) e
 exact⟨x,⟨hx,by rw [h2];rfl⟩,rfl⟩
theorem regOf_at {F:List Nd}{vs:List (Nm×Int)}{x y:Nm}{r:Int}(h:vs[place F y]?=some (x,r)):regOf F vs y=r:=by
 unfold regOf
 rw [List.getD_eq_getElem?_getD,h];rfl
end RG
namespace RG
open RF
def ApI (F:List Nd) (reg:Nm→Int) (i k:Nat):Prop:=∀ j x,j<k→(nd F i).binds[j]?=some x→(∀ y∈named F (cross F i),reg y≠reg x)∧∀ m y,m<j→(nd F i).binds[m]?=some y→reg y≠reg x
theorem nodup_at {α:Type}{l:List α}:l.Nodup↔∀ (m j:Nat) (a b:α),m<j→l[m]?=some a→l[j]?=some b→a≠b:=by
 unfold List.Nodup
 rw [List.pairwise_iff_getElem]
 constructor
 ·intro h m j a b hm ha hb
  obtain⟨h1,rfl⟩:=List.getElem?_eq_some_iff.1 ha
  obtain⟨h2,rfl⟩:=List.getElem?_eq_some_iff.1 hb
  exact h m j h1 h2 hm
 intro h m j h1 h2 hm
 exact h m j _ _ hm (List.getElem?_eq_getElem h1) (List.getElem?_eq_getElem h2)
theorem apI_end {F:List Nd}{reg:Nm→Int}{i:Nat}:rightAt F reg i=true↔ApI F reg i (nd F i).binds.length:=by
 unfold rightAt
 rw [apart_iff,nodup_at]
 constructor
 ·rintro ⟨h1,h2⟩ j x hj hx
  refine⟨fun y hy e=>h1 x (List.mem_of_getElem? hx) (List.mem_map.2 ⟨y,hy,e⟩),fun m y hm hy=>?_⟩
  exact h2 m j (reg y) (reg x) hm (by rw [List.getElem?_map,hy];rfl) (by rw [List.getElem?_map,hx];rfl)
 intro h
 refine⟨fun x hx hm=>?_,fun m j a b hm ha hb=>?_⟩
 ·obtain⟨y,hy,e⟩:=List.mem_map.1 hm
  obtain⟨j,hj⟩:=List.getElem?_of_mem hx
  exact(h j x (List.getElem?_eq_some_iff.1 hj).1 hj).1 y hy e
 rw [List.getElem?_map] at ha hb
 cases h1:(nd F i).binds[m]? with
 | none=>rw [h1] at ha;cases ha
 | some y =>
  cases h2:(nd F i).binds[j]? with
  | none=>rw [h2] at hb;cases hb
  | some x =>
   rw [h1] at ha
   rw [h2] at hb
   obtain rfl:=Option.some.inj ha
   obtain rfl:=Option.some.inj hb
   exact(h j x (List.getElem?_eq_some_iff.1 h2).1 h2).2 m y hm h1
end RG
