/- Part. -/
import Derived.Test.YtnkahlloahgifaaGreatDoorVPl
set_option linter.unusedSimpArgs false
set_option linter.unusedVariables false
namespace RG
def OkAt (F:List Nd) (params:Nat) (regs:Int) (vs:List (Nm×Int)) (i:Nat):Prop :=
 ∀ x r,vs[i]?=some (x,r)→(vars F)[i]?=some x∧0≤r∧r<regs∧(i<params→r=i)
theorem right_done {F:List Nd}{params:Nat}{regs:Int}{vs:List (Nm×Int)}(h1:0≤regs) (h2:regs≤20000) (h3:vs.length=(vars F).length) (h4:∀ i,i<vs.length→OkAt F params regs vs i)
  (h5:∀ i,i<F.length→rightAt F (regOf F vs) i=true):right F params regs vs=true :=
 right_iff.2 ⟨h1,h2,h3,fun i x r h=>h4 i (List.getElem?_eq_some_iff.1 h).1 x r h,h5⟩
theorem right_not {F:List Nd}{params:Nat}{regs:Int}{vs:List (Nm×Int)}(h:¬ (0≤regs∧regs≤20000∧vs.length=(vars F).length ∧
  (∀ i x r,vs[i]?=some (x,r)→(vars F)[i]?=some x∧0≤r∧r<regs∧(i<params→r=i))∧∀ i,i<F.length→rightAt F (regOf F vs) i=true)):right F params regs vs=false:=by
 cases hq:right F params regs vs with
 | false=>rfl
 | true=>exact absurd (right_iff.1 hq) h
theorem apart_in {F:List Nd}{reg:Nm→Int}{x:Nm}{r:List Nm}{T:List Int}(h:reg x∈T):apart F reg (x :: r) T=false:=by
 rw [apart]
 have:(T.any fun t=>decide (t=reg x))=true:=List.any_eq_true.2 ⟨_,h,by simp⟩
 rw [this];rfl
theorem apart_out {F:List Nd}{reg:Nm→Int}{x:Nm}{r:List Nm}{T:List Int}(h:reg x∉T):apart F reg (x :: r) T=apart F reg r (T++[reg x]):=by
 rw [apart]
 have:(T.any fun t=>decide (t=reg x))=false:=by
  cases hq:T.any fun t=>decide (t=reg x) with
  | false=>rfl
  | true =>
   obtain⟨t,ht,e⟩:=List.any_eq_true.1 hq
   have:t=reg x:=by simpa using e
   exact absurd (this ▸ ht) h
 rw [this];rfl
def TxI (F:List Nd) (i:Nat) (reg:Nm→Int) (todo:Int→Bool):List Int:=((named F (cross F i)).filter fun x => !todo (place F x:Nat)).map reg
theorem TxI_start (F:List Nd) (i:Nat) (reg:Nm→Int) (todo:Int→Bool) (h:∀ x∈named F (cross F i),todo (place F x:Nat)=true):TxI F i reg todo=[]:=by
 unfold TxI
 rw [List.filter_eq_nil_iff.2 (fun x hx=>by rw [h x hx];decide)];rfl
theorem TxI_end (F:List Nd) (i:Nat) (reg:Nm→Int) (todo:Int→Bool) (h:∀ k,todo k=false):TxI F i reg todo=(named F (cross F i)).map reg:=by
 unfold TxI
 rw [List.filter_eq_self.2 (fun x hx=>by rw [h];rfl)]
theorem TxI_len (F:List Nd) (i:Nat) (reg:Nm→Int) (todo:Int→Bool):(TxI F i reg todo).length≤(vars F).length:=by
 unfold TxI
 rw [List.length_map]
 exact Nat.le_trans (List.length_filter_le _ _) (List.length_filter_le _ _)
theorem TxI_step {F:List Nd}{i:Nat}{reg:Nm→Int}{todo:Int→Bool}{y:Nm}(hy:y∈vars F) (hc:cross F i y=true) (ht:todo (place F y:Nat)=true) (t:Int) :
  t∈TxI F i reg todo++[reg y]↔t∈TxI F i reg fun k=>todo k && !decide (k=(place F y:Nat)):=by
 unfold TxI
 simp only [List.mem_append,List.mem_map,List.mem_filter,List.mem_singleton]
 constructor
 ·rintro (⟨x,⟨hx,h1⟩,rfl⟩ | rfl)
  ·exact⟨x,⟨hx,by simp at h1;simp [h1]⟩,rfl⟩
  ·exact⟨y,⟨mem_named.2 ⟨hy,hc⟩,by simp⟩,rfl⟩
 ·rintro ⟨x,⟨hx,h1⟩,rfl⟩
  by_cases e:place F x=place F y
  ·right;rw [place_inj (mem_named.1 hx).1 hy e]
  ·left
   have h2:todo (place F x:Nat)=false:=by
    simp at h1
    rcases h1 with h1 | h1
    ·exact h1
    ·exact absurd (by exact_mod_cast h1) e
   exact⟨x,⟨hx,by rw [h2];rfl⟩,rfl⟩
theorem regOf_at {F:List Nd}{vs:List (Nm×Int)}{x y:Nm}{r:Int}(h:vs[place F y]?=some (x,r)):regOf F vs y=r:=by
 unfold regOf
 rw [List.getD_eq_getElem?_getD,h];rfl
end RG
