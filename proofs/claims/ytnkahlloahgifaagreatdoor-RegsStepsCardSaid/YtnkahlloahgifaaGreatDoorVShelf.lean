/- Part. -/
import Derived.Test.YtnkahlloahgifaaGreatDoorVCb
import Derived.Test.YtnkahlloahgifaaGreatDoorProg
import Derived.WalkKit
import Derived.Below
import Derived.Lib.Hide
import Derived.BigQuiet
import Derived.Deep.QuietTactic
import Derived.Deep.LoopGhost
import Derived.Handy
import Derived.Shelf.Strings.Builder1
import Derived.Shelf.Strings.Builder2
import Derived.Shelf.Small.Bits
import Derived.Shelf.Small.Strs
import Derived.Shelf.Small.Wraps
import Derived.Shelf.Strings.BuilderF
import Derived.Shelf.Strings.BuilderK
import Derived.Shelf.Utf8.RuneCount
import Derived.Shelf.Strconv.Atoi
import Derived.Shelf.Strconv.Itoa0
import Derived.Shelf.Strconv.Itoa1
import Derived.Shelf.LaysM
import Derived.Shelf.Strconv.Itoa2
import Derived.Shelf.Strconv.Itoa3
import Derived.Shelf.Strconv.AtoiErrFast
import Derived.Shelf.Strconv.ParseIntEmpty
import Derived.Shelf.Strconv.AtoiFail
import Derived.Shelf.Strconv.Clone
import Derived.Shelf.Strconv.SyntaxError
import Derived.Shelf.LaysC
import Derived.Shelf.Strconv.ToError
import Derived.Shelf.Strconv.Lower
import Derived.Shelf.Strconv.ParseUint10
import Derived.Shelf.Strconv.ParseUint10Empty
import Derived.Shelf.Strconv.ParseUint10Any
import Derived.Shelf.Strconv.ParseInt10
import Derived.Shelf.Strconv.AtoiLong
import Derived.Shelf.Strconv.AtoiInnerAll
import Derived.Shelf.Strconv.RangeError
import Derived.Shelf.Strconv.ToErrorRange
import Derived.Shelf.Strconv.AtoiAll
import Derived.Shelf.Strconv.ErrVarAll
import Derived.Shelf.Strings.Search1
import Derived.Shelf.Strings.Search2
import Derived.Shelf.Strings.Search3
import Derived.Shelf.Strings.Count
import Derived.Shelf.Strings.Shaped
import Derived.Shelf.Sort.Plain
import Derived.Shelf.Strings.Prefix
import Derived.Shelf.Strings.Split
import Derived.Shelf.Strings.Replace
import Derived.Shelf.Strings.SplitShaped
import Derived.Shelf.Unicode.Decode
import Derived.Shelf.Strings.RuneCount
import Derived.Shelf.Unicode.DecodeSlow
import Derived.Shelf.Unicode.DecodeAny
import Derived.Shelf.Slices.Turned
import Derived.Ground.Names2Prog
import Derived.Shelf.Slices.SearchI
set_option linter.unusedSimpArgs false
set_option linter.unusedVariables false
namespace Go.Proofs.YtnkahlloahgifaaGreatDoor
open Go.RowKit RG Go.Maps
def VarsAt (w:World) (v:Value) (l:List (Nm×Int)):Prop :=
 ∃ (ad:Option Addr) (c:Nat),v = .slice ad l.length c∧(0<l.length→∃ g o,ad=some ⟨g,o,none⟩∧∀ (i:Nat) m,l[i]?=some m→w.cell? ⟨g,o+i*2,none⟩=some (.string m.1)∧w.cell? ⟨g,o+i*2+1,none⟩=some (.int .i64 m.2))
theorem VarsAt.kept {w w':World}{v:Value}{l:List (Nm×Int)}(h:VarsAt w v l) (hk:Kept w w'):VarsAt w' v l:=by
 obtain⟨ad,c,e,h1⟩:=h
 exact⟨ad,c,e,fun h0=>by obtain⟨g,o,e2,hat⟩:=h1 h0;exact⟨g,o,e2,fun i m hi=>⟨hk _ _ (hat i m hi).1,hk _ _ (hat i m hi).2⟩⟩⟩
def regFind (l:List (Nm×Int)) (x:Nm):Option Int:=(l.find? fun p=>decide (p.1=x)).map (·.2)
def RgP (w:World) (r:Option Int) (e:Ending) (w':World):Prop:=Below w.heap.size w w'∧e = .returned (.tuple #[.int .i64 (r.getD 0),.bool r.isSome])
theorem bytes_beq (a b:Nm):(a.toList==b.toList)=decide (a=b):=by
 rw [Bool.eq_iff_iff,beq_iff_eq,decide_eq_true_eq]
 exact⟨fun h=>WideShapes.bytes_inj (by rw [Lib.toList_data,Lib.toList_data] at h;exact h),fun h=>by rw [h]⟩
set_option maxHeartbeats 1000000 in
set_option maxRecDepth 20000 in
theorem reg_any {w:World}{n0:Int}{v:Value}{l:List (Nm×Int)}(x:Nm) (h:VarsAt w v l) (hl:l.length≤1000000000000):Calls Tryz.prog 44 #[.agg #[.int .i64 n0,v],.string x] w (RgP w (regFind l x)):=by
 obtain⟨ad,c,rfl,hat⟩:=h
 have HAT:=zh hat
 obtain⟨n,hn⟩:∃ n,n=l.length:=⟨_,rfl⟩
 rw [← hn] at hl ⊢
 have HN:=zh hn
 have hnz:(n:Int)≤1000000000000:=by omega
 obtain⟨r,hr⟩:∃ r,r=regFind l x:=⟨_,rfl⟩
 rw [← hr]
 have HR:=zh hr
 clear hat hn hl hr
 go_enter Tryz.func44,Tryz.ntmps44
 go_wp2_with fail
 go_loopw [11] (fun iv wr=>∃ k:Nat,k≤n∧iv = .int .i64 k∧Below w.heap.size w wr∧w.heap.size<wr.heap.size∧r=regFind (l.drop k) x) (fun iv _=>n - (intOf iv).toNat)
 case atStart=>exact⟨0,Nat.zero_le _,rfl,(Below.refl _ _).alloc (Nat.le_refl _) _,by simp,HR.out⟩
 case round =>
  obtain⟨k,hk,rfl,hb,hs,hq⟩:=hrel
  have HK:=zh hk
  have HB:=zh hb
  have HQ:=zh hq
  have HS:=zh hs
  clear hk hb hq hs
  by_cases hlt:k<n
  ·obtain⟨g,o,rfl,hat⟩:=HAT.out (by have:=HN.out;omega)
   obtain⟨⟨y,rg⟩,hx⟩:∃ m,l[k]?=some m:=⟨_,List.getElem?_eq_getElem (by have:=HN.out;omega)⟩
   obtain⟨y0,y1⟩:=hat k _ hx
   have y0:=kept_below HB.out _ _ y0
   have y1:=kept_below HB.out _ _ y1
   simp only [] at y0 y1
   have HX:=zh hx
   have HLT:=zh hlt
   have hlz:(k:Int)<n:=by omega
   have VB:Hid (∀ o,Below w.heap.size w (wr.alloc o)∧w.heap.size<(wr.alloc o).heap.size):=fun o=>⟨HB.out.alloc HB.out.size _,by have:=HS.out;rw [World.size_alloc];omega⟩
   have DR:Hid (l.drop k=(y,rg) :: l.drop (k+1)):=by
    show _=_
    have hk:=(List.getElem?_eq_some_iff.1 hx).1
    rw [List.getElem?_eq_getElem hk,Option.some.injEq] at hx
    rw [List.drop_eq_getElem_cons hk,hx]
   clear hat hx hlt
   by_cases hy:y=x
   ·have E2:Hid (r=some rg):=by show _=_;rw [HQ.out,DR.out];unfold regFind;rw [List.find?_cons_of_pos (by simp [hy])];rfl
    have d1:(y.toList==x.toList)=true:=by rw [bytes_beq];simp [hy]
    clear hy
    go_wp2_with fail
    go_ret2
    exact⟨(VB.out _).1,by rw [E2.out];rfl⟩
   ·have E2:Hid (r=regFind (l.drop (k+1)) x):=by show _=_;rw [HQ.out,DR.out];unfold regFind;rw [List.find?_cons_of_neg (by simp [hy])]
    have d1:(y.toList==x.toList)=false:=by rw [bytes_beq];simp [hy]
    clear hy
    go_wp2_with fail
    go_roundw
    case rel=>exact⟨k+1,HLT.out,by go_num,(VB.out _).1,(VB.out _).2,E2.out⟩
    case measure=>have:=HLT.out;simp [intOf];omega
  ·have hlz:(n:Int)≤k:=by omega
   have E2:Hid (r=none):=by
    show _=_
    have hkl:l.length≤k:=by have:=HN.out;omega
    rw [HQ.out,List.drop_of_length_le hkl]
    rfl
   clear hlt
   go_wp2_with fail
   go_ret2
   exact⟨HB.out,by rw [E2.out];rfl⟩
def StP (w:World) (b:Bool) (e:Ending) (w':World):Prop:=Below w.heap.size w w'∧e = .returned (.bool b)
theorem StrsAt.cells {w:World}{v:Value}{ns:List Nm}(h:StrsAt w v ns):∃ ad c,v = .slice ad ns.length c∧(0<ns.length→∃ g o,ad=some ⟨g,o,none⟩∧∀ (i:Nat) x,ns[i]?=some x→w.cell? ⟨g,o+i,none⟩=some (.string x)):=by
 obtain⟨-,ad,c,rfl,hat⟩:=h
 exact⟨ad,c,rfl,fun h0=>by obtain⟨g,o,e,h1⟩:=hat h0;exact⟨g,o,e,fun i x hi=>h1 i _ (strs_at hi)⟩⟩
set_option maxHeartbeats 1000000 in
set_option maxRecDepth 20000 in
theorem sameTexts_any {w:World}{v u:Value}{a b:List Nm}(ha:StrsAt w v a) (hb:StrsAt w u b) (hl:a.length≤1000000000000):Calls Tryz.prog 18 #[v,u] w (StP w (decide (a=b))):=by
 obtain⟨aa,ac,rfl,hat⟩:=ha.cells
 obtain⟨ba,bc,rfl,hbt⟩:=hb.cells
 have HAT:=zh hat
 have HBT:=zh hbt
 obtain⟨n,hn⟩:∃ n,n=a.length:=⟨_,rfl⟩
 obtain⟨m,hm⟩:∃ m,m=b.length:=⟨_,rfl⟩
 obtain⟨ans,hans⟩:∃ r,r=decide (a=b):=⟨_,rfl⟩
 rw [← hn] at hl ⊢
 rw [← hm,← hans]
 have HN:=zh hn
 have HM:=zh hm
 have HA:=zh hans
 have hnz:(n:Int)≤1000000000000:=by omega
 clear ha hb hat hbt hn hl hans hm
 by_cases hnm:n=m
 ·subst hnm
  have dn:((n:Int) != n)=false:=by simp
  go_enter Tryz.func18,Tryz.ntmps18
  go_wp2_with fail
  go_loopw [5] (fun iv wr=>∃ k:Nat,k≤n∧iv = .int .i64 k∧Below w.heap.size w wr∧a.take k=b.take k) (fun iv _=>n - (intOf iv).toNat)
  case atStart=>exact⟨0,Nat.zero_le _,rfl,Below.refl _ _,rfl⟩
  case round =>
   obtain⟨k,hk,rfl,hb,hq⟩:=hrel
   have HK:=zh hk
   have HB:=zh hb
   have HQ:=zh hq
   clear hk hb hq
   by_cases hlt:k<n
   ·obtain⟨g,o,rfl,hat⟩:=HAT.out (by have:=HN.out;omega)
    obtain⟨g2,o2,rfl,hbt⟩:=HBT.out (by have:=HM.out;omega)
    obtain⟨x,hx⟩:∃ x,a[k]?=some x:=⟨_,List.getElem?_eq_getElem (by have:=HN.out;omega)⟩
    obtain⟨y,hy⟩:∃ y,b[k]?=some y:=⟨_,List.getElem?_eq_getElem (by have:=HM.out;omega)⟩
    have y0:=kept_below HB.out _ _ (hat k x hx)
    have y1:=kept_below HB.out _ _ (hbt k y hy)
    have HX:=zh hx
    have HY:=zh hy
    have HLT:=zh hlt
    have hlz:(k:Int)<n:=by omega
    have hk0:(0:Int)≤k:=by omega
    clear hat hbt hx hy hlt
    by_cases hxy:x=y
    ·have d1:(!x.toList==y.toList)=false:=by rw [bytes_beq];simp [hxy]
     have E2:Hid (a.take (k+1)=b.take (k+1)):=by show _=_;rw [List.take_add_one,List.take_add_one,HX.out,HY.out,HQ.out,hxy]
     clear hxy
     go_wp2_with fail
     go_quiet (fail)
     go_wp2_with fail
     go_roundw
     case rel=>exact⟨k+1,HLT.out,by go_num,HB.out.trans (below_drewN _ _ _),E2.out⟩
     case measure=>have:=HLT.out;simp [intOf];omega
    ·have d1:(!x.toList==y.toList)=true:=by rw [bytes_beq];simp [hxy]
     have E2:Hid (ans=false):=by
      show _=_
      rw [HA.out,decide_eq_false_iff_not]
      intro e
      have h1:=HX.out
      rw [e,HY.out,Option.some.injEq] at h1
      exact hxy h1.symm
     clear hxy
     go_wp2_with fail
     go_quiet (fail)
     go_wp2_with fail
     go_ret
     exact⟨HB.out.trans (below_drewN _ _ _),by rw [E2.out];rfl⟩
   ·have hlz:(n:Int)≤k:=by omega
    have E2:Hid (ans=true):=by
     show _=_
     rw [HA.out,decide_eq_true_eq]
     have h1:=HQ.out
     rwa [List.take_of_length_le (by have:=HN.out;omega),List.take_of_length_le (by have:=HM.out;omega)] at h1
    clear hlt
    go_wp2_with fail
    go_ret
    exact⟨HB.out,by rw [E2.out];rfl⟩
 ·have dn:((n:Int) != m)=true:=by simp;omega
  have E2:Hid (ans=false):=by
   show _=_
   rw [HA.out,decide_eq_false_iff_not]
   intro e
   exact hnm (by rw [HN.out,HM.out,e])
  clear hnm
  go_enter Tryz.func18,Tryz.ntmps18
  go_wp2_with fail
  go_ret
  exact⟨Below.refl _ _,by rw [E2.out];rfl⟩
end Go.Proofs.YtnkahlloahgifaaGreatDoor

namespace Go.Proofs.YtnkahlloahgifaaGreatDoor.Lx.LX
def small (c:Nat):Bool:=decide (97≤c)&&decide (c≤122)
def great (c:Nat):Bool:=decide (65≤c)&&decide (c≤90)
def digit (c:Nat):Bool:=decide (48≤c)&&decide (c≤57)
def part (c:Nat):Bool:=small c||great c||digit c||c==95
def space (c:Nat):Bool:=c==32||c==9||c==10||c==13
def run (p:Nat→Bool):List Nat→Nat
 | []=>0
 | c :: t=>if p c then run p t+1 else 0
inductive CR where
 | fin (n:Nat)
 | deep (n:Nat)
 | never
def cmt:List Nat→Nat→Nat→CR
 | [],_,_ => .never
 | [_],_,_ => .never
 | a :: b :: t,d,n =>
  if a=40∧b=42 then (if 100≤d then .deep n else cmt t (d+1) (n+2))
  else if a=42∧b=41 then (if d=1 then .fin (n+2) else cmt t (d - 1) (n+2))
  else cmt (b :: t) d (n+1)
def nat10:Nat→Nat→List Nat
 | 0,_=>[]
 | f+1,n=>if n<10 then [48+n] else nat10 f (n / 10)++[48+n % 10]
def digs (n:Int):List Nat:=if n<0 then 126 :: nat10 30 n.natAbs else nat10 30 n.natAbs
def mag (l:List Nat):Nat:=l.foldl (fun a c=>10*a+(c - 48)) 0
def num (l:List Nat):Option Int :=
 let v:Int:=match l with | 126 :: t => - (mag t:Int) | _=>(mag l:Int)
 if -9223372036854775808≤v∧v≤9223372036854775807∧digs v=l then some v else none
def words:List (List Nat) :=
 [[97,110,100],[99,97,115,101],[100,97,116,97],[101,108,115,101],[101,110,100],[102,110],[102,117,110],[105,102],[105,110],[105,110,112,117,116],[108,101,116],[111,102],[111,117,116,112,117,116],[116,104,101,110],[118,97,108]]
def signs:List Nat:=[40,41,44,59,58,124,61,60,43,45,42,47,37,95]
inductive TR where
 | tok (kind:Nat) (num:Int) (n:Nat)
 | bad (e:Nat)
def made (k n:Nat):TR:=if 24<n then .bad 2 else .tok k 0 n
def nameLen (l:List Nat):Nat :=
 let n:=run part l
 match l.drop n with
 | []=>n
 | c :: t=>if c=39∧0<run digit t then n+1+run digit t else n
def named (k:Nat) (l:List Nat):TR :=
 match made k (nameLen l) with
 | .tok k v n => .tok (if words.contains (l.take n) then 5 else k) v n
 | .bad e => .bad e
def number (l:List Nat) (n:Nat):TR :=
 let d:=n+run digit (l.drop n)
 match num (l.take d) with
 | none => .bad 13
 | some v =>
  match l.drop d with
  | [] => .tok 1 v d
  | x :: _=>if part x||x==39 then .bad 13 else .tok 1 v d
def head0 (l:List Nat):Nat:=l.headD 0
def token (l:List Nat):TR :=
 match l with
 | [] => .bad 11
 | c :: t =>
  if digit c||c==126 then number l (if c=126 then 1 else 0)
  else if small c then named 2 l
  else if great c then named 3 l
  else if c=39∧small (head0 t) then made 4 (1+run part t)
  else if (c=61∨c=45)∧head0 t=62 then .tok 6 0 2
  else if signs.contains c then .tok 6 0 1
  else .bad 11
structure Tok where
 kind:Nat
 num:Int
 text:List Nat
 place:Nat
inductive Res where
 | ok (l:List Tok) (cs:List (Nat×Nat))
 | bad (place e:Nat)
def Res.tok (t:Tok):Res→Res
 | .ok l cs => .ok (t :: l) cs
 | .bad p e => .bad p e
def Res.cmt (c:Nat×Nat):Res→Res
 | .ok l cs => .ok l (c :: cs)
 | .bad p e => .bad p e
def opens:List Nat→Bool
 | 40 :: 42 :: _=>true
 | _=>false
def scanN:Nat→List Nat→Nat→Res
 | 0,_,_ => .ok [] []
 | _+1,[],_ => .ok [] []
 | f+1,c :: t,at' =>
  if space c then scanN f t (at'+1)
  else if opens (c :: t) then
   match cmt (c :: t) 0 0 with
   | .fin n=>(scanN f ((c :: t).drop n) (at'+n)).cmt (at',at'+n)
   | .deep n => .bad (at'+n) 6
   | .never => .bad at' 12
  else
   match token (c :: t) with
   | .tok k v n=>(scanN f ((c :: t).drop n) (at'+n)).tok ⟨k,v,(c :: t).take n,at'⟩
   | .bad e => .bad at' e
def scan (l:List Nat):Res:=scanN l.length l 0
end Go.Proofs.YtnkahlloahgifaaGreatDoor.Lx.LX
namespace Go.Proofs.YtnkahlloahgifaaGreatDoor.Lx
open Go.RowKit
theorem small_any (w:World) (c:Nat):Calls Tryz.prog 151 #[.int .u8 c] w fun e w'=>e = .returned (.bool (LX.small c))∧w'=w:=by
 by_cases h1:97≤c
 ·have k1:(97:Int)≤(c:Int):=by omega
  have e:LX.small c=decide ((c:Int)≤122):=by unfold LX.small;rw [decide_eq_true h1,Bool.true_and];exact decide_eq_decide.2 (by omega)
  rw [e]
  go_enter Tryz.func151,Tryz.ntmps151
  go_wp2
  go_ret
  exact⟨rfl,rfl⟩
 ·have k1:(c:Int)<97:=by omega
  have e:LX.small c=false:=by unfold LX.small;rw [decide_eq_false h1,Bool.false_and]
  rw [e]
  go_enter Tryz.func151,Tryz.ntmps151
  go_wp2
  go_ret
  exact⟨rfl,rfl⟩
theorem great_any (w:World) (c:Nat):Calls Tryz.prog 153 #[.int .u8 c] w fun e w'=>e = .returned (.bool (LX.great c))∧w'=w:=by
 by_cases h1:65≤c
 ·have k1:(65:Int)≤(c:Int):=by omega
  have e:LX.great c=decide ((c:Int)≤90):=by unfold LX.great;rw [decide_eq_true h1,Bool.true_and];exact decide_eq_decide.2 (by omega)
  rw [e]
  go_enter Tryz.func153,Tryz.ntmps153
  go_wp2
  go_ret
  exact⟨rfl,rfl⟩
 ·have k1:(c:Int)<65:=by omega
  have e:LX.great c=false:=by unfold LX.great;rw [decide_eq_false h1,Bool.false_and]
  rw [e]
  go_enter Tryz.func153,Tryz.ntmps153
  go_wp2
  go_ret
  exact⟨rfl,rfl⟩
theorem digit_any (w:World) (c:Nat):Calls Tryz.prog 149 #[.int .u8 c] w fun e w'=>e = .returned (.bool (LX.digit c))∧w'=w:=by
 by_cases h1:48≤c
 ·have k1:(48:Int)≤(c:Int):=by omega
  have e:LX.digit c=decide ((c:Int)≤57):=by unfold LX.digit;rw [decide_eq_true h1,Bool.true_and];exact decide_eq_decide.2 (by omega)
  rw [e]
  go_enter Tryz.func149,Tryz.ntmps149
  go_wp2
  go_ret
  exact⟨rfl,rfl⟩
 ·have k1:(c:Int)<48:=by omega
  have e:LX.digit c=false:=by unfold LX.digit;rw [decide_eq_false h1,Bool.false_and]
  rw [e]
  go_enter Tryz.func149,Tryz.ntmps149
  go_wp2
  go_ret
  exact⟨rfl,rfl⟩
theorem space_any (w:World) (c:Nat):Calls Tryz.prog 145 #[.int .u8 c] w fun e w'=>e = .returned (.bool (LX.space c))∧w'=w:=by
 by_cases h1:c=32
 ·subst h1
  go_enter Tryz.func145,Tryz.ntmps145
  go_wp2
  go_ret
  exact⟨rfl,rfl⟩
 ·by_cases h2:c=9
  ·subst h2
   go_enter Tryz.func145,Tryz.ntmps145
   go_wp2
   go_ret
   exact⟨rfl,rfl⟩
  ·by_cases h3:c=10
   ·subst h3
    go_enter Tryz.func145,Tryz.ntmps145
    go_wp2
    go_ret
    exact⟨rfl,rfl⟩
   ·have k1:((c:Int)==32)=false:=by simp;omega
    have k2:((c:Int)==9)=false:=by simp;omega
    have k3:((c:Int)==10)=false:=by simp;omega
    have e:LX.space c=((c:Int)==13):=by
     unfold LX.space
     rw [show (c==32)=false from by simp [h1],show (c==9)=false from by simp [h2],show (c==10)=false from by simp [h3],Bool.false_or,Bool.false_or,Bool.false_or]
     by_cases h4:c=13
     ·subst h4;rfl
     ·rw [show (c==13)=false from by simp [h4]];symm;simp;omega
    rw [e]
    have h1':¬ (c:Int)=32:=by omega
    have h2':¬ (c:Int)=9:=by omega
    have h3':¬ (c:Int)=10:=by omega
    clear e h1 h2 h3
    go_enter Tryz.func145,Tryz.ntmps145
    go_wp2
    go_ret
    exact⟨rfl,rfl⟩
theorem part_any (w:World) (c:Nat):Calls Tryz.prog 155 #[.int .u8 c] w fun e w'=>e = .returned (.bool (LX.part c))∧w'=w:=by
 unfold LX.part
 have s:=small_any w c
 have g:=great_any w c
 have d:=digit_any w c
 cases hs:LX.small c with
 | true =>
  rw [hs] at s
  go_enter Tryz.func155,Tryz.ntmps155
  go_wp2_with (go_at_call 151;refine s.mono ?_;rintro e w' ⟨rfl,rfl⟩)
  go_ret
  exact⟨rfl,rfl⟩
 | false =>
  rw [hs] at s
  cases hg:LX.great c with
  | true =>
   rw [hg] at g
   go_enter Tryz.func155,Tryz.ntmps155
   go_wp2_with (first
    | (go_at_call 151;refine s.mono ?_;rintro e w' ⟨rfl,rfl⟩)
    | (go_at_call 153;refine g.mono ?_;rintro e w' ⟨rfl,rfl⟩))
   go_ret
   exact⟨rfl,rfl⟩
  | false =>
   rw [hg] at g
   cases hd:LX.digit c with
   | true =>
    rw [hd] at d
    go_enter Tryz.func155,Tryz.ntmps155
    go_wp2_with (first
     | (go_at_call 151;refine s.mono ?_;rintro e w' ⟨rfl,rfl⟩)
     | (go_at_call 153;refine g.mono ?_;rintro e w' ⟨rfl,rfl⟩)
     | (go_at_call 149;refine d.mono ?_;rintro e w' ⟨rfl,rfl⟩))
    go_ret
    exact⟨rfl,rfl⟩
   | false =>
    rw [hd] at d
    go_enter Tryz.func155,Tryz.ntmps155
    go_wp2_with (first
     | (go_at_call 151;refine s.mono ?_;rintro e w' ⟨rfl,rfl⟩)
     | (go_at_call 153;refine g.mono ?_;rintro e w' ⟨rfl,rfl⟩)
     | (go_at_call 149;refine d.mono ?_;rintro e w' ⟨rfl,rfl⟩))
    go_ret
    refine⟨?_,rfl⟩
    show Ending.returned (Value.bool _)=_
    congr 2
    by_cases h:c=95
    ·subst h;rfl
    ·rw [show (c==95)=false from by simp [h]];simp;omega
end Go.Proofs.YtnkahlloahgifaaGreatDoor.Lx

namespace Go.Proofs
open Go.Shelf
def Tryz.lays137_ren:Go.Shelf.Ren:=⟨fun | 137=>156 | 217=>159 | 266=>164 | n=>n,fun | 9=>9 | 5=>5 | 3=>3 | n=>n,fun | n=>n⟩
theorem Tryz.lays137:Go.Proofs.Lays.n137 Tryz.prog Tryz.lays137_ren:={
 mixed:=by kernel_rfl
 f137:=Tryz.func156.trans (congrArg some (by kernel_rfl))
 f217:=Tryz.func159.trans (congrArg some (by kernel_rfl))
 f266:=Tryz.func164.trans (congrArg some (by kernel_rfl))
 t3:=Tryz.underlying3
 a3:=Tryz.isAgg3
 z3:=Tryz.sizeOf3
 v3:=Tryz.zeroValue3
 t5:=Tryz.underlying5
 a5:=Tryz.isAgg5
 z5:=Tryz.sizeOf5
 v5:=Tryz.zeroValue5
 t9:=Tryz.underlying9
 a9:=Tryz.isAgg9
 z9:=Tryz.sizeOf9
 v9:=Tryz.zeroValue9 }
open Go.RowKit in
theorem Tryz.strings_IndexByte (s:ByteArray) (c:Int) (w:World) :
  Calls Tryz.prog 156 #[.string s,.int .u8 c] w fun e w'=>e = .returned (.int .i64 (Lib.indexByte s.data.toList c.toNat.toUInt8))∧w'=w:=Any.strings_IndexByte Tryz.lays137 s c w
def Tryz.lays172_ren:Go.Shelf.Ren:=⟨fun | 172=>161 | 244=>165 | 245=>166 | 247=>174 | 279=>175 | 280=>176 | 281=>177 | 282=>178 | 287=>186 | 316=>187 | 171=>173 | 205=>188 | 321=>195 | 322=>196 | 243=>185 | 246=>194 | 283=>198 | 284=>199 | 285=>200 | 286=>201 | 129=>129 | 317=>202 | 318=>203 | 319=>204 | 320=>205 | 337=>206 | 338=>207 | n=>n,fun | 9=>9 | 3=>3 | 75=>236 | 76=>237 | 4=>4 | 5=>5 | 167=>250 | 37=>243 | 0=>0 | 85=>251 | 2=>2 | 168=>253 | 53=>199 | 175=>257 | 46=>186 | 210=>260 | 127=>256 | 145=>274 | 143=>272 | 21=>21 | 171=>277 | 173=>279 | 212=>282 | 51=>197 | 20=>20 | 213=>283 | 232=>284 | 233=>285 | 80=>249 | n=>n,fun | 15=>1 | 16=>2 | 17=>5 | 18=>6 | 19=>7 | n=>n⟩
def Tryz.laysM246_ren:Go.Shelf.Ren:=⟨fun | 246=>194 | 283=>198 | 284=>199 | 285=>200 | 286=>201 | 129=>129 | 317=>202 | 318=>203 | 319=>204 | 320=>205 | 337=>206 | 338=>207 | n=>n,fun | 2=>2 | 3=>3 | 9=>9 | 4=>4 | 171=>277 | 0=>0 | 53=>199 | 37=>243 | 5=>5 | 173=>279 | 212=>282 | 51=>197 | 20=>20 | 213=>283 | 46=>186 | 232=>284 | 233=>285 | n=>n,fun | 17=>5 | 18=>6 | 19=>7 | n=>n⟩
def Tryz.laysM243_ren:Go.Shelf.Ren:=⟨fun | 243=>185 | 246=>194 | 283=>198 | 284=>199 | 285=>200 | 286=>201 | 129=>129 | 317=>202 | 318=>203 | 319=>204 | 320=>205 | 337=>206 | 338=>207 | n=>n,fun | 3=>3 | 9=>9 | 2=>2 | 4=>4 | 171=>277 | 0=>0 | 53=>199 | 37=>243 | 5=>5 | 173=>279 | 212=>282 | 51=>197 | 20=>20 | 213=>283 | 46=>186 | 232=>284 | 233=>285 | n=>n,fun | 17=>5 | 18=>6 | 19=>7 | n=>n⟩
def Tryz.laysM171_ren:Go.Shelf.Ren:=⟨fun | 171=>173 | 243=>185 | 246=>194 | 283=>198 | 284=>199 | 285=>200 | 286=>201 | 129=>129 | 317=>202 | 318=>203 | 319=>204 | 320=>205 | 337=>206 | 338=>207 | n=>n,fun | 3=>3 | 9=>9 | 2=>2 | 4=>4 | 171=>277 | 0=>0 | 53=>199 | 37=>243 | 5=>5 | 173=>279 | 212=>282 | 51=>197 | 20=>20 | 213=>283 | 46=>186 | 232=>284 | 233=>285 | n=>n,fun | 17=>5 | 18=>6 | 19=>7 | n=>n⟩
theorem Tryz.laysM171:Go.Proofs.LaysM.n171 Tryz.prog Tryz.laysM171_ren:={
 mixed:=by kernel_rfl
 f129:=Tryz.func129.trans (congrArg some (by kernel_rfl))
 f171:=Tryz.func173.trans (congrArg some (by kernel_rfl))
 f243:=Tryz.func185.trans (congrArg some (by kernel_rfl))
 f246:=Tryz.func194.trans (congrArg some (by kernel_rfl))
 f283:=Tryz.func198.trans (congrArg some (by kernel_rfl))
 f284:=Tryz.func199.trans (congrArg some (by kernel_rfl))
 f285:=Tryz.func200.trans (congrArg some (by kernel_rfl))
 f286:=Tryz.func201.trans (congrArg some (by kernel_rfl))
 f317:=Tryz.func202.trans (congrArg some (by kernel_rfl))
 f318:=Tryz.func203.trans (congrArg some (by kernel_rfl))
 f319:=Tryz.func204.trans (congrArg some (by kernel_rfl))
 f320:=Tryz.func205.trans (congrArg some (by kernel_rfl))
 f337:=Tryz.func206.trans (congrArg some (by kernel_rfl))
 f338:=Tryz.func207.trans (congrArg some (by kernel_rfl))
 t0:=Tryz.underlying0
 a0:=Tryz.isAgg0
 z0:=Tryz.sizeOf0
 v0:=Tryz.zeroValue0
 t2:=Tryz.underlying2
 a2:=Tryz.isAgg2
 z2:=Tryz.sizeOf2
 v2:=Tryz.zeroValue2
 t3:=Tryz.underlying3
 a3:=Tryz.isAgg3
 z3:=Tryz.sizeOf3
 v3:=Tryz.zeroValue3
 t4:=Tryz.underlying4
 a4:=Tryz.isAgg4
 z4:=Tryz.sizeOf4
 v4:=Tryz.zeroValue4
 t5:=Tryz.underlying5
 a5:=Tryz.isAgg5
 z5:=Tryz.sizeOf5
 v5:=Tryz.zeroValue5
 t9:=Tryz.underlying9
 a9:=Tryz.isAgg9
 z9:=Tryz.sizeOf9
 v9:=Tryz.zeroValue9
 t20:=Tryz.underlying20
 a20:=Tryz.isAgg20
 z20:=Tryz.sizeOf20
 v20:=Tryz.zeroValue20
 t37:=Tryz.underlying243
 a37:=Tryz.isAgg243
 z37:=Tryz.sizeOf243
 v37:=Tryz.zeroValue243
 t46:=Tryz.underlying186
 a46:=Tryz.isAgg186
 z46:=Tryz.sizeOf186
 v46:=Tryz.zeroValue186
 t51:=Tryz.underlying197
 a51:=Tryz.isAgg197
 z51:=Tryz.sizeOf197
 v51:=Tryz.zeroValue197
 t53:=Tryz.underlying199
 a53:=Tryz.isAgg199
 z53:=Tryz.sizeOf199
 v53:=Tryz.zeroValue199
 t171:=Tryz.underlying277
 a171:=Tryz.isAgg277
 z171:=Tryz.sizeOf277
 v171:=Tryz.zeroValue277
 t173:=Tryz.underlying279
 a173:=Tryz.isAgg279
 z173:=Tryz.sizeOf279
 v173:=Tryz.zeroValue279
 t212:=Tryz.underlying282
 a212:=Tryz.isAgg282
 z212:=Tryz.sizeOf282
 v212:=Tryz.zeroValue282
 t213:=Tryz.underlying283
 a213:=Tryz.isAgg283
 z213:=Tryz.sizeOf283
 t232:=Tryz.underlying284
 a232:=Tryz.isAgg284
 z232:=Tryz.sizeOf284
 v232:=Tryz.zeroValue284
 t233:=Tryz.underlying285
 a233:=Tryz.isAgg285
 z233:=Tryz.sizeOf285
 v233:=Tryz.zeroValue285
 g17:=by kernel_rfl
 g18:=by kernel_rfl
 g19:=by kernel_rfl
 i0:=by kernel_rfl
 i2:=by kernel_rfl
 i3:=by kernel_rfl
 i4:=by kernel_rfl
 i5:=by kernel_rfl
 i9:=by kernel_rfl
 i20:=by kernel_rfl
 i37:=by kernel_rfl
 i46:=by kernel_rfl
 i51:=by kernel_rfl
 i53:=by kernel_rfl
 i171:=by kernel_rfl
 i173:=by kernel_rfl
 i212:=by kernel_rfl
 i232:=by kernel_rfl
 i233:=by kernel_rfl
 m17:=by kernel_rfl
 m18:=by kernel_rfl
 m19:=by kernel_rfl }
open Go.RowKit Go.Sort Go.Lib in
theorem Tryz.strconv_Itoa (n:Int) (h0 : -9223372036854775808≤n) (h1:n≤9223372036854775807) (w:World) (htab:Lib.TabIs Tryz.prog w "internal/strconv.uint64pow10" .u64 Lib.pow10Tab) :
  Calls Tryz.prog 173 #[.int .i64 n] w fun e w'=>e = .returned (.string ⟨(Lib.itoa n).toArray⟩)∧∃ k os,w'=grow (w.drewN k) os:=Any.strconv_Itoa Tryz.laysM171 n h0 h1 w htab
def Tryz.laysC172_ren:Go.Shelf.Ren:=⟨fun | 172=>161 | 244=>165 | 245=>166 | 247=>174 | 279=>175 | 280=>176 | 281=>177 | 282=>178 | 287=>186 | 316=>187 | 171=>173 | 205=>188 | 321=>195 | 322=>196 | 243=>185 | 246=>194 | 283=>198 | 284=>199 | 285=>200 | 286=>201 | 129=>129 | 317=>202 | 318=>203 | 319=>204 | 320=>205 | 337=>206 | 338=>207 | n=>n,fun | 9=>9 | 3=>3 | 75=>236 | 76=>237 | 4=>4 | 5=>5 | 167=>250 | 37=>243 | 0=>0 | 85=>251 | 2=>2 | 168=>253 | 53=>199 | 175=>257 | 46=>186 | 210=>260 | 127=>256 | 145=>274 | 143=>272 | 21=>21 | 171=>277 | 173=>279 | 212=>282 | 51=>197 | 20=>20 | 213=>283 | 232=>284 | 233=>285 | 80=>249 | n=>n,fun | 15=>1 | 16=>2 | 17=>5 | 18=>6 | 19=>7 | n=>n⟩
theorem Tryz.laysC172:Go.Proofs.LaysC.n172 Tryz.prog Tryz.laysC172_ren:={
 mixed:=by kernel_rfl
 f129:=Tryz.func129.trans (congrArg some (by kernel_rfl))
 f171:=Tryz.func173.trans (congrArg some (by kernel_rfl))
 f172:=Tryz.func161.trans (congrArg some (by kernel_rfl))
 f205:=Tryz.func188.trans (congrArg some (by kernel_rfl))
 f243:=Tryz.func185.trans (congrArg some (by kernel_rfl))
 f244:=Tryz.func165.trans (congrArg some (by kernel_rfl))
 f245:=Tryz.func166.trans (congrArg some (by kernel_rfl))
 f246:=Tryz.func194.trans (congrArg some (by kernel_rfl))
 f247:=Tryz.func174.trans (congrArg some (by kernel_rfl))
 f279:=Tryz.func175.trans (congrArg some (by kernel_rfl))
 f280:=Tryz.func176.trans (congrArg some (by kernel_rfl))
 f281:=Tryz.func177.trans (congrArg some (by kernel_rfl))
 f282:=Tryz.func178.trans (congrArg some (by kernel_rfl))
 f283:=Tryz.func198.trans (congrArg some (by kernel_rfl))
 f284:=Tryz.func199.trans (congrArg some (by kernel_rfl))
 f285:=Tryz.func200.trans (congrArg some (by kernel_rfl))
 f286:=Tryz.func201.trans (congrArg some (by kernel_rfl))
 f287:=Tryz.func186.trans (congrArg some (by kernel_rfl))
 f316:=Tryz.func187.trans (congrArg some (by kernel_rfl))
 f317:=Tryz.func202.trans (congrArg some (by kernel_rfl))
 f318:=Tryz.func203.trans (congrArg some (by kernel_rfl))
 f319:=Tryz.func204.trans (congrArg some (by kernel_rfl))
 f320:=Tryz.func205.trans (congrArg some (by kernel_rfl))
 f321:=Tryz.func195.trans (congrArg some (by kernel_rfl))
 f322:=Tryz.func196.trans (congrArg some (by kernel_rfl))
 f337:=Tryz.func206.trans (congrArg some (by kernel_rfl))
 f338:=Tryz.func207.trans (congrArg some (by kernel_rfl))
 t0:=Tryz.underlying0
 a0:=Tryz.isAgg0
 z0:=Tryz.sizeOf0
 v0:=Tryz.zeroValue0
 t2:=Tryz.underlying2
 a2:=Tryz.isAgg2
 z2:=Tryz.sizeOf2
 v2:=Tryz.zeroValue2
 t3:=Tryz.underlying3
 a3:=Tryz.isAgg3
 z3:=Tryz.sizeOf3
 v3:=Tryz.zeroValue3
 t4:=Tryz.underlying4
 a4:=Tryz.isAgg4
 z4:=Tryz.sizeOf4
 v4:=Tryz.zeroValue4
 t5:=Tryz.underlying5
 a5:=Tryz.isAgg5
 z5:=Tryz.sizeOf5
 v5:=Tryz.zeroValue5
 t9:=Tryz.underlying9
 a9:=Tryz.isAgg9
 z9:=Tryz.sizeOf9
 v9:=Tryz.zeroValue9
 t20:=Tryz.underlying20
 a20:=Tryz.isAgg20
 z20:=Tryz.sizeOf20
 v20:=Tryz.zeroValue20
 t21:=Tryz.underlying21
 a21:=Tryz.isAgg21
 z21:=Tryz.sizeOf21
 v21:=Tryz.zeroValue21
 t37:=Tryz.underlying243
 a37:=Tryz.isAgg243
 z37:=Tryz.sizeOf243
 v37:=Tryz.zeroValue243
 t46:=Tryz.underlying186
 a46:=Tryz.isAgg186
 z46:=Tryz.sizeOf186
 v46:=Tryz.zeroValue186
 t51:=Tryz.underlying197
 a51:=Tryz.isAgg197
 z51:=Tryz.sizeOf197
 v51:=Tryz.zeroValue197
 t53:=Tryz.underlying199
 a53:=Tryz.isAgg199
 z53:=Tryz.sizeOf199
 v53:=Tryz.zeroValue199
 t75:=Tryz.underlying236
 a75:=Tryz.isAgg236
 z75:=Tryz.sizeOf236
 v75:=Tryz.zeroValue236
 t76:=Tryz.underlying237
 a76:=Tryz.isAgg237
 z76:=Tryz.sizeOf237
 v76:=Tryz.zeroValue237
 t85:=Tryz.underlying251
 a85:=Tryz.isAgg251
 z85:=Tryz.sizeOf251
 v85:=Tryz.zeroValue251
 t127:=Tryz.underlying256
 a127:=Tryz.isAgg256
 z127:=Tryz.sizeOf256
 v127:=Tryz.zeroValue256
 t143:=Tryz.underlying272
 a143:=Tryz.isAgg272
 z143:=Tryz.sizeOf272
 v143:=Tryz.zeroValue272
 t145:=Tryz.underlying274
 a145:=Tryz.isAgg274
 z145:=Tryz.sizeOf274
 v145:=Tryz.zeroValue274
 t167:=Tryz.underlying250
 a167:=Tryz.isAgg250
 z167:=Tryz.sizeOf250
 v167:=Tryz.zeroValue250
 t168:=Tryz.underlying253
 a168:=Tryz.isAgg253
 z168:=Tryz.sizeOf253
 v168:=Tryz.zeroValue253
 t171:=Tryz.underlying277
 a171:=Tryz.isAgg277
 z171:=Tryz.sizeOf277
 v171:=Tryz.zeroValue277
 t173:=Tryz.underlying279
 a173:=Tryz.isAgg279
 z173:=Tryz.sizeOf279
 v173:=Tryz.zeroValue279
 t175:=Tryz.underlying257
 a175:=Tryz.isAgg257
 z175:=Tryz.sizeOf257
 v175:=Tryz.zeroValue257
 t210:=Tryz.underlying260
 a210:=Tryz.isAgg260
 z210:=Tryz.sizeOf260
 v210:=Tryz.zeroValue260
 t212:=Tryz.underlying282
 a212:=Tryz.isAgg282
 z212:=Tryz.sizeOf282
 v212:=Tryz.zeroValue282
 t213:=Tryz.underlying283
 a213:=Tryz.isAgg283
 z213:=Tryz.sizeOf283
 t232:=Tryz.underlying284
 a232:=Tryz.isAgg284
 z232:=Tryz.sizeOf284
 v232:=Tryz.zeroValue284
 t233:=Tryz.underlying285
 a233:=Tryz.isAgg285
 z233:=Tryz.sizeOf285
 v233:=Tryz.zeroValue285
 g15:=by kernel_rfl
 g16:=by kernel_rfl
 g17:=by kernel_rfl
 g18:=by kernel_rfl
 g19:=by kernel_rfl
 t80:=Tryz.underlying249
 a80:=Tryz.isAgg249
 z80:=Tryz.sizeOf249
 v80:=Tryz.zeroValue249
 i0:=by kernel_rfl
 i2:=by kernel_rfl
 i3:=by kernel_rfl
 i4:=by kernel_rfl
 i5:=by kernel_rfl
 i9:=by kernel_rfl
 i20:=by kernel_rfl
 i21:=by kernel_rfl
 i37:=by kernel_rfl
 i46:=by kernel_rfl
 i51:=by kernel_rfl
 i53:=by kernel_rfl
 i75:=by kernel_rfl
 i76:=by kernel_rfl
 i80:=by kernel_rfl
 i85:=by kernel_rfl
 i127:=by kernel_rfl
 i143:=by kernel_rfl
 i145:=by kernel_rfl
 i167:=by kernel_rfl
 i168:=by kernel_rfl
 i171:=by kernel_rfl
 i173:=by kernel_rfl
 i175:=by kernel_rfl
 i210:=by kernel_rfl
 i212:=by kernel_rfl
 i232:=by kernel_rfl
 i233:=by kernel_rfl
 m15:=by kernel_rfl
 m16:=by kernel_rfl
 m17:=by kernel_rfl
 m18:=by kernel_rfl
 m19:=by kernel_rfl
 c0:=by kernel_rfl
 c2:=by kernel_rfl
 c3:=by kernel_rfl
 c4:=by kernel_rfl
 c5:=by kernel_rfl
 c9:=by kernel_rfl
 c20:=by kernel_rfl
 c21:=by kernel_rfl
 c37:=by kernel_rfl
 c46:=by kernel_rfl
 c51:=by kernel_rfl
 c53:=by kernel_rfl
 c75:=by kernel_rfl
 c76:=by kernel_rfl
 c80:=by kernel_rfl
 c85:=by kernel_rfl
 c127:=by kernel_rfl
 c143:=by kernel_rfl
 c145:=by kernel_rfl
 c167:=by kernel_rfl
 c168:=by kernel_rfl
 c171:=by kernel_rfl
 c173:=by kernel_rfl
 c175:=by kernel_rfl
 c210:=by kernel_rfl
 c212:=by kernel_rfl
 c213:=by kernel_rfl
 c232:=by kernel_rfl
 c233:=by kernel_rfl }
open Go.RowKit in
theorem Tryz.strconv_Atoi_ok (s:ByteArray) (hmax:s.size≤9223372036854775806) (v:Int) (h:Lib.atoiAll s.data.toList = .ok v) (w:World) :
  Calls Tryz.prog 161 #[.string s] w fun e w'=>e = .returned (.tuple #[.int .i64 v,.nilIface])∧(w'=w∨∃ t,w'=Lib.bytesWorld w 5 t):=Any.strconv_Atoi_ok Tryz.laysC172 s hmax v h w
open Go.RowKit in
theorem Tryz.strconv_Atoi_syntax (s:ByteArray) (hlim:s.size≤281474976710656) (h:Lib.atoiAll s.data.toList=Lib.atoiAll []) (ev:Value) (w:World) (hv:w.cell? ⟨1,0,none⟩=some ev) (hev:ev = .nilIface∨∃ te pe,ev = .iface te pe) :
  Calls Tryz.prog 161 #[.string s] w fun e w'=>∃ N,e = .returned (.tuple #[.int .i64 (0),.iface 253 (.pointer (some ⟨N,0,none⟩))])∧w.heap.size≤N∧w'.heap[N]?=some (.cells #[.string ⟨#[65,116,111,105]⟩,.string s,ev] 260 (0,0))∧Below w.heap.size w w':=Any.strconv_Atoi_syntax Tryz.laysC172 s hlim h ev w hv hev
open Go.RowKit in
theorem Tryz.strconv_Atoi_range (s:ByteArray) (hlim:s.size≤281474976710656) (h:Lib.atoiAll s.data.toList = .range) (ev:Value) (w:World) (hv:w.cell? ⟨2,0,none⟩=some ev) (hev:ev = .nilIface∨∃ te pe,ev = .iface te pe) :
  Calls Tryz.prog 161 #[.string s] w fun e w'=>∃ N,e = .returned (.tuple #[.int .i64 (Lib.atoiSat s.data.toList),.iface 253 (.pointer (some ⟨N,0,none⟩))])∧w.heap.size≤N∧w'.heap[N]?=some (.cells #[.string ⟨#[65,116,111,105]⟩,.string s,ev] 260 (0,0))∧Below w.heap.size w w':=Any.strconv_Atoi_range Tryz.laysC172 s hlim h ev w hv hev
def Tryz.lays189_ren:Go.Shelf.Ren:=⟨fun | 189=>106 | 125=>116 | 257=>115 | 128=>128 | 129=>129 | 294=>119 | 295=>120 | 296=>121 | 297=>122 | 298=>123 | 299=>124 | 216=>125 | 300=>126 | 301=>127 | 328=>131 | 329=>132 | 330=>133 | 331=>134 | 332=>135 | 215=>136 | 343=>140 | n=>n,fun | 28=>40 | 3=>3 | 46=>186 | 0=>0 | 51=>197 | 53=>199 | 4=>4 | 183=>190 | 182=>189 | 131=>82 | 5=>5 | 9=>9 | 218=>206 | 222=>94 | 228=>215 | 229=>216 | n=>n,fun | n=>n⟩
theorem Tryz.lays189:Go.Proofs.Lays.n189 Tryz.prog Tryz.lays189_ren:={
 mixed:=by kernel_rfl
 f125:=Tryz.func116.trans (congrArg some (by kernel_rfl))
 f128:=Tryz.func128.trans (congrArg some (by kernel_rfl))
 f129:=Tryz.func129.trans (congrArg some (by kernel_rfl))
 f189:=Tryz.func106.trans (congrArg some (by kernel_rfl))
 f215:=Tryz.func136.trans (congrArg some (by kernel_rfl))
 f216:=Tryz.func125.trans (congrArg some (by kernel_rfl))
 f257:=Tryz.func115.trans (congrArg some (by kernel_rfl))
 f294:=Tryz.func119.trans (congrArg some (by kernel_rfl))
 f295:=Tryz.func120.trans (congrArg some (by kernel_rfl))
 f296:=Tryz.func121.trans (congrArg some (by kernel_rfl))
 f297:=Tryz.func122.trans (congrArg some (by kernel_rfl))
 f298:=Tryz.func123.trans (congrArg some (by kernel_rfl))
 f299:=Tryz.func124.trans (congrArg some (by kernel_rfl))
 f300:=Tryz.func126.trans (congrArg some (by kernel_rfl))
 f301:=Tryz.func127.trans (congrArg some (by kernel_rfl))
 f328:=Tryz.func131.trans (congrArg some (by kernel_rfl))
 f329:=Tryz.func132.trans (congrArg some (by kernel_rfl))
 f330:=Tryz.func133.trans (congrArg some (by kernel_rfl))
 f331:=Tryz.func134.trans (congrArg some (by kernel_rfl))
 f332:=Tryz.func135.trans (congrArg some (by kernel_rfl))
 f343:=Tryz.func140.trans (congrArg some (by kernel_rfl))
 t0:=Tryz.underlying0
 a0:=Tryz.isAgg0
 z0:=Tryz.sizeOf0
 v0:=Tryz.zeroValue0
 t3:=Tryz.underlying3
 a3:=Tryz.isAgg3
 z3:=Tryz.sizeOf3
 v3:=Tryz.zeroValue3
 t4:=Tryz.underlying4
 a4:=Tryz.isAgg4
 z4:=Tryz.sizeOf4
 v4:=Tryz.zeroValue4
 t5:=Tryz.underlying5
 a5:=Tryz.isAgg5
 z5:=Tryz.sizeOf5
 v5:=Tryz.zeroValue5
 t9:=Tryz.underlying9
 a9:=Tryz.isAgg9
 z9:=Tryz.sizeOf9
 v9:=Tryz.zeroValue9
 t28:=Tryz.underlying40
 a28:=Tryz.isAgg40
 z28:=Tryz.sizeOf40
 v28:=Tryz.zeroValue40
 t46:=Tryz.underlying186
 a46:=Tryz.isAgg186
 z46:=Tryz.sizeOf186
 v46:=Tryz.zeroValue186
 t51:=Tryz.underlying197
 a51:=Tryz.isAgg197
 z51:=Tryz.sizeOf197
 v51:=Tryz.zeroValue197
 t53:=Tryz.underlying199
 a53:=Tryz.isAgg199
 z53:=Tryz.sizeOf199
 v53:=Tryz.zeroValue199
 t131:=Tryz.underlying82
 a131:=Tryz.isAgg82
 z131:=Tryz.sizeOf82
 v131:=Tryz.zeroValue82
 t182:=Tryz.underlying189
 a182:=Tryz.isAgg189
 z182:=Tryz.sizeOf189
 v182:=Tryz.zeroValue189
 t183:=Tryz.underlying190
 a183:=Tryz.isAgg190
 z183:=Tryz.sizeOf190
 v183:=Tryz.zeroValue190
 t218:=Tryz.underlying206
 a218:=Tryz.isAgg206
 z218:=Tryz.sizeOf206
 v218:=Tryz.zeroValue206
 t222:=Tryz.underlying94
 a222:=Tryz.isAgg94
 z222:=Tryz.sizeOf94
 v222:=Tryz.zeroValue94
 t228:=Tryz.underlying215
 a228:=Tryz.isAgg215
 z228:=Tryz.sizeOf215
 v228:=Tryz.zeroValue215
 t229:=Tryz.underlying216
 a229:=Tryz.isAgg216
 z229:=Tryz.sizeOf216
 v229:=Tryz.zeroValue216 }
open Go.Sort Go.RowKit in
theorem Tryz.slices_Sort_int (blk off cap:Nat) (zs:List Int) (w:World) (hH:Holds (Value.int .i64) w blk off zs.toArray) (hblk:blk<w.heap.size) (hsz:zs.length<4611686018427387904) :
  Calls Tryz.prog 106 #[.slice (some ⟨blk,off,none⟩) zs.length cap] w fun e w' =>
   e = .returned (.tuple #[])∧∃ n os,w'=grow (putRow (Value.int .i64) (Sort.ahead w n) blk off (zs.mergeSort fun x y=>decide (x≤y)).toArray) os:=Any.slices_Sort_int Tryz.lays189 blk off cap zs w hH hblk hsz
def Tryz.lays206_ren:Go.Shelf.Ren:=⟨fun | 206=>160 | n=>n,fun | 9=>9 | 4=>4 | 3=>3 | n=>n,fun | n=>n⟩
def Tryz.lays99_ren:Go.Shelf.Ren:=⟨fun | 99=>157 | 206=>160 | n=>n,fun | 9=>9 | 4=>4 | 3=>3 | n=>n,fun | n=>n⟩
theorem Tryz.lays99:Go.Proofs.Lays.n99 Tryz.prog Tryz.lays99_ren:={
 mixed:=by kernel_rfl
 f99:=Tryz.func157.trans (congrArg some (by kernel_rfl))
 f206:=Tryz.func160.trans (congrArg some (by kernel_rfl))
 t3:=Tryz.underlying3
 a3:=Tryz.isAgg3
 z3:=Tryz.sizeOf3
 v3:=Tryz.zeroValue3
 t4:=Tryz.underlying4
 a4:=Tryz.isAgg4
 z4:=Tryz.sizeOf4
 v4:=Tryz.zeroValue4
 t9:=Tryz.underlying9
 a9:=Tryz.isAgg9
 z9:=Tryz.sizeOf9
 v9:=Tryz.zeroValue9 }
open Go.RowKit Go.Lib in
theorem Tryz.strings_HasPrefix (s p:ByteArray) (w:World) :
  Calls Tryz.prog 157 #[.string s,.string p] w fun e w'=>e = .returned (.bool (Lib.hasPrefix s.data.toList p.data.toList))∧w'=w:=Any.strings_HasPrefix Tryz.lays99 s p w
def Tryz.lays154_ren:Go.Shelf.Ren:=⟨fun | 154=>162 | 138=>167 | 165=>168 | 143=>169 | 166=>170 | 197=>171 | 169=>172 | 195=>179 | 218=>180 | 240=>181 | 241=>182 | 219=>183 | 260=>184 | 276=>189 | 277=>190 | 217=>159 | 225=>191 | 224=>192 | 267=>193 | 266=>164 | 314=>197 | n=>n,fun | 9=>9 | 3=>3 | 4=>4 | 72=>245 | 0=>0 | 76=>237 | 105=>247 | 21=>21 | 5=>5 | 70=>242 | 20=>20 | 37=>243 | 75=>236 | 127=>256 | 164=>262 | 46=>186 | 119=>266 | 139=>269 | 138=>268 | 146=>275 | 51=>197 | 80=>249 | n=>n,fun | 1=>0 | 3=>3 | 4=>4 | n=>n⟩
theorem Tryz.lays154:Go.Proofs.Lays.n154 Tryz.prog Tryz.lays154_ren:={
 mixed:=by kernel_rfl
 f138:=Tryz.func167.trans (congrArg some (by kernel_rfl))
 f143:=Tryz.func169.trans (congrArg some (by kernel_rfl))
 f154:=Tryz.func162.trans (congrArg some (by kernel_rfl))
 f165:=Tryz.func168.trans (congrArg some (by kernel_rfl))
 f166:=Tryz.func170.trans (congrArg some (by kernel_rfl))
 f169:=Tryz.func172.trans (congrArg some (by kernel_rfl))
 f195:=Tryz.func179.trans (congrArg some (by kernel_rfl))
 f197:=Tryz.func171.trans (congrArg some (by kernel_rfl))
 f217:=Tryz.func159.trans (congrArg some (by kernel_rfl))
 f218:=Tryz.func180.trans (congrArg some (by kernel_rfl))
 f219:=Tryz.func183.trans (congrArg some (by kernel_rfl))
 f224:=Tryz.func192.trans (congrArg some (by kernel_rfl))
 f225:=Tryz.func191.trans (congrArg some (by kernel_rfl))
 f240:=Tryz.func181.trans (congrArg some (by kernel_rfl))
 f241:=Tryz.func182.trans (congrArg some (by kernel_rfl))
 f260:=Tryz.func184.trans (congrArg some (by kernel_rfl))
 f266:=Tryz.func164.trans (congrArg some (by kernel_rfl))
 f267:=Tryz.func193.trans (congrArg some (by kernel_rfl))
 f276:=Tryz.func189.trans (congrArg some (by kernel_rfl))
 f277:=Tryz.func190.trans (congrArg some (by kernel_rfl))
 f314:=Tryz.func197.trans (congrArg some (by kernel_rfl))
 t0:=Tryz.underlying0
 a0:=Tryz.isAgg0
 z0:=Tryz.sizeOf0
 v0:=Tryz.zeroValue0
 t3:=Tryz.underlying3
 a3:=Tryz.isAgg3
 z3:=Tryz.sizeOf3
 v3:=Tryz.zeroValue3
 t4:=Tryz.underlying4
 a4:=Tryz.isAgg4
 z4:=Tryz.sizeOf4
 v4:=Tryz.zeroValue4
 t5:=Tryz.underlying5
 a5:=Tryz.isAgg5
 z5:=Tryz.sizeOf5
 v5:=Tryz.zeroValue5
 t9:=Tryz.underlying9
 a9:=Tryz.isAgg9
 z9:=Tryz.sizeOf9
 v9:=Tryz.zeroValue9
 t20:=Tryz.underlying20
 a20:=Tryz.isAgg20
 z20:=Tryz.sizeOf20
 v20:=Tryz.zeroValue20
 t21:=Tryz.underlying21
 a21:=Tryz.isAgg21
 z21:=Tryz.sizeOf21
 v21:=Tryz.zeroValue21
 t37:=Tryz.underlying243
 a37:=Tryz.isAgg243
 z37:=Tryz.sizeOf243
 v37:=Tryz.zeroValue243
 t46:=Tryz.underlying186
 a46:=Tryz.isAgg186
 z46:=Tryz.sizeOf186
 v46:=Tryz.zeroValue186
 t51:=Tryz.underlying197
 a51:=Tryz.isAgg197
 z51:=Tryz.sizeOf197
 v51:=Tryz.zeroValue197
 t70:=Tryz.underlying242
 a70:=Tryz.isAgg242
 z70:=Tryz.sizeOf242
 v70:=Tryz.zeroValue242
 t72:=Tryz.underlying245
 a72:=Tryz.isAgg245
 z72:=Tryz.sizeOf245
 v72:=Tryz.zeroValue245
 t75:=Tryz.underlying236
 a75:=Tryz.isAgg236
 z75:=Tryz.sizeOf236
 v75:=Tryz.zeroValue236
 t76:=Tryz.underlying237
 a76:=Tryz.isAgg237
 z76:=Tryz.sizeOf237
 v76:=Tryz.zeroValue237
 t105:=Tryz.underlying247
 a105:=Tryz.isAgg247
 z105:=Tryz.sizeOf247
 v105:=Tryz.zeroValue247
 t119:=Tryz.underlying266
 a119:=Tryz.isAgg266
 z119:=Tryz.sizeOf266
 t127:=Tryz.underlying256
 a127:=Tryz.isAgg256
 z127:=Tryz.sizeOf256
 v127:=Tryz.zeroValue256
 t138:=Tryz.underlying268
 a138:=Tryz.isAgg268
 z138:=Tryz.sizeOf268
 v138:=Tryz.zeroValue268
 t139:=Tryz.underlying269
 a139:=Tryz.isAgg269
 z139:=Tryz.sizeOf269
 v139:=Tryz.zeroValue269
 t146:=Tryz.underlying275
 a146:=Tryz.isAgg275
 z146:=Tryz.sizeOf275
 v146:=Tryz.zeroValue275
 t164:=Tryz.underlying262
 a164:=Tryz.isAgg262
 z164:=Tryz.sizeOf262
 v164:=Tryz.zeroValue262
 g1:=by kernel_rfl
 g3:=by kernel_rfl
 g4:=by kernel_rfl }
theorem Tryz.Builder_Extra_154:Builder.Extra Tryz.prog Tryz.lays154_ren:={
 sizeBuilder:=by kernel_rfl
 liesBuilder:=by kernel_rfl
 t5:=Tryz.underlying5
 a5:=Tryz.isAgg5
 z5:=Tryz.sizeOf5
 v5:=Tryz.zeroValue5
 infoByte:=by kernel_rfl
 cellsByte:=by kernel_rfl
 sizeByte:=by kernel_rfl
 neB5:=by decide }
open Go.RowKit Go.Lib in
theorem Tryz.strings_Replace (s old new:ByteArray) (n:Int) (m:Int) (w:World) (hs:s.size<4294967281) (hm:w.cell? ⟨0,0,none⟩=some (.int .i64 m)) (h1:1≤old.size) (hlen:s.size+Lib.countB s old*new.size≤140737488355328) :
  Calls Tryz.prog 162 #[.string s,.string old,.string new,.int .i64 n] w fun e w' =>
   e = .returned (.string ⟨(Lib.replace s.data.toList old.data.toList new.data.toList n).toArray⟩)∧Below w.heap.size w w':=Any.strings_Replace Tryz.lays154 Tryz.Builder_Extra_154 s old new n m w hs hm h1 hlen
def Tryz.lays110_ren:Go.Shelf.Ren:=⟨fun | 110=>59 | 109=>91 | n=>n,fun | 31=>35 | 9=>9 | 4=>4 | 3=>3 | 0=>0 | n=>n,fun | n=>n⟩
theorem Tryz.lays110:Go.Proofs.Lays.n110 Tryz.prog Tryz.lays110_ren:={
 mixed:=by kernel_rfl
 f109:=Tryz.func91.trans (congrArg some (by kernel_rfl))
 f110:=Tryz.func59.trans (congrArg some (by kernel_rfl))
 t0:=Tryz.underlying0
 a0:=Tryz.isAgg0
 z0:=Tryz.sizeOf0
 v0:=Tryz.zeroValue0
 t3:=Tryz.underlying3
 a3:=Tryz.isAgg3
 z3:=Tryz.sizeOf3
 v3:=Tryz.zeroValue3
 t4:=Tryz.underlying4
 a4:=Tryz.isAgg4
 z4:=Tryz.sizeOf4
 v4:=Tryz.zeroValue4
 t9:=Tryz.underlying9
 a9:=Tryz.isAgg9
 z9:=Tryz.sizeOf9
 v9:=Tryz.zeroValue9
 t31:=Tryz.underlying35
 a31:=Tryz.isAgg35
 z31:=Tryz.sizeOf35
 v31:=Tryz.zeroValue35 }
open Go.Lib in
theorem Tryz.slices_Contains_string (b off n c:Nat) (zs:List ByteArray) (x:ByteArray) (w:World) (hz:n≤zs.length) (hbig:n≤9223372036854775807) (hc:∀ j,j<zs.length→w.cell? ⟨b,off+j,none⟩=some (.string (zs.getD j ByteArray.empty))) :
  Calls Tryz.prog 59 #[.slice (some ⟨b,off,none⟩) n c,.string x] w fun e w'=>e = .returned (.bool (Lib.containsS (zs.take n) x))∧w'=w:=Any.slices_Contains_string Tryz.lays110 b off n c zs x w hz hbig hc
open Go.Lib in
theorem Tryz.slices_Contains_string_empty (a:Option Addr) (c:Nat) (x:ByteArray) (w:World) :
  Calls Tryz.prog 59 #[.slice a 0 c,.string x] w fun e w'=>e = .returned (.bool false)∧w'=w:=Any.slices_Contains_string_empty Tryz.lays110 a c x w
end Go.Proofs
