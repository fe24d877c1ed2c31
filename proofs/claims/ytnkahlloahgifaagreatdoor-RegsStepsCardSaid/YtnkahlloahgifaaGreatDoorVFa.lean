/- Part. -/
import Derived.Test.YtnkahlloahgifaaGreatDoorVW
import Derived.RangeFuncNested
import Derived.RangeFuncBound
import Derived.RangeFuncCalls
import Derived.RangeFuncLeaves
import Derived.Shelf.Abstract
import Derived.Deep.QuietTactic
import Derived.BigQuiet
import Derived.Outline
import Derived.Handy
import Derived.Lib.Bytes
import Derived.RangeFuncSeq
import Derived.OwnWalkIn
import Derived.TacticsInMore
import Derived.LoopNIn
import Derived.LoopIn
import Derived.BigFrameIn
import Derived.Deep.LoopGhost
import Derived.Deep.Cut
import Derived.Maps.OwnIn
set_option linter.unusedSimpArgs false
set_option linter.unusedVariables false
namespace Go.Proofs.YtnkahlloahgifaaGreatDoor
open Go.RowKit
def Bk (B:Nat) (W W':World):Prop:=∃ (q:Nat) (o o':Obj),W.heap[q]?=some o∧o.isCells=false∧o.isWalk=false∧B≤q∧W'=W.putObj q o'
def Kb (W W':World):Prop:=W.heap.size≤W'.heap.size∧∀ (q:Nat) (o:Obj),W.heap[q]?=some o→o.isCells=false→o.isWalk=false→W'.heap[q]?=some o
theorem Kb.refl (W:World):Kb W W:=⟨Nat.le_refl _,fun _ _ h _ _=>h⟩
theorem Kb.trans {A B C:World}(h:Kb A B) (k:Kb B C):Kb A C:=⟨Nat.le_trans h.1 k.1,fun q o a b c=>k.2 q o (h.2 q o a b c) b c⟩
theorem Kb.of_below {W W':World}(h:Below W.heap.size W W'):Kb W W':=⟨h.size,fun q o a _ _=>(h.block q (Array.getElem?_eq_some_iff.1 a).1).trans a⟩
theorem heap_bk {B:Nat}{W W':World}(h:Bk B W W') {q:Nat}{o:Obj}(ho:W.heap[q]?=some o) (hc:o.isCells=true∨o.isWalk=true):W'.heap[q]?=some o:=by
 obtain⟨p,o1,o2,h1,h2,h3,h4,rfl⟩:=h
 refine(World.putObj_heap_other fun e=>?_).trans ho
 subst e
 rw [h1] at ho
 simp only [Option.some.injEq] at ho
 subst ho
 rcases hc with hc | hc
 ·rw [h2] at hc;cases hc
 ·rw [h3] at hc;cases hc
theorem below_bk {B:Nat}{W W':World}(h:Bk B W W'):Below B W W':=by
 obtain⟨p,o1,o2,h1,h2,h3,h4,rfl⟩:=h
 exact⟨rfl,rfl,rfl,by simp,fun k hk=>World.putObj_heap_other (by omega)⟩
def IterLaw (P:Program) (G:Nat) (lbs:Array Value) (m:Nat) (encs:Nat→Array Value) (Rd:World→Prop):Prop :=
 ∀ (n l:Nat) (J:Nat→World→Prop) (Jx:World→Prop) (W:World),(∀ j W1 W2,J j W1→Below W1.heap.size W1 W2→J j W2)→(∀ j W1,J j W1→Rd W1) →
  (∀ j W1,J j W1→j<m→YieldAt Fence.wide n P l (encs j) W1 fun e W'=>(e = .returned (.bool true)∧J (j+1) W')∨(e = .returned (.bool false)∧Jx W'))→J 0 W →
  Calls P G (#[.func (.yield l) #[] #[]]++lbs) W fun e W'=>(∃ v,e = .returned v)∧(J m W'∨Jx W')
def BodyP (I:Nat→World→Prop) (X:World→Prop) (j:Nat) (W:World):Exit→Act→World→Prop
 | .normal,_,W'=>Kb W W'∧I (j+1) W'
 | .ret,_,W'=>Kb W W'∧X W'
 | .exit _,_,_=>False
 | .goto _,_,_=>False
 | .panic _,_,_=>False
 | .outgrown,_,_=>False
def rcd (fn:FuncId) (tmps:Array Value) (ps:Array Tmp) (assign body:Code) (D:Nat) (st:LoopState) (pe:Option Code):Loop:={ state:=st,pending:=pe,fn,tmps,params:=ps,assign,body,defers:=D }
section
variable {P:Program} {n:Nat} {I:Nat→World→Prop} {X:World→Prop} {B m:Nat} {encs:Nat→Array Value} {A:Nat→Act→World→Prop}
theorem one_round {fn:FuncId}{tmps:Array Value}{ps:Array Tmp}{assign body:Code}{D l:Nat}(hl:B≤l)
  (hI:∀ j W W',I j W→Bk B W W'→I j W') (hX:∀ W W',X W→Bk B W W'→X W') (hA:∀ j a W W',A j a W→Bk B W W'→A j a W') (hIb:∀ j W W',I j W→Below W.heap.size W W'→I j W')
  (hps:∀ j,(encs j).size=ps.size)
  (hassign:∀ l j W,I j W→j<m→assign.wpIn (Fence.wide.inRound l) n P (Exit.then (fun a₁ w₁=>Below W.heap.size W w₁∧A j a₁ w₁) (fun _ _ _=>False)) { tmps:=(ps.zip (encs j)).foldl (fun t (p,v)=>t.setIfInBounds p v) tmps,defers:=[] } W)
  (hbody:∀ l j a₁ W,B≤l→(∃ r,W.heap[l]?=some (.loop r))→I j W→A j a₁ W→j<m→body.wpIn (Fence.wide.inRound l) n P (BodyP I X j W) a₁ W)
  {j:Nat} {W:World} (hi:I j W) (hj:j<m) (hlo:W.heap[l]?=some (.loop (rcd fn tmps ps assign body D .ready none))) :
  YieldAt Fence.wide n P l (encs j) W fun e W'=>(e = .returned (.bool true)∧I (j+1) W'∧W'.heap[l]?=some (.loop (rcd fn tmps ps assign body D .ready none))∧∀ (q:Nat) (o:Obj),q≠l→W.heap[q]?=some o→o.isCells=false→o.isWalk=false→W'.heap[q]?=some o) ∨
   (e = .returned (.bool false)∧X W'∧W'.heap[l]?=some (.loop (rcd fn tmps ps assign body D .done (some .ret)))∧∀ (q:Nat) (o:Obj),q≠l→W.heap[q]?=some o→o.isCells=false→o.isWalk=false→W'.heap[q]?=some o):=by
 have hy:=run_yield (P:=P) (args:=encs j) hlo (hps j)
 refine⟨fn,_,assign,body,hy,roundIn_of_wpIn trivial ?_⟩
 refine wpIn_mono (hassign l j W hi hj) ?_
 intro e a1 W1 hp
 cases e with
 | normal =>
  obtain⟨hb1,ha1⟩:=hp
  have hl1:W1.heap[l]?=some (.loop (rcd fn tmps ps assign body D .ready none)):=(hb1.block l (Array.getElem?_eq_some_iff.1 hlo).1).trans hlo
  have hlt1:=(Array.getElem?_eq_some_iff.1 hl1).1
  refine⟨_,run_beginRound hl1 rfl,?_⟩
  have bk1:Bk B W1 (W1.putObj l (.loop { rcd fn tmps ps assign body D .ready none with state := .busy })):=⟨l,_,_,hl1,rfl,rfl,hl,rfl⟩
  have hl2:(W1.putObj l (.loop { rcd fn tmps ps assign body D .ready none with state := .busy })).heap[l]?=some (.loop { rcd fn tmps ps assign body D .ready none with state := .busy }):=World.putObj_heap_same hlt1
  have pre:∀ (q:Nat) (o:Obj),q≠l→W.heap[q]?=some o→(W1.putObj l (.loop { rcd fn tmps ps assign body D .ready none with state := .busy })).heap[q]?=some o:=fun q o hq ho =>
   (World.putObj_heap_other hq).trans ((hb1.block q (Array.getElem?_eq_some_iff.1 ho).1).trans ho)
  refine wpIn_mono (hbody l j a1 _ hl ⟨_,hl2⟩ (hI _ _ _ (hIb _ _ _ hi hb1) bk1) (hA _ _ _ _ ha1 bk1) hj) ?_
  intro e2 a2 W2 hp2
  cases e2 with
  | normal =>
   obtain⟨hk,hi2⟩:=hp2
   have hl3:=hk.2 _ _ hl2 rfl rfl
   have hr:=run_endRound (P:=P) none hl3
   refine⟨_,_,hr,.inl ⟨rfl,hI _ _ _ hi2 ⟨l,_,_,hl3,rfl,rfl,hl,rfl⟩,World.putObj_heap_same (Array.getElem?_eq_some_iff.1 hl3).1,fun q o hq ho hc hw=>(World.putObj_heap_other hq).trans (hk.2 q o (pre q o hq ho) hc hw)⟩⟩
  | ret =>
   obtain⟨hk,hx2⟩:=hp2
   have hl3:=hk.2 _ _ hl2 rfl rfl
   have hr:=run_endRound (P:=P) (some .ret) hl3
   refine⟨_,_,hr,.inr ⟨rfl,hX _ _ hx2 ⟨l,_,_,hl3,rfl,rfl,hl,rfl⟩,World.putObj_heap_same (Array.getElem?_eq_some_iff.1 hl3).1,fun q o hq ho hc hw=>(World.putObj_heap_other hq).trans (hk.2 q o (pre q o hq ho) hc hw)⟩⟩
  | exit id=>exact hp2.elim
  | goto t=>exact hp2.elim
  | panic ch=>exact hp2.elim
  | outgrown=>exact hp2.elim
 | ret=>exact hp.elim
 | exit id=>exact hp.elim
 | goto t=>exact hp.elim
 | panic ch=>exact hp.elim
 | outgrown=>exact hp.elim
theorem range_outer {g:Operand}{ps:Array Tmp}{assign body:Code}{Q:Exit→Act→World→Prop}{a:Act}{w:World}{G:Nat}{lbs:Array Value}{Rd:World→Prop}
  (hg:a.eval g = .func (.func G) #[] lbs) (eg:∀ args w,(callFunc G args).run P w = .ok (.enter G args) w) (IL:IterLaw P G lbs m encs Rd)
  (hB:B≤w.heap.size) (hRd:∀ j W,I j W→Rd W)
  (hI:∀ j W W',I j W→Bk B W W'→I j W') (hX:∀ W W',X W→Bk B W W'→X W') (hA:∀ j a W W',A j a W→Bk B W W'→A j a W') (hIb:∀ j W W',I j W→Below W.heap.size W W'→I j W')
  (hps:∀ j,(encs j).size=ps.size) (h0:I 0 w)
  (hassign:∀ l j W,I j W→j<m→assign.wpIn (Fence.wide.inRound l) n P (Exit.then (fun a₁ w₁=>Below W.heap.size W w₁∧A j a₁ w₁) (fun _ _ _=>False)) { tmps:=(ps.zip (encs j)).foldl (fun t (p,v)=>t.setIfInBounds p v) a.tmps,defers:=[] } W)
  (hbody:∀ l j a₁ W,B≤l→(∃ r,W.heap[l]?=some (.loop r))→I j W→A j a₁ W→j<m→body.wpIn (Fence.wide.inRound l) n P (BodyP I X j W) a₁ W)
  (hdone:∀ (D:Nat) (W:World),w.heap.size≤D→I m W→W.heap[D]?=some (.deferred (some []))→Q .normal { a with defers:={ target := .collected D,args := #[] } :: a.defers } W)
  (hstop:∀ (D:Nat) (W:World),w.heap.size≤D→X W→W.heap[D]?=some (.deferred (some []))→Code.ret.wp P Q { a with defers:={ target := .collected D,args := #[] } :: a.defers } W) :
  (Code.rangeFunc g ps assign body).wp P Q a w:=by
 refine(wpIn_wide (n:=2)).1 ?_
 refine wpIn_rangeFunc ?_
 intro fn hfn
 obtain⟨W3,hW3⟩:∃ W,W=(w.alloc (.deferred (some []))).alloc (.loop (rcd fn a.tmps ps assign body w.heap.size .ready none)):=⟨_,rfl⟩
 have he:(Instr.enterLoop fn a.tmps ps assign body Fence.wide.round).run P w = .ok (w.heap.size+1,[{ target := .collected w.heap.size,args := #[] }]) W3:=by
  rw [hW3]
  exact run_enterLoop_outer fn a.tmps ps assign body
 have h3:Below w.heap.size w W3:=by rw [hW3];exact((Below.refl _ _).alloc (Nat.le_refl _) _).alloc (by simp) _
 have hD3:W3.heap[w.heap.size]?=some (.deferred (some [])):=by
  rw [hW3,Below.heap_alloc _ _ _ (by simp)];exact World.alloc_heap_new w _
 have hl3:W3.heap[w.heap.size+1]?=some (.loop (rcd fn a.tmps ps assign body w.heap.size .ready none)):=by
  rw [hW3]
  have:=World.alloc_heap_new (w.alloc (.deferred (some []))) (.loop (rcd fn a.tmps ps assign body w.heap.size .ready none))
  rw [World.size_alloc] at this
  exact this
 refine⟨w.heap.size+1,[{ target := .collected w.heap.size,args := #[] }],W3,{ target := .fn (.func G) lbs,args := #[.func (.yield (w.heap.size+1)) #[] #[]] },W3,G,
  #[.func (.yield (w.heap.size+1)) #[] #[]]++lbs,W3,he,?_,?_,?_,(fun _=>by decide),?_⟩
 ·simp only [resolve,hg]
  simp [go_sem]
 ·intro f' _;exact trivial
 ·simp [invoke,go_sem,eg]
 ·refine callsIn_wide.2 ((IL n (w.heap.size+1) (fun j W=>I j W∧W.heap[w.heap.size+1]?=some (.loop (rcd fn a.tmps ps assign body w.heap.size .ready none))∧W.heap[w.heap.size]?=some (.deferred (some [])))
   (fun W=>X W∧W.heap[w.heap.size+1]?=some (.loop (rcd fn a.tmps ps assign body w.heap.size .done (some .ret)))∧W.heap[w.heap.size]?=some (.deferred (some []))) W3
   (fun j W1 W2 h hb=>⟨hIb j W1 W2 h.1 hb,(hb.block _ (Array.getElem?_eq_some_iff.1 h.2.1).1).trans h.2.1,(hb.block _ (Array.getElem?_eq_some_iff.1 h.2.2).1).trans h.2.2⟩) (fun j W1 h=>hRd j W1 h.1) ?_ ⟨hIb 0 w W3 h0 h3,hl3,hD3⟩).mono ?_)
  ·rintro j W1 ⟨hi,hl,hd⟩ hj
   obtain⟨f,t,asg,bo,hy,hR⟩:=one_round (m:=m) (encs:=encs) (A:=A) (show B≤w.heap.size+1 by omega) hI hX hA hIb hps hassign hbody hi hj hl
   refine⟨f,t,asg,bo,hy,hR.mono ?_⟩
   rintro e W' (⟨rfl,h1,h2,h3⟩|⟨rfl,h1,h2,h3⟩)
   ·exact .inl ⟨rfl,h1,h2,h3 _ _ (by omega) hd rfl rfl⟩
   ·exact .inr ⟨rfl,h1,h2,h3 _ _ (by omega) hd rfl rfl⟩
  ·rintro e W ⟨⟨v,rfl⟩,⟨hi,hl,hd⟩|⟨hx,hl,hd⟩⟩
   ·refine⟨none,_,run_endLoop hl (by simp [rcd]),?_⟩
    exact hdone _ _ (Nat.le_refl _) (hI _ _ _ hi ⟨_,_,_,hl,rfl,rfl,by omega,rfl⟩) ((World.putObj_heap_other (by omega)).trans hd)
   ·refine⟨some .ret,_,run_endLoop hl (by simp [rcd]),?_⟩
    exact wpIn_wide.2 (hstop _ _ (Nat.le_refl _) (hX _ _ hx ⟨_,_,_,hl,rfl,rfl,by omega,rfl⟩) ((World.putObj_heap_other (by omega)).trans hd))
theorem range_inner {g:Operand}{ps:Array Tmp}{assign body:Code}{Q:Exit→Act→World→Prop}{a:Act}{w:World}{G:Nat}{lbs:Array Value}{Rd:World→Prop} {l₀ k:Nat} {r₀ : Loop} (hl₀ : w.heap[l₀]?=some (.loop r₀))
  (hg:a.eval g = .func (.func G) #[] lbs) (eg:∀ args w,(callFunc G args).run P w = .ok (.enter G args) w) (IL:IterLaw P G lbs m encs Rd)
  (hB:B≤w.heap.size) (hRd:∀ j W,I j W→Rd W)
  (hI:∀ j W W',I j W→Bk B W W'→I j W') (hX:∀ W W',X W→Bk B W W'→X W') (hA:∀ j a W W',A j a W→Bk B W W'→A j a W') (hIb:∀ j W W',I j W→Below W.heap.size W W'→I j W')
  (hps:∀ j,(encs j).size=ps.size) (h0:I 0 w)
  (hassign:∀ l j W,I j W→j<m→assign.wpIn (Fence.wide.inRound l) n P (Exit.then (fun a₁ w₁=>Below W.heap.size W w₁∧A j a₁ w₁) (fun _ _ _=>False)) { tmps:=(ps.zip (encs j)).foldl (fun t (p,v)=>t.setIfInBounds p v) a.tmps,defers:=[] } W)
  (hbody:∀ l j a₁ W,B≤l→(∃ r,W.heap[l]?=some (.loop r))→I j W→A j a₁ W→j<m→body.wpIn (Fence.wide.inRound l) n P (BodyP I X j W) a₁ W)
  (hdone:∀ (W:World),I m W→Q .normal a W)
  (hstop:∀ (W:World),X W→Code.ret.wpIn (Fence.wide.inRound l₀) k P Q a W) :
  (Code.rangeFunc g ps assign body).wpIn (Fence.wide.inRound l₀) k P Q a w:=by
 refine wpIn_rangeFunc ?_
 intro fn hfn
 obtain⟨W3,hW3⟩:∃ W,W=w.alloc (.loop (rcd fn a.tmps ps assign body r₀.defers .ready none)):=⟨_,rfl⟩
 have he:(Instr.enterLoop fn a.tmps ps assign body (Fence.wide.inRound l₀).round).run P w = .ok (w.heap.size,[]) W3:=by
  rw [hW3]
  exact run_enterLoop_inner hl₀ fn a.tmps ps assign body
 have h3:Below w.heap.size w W3:=by rw [hW3];exact(Below.refl _ _).alloc (Nat.le_refl _) _
 have hl3:W3.heap[w.heap.size]?=some (.loop (rcd fn a.tmps ps assign body r₀.defers .ready none)):=by
  rw [hW3];exact World.alloc_heap_new w _
 refine⟨w.heap.size,[],W3,{ target := .fn (.func G) lbs,args := #[.func (.yield w.heap.size) #[] #[]] },W3,G,
  #[.func (.yield w.heap.size) #[] #[]]++lbs,W3,he,?_,?_,?_,(fun h=>by cases h),?_⟩
 ·simp only [resolve,hg]
  simp [go_sem]
 ·intro f' _;exact trivial
 ·simp [invoke,go_sem,eg]
 ·refine CallsIn.inRound l₀ (callsIn_wide.2 ((IL n w.heap.size (fun j W=>I j W∧W.heap[w.heap.size]?=some (.loop (rcd fn a.tmps ps assign body r₀.defers .ready none)))
   (fun W=>X W∧W.heap[w.heap.size]?=some (.loop (rcd fn a.tmps ps assign body r₀.defers .done (some .ret)))) W3
   (fun j W1 W2 h hb=>⟨hIb j W1 W2 h.1 hb,(hb.block _ (Array.getElem?_eq_some_iff.1 h.2).1).trans h.2⟩) (fun j W1 h=>hRd j W1 h.1) ?_ ⟨hIb 0 w W3 h0 h3,hl3⟩).mono ?_))
  ·rintro j W1 ⟨hi,hl⟩ hj
   obtain⟨f,t,asg,bo,hy,hR⟩:=one_round (m:=m) (encs:=encs) (A:=A) hB hI hX hA hIb hps hassign hbody hi hj hl
   refine⟨f,t,asg,bo,hy,hR.mono ?_⟩
   rintro e W' (⟨rfl,h1,h2,h3⟩|⟨rfl,h1,h2,h3⟩)
   ·exact .inl ⟨rfl,h1,h2⟩
   ·exact .inr ⟨rfl,h1,h2⟩
  ·rintro e W ⟨⟨v,rfl⟩,⟨hi,hl⟩|⟨hx,hl⟩⟩
   ·refine⟨none,_,run_endLoop hl (by simp [rcd]),?_⟩
    exact hdone _ (hI _ _ _ hi ⟨_,_,_,hl,rfl,rfl,hB,rfl⟩)
   ·refine⟨some .ret,_,run_endLoop hl (by simp [rcd]),?_⟩
    exact hstop _ (hX _ _ hx ⟨_,_,_,hl,rfl,rfl,hB,rfl⟩)
end
end Go.Proofs.YtnkahlloahgifaaGreatDoor
namespace Go.Proofs.YtnkahlloahgifaaGreatDoor
open Go.RowKit RG
theorem isRest_any (k:Int) (w:World):Calls Tryz.prog 107 #[.int .i64 k] w fun e w'=>e = .returned (.bool (isRest k))∧w'=w:=by
 by_cases h1:1≤k
 ·by_cases h2:k≤6
  ·go_enter Tryz.func107,Tryz.ntmps107
   go_wp2_with fail
   go_ret
   exact⟨by simp [isRest,h1,h2],rfl⟩
  ·have hd:decide (k≤6)=false:=by simpa using h2
   go_enter Tryz.func107,Tryz.ntmps107
   go_wp2_with fail
   go_ret
   exact⟨by simp [isRest,h1,h2],rfl⟩
 ·have hd:decide (1≤k)=false:=by simpa using h1
  go_enter Tryz.func107,Tryz.ntmps107
  go_wp2_with fail
  go_ret
  exact⟨by simp [isRest];omega,rfl⟩
theorem toList_empty {s:ByteArray}(h:s.size=0):s.toList.isEmpty=true:=by
 rw [Lib.toList_data,List.isEmpty_iff]
 exact List.eq_nil_of_length_eq_zero (by simpa using h)
theorem toList_full {s:ByteArray}(h:s.size≠0):s.toList.isEmpty=false:=by
 rw [Lib.toList_data]
 cases hq:s.data.toList with
 | nil=>exact absurd (by have:=congrArg List.length hq;simpa using this) h
 | cons a l=>rfl
structure Xc (w:World) (e:TE) (b o:Nat) (va:Value) (aa ab:Option Addr) (ca cb:Nat):Prop where
 c0:w.cell? ⟨b,o,none⟩=some (.int .i64 e.kind)
 c1:w.cell? ⟨b,o+1,none⟩=some (.string e.name)
 c5:w.cell? ⟨b,o+5,none⟩=some va
 c6:w.cell? ⟨b,o+6,none⟩=some (.slice aa e.arms.length ca)
 c7:w.cell? ⟨b,o+7,none⟩=some (.slice ab e.body.length cb)
 args:AtomsAt w va e.args
 arms:0<e.arms.length→∃ ga oa,aa=some ⟨ga,oa,none⟩∧TAAt w e.arms ga oa
 body:0<e.body.length→∃ gb ob,ab=some ⟨gb,ob,none⟩∧TBAt w e.body gb ob
theorem TEAt.open {w:World}{e:TE}{b o:Nat}(h:TEAt w e b o):∃ va aa ab ca cb,Xc w e b o va aa ab ca cb:=by
 obtain⟨k,n,xs,arms,body⟩:=e
 rw [TEAt] at h
 obtain⟨op,num,site,va,aa,ab,ca,cb,ga,oa,gb,ob,⟨c0,c1,c2,c3⟩,⟨c4,c5,c6,c7⟩,h1,h2,h3,h4,h5⟩:=h
 exact⟨va,aa,ab,ca,cb,c0,c1,c5,c6,c7,h1,fun h=>⟨ga,oa,h2 h,h3⟩,fun h=>⟨gb,ob,h4 h,h5⟩⟩
def RdP (w:World) (v:Value) (e:Ending) (w':World):Prop:=e = .returned v∧∃ n,w'=w.drewN n
set_option maxHeartbeats 1000000 in
set_option maxRecDepth 20000 in
theorem isForm_any {w:World}{e:TE}{b o:Nat}(h:TEAt w e b o):Calls Tryz.prog 86 #[.pointer (some ⟨b,o,none⟩)] w (RdP w (.bool e.form)):=by
 obtain⟨va,aa,ab,ca,cb,hx⟩:=h.open
 obtain⟨ad,c,rfl,hargs⟩:=hx.args.at'
 obtain⟨c0,c1,c5,c6,c7,-,-,-⟩:=hx
 obtain⟨v,hv⟩:∃ v,v=e.form:=⟨_,rfl⟩
 rw [← hv]
 obtain⟨k,n,xs,arms,body⟩:=e
 simp only [TE.kind,TE.name,TE.args,TE.arms,TE.body] at *
 have hform:v=(decide (1≤k)&&decide (k≤10)&&(isRest k==(body.length==1))&&decide (body.length≤1) &&
  (if k=7 then xs.length==1&&((xs.headD ⟨#[]⟩).size != 0)&&decide (1≤arms.length)&&decide (arms.length≤16) else arms.length==0&&decide (xs.length≤16))):=hv
 have HA:=zh hargs
 obtain⟨hdn,hhd⟩:∃ x,x=xs.headD ⟨#[]⟩:=⟨_,rfl⟩
 have HH:=zh hhd
 rw [← hhd] at hform
 obtain⟨ng,hng⟩:∃ x,x=xs.length:=⟨_,rfl⟩
 obtain⟨na,hna⟩:∃ x,x=arms.length:=⟨_,rfl⟩
 obtain⟨nb,hnb⟩:∃ x,x=body.length:=⟨_,rfl⟩
 rw [← hng,← hna,← hnb] at hform
 rw [← hng] at c5
 rw [← hna] at c6
 rw [← hnb] at c7
 have HNG:=zh hng
 have HV:=zh hform
 clear hargs hform hng hna hnb h hv hhd
 by_cases k1:k<1
 ·have E1:Hid (v=false):=by show _=_;rw [HV.out,show decide (1≤k)=false by simp;omega];rfl
  go_enter Tryz.func86,Tryz.ntmps86
  go_wp2_with fail
  go_quiet ((go_at_call 107;exact Calls.quiet_of_same (isRest_any _ _)))
  go_wp2_with fail
  go_ret
  rw [E1.out]
  exact⟨rfl,_,rfl⟩
 ·by_cases k2:10<k
  ·have E1:Hid (v=false):=by show _=_;rw [HV.out,show decide (k≤10)=false by simp;omega];simp
   have d1:decide (k<1)=false:=by simpa using k1
   go_enter Tryz.func86,Tryz.ntmps86
   go_wp2_with fail
   go_quiet ((go_at_call 107;exact Calls.quiet_of_same (isRest_any _ _)))
   go_wp2_with fail
   go_ret
   rw [E1.out]
   exact⟨rfl,_,rfl⟩
  ·have d1:decide (k<1)=false:=by simpa using k1
   have d2:decide (10<k)=false:=by simpa using k2
   obtain⟨r,hr⟩:∃ r,r=isRest k:=⟨_,rfl⟩
   have hnb1:((nb:Int)==1)=(nb==1):=by rw [Bool.eq_iff_iff];simp;omega
   by_cases hq:r=(nb==1)
   ·have b2:(r==((nb:Int)==1))=true:=by rw [hnb1,← hq];cases r<;>rfl
    by_cases hb:1<nb
    ·have b3:decide (1<(nb:Int))=true:=by simp;omega
     have E1:Hid (v=false):=by show _=_;rw [HV.out,show decide (nb≤1)=false by simp;omega];simp
     rw [hr] at b2
     clear hq hb hr hnb1
     go_enter Tryz.func86,Tryz.ntmps86
     go_wp2_with fail
     go_quiet ((go_at_call 107;exact Calls.quiet_of_same (isRest_any _ _)))
     go_wp2_with fail
     go_ret
     rw [E1.out]
     exact⟨rfl,_,rfl⟩
    ·have b3:decide (1<(nb:Int))=false:=by simp;omega
     have HV2:Hid (v=(if k=7 then ng==1&&(hdn.size != 0)&&decide (1≤na)&&decide (na≤16) else na==0&&decide (ng≤16))):=by
      show _=_
      rw [HV.out,show decide (1≤k)=true by simp;omega,show decide (k≤10)=true by simp;omega,← hr,hq,show decide (nb≤1)=true by simp;omega]
      simp
     rw [hr] at b2
     clear hq hb hr hnb1
     by_cases h7:k=7
     ·have b7:(k != 7)=false:=by simp [h7]
      have HV3:Hid (v=(ng==1&&(hdn.size != 0)&&decide (1≤na)&&decide (na≤16))):=by show _=_;rw [HV2.out,if_pos h7]
      clear h7
      by_cases n1:ng=1
      ·have c1:((ng:Int)==1)=true:=by simp [n1]
       obtain⟨g,q,rfl,hat⟩:=HA.out (by rw [← HNG.out];omega)
       obtain⟨m,hm,_⟩:=hat 0 hdn (by rw [HH.out];cases xs with | nil=>have:=HNG.out;simp at this;omega | cons a t=>rfl)
       rw [Nat.zero_mul,Nat.add_zero] at hm
       have i1:(0:Int)<ng:=by omega
       have i2:0<ng:=by omega
       have N1:=zh n1
       clear hat n1
       by_cases s0:hdn.size=0
       ·have c2:hdn.toList.isEmpty=true:=toList_empty s0
        have E1:Hid (v=false):=by show _=_;rw [HV3.out];simp [s0]
        clear s0
        go_enter Tryz.func86,Tryz.ntmps86
        go_wp2_with fail
        go_quiet ((go_at_call 107;exact Calls.quiet_of_same (isRest_any _ _)))
        go_wp2_with fail
        go_ret
        rw [E1.out]
        exact⟨rfl,_,rfl⟩
       ·have c2:hdn.toList.isEmpty=false:=toList_full s0
        by_cases a1:1≤na
        ·have c3:decide ((1:Int)≤na)=true:=by simp;omega
         by_cases a2:na≤16
         ·have c4:decide ((na:Int)≤16)=true:=by simp;omega
          have E1:Hid (v=true):=by show _=_;rw [HV3.out,N1.out];simp [s0,a1,a2]
          clear s0 a1 a2
          go_enter Tryz.func86,Tryz.ntmps86
          go_wp2_with fail
          go_quiet ((go_at_call 107;exact Calls.quiet_of_same (isRest_any _ _)))
          go_wp2_with fail
          go_ret
          rw [E1.out]
          exact⟨rfl,_,rfl⟩
         ·have c4:decide ((na:Int)≤16)=false:=by simp;omega
          have E1:Hid (v=false):=by show _=_;rw [HV3.out];simp [a2]
          clear s0 a1 a2
          go_enter Tryz.func86,Tryz.ntmps86
          go_wp2_with fail
          go_quiet ((go_at_call 107;exact Calls.quiet_of_same (isRest_any _ _)))
          go_wp2_with fail
          go_ret
          rw [E1.out]
          exact⟨rfl,_,rfl⟩
        ·have c3:decide ((1:Int)≤na)=false:=by simp;omega
         have E1:Hid (v=false):=by show _=_;rw [HV3.out];simp [a1]
         clear s0 a1
         go_enter Tryz.func86,Tryz.ntmps86
         go_wp2_with fail
         go_quiet ((go_at_call 107;exact Calls.quiet_of_same (isRest_any _ _)))
         go_wp2_with fail
         go_ret
         rw [E1.out]
         exact⟨rfl,_,rfl⟩
      ·have c1:((ng:Int)==1)=false:=by simp;omega
       have E1:Hid (v=false):=by show _=_;rw [HV3.out];simp [n1]
       clear n1
       go_enter Tryz.func86,Tryz.ntmps86
       go_wp2_with fail
       go_quiet ((go_at_call 107;exact Calls.quiet_of_same (isRest_any _ _)))
       go_wp2_with fail
       go_ret
       rw [E1.out]
       exact⟨rfl,_,rfl⟩
     ·have b7:(k != 7)=true:=by simp [h7]
      have HV3:Hid (v=(na==0&&decide (ng≤16))):=by show _=_;rw [HV2.out,if_neg h7]
      clear h7
      by_cases n0:na=0
      ·by_cases n1:ng≤16
       ·have c1:((na:Int)==0)=true:=by simp [n0]
        have c2:decide ((ng:Int)≤16)=true:=by simp;omega
        have E1:Hid (v=true):=by show _=_;rw [HV3.out];simp [n0,n1]
        clear n0 n1
        go_enter Tryz.func86,Tryz.ntmps86
        go_wp2_with fail
        go_quiet ((go_at_call 107;exact Calls.quiet_of_same (isRest_any _ _)))
        go_wp2_with fail
        go_ret
        rw [E1.out]
        exact⟨rfl,_,rfl⟩
       ·have c1:((na:Int)==0)=true:=by simp [n0]
        have c2:decide ((ng:Int)≤16)=false:=by simp;omega
        have E1:Hid (v=false):=by show _=_;rw [HV3.out];simp [n0,n1]
        clear n0 n1
        go_enter Tryz.func86,Tryz.ntmps86
        go_wp2_with fail
        go_quiet ((go_at_call 107;exact Calls.quiet_of_same (isRest_any _ _)))
        go_wp2_with fail
        go_ret
        rw [E1.out]
        exact⟨rfl,_,rfl⟩
      ·have c1:((na:Int)==0)=false:=by simp;omega
       have E1:Hid (v=false):=by show _=_;rw [HV3.out];simp [n0]
       clear n0
       go_enter Tryz.func86,Tryz.ntmps86
       go_wp2_with fail
       go_quiet ((go_at_call 107;exact Calls.quiet_of_same (isRest_any _ _)))
       go_wp2_with fail
       go_ret
       rw [E1.out]
       exact⟨rfl,_,rfl⟩
   ·have b2:(r==((nb:Int)==1))=false:=by rw [hnb1];revert hq;cases r<;>cases (nb==1)<;>simp
    have E1:Hid (v=false):=by show _=_;rw [HV.out,← hr,show (r==(nb==1))=false by simpa using hq];simp
    rw [hr] at b2
    clear hq hr hnb1
    go_enter Tryz.func86,Tryz.ntmps86
    go_wp2_with fail
    go_quiet ((go_at_call 107;exact Calls.quiet_of_same (isRest_any _ _)))
    go_wp2_with fail
    go_ret
    rw [E1.out]
    exact⟨rfl,_,rfl⟩
end Go.Proofs.YtnkahlloahgifaaGreatDoor
namespace Go.Proofs.YtnkahlloahgifaaGreatDoor
open Go.RowKit RG
def BkRd (ib:Nat) (ad:Option Addr) (c g o m:Nat) (lb:Nat→Nat) (W:World):Prop:=W.cell? ⟨ib,0,none⟩=some (.slice ad m c)∧∀ k,k<m→W.cell? ⟨g,o+k,none⟩=some (.pointer (some ⟨lb k,0,none⟩))
def bkEnc (m:Nat) (lb:Nat→Nat) (j:Nat):Array Value := #[.int .i64 ((m - 1 - j:Nat):Int),.pointer (some ⟨lb (m - 1 - j),0,none⟩)]
theorem backward_any (v:Value) (h1:v.oneCell'=true) (w:World) (a:Option Addr) (n c:Nat) (hv:v = .slice a n c):Calls Tryz.prog 89 #[v] w fun e w'=>e = .returned (.func (.func 112) #[] #[.pointer (some ⟨w.heap.size,0,none⟩)])∧w'=w.alloc (.cells #[v] 106):=by
 subst hv
 go_enter Tryz.func89,Tryz.ntmps89
 go_wp2_with fail
 go_ret
 exact⟨rfl,rfl⟩
theorem backwardN_any (w:World) (a:Option Addr) (n c:Nat):Calls Tryz.prog 113 #[.slice a n c] w fun e w'=>e = .returned (.func (.func 118) #[] #[.pointer (some ⟨w.heap.size,0,none⟩)])∧w'=w.alloc (.cells #[.slice a n c] 115):=by
 go_enter Tryz.func113,Tryz.ntmps113
 go_wp2_with fail
 go_ret
 exact⟨rfl,rfl⟩
set_option maxHeartbeats 1000000 in
set_option maxRecDepth 20000 in
theorem back_iter (ib:Nat) (ad:Option Addr) (c g o m:Nat) (lb:Nat→Nat) (had:0<m→ad=some ⟨g,o,none⟩) (hm:m≤1000000):IterLaw Tryz.prog 112 #[.pointer (some ⟨ib,0,none⟩)] m (bkEnc m lb) (BkRd ib ad c g o m lb):=by
 intro n l J Jx W hJb hRd hY h0
 have HJB:=zh hJb
 have HRD:=zh hRd
 have HY:=zh hY
 have H0:=zh h0
 have HAD:=zh had
 have c0:=(hRd _ _ h0).1
 have hmz:(m:Int)≤1000000:=by omega
 have HM:=zh hm
 clear hJb hRd hY h0 had hm
 go_enter Tryz.func112,Tryz.ntmps112
 go_wp2_with fail
 go_loopg [3] m (fun gk v wr=>∃ j:Nat,j≤m∧gk=m - j∧v = .int .i64 ((m:Int) - j - 1)∧J j wr)
 case atStart=>exact⟨0,Nat.zero_le _,rfl,by simp,H0.out⟩
 case round =>
  obtain⟨j,hj,hgk,rfl,hJ⟩:=hrel
  have HJ:=zh hJ
  have HGK:=zh hgk
  have HJL:=zh hj
  have e0:=(HRD.out _ _ hJ).1
  clear hJ hgk c0
  by_cases hlt:j<m
  ·obtain⟨k,hk⟩:∃ k:Nat,k=m - 1 - j:=⟨_,rfl⟩
   have ek:((m:Int) - j - 1)=(k:Int):=by omega
   obtain rfl:=HAD.out (by omega)
   have e1:=(HRD.out _ _ HJ.out).2 k (by omega)
   obtain⟨fn,tmps,assign,body,hy,hR⟩:=HY.out j wr HJ.out hlt
   unfold bkEnc at hy
   rw [← hk] at hy
   rw [ek]
   have HR:=zh hR
   have HLT:=zh hlt
   have HK:=zh hk
   have hkz:(k:Int)<m:=by omega
   clear hR hlt hk ek hj
   go_upto_region 3 with (fail)
   refine(wpIn_wide (n:=n+1)).1 ?_
   gi_wp2
   refine HR.out.mono ?_
   clear hy e0 e1
   rintro e W' (⟨rfl,hJ'⟩|⟨rfl,hX'⟩)
   ·have HJ':=zh hJ'
    clear hJ'
    gi_wp2
    go_wp2_with fail
    go_roundg (m - (j+1))
    case measure=>have:=HGK.out;have:=HLT.out;omega
    case rel=>exact⟨j+1,HLT.out,rfl,by have:=HK.out;have:=HLT.out;congr 1;omega,HJ'.out⟩
   ·have HX':=zh hX'
    clear hX'
    gi_wp2
    go_wp2_with fail
    (try simp only [Exit.inBlock,Exit.then])
    refine bodyPost_ret (results_none rfl _ _ _) rfl ?_
    exact⟨⟨_,rfl⟩,.inr HX'.out⟩
  ·have e:((m:Int) - j - 1) = -1:=by omega
   rw [e]
   have HE:Hid (j=m):=by have:=HJL.out;show _=_;omega
   clear hlt hj e
   go_wp2_with fail
   refine bodyPost_end (results_none rfl _ _ _) rfl ?_
   exact⟨⟨_,rfl⟩,.inl (by rw [← HE.out];exact HJ.out)⟩
set_option maxHeartbeats 1000000 in
set_option maxRecDepth 20000 in
theorem backN_iter (ib:Nat) (ad:Option Addr) (c g o m:Nat) (lb:Nat→Nat) (had:0<m→ad=some ⟨g,o,none⟩) (hm:m≤1000000):IterLaw Tryz.prog 118 #[.pointer (some ⟨ib,0,none⟩)] m (bkEnc m lb) (BkRd ib ad c g o m lb):=by
 intro n l J Jx W hJb hRd hY h0
 have HJB:=zh hJb
 have HRD:=zh hRd
 have HY:=zh hY
 have H0:=zh h0
 have HAD:=zh had
 have c0:=(hRd _ _ h0).1
 have hmz:(m:Int)≤1000000:=by omega
 have HM:=zh hm
 clear hJb hRd hY h0 had hm
 go_enter Tryz.func118,Tryz.ntmps118
 go_wp2_with fail
 go_loopg [3] m (fun gk v wr=>∃ j:Nat,j≤m∧gk=m - j∧v = .int .i64 ((m:Int) - j - 1)∧J j wr)
 case atStart=>exact⟨0,Nat.zero_le _,rfl,by simp,H0.out⟩
 case round =>
  obtain⟨j,hj,hgk,rfl,hJ⟩:=hrel
  have HJ:=zh hJ
  have HGK:=zh hgk
  have HJL:=zh hj
  have e0:=(HRD.out _ _ hJ).1
  clear hJ hgk c0
  by_cases hlt:j<m
  ·obtain⟨k,hk⟩:∃ k:Nat,k=m - 1 - j:=⟨_,rfl⟩
   have ek:((m:Int) - j - 1)=(k:Int):=by omega
   obtain rfl:=HAD.out (by omega)
   have e1:=(HRD.out _ _ HJ.out).2 k (by omega)
   obtain⟨fn,tmps,assign,body,hy,hR⟩:=HY.out j wr HJ.out hlt
   unfold bkEnc at hy
   rw [← hk] at hy
   rw [ek]
   have HR:=zh hR
   have HLT:=zh hlt
   have HK:=zh hk
   have hkz:(k:Int)<m:=by omega
   clear hR hlt hk ek hj
   go_upto_region 3 with (fail)
   refine(wpIn_wide (n:=n+1)).1 ?_
   gi_wp2
   refine HR.out.mono ?_
   clear hy e0 e1
   rintro e W' (⟨rfl,hJ'⟩|⟨rfl,hX'⟩)
   ·have HJ':=zh hJ'
    clear hJ'
    gi_wp2
    go_wp2_with fail
    go_roundg (m - (j+1))
    case measure=>have:=HGK.out;have:=HLT.out;omega
    case rel=>exact⟨j+1,HLT.out,rfl,by have:=HK.out;have:=HLT.out;congr 1;omega,HJ'.out⟩
   ·have HX':=zh hX'
    clear hX'
    gi_wp2
    go_wp2_with fail
    (try simp only [Exit.inBlock,Exit.then])
    refine bodyPost_ret (results_none rfl _ _ _) rfl ?_
    exact⟨⟨_,rfl⟩,.inr HX'.out⟩
  ·have e:((m:Int) - j - 1) = -1:=by omega
   rw [e]
   have HE:Hid (j=m):=by have:=HJL.out;show _=_;omega
   clear hlt hj e
   go_wp2_with fail
   refine bodyPost_end (results_none rfl _ _ _) rfl ?_
   exact⟨⟨_,rfl⟩,.inl (by rw [← HE.out];exact HJ.out)⟩
def usesL (ns:List Nm):List Nm:=ns.filter fun n=>n.size != 0
theorem usesL_snoc {ns:List Nm}{i:Nat}{x:Nm}(h:ns[i]?=some x):usesL (ns.take (i+1))=if x.size=0 then usesL (ns.take i) else usesL (ns.take i)++[x]:=by
 unfold usesL
 rw [List.take_add_one,h,List.filter_append]
 by_cases e:x.size=0<;>simp [e]
theorem usesL_at {ns:List Nm}{i:Nat}{x:Nm}(h:ns[i]?=some x) (hx:x.size≠0):(usesL ns)[(usesL (ns.take i)).length]?=some x:=by
 have hs:ns=ns.take (i+1)++ns.drop (i+1):=(List.take_append_drop _ _).symm
 have e:usesL ns=usesL (ns.take i)++[x]++usesL (ns.drop (i+1)):=by
  conv=>lhs;rw [hs]
  have:=usesL_snoc h
  rw [if_neg hx] at this
  rw [← this]
  unfold usesL
  rw [List.filter_append]
 rw [e,List.append_assoc,List.getElem?_append_right (Nat.le_refl _)]
 simp
structure UsRd (ib nb b o:Nat) (ad:Option Addr) (c g q:Nat) (ns:List Nm) (W:World):Prop where
 c0:W.cell? ⟨ib,0,none⟩=some (.pointer (some ⟨nb,0,none⟩))
 c1:W.cell? ⟨nb,0,none⟩=some (.pointer (some ⟨b,o,none⟩))
 c2:W.cell? ⟨b,o+5,none⟩=some (.slice ad ns.length c)
 c3:∀ i n,ns[i]?=some n→∃ m:Int,W.cell? ⟨g,q+i*2,none⟩=some (.string n)∧W.cell? ⟨g,q+i*2+1,none⟩=some (.int .i64 m)
def usEnc (ns:List Nm) (j:Nat):Array Value := #[.string ((usesL ns).getD j ⟨#[]⟩)]
theorem uses_any (nb:Nat) (w:World):Calls Tryz.prog 67 #[.pointer (some ⟨nb,0,none⟩)] w fun e w'=>e = .returned (.func (.func 95) #[] #[.pointer (some ⟨w.heap.size,0,none⟩)])∧w'=w.alloc (.cells #[.pointer (some ⟨nb,0,none⟩)] 100):=by
 go_enter Tryz.func67,Tryz.ntmps67
 go_wp2_with fail
 go_ret
 exact⟨rfl,rfl⟩
set_option maxHeartbeats 1000000 in
set_option maxRecDepth 20000 in
theorem uses_iter (ib nb b o:Nat) (ad:Option Addr) (c g q:Nat) (ns:List Nm) (had:0<ns.length→ad=some ⟨g,q,none⟩) (hm:ns.length≤1000000):IterLaw Tryz.prog 95 #[.pointer (some ⟨ib,0,none⟩)] (usesL ns).length (usEnc ns) (UsRd ib nb b o ad c g q ns):=by
 intro n l J Jx W hJb hRd hY h0
 have HJB:=zh hJb
 have HRD:=zh hRd
 have HY:=zh hY
 have H0:=zh h0
 have HAD:=zh had
 have c0:=(hRd _ _ h0).c0
 have c1:=(hRd _ _ h0).c1
 have c2:=(hRd _ _ h0).c2
 obtain⟨m,hmm⟩:∃ m,m=ns.length:=⟨_,rfl⟩
 rw [← hmm] at c2
 have HM:=zh hmm
 have hmz:(m:Int)≤1000000:=by omega
 clear hJb hRd hY h0 had hm hmm
 go_enter Tryz.func95,Tryz.ntmps95
 go_wp2_with fail
 go_loopg [13] m (fun gk v wr=>∃ i:Nat,i≤m∧gk=m - i∧v = .int .i64 i∧J (usesL (ns.take i)).length wr)
 case atStart=>exact⟨0,Nat.zero_le _,rfl,rfl,H0.out⟩
 case round =>
  obtain⟨i,hi,hgk,rfl,hJ⟩:=hrel
  have HJ:=zh hJ
  have HGK:=zh hgk
  have HIL:=zh hi
  have RD:=zh (HRD.out _ _ hJ)
  clear hJ hgk c0 c1 c2
  by_cases hlt:i<m
  ·obtain⟨x,hx⟩:∃ x,ns[i]?=some x:=⟨_,List.getElem?_eq_getElem (by rw [← HM.out];exact hlt)⟩
   obtain⟨num,e1,e2⟩:=RD.out.c3 i x hx
   obtain rfl:=HAD.out (by rw [← HM.out];omega)
   have HX:=zh hx
   have HLT:=zh hlt
   have hiz:(i:Int)<m:=by omega
   clear hlt hx hi
   go_upto_region 3 with (fail)
   clear e1 e2
   obtain⟨z,hz⟩:∃ z,z=wr.heap.size:=⟨_,rfl⟩
   obtain⟨V,hV⟩:∃ V,V=wr.alloc (.cells #[.string x,.int .i64 num] 146):=⟨_,rfl⟩
   rw [← hV,← hz]
   have HJV:Hid (J (usesL (ns.take i)).length V):=HJB.out _ _ _ HJ.out (by rw [hV];exact(Below.refl _ _).alloc (Nat.le_refl _) _)
   have z0:V.cell? ⟨z,0,none⟩=some (.string x):=by rw [hV,hz,cell_of_row _ _ 0 _ _ _ (heap_alloc_new wr _)];rfl
   clear hV hz
   by_cases s0:x.size=0
   ·have c2:x.toList.isEmpty=true:=toList_empty s0
    have NX:Hid (usesL (ns.take (i+1))=usesL (ns.take i)):=by show _=_;rw [usesL_snoc HX.out,if_pos s0]
    clear s0
    go_wp2_with fail
    go_roundg (m - (i+1))
    case measure=>have:=HGK.out;have:=HLT.out;omega
    case rel=>exact⟨i+1,HLT.out,rfl,by go_num,by rw [NX.out];exact HJV.out⟩
   ·have c2:x.toList.isEmpty=false:=toList_full s0
    have NX:Hid (usesL (ns.take (i+1))=usesL (ns.take i)++[x]):=by show _=_;rw [usesL_snoc HX.out,if_neg s0]
    have AT:=usesL_at HX.out s0
    obtain⟨fn,tmps,assign,body,hy,hR⟩:=HY.out _ V HJV.out (List.getElem?_eq_some_iff.1 AT).1
    unfold usEnc at hy
    rw [List.getD_eq_getElem?_getD,AT,Option.getD_some] at hy
    have HR:=zh hR
    clear hR AT s0
    refine(wpIn_wide (n:=n+1)).1 ?_
    gi_wp2
    refine HR.out.mono ?_
    clear hy z0
    rintro e W' (⟨rfl,hJ'⟩|⟨rfl,hX'⟩)
    ·have HJ':=zh hJ'
     clear hJ'
     gi_wp2
     go_wp2_with fail
     go_roundg (m - (i+1))
     case measure=>have:=HGK.out;have:=HLT.out;omega
     case rel=>exact⟨i+1,HLT.out,rfl,by go_num,by rw [NX.out,List.length_append];exact HJ'.out⟩
    ·have HX':=zh hX'
     clear hX'
     gi_wp2
     go_wp2_with fail
     (try simp only [Exit.inBlock,Exit.then])
     refine bodyPost_ret (results_none rfl _ _ _) rfl ?_
     exact⟨⟨_,rfl⟩,.inr HX'.out⟩
  ·have hlz:(m:Int)≤i:=by omega
   have HE:Hid (i=m):=by have:=HIL.out;show _=_;omega
   clear hlt hi
   go_wp2_with fail
   refine bodyPost_end (results_none rfl _ _ _) rfl ?_
   have:=HJ.out
   rw [HE.out,HM.out,List.take_length] at this
   exact⟨⟨_,rfl⟩,.inl this⟩
end Go.Proofs.YtnkahlloahgifaaGreatDoor
namespace Go.Proofs.YtnkahlloahgifaaGreatDoor
open Go.RowKit RG Go.Maps
open Go.WideMaps (keyOf_string_mk)
structure FlatC (w:World) (A:Ad) (f:Nat) (F:List Nd):Prop where
 flat:∃ sl sn sv,w.heap[f]?=some (.cells #[.pointer (some ⟨A.lb 0,0,none⟩),sl,sn,sv,.map (some A.pl)] 118 (0,0)) ∧
  SlAt w sl F.length (ptrs ((List.range F.length).map A.lb))∧SlAt w sn F.length (ptrs ((List.range F.length).map A.nb))∧StrsAt w sv (vars F)
 link:∀ i,i<F.length→∃ sv xv,w.heap[A.lb i]?=some (.cells #[sv,xv,.pointer (some ⟨A.nb i,0,none⟩)] 120 (0,0))∧StrsAt w sv (nd F i).binds
 node:∀ i,i<F.length→∃ sx,w.heap[A.nb i]?=some (.cells #[.pointer (some ⟨A.xb i,A.xo i,none⟩),sx,.map (some (A.mb i))] 110 (0,0))∧SlAt w sx (nd F i).next.length (ptrs ((nd F i).next.map A.lb))
 exp:∀ i,i<F.length→TEAt w (nd F i).e (A.xb i) (A.xo i)
 pmap:PMap w A.pl (vars F)
theorem FlatC.full {w:World}{A:Ad}{f:Nat}{F:List Nd}(h:FlatC w A f F) (hl:∀ i,i<F.length→SetAt w (A.mb i) F (lv F i)):FlatAt w A f F:=⟨h.flat,h.link,h.node,hl,h.exp,h.pmap⟩
structure Fq (S:Nat→Prop) (w W:World):Prop where
 os:W.os=w.os
 tape:W.tape=w.tape
 output:W.output=w.output
 size:w.heap.size≤W.heap.size
 block:∀ q,q<w.heap.size→¬ S q→W.heap[q]?=w.heap[q]?
theorem Fq.refl (S:Nat→Prop) (w:World):Fq S w w:=⟨rfl,rfl,rfl,Nat.le_refl _,fun _ _ _=>rfl⟩
theorem Fq.trans {S:Nat→Prop}{w w1 w2:World}(h:Fq S w w1) (k:Fq S w1 w2):Fq S w w2 :=
 ⟨k.os.trans h.os,k.tape.trans h.tape,k.output.trans h.output,Nat.le_trans h.size k.size,fun q hq hs=>(k.block q (Nat.lt_of_lt_of_le hq h.size) hs).trans (h.block q hq hs)⟩
theorem Fq.of_below {S:Nat→Prop}{w W:World}{B:Nat}(h:Below B w W) (hB:w.heap.size≤B):Fq S w W:=⟨h.os,h.tape,h.output,h.size,fun q hq _=>h.block q (by omega)⟩
theorem Fq.grown {S:Nat→Prop}{w w1 w2:World}{row:Option Nat}(h:Fq S w w1) (g:w1.grownBy w2 row) (hr:∀ q,row=some q→q<w.heap.size→S q):Fq S w w2 :=
 ⟨g.os.trans h.os,g.tape.trans h.tape,g.output.trans h.output,Nat.le_trans h.size g.size,fun q hq hs=>(g.block q (Nat.lt_of_lt_of_le hq h.size) (fun e=>hs (hr q e.symm hq))).trans (h.block q hq hs)⟩
theorem Fq.below {S:Nat→Prop}{w W:World}{B:Nat}(h:Fq S w W) (hB:B≤w.heap.size) (hS:∀ q,S q→B≤q):Below B w W :=
 ⟨h.os,h.tape,h.output,h.size,fun q hq=>h.block q (by omega) (fun hs=>by have:=hS q hs;omega)⟩
theorem Fq.kept {S:Nat→Prop}{w W:World}(h:Fq S w W) (hS:∀ q,S q→∃ es c,w.heap[q]?=some (.map es c)):Kept w W:=fun a x hx=>by
 have hb:=World.block_lt_of_cell? w _ hx
 rw [World.cell?_of_block (h.block a.block hb (fun hs=>by
  obtain⟨es,c,hm⟩:=hS _ hs
  unfold World.cell? at hx
  rw [hm] at hx
  cases hx))]
 exact hx
theorem Fq.obj {S:Nat→Prop}{w W:World}(h:Fq S w W) (hS:∀ q,S q→∃ es c,w.heap[q]?=some (.map es c)) {q:Nat}{cs:Array Value}{T:TypeId}{r:Nat×Nat}(hq:w.heap[q]?=some (.cells cs T r)):W.heap[q]?=some (.cells cs T r):=by
 rw [h.block q (Array.getElem?_eq_some_iff.1 hq).1 (fun hs=>by obtain⟨es,c,hm⟩:=hS _ hs;rw [hm] at hq;cases hq)]
 exact hq
theorem FlatC.fq {S:Nat→Prop}{w W:World}{A:Ad}{f:Nat}{F:List Nd}(h:FlatC w A f F) (q:Fq S w W) (hS:∀ q,S q→∃ es c,w.heap[q]?=some (.map es c)) (hp:¬ S A.pl):FlatC W A f F:=by
 have hk:=q.kept hS
 obtain⟨⟨sl,sn,sv,f0,f1,f2,f3⟩,h2,h3,h5,h6⟩:=h
 refine⟨⟨sl,sn,sv,q.obj hS f0,f1.kept hk,f2.kept hk,f3.kept hk⟩,fun i hi=>?_,fun i hi=>?_,fun i hi=>TEAt.kept hk _ _ _ (h5 i hi),h6.keep (q.block _ h6.lt hp)⟩
 ·obtain⟨sv,xv,a,b⟩:=h2 i hi;exact⟨sv,xv,q.obj hS a,b.kept hk⟩
 ·obtain⟨sx,a,b⟩:=h3 i hi;exact⟨sx,q.obj hS a,b.kept hk⟩
theorem FlatC.below {w W:World}{A:Ad}{f:Nat}{F:List Nd}(h:FlatC w A f F) (hb:Below w.heap.size w W):FlatC W A f F :=
 h.fq (S:=fun _=>False) (Fq.of_below hb (Nat.le_refl _)) (fun _ h=>h.elim) (fun h=>h)
section
variable {F:Fence} {n:Nat} {w:World} {ops:Array Oper} {rest:List Oper} {o:Oper} {a:Act} {Q:Exit→Act→World→Prop}
theorem wpListIn_pis (hg:o.guard=none) (m x:Operand) (hop:o.op=Op.lookup 116 m x true) (b:Nat) (ns:List Nm)
  (hm:a.eval m = .map (some b)) (h:PMap w b ns) (s:Nm) (hs:s.size≤maxLen) (hx:a.eval x = .string s)
  (hK:∀ c:Int,(∀ i:Nat,ns[i]?=some s→c=i)→wpListIn F n Tryz.prog ops Q rest (a.put o.dst (.tuple #[.int .i64 c,.bool (RG.has ns s)])) w):wpListIn F n Tryz.prog ops Q (o :: rest) a w:=by
 obtain⟨D,h1,h2,h3,h4⟩:=h
 refine wpListIn_lookup_own_ok_int w hg m x 116 hop 9 3 .i64 keyed9 Tryz.underlying116 Tryz.underlying3 (zero3 w) b (Maps.size D) D hm h1 _ _ hx (keyOf_string_mk Tryz.underlying9 hs) fun c hat _=>?_
 have e:Maps.has D (.string s.data.toList)=RG.has ns s:=by
  rw [Bool.eq_iff_iff,has_iff]
  constructor
  ·exact h4 s
  ·intro hm
   obtain⟨i,hi⟩:=List.getElem?_of_mem hm
   exact(h3 i s hi).2.1
 rw [e]
 refine hK c fun i hi=>?_
 rw [(h3 i s hi).2.2] at hat
 simp at hat
 exact hat.symm
theorem wpListIn_iput (hg:o.guard=none) (m x v:Operand) (t:TypeId) (hop:o.op=Op.mapUpdate t m x v) (ht:Tryz.prog.underlying t=some (.map 3 3)) (b:Nat) (l:List (Int×Int))
  (hm:a.eval m = .map (some b)) (h:IMap Tryz.prog w b l) (hl:l.length<4000000000) (k c:Int) (hx:a.eval x = .int .i64 k) (hv:a.eval v = .int .i64 c) (hk:(Lit.int .i64 k).wf=true) (hc:(Lit.int .i64 c).wf=true)
  (hK:∀ w',IMap Tryz.prog w' b (iput l k c)→w.grownBy w' (some b)→wpListIn F n Tryz.prog ops Q rest (a.put o.dst undef) w'):wpListIn F n Tryz.prog ops Q (o :: rest) a w:=by
 obtain⟨D,h1,h2,h3,h4,h5⟩:=h
 refine wpListIn_mapUpdate_own w hg m x v t hop 3 3 keyed3 ht (plainElem Tryz.prog 3) b (Maps.size D) D hm h1 (by rw [h2];unfold maxLen;omega) _ _ (.int .i64 k) hx hv (key_wf Tryz.underlying3 hk) _ [] (plainElem_int Tryz.underlying3 hc) fun w' ho hgr=>?_
 exact hK w' (IMap.put keyed3 hk h1 h2 h3 h4 h5 ho) hgr
end
end Go.Proofs.YtnkahlloahgifaaGreatDoor
