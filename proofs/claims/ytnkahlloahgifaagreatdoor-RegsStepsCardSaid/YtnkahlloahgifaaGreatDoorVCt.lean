/- Part. -/
import Derived.Test.YtnkahlloahgifaaGreatDoorVCb
import Derived.Deep.RegionHeld3
import Derived.Lib.SliceRun
import Derived.Deep.Cut
import Derived.Test.YtnkahlloahgifaaGreatDoorVDa
import Derived.Deep.MidRow
set_option linter.unusedSimpArgs false
set_option linter.unusedVariables false
namespace Go.Proofs.YtnkahlloahgifaaGreatDoor
open Go.RowKit RG Go.Maps
def TEV (w:World) (vs:Array Value) (e:TE):Prop :=
 ∃ (op:ByteArray) (va:Value) (num site:Int) (aa ab:Option Addr) (ca cb ga oa gb ob:Nat),
  vs = #[.int .i64 e.kind,.string e.name,.string op,.int .i64 num,.int .i64 site,va,.slice aa e.arms.length ca,.slice ab e.body.length cb] ∧
   AtomsAt w va e.args∧(0<e.arms.length→aa=some ⟨ga,oa,none⟩)∧TAAt w e.arms ga oa∧(0<e.body.length→ab=some ⟨gb,ob,none⟩)∧TBAt w e.body gb ob
theorem TEV.te {w:World}{vs:Array Value}{e:TE}{b o:Nat}(h:TEV w vs e) (hc:∀ i x,vs[i]?=some x→w.cell? ⟨b,o+i,none⟩=some x):TEAt w e b o:=by
 obtain⟨op,va,num,site,aa,ab,ca,cb,ga,oa,gb,ob,rfl,h2,h3,h4,h5,h6⟩:=h
 obtain⟨k,name,args,arms,body⟩:=e
 rw [TEAt]
 exact⟨op,num,site,_,aa,ab,ca,cb,ga,oa,gb,ob,⟨hc 0 _ rfl,hc 1 _ rfl,hc 2 _ rfl,hc 3 _ rfl⟩,⟨hc 4 _ rfl,hc 5 _ rfl,hc 6 _ rfl,hc 7 _ rfl⟩,h2,h3,h4,h5,h6⟩
structure E8 (w:World) (b:Nat) (e:TE) (vs:Array Value) (op:ByteArray) (num site:Int) (xa:Option Addr) (xn xc:Nat) (aa ab:Option Addr) (ca cb:Nat):Prop where
 vs:vs = #[.int .i64 e.kind,.string e.name,.string op,.int .i64 num,.int .i64 site,.slice xa xn xc,.slice aa e.arms.length ca,.slice ab e.body.length cb]
 c0:w.cell? ⟨b,0,none⟩=some (.int .i64 e.kind)
 c1:w.cell? ⟨b,1,none⟩=some (.string e.name)
 c2:w.cell? ⟨b,2,none⟩=some (.string op)
 c3:w.cell? ⟨b,3,none⟩=some (.int .i64 num)
 c4:w.cell? ⟨b,4,none⟩=some (.int .i64 site)
 c5:w.cell? ⟨b,5,none⟩=some (.slice xa xn xc)
 c6:w.cell? ⟨b,6,none⟩=some (.slice aa e.arms.length ca)
 c7:w.cell? ⟨b,7,none⟩=some (.slice ab e.body.length cb)
def KB (rb:Nat) (w w':World):Prop:=∀ (a:Addr) (x:Value),a.block≠rb→w.cell? a=some x→w'.cell? a=some x
theorem KB.refl (rb:Nat) (w:World):KB rb w w:=fun _ _ _ h=>h
theorem KB.of {rb:Nat}{w w1 w2:World}(h:Kept w w1) (k:KB rb w1 w2):KB rb w w2:=fun a x hn hx=>k a x hn (h a x hx)
def TX (rb:Nat) (w:World) (vs:Array Value) (e:TE):Prop:=∀ W',KB rb w W'→TEV W' vs e
def EX (rb:Nat) (w:World) (b:Nat) (e:TE):Prop:=∃ vs,(∀ i x,vs[i]?=some x→w.cell? ⟨b,i,none⟩=some x)∧TX rb w vs e
theorem EX.e8 {rb:Nat}{w:World}{b:Nat}{e:TE}(h:EX rb w b e):∃ vs op num site xa xn xc aa ab ca cb,E8 w b e vs op num site xa xn xc aa ab ca cb∧TX rb w vs e:=by
 obtain⟨vs,hc,hX⟩:=h
 obtain⟨op,va,num,site,aa,ab,ca,cb,ga,oa,gb,ob,rfl,h2,h3,h4,h5,h6⟩:=hX w (KB.refl _ _)
 obtain⟨xa,xc,rfl,-⟩:=id h2.at'
 exact⟨_,op,num,site,xa,_,xc,aa,ab,ca,cb,⟨rfl,hc 0 _ rfl,hc 1 _ rfl,hc 2 _ rfl,hc 3 _ rfl,hc 4 _ rfl,hc 5 _ rfl,hc 6 _ rfl,hc 7 _ rfl⟩,hX⟩
theorem te_one {w:World}{b:Nat}{vs:Array Value}{e:TE}(h:TEV w vs e) (hc:∀ i x,vs[i]?=some x→w.cell? ⟨b,i,none⟩=some x):TBAt w (.cons e .nil) b 0:=by
 rw [TBAt]
 refine⟨h.te fun i x hx=>by rw [Nat.zero_add];exact hc i x hx,?_⟩
 rw [TBAt];trivial
theorem EX.mk1 {rb:Nat}{wd W:World}{pa na ba n:Nat}{vs:Array Value}{e:TE}{k num site:Int}{name op:Nm}{xs:List Nm}(hk:Kept wd W) (hX:TX rb wd vs e) (hba:ba≠rb)
  (h1:∀ W',KB rb W W'→AtomsAt W' (.slice (some ⟨na,0,none⟩) n n) xs) (h2:∀ i x,vs[i]?=some x→W.cell? ⟨ba,i,none⟩=some x)
  (h3:∀ i y,#[Value.int .i64 k,.string name,.string op,.int .i64 num,.int .i64 site,.slice (some ⟨na,0,none⟩) n n,.slice none 0 0,.slice (some ⟨ba,0,none⟩) 1 1][i]?=some y→W.cell? ⟨pa,i,none⟩=some y):EX rb W pa (.mk k name xs .nil (.cons e .nil)):=by
 refine⟨_,h3,fun W' hW'=>?_⟩
 refine⟨op,_,num,site,none,some ⟨ba,0,none⟩,0,1,0,0,ba,0,rfl,h1 W' hW',fun h=>absurd h (Nat.lt_irrefl _),?_,fun _=>rfl,?_⟩
 ·show TAAt W' .nil 0 0;rw [TAAt];trivial
 ·exact te_one (hX W' (KB.of hk hW')) fun i x hx=>hW' _ _ hba (h2 i x hx)
theorem far_cells {W:World}{rb:Nat}{p:Addr}{v:Value}{xs:List Value}(h:rb≠p.block) (hW:W.cell? p=some v):(W.setCells rb 0 xs).cell? p=some v:=by
 rw [World.cell?_setCells_out rb xs 0 W p (fun e=>absurd e.symm h)];exact hW
theorem cell_drew (X:World) (p:Addr):X.drew.cell? p=X.cell? p:=rfl
theorem in_drew {X:World}{p:Addr}{v:Value}(h:X.cell? p=some v):X.drew.cell? p=some v:=h
theorem alloc_d {X:World}{o:Obj}{p:Addr}{v:Value}(h:X.drew.cell? p=some v):(X.alloc o).drew.cell? p=some v:=by
 rw [cell_drew] at *;exact Lib.cell?_alloc_some o h
theorem TEV.mk0 {W:World}{na n:Nat}{k num site:Int}{name op:Nm}{xs:List Nm}(h1:AtomsAt W (.slice (some ⟨na,0,none⟩) n n) xs) :
  TEV W #[.int .i64 k,.string name,.string op,.int .i64 num,.int .i64 site,.slice (some ⟨na,0,none⟩) n n,.slice none 0 0,.slice none 0 0] (.mk k name xs .nil .nil):=by
 refine⟨op,_,num,site,none,none,0,0,0,0,0,0,rfl,h1,fun h=>absurd h (Nat.lt_irrefl _),?_,fun h=>absurd h (Nat.lt_irrefl _),?_⟩
 ·show TAAt W .nil 0 0;rw [TAAt];trivial
 ·show TBAt W .nil 0 0;rw [TBAt];trivial
theorem all8 {w:World}{b:Nat}{v0 v1 v2 v3 v4 v5 v6 v7:Value}(h0:w.cell? ⟨b,0,none⟩=some v0) (h1:w.cell? ⟨b,1,none⟩=some v1) (h2:w.cell? ⟨b,2,none⟩=some v2) (h3:w.cell? ⟨b,3,none⟩=some v3)
  (h4:w.cell? ⟨b,4,none⟩=some v4) (h5:w.cell? ⟨b,5,none⟩=some v5) (h6:w.cell? ⟨b,6,none⟩=some v6) (h7:w.cell? ⟨b,7,none⟩=some v7):∀ i x,#[v0,v1,v2,v3,v4,v5,v6,v7][i]?=some x→w.cell? ⟨b,i,none⟩=some x:=fun i x hx=>by
 match i,hx with
 | 0,hx=>simp at hx;subst hx;exact h0
 | 1,hx=>simp at hx;subst hx;exact h1
 | 2,hx=>simp at hx;subst hx;exact h2
 | 3,hx=>simp at hx;subst hx;exact h3
 | 4,hx=>simp at hx;subst hx;exact h4
 | 5,hx=>simp at hx;subst hx;exact h5
 | 6,hx=>simp at hx;subst hx;exact h6
 | 7,hx=>simp at hx;subst hx;exact h7
 | i+8,hx=>simp at hx
def NaP (w:World) (s:Nm) (e:Ending) (w':World):Prop:=e = .returned (.slice (some ⟨w.heap.size,0,none⟩) 1 1)∧w'=w.alloc (.cells #[.string s,.int .i64 0] 146)
set_option maxHeartbeats 1000000 in
theorem name_any (w:World) (s:Nm):Calls Tryz.prog 81 #[.string s] w (NaP w s):=by
 go_enter Tryz.func81,Tryz.ntmps81
 go_wp2_with fail
 go_ret
 exact⟨rfl,rfl⟩
def eEnd:TE := .mk 9 ⟨#[]⟩ [⟨#[107]⟩] .nil .nil
def eAdd:TE := .mk 1 ⟨#[107]⟩ [⟨#[104]⟩,⟨#[115]⟩] .nil (.cons eEnd .nil)
def eRead:TE := .mk 5 ⟨#[115]⟩ [⟨#[114]⟩] .nil (.cons eAdd .nil)
def eMod:TE := .mk 4 ⟨#[114]⟩ [⟨#[116]⟩] .nil (.cons eRead .nil)
def eNil:TE := .mk 9 ⟨#[]⟩ [⟨#[]⟩] .nil .nil
def eSplit:TE := .mk 7 ⟨#[]⟩ [⟨#[99]⟩] (.cons [] eNil (.cons [⟨#[104]⟩,⟨#[116]⟩] eMod .nil)) .nil
def eSum:TE := .mk 5 ⟨#[99]⟩ [⟨#[109]⟩] .nil (.cons eSplit .nil)
def SuP (w:World) (en:Ending) (w':World):Prop:=∃ cs,en = .returned (.agg cs)∧TFunV w' (.agg cs) [⟨#[109]⟩] eSum∧Below w.heap.size w w'
theorem atoms1 {w:World}{b:Nat}{x:Nm}{m:Int}(h0:w.cell? ⟨b,0,none⟩=some (.string x)) (h1:w.cell? ⟨b,1,none⟩=some (.int .i64 m)):AtomsAt w (.slice (some ⟨b,0,none⟩) 1 1) [x] :=
 ⟨⟨_,_,rfl,fun _=>⟨b,0,rfl,fun i n hi=>by
  match i,hi with
  | 0,hi=>simp at hi;subst hi;exact⟨m,h0,h1⟩
  | i+1,hi=>simp at hi⟩⟩⟩
theorem atoms2 {w:World}{b:Nat}{x y:Nm}{m k:Int}(h0:w.cell? ⟨b,0,none⟩=some (.string x)) (h1:w.cell? ⟨b,1,none⟩=some (.int .i64 m)) (h2:w.cell? ⟨b,2,none⟩=some (.string y)) (h3:w.cell? ⟨b,3,none⟩=some (.int .i64 k)):AtomsAt w (.slice (some ⟨b,0,none⟩) 2 2) [x,y] :=
 ⟨⟨_,_,rfl,fun _=>⟨b,0,rfl,fun i n hi=>by
  match i,hi with
  | 0,hi=>simp at hi;subst hi;exact⟨m,h0,h1⟩
  | 1,hi=>simp at hi;subst hi;exact⟨k,h2,h3⟩
  | i+2,hi=>simp at hi⟩⟩⟩
structure SuI (w wc:World):Prop where
 row:∃ cs,cs.size=11∧wc.heap[w.heap.size]?=some (.cells cs 29 (0,0))
 below:Below w.heap.size w wc
 size:w.heap.size<wc.heap.size
theorem SuI.next {w wc W:World}(h:SuI w wc) (hb:Below wc.heap.size wc W):SuI w W:=by
 obtain⟨⟨cs,h1,h2⟩,h3,h4⟩:=h
 exact⟨⟨cs,h1,(hb.block _ h4).trans h2⟩,h3.trans (hb.mono (by omega)),Nat.lt_of_lt_of_le h4 hb.size⟩
theorem SuI.start (w:World) (cs:Array Value) (h:cs.size=11):SuI w (w.alloc (.cells cs 29)):=⟨⟨cs,h,heap_alloc_new w _⟩,(Below.refl _ _).alloc (Nat.le_refl _) _,by simp⟩
structure A3 (w W:World) (o1 o2 o3:Obj):Prop where
 h0:W.heap[w.heap.size]?=some o1
 h1:W.heap[w.heap.size+1]?=some o2
 h2:W.heap[w.heap.size+1+1]?=some o3
 hb:Below w.heap.size w W
theorem A3.mk3 (w:World) (o1 o2 o3:Obj):A3 w (((w.alloc o1).alloc o2).alloc o3).drew o1 o2 o3:=by
 have e2:=heap_alloc_new (w.alloc o1) o2
 have e3:=heap_alloc_new ((w.alloc o1).alloc o2) o3
 rw [World.size_alloc] at e2
 rw [World.size_alloc,World.size_alloc] at e3
 refine⟨?_,?_,e3,?_⟩
 ·exact(Below.heap_alloc _ _ _ (by simp;omega)).trans ((Below.heap_alloc _ _ _ (by simp)).trans (heap_alloc_new w o1))
 ·exact(Below.heap_alloc _ _ _ (by simp)).trans e2
 ·exact((((Below.refl _ _).alloc (Nat.le_refl _) _).alloc (by simp) _).alloc (by simp;omega) _).trans (below_drewN _ _ 1)
theorem A3.mk0 (w:World) (o1 o2 o3:Obj):A3 w (((w.alloc o1).alloc o2).alloc o3) o1 o2 o3 :=
 ⟨(A3.mk3 w o1 o2 o3).h0,(A3.mk3 w o1 o2 o3).h1,(A3.mk3 w o1 o2 o3).h2,(((Below.refl _ _).alloc (Nat.le_refl _) _).alloc (by simp) _).alloc (by simp;omega) _⟩
theorem row8 {w:World}{b:Nat}{vs:Array Value}{t:TypeId}(h:w.heap[b]?=some (.cells vs t (0,0))):∀ i x,vs[i]?=some x→w.cell? ⟨b,i,none⟩=some x:=fun i x hx=>by rw [cell_of_row _ _ _ _ _ _ h];exact hx
theorem arms2 {W:World}{nb hb b:Nat}{vs:Array Value}{e:TE}{k num site:Int}{op:ByteArray}{xa aa ab:Option Addr}{name:Nm}{xn xc an ca bn cb:Nat}(hT:TEV W vs e) (hvs:vs = #[.int .i64 k,.string name,.string op,.int .i64 num,.int .i64 site,.slice xa xn xc,.slice aa an ca,.slice ab bn cb])
  (rA:∀ i x,#[Value.string ⟨#[]⟩,.int .i64 0][i]?=some x→W.cell? ⟨nb,i,none⟩=some x) (rB:∀ i x,#[Value.string ⟨#[104]⟩,.string ⟨#[116]⟩][i]?=some x→W.cell? ⟨hb,i,none⟩=some x)
  (r:∀ i x,#[Value.string ⟨#[78,105,108]⟩,.slice none 0 0,.int .i64 9,.string ⟨#[]⟩,.string ⟨#[]⟩,.int .i64 0,.int .i64 0,.slice (some ⟨nb,0,none⟩) 1 1,.slice none 0 0,.slice none 0 0,.string ⟨#[67,111,110,115]⟩,.slice (some ⟨hb,0,none⟩) 2 2,.int .i64 k,.string name,.string op,.int .i64 num,.int .i64 site,.slice xa xn xc,.slice aa an ca,.slice ab bn cb][i]?=some x→W.cell? ⟨b,i,none⟩=some x) :
  TAAt W (.cons [] eNil (.cons [⟨#[104]⟩,⟨#[116]⟩] e .nil)) b 0:=by
 rw [TAAt]
 refine⟨⟨_,_,r 0 _ rfl,r 1 _ rfl,rfl,none,0,rfl,fun h=>absurd h (Nat.lt_irrefl _)⟩,?_,?_⟩
 ·refine(TEV.mk0 (W:=W) (na:=nb) (n:=1) (k:=9) (num:=0) (site:=0) (name:=⟨#[]⟩) (op:=⟨#[]⟩) (atoms1 (rA 0 _ rfl) (rA 1 _ rfl))).te fun i x hx=>?_
  have hi:=(Array.getElem?_eq_some_iff.1 hx).1
  refine r (0+2+i) x ?_
  simp at hi
  have:i=0∨i=1∨i=2∨i=3∨i=4∨i=5∨i=6∨i=7:=by omega
  rcases this with rfl | rfl | rfl | rfl | rfl | rfl | rfl | rfl<;>exact hx
 ·rw [TAAt]
  refine⟨⟨_,_,r 10 _ rfl,r 11 _ rfl,rfl,some ⟨hb,0,none⟩,2,rfl,fun _=>⟨hb,0,rfl,fun i x hx=>?_⟩⟩,?_,?_⟩
  ·match i,hx with
   | 0,hx=>simp [strs] at hx;subst hx;exact rB 0 _ rfl
   | 1,hx=>simp [strs] at hx;subst hx;exact rB 1 _ rfl
   | i+2,hx=>simp [strs] at hx
  ·refine hT.te fun i x hx=>?_
   subst hvs
   have hi:=(Array.getElem?_eq_some_iff.1 hx).1
   refine r (0+10+2+i) x ?_
   simp at hi
   have:i=0∨i=1∨i=2∨i=3∨i=4∨i=5∨i=6∨i=7:=by omega
   rcases this with rfl | rfl | rfl | rfl | rfl | rfl | rfl | rfl<;>exact hx
  ·rw [TAAt];trivial
theorem TX.split {rb:Nat}{W:World}{na ba:Nat}{a:TA}{k num site:Int}{name op:Nm}{x:Nm}(ha:∀ W',KB rb W W'→TAAt W' a ba 0) (hl:a.length=2) (hna:na≠rb) (hA:W.heap[na]?=some (.cells #[.string x,.int .i64 0] 146 (0,0))) :
  TX rb W #[.int .i64 k,.string name,.string op,.int .i64 num,.int .i64 site,.slice (some ⟨na,0,none⟩) 1 1,.slice (some ⟨ba,0,none⟩) 2 2,.slice none 0 0] (.mk k name [x] a .nil):=fun W' hW'=>by
 refine⟨op,_,num,site,some ⟨ba,0,none⟩,none,2,0,ba,0,0,0,?_,atoms1 (hW' _ _ hna (row8 hA 0 _ rfl)) (hW' _ _ hna (row8 hA 1 _ rfl)),fun _=>rfl,ha W' hW',fun h=>absurd h (Nat.lt_irrefl _),?_⟩
 ·show _ = #[Value.int .i64 k,.string name,.string op,.int .i64 num,.int .i64 site,_,.slice _ a.length 2,.slice none 0 0]
  rw [hl]
 ·show TBAt W' .nil 0 0;rw [TBAt];trivial
theorem SuI.fin {rb:Nat}{w wd W:World}{na ba pa:Nat}{x:Nm}{vs:Array Value}{e:TE}{k num site:Int}{name op:Nm}(hT:TX rb wd vs e) (hS:SuI w wd) (hb:Below wd.heap.size wd W) (hn1:na≠rb) (hn2:ba≠rb) (hA:W.heap[na]?=some (.cells #[.string x,.int .i64 0] 146 (0,0))) (hB:W.heap[ba]?=some (.cells vs 27 (0,0)))
  (hC:W.heap[pa]?=some (.cells #[.int .i64 k,.string name,.string op,.int .i64 num,.int .i64 site,.slice (some ⟨na,0,none⟩) 1 1,.slice none 0 0,.slice (some ⟨ba,0,none⟩) 1 1] 27 (0,0))) :
  ∃ b,Value.pointer (some ⟨pa,0,none⟩) = .pointer (some ⟨b,0,none⟩)∧EX rb W b (.mk k name [x] .nil (.cons e .nil))∧SuI w W :=
 ⟨pa,rfl,EX.mk1 (kept_below hb) hT hn2 (fun W' hW'=>atoms1 (hW' _ _ hn1 (row8 hA 0 _ rfl)) (hW' _ _ hn1 (row8 hA 1 _ rfl))) (row8 hB) (row8 hC),hS.next hb⟩
theorem SuI.there {w wd W:World}(h:SuI w wd) (hb:Below wd.heap.size wd W):W.there w.heap.size 0 11:=fun j hj=>by
 obtain⟨⟨cs,h1,h2⟩,h3,h4⟩:=h.next hb
 rw [Nat.zero_add]
 exact⟨by rw [cell_of_row _ _ _ _ _ _ h2,Array.getElem?_eq_getElem (by omega)];rfl,frozen_of_row _ _ _ _ _ h2⟩
def SuR (w wc:World):Prop:=∃ (pb na ba:Nat),(∀ i x,#[Value.string ⟨#[115,117,109]⟩,.bool true,.slice (some ⟨pb,0,none⟩) 1 1,.int .i64 5,.string ⟨#[99]⟩,.string ⟨#[]⟩,.int .i64 0,.int .i64 1,.slice (some ⟨na,0,none⟩) 1 1,.slice none 0 0,.slice (some ⟨ba,0,none⟩) 1 1][i]?=some x→wc.cell? ⟨w.heap.size,i,none⟩=some x) ∧
 TFunV wc (.agg #[.string ⟨#[115,117,109]⟩,.bool true,.slice (some ⟨pb,0,none⟩) 1 1,.int .i64 5,.string ⟨#[99]⟩,.string ⟨#[]⟩,.int .i64 0,.int .i64 1,.slice (some ⟨na,0,none⟩) 1 1,.slice none 0 0,.slice (some ⟨ba,0,none⟩) 1 1]) [⟨#[109]⟩] eSum∧Below w.heap.size w wc
theorem setCells_below {w W:World}{xs:List Value}(h:Below w.heap.size w W) (hs:w.heap.size<W.heap.size):Below w.heap.size w (W.setCells w.heap.size 0 xs):=h.grown (grown_setCells w.heap.size xs 0 W) (by omega) (fun r e=>by simp at e;omega)
theorem SuI.last {w wd W:World}{pb na ba:Nat}{vs:Array Value}(hT:TX w.heap.size wd vs eSplit) (hS:SuI w wd) (hb:Below wd.heap.size wd W) (hn1:pb≠w.heap.size) (hn2:na≠w.heap.size) (hn3:ba≠w.heap.size)
  (hP:W.heap[pb]?=some (.cells #[.string ⟨#[109]⟩,.bool true] 70 (0,0))) (hA:W.heap[na]?=some (.cells #[.string ⟨#[109]⟩,.int .i64 0] 146 (0,0))) (hB:W.heap[ba]?=some (.cells vs 27 (0,0))) :
  SuR w (W.setCells w.heap.size 0 [.string ⟨#[115,117,109]⟩,.bool true,.slice (some ⟨pb,0,none⟩) 1 1,.int .i64 5,.string ⟨#[99]⟩,.string ⟨#[]⟩,.int .i64 0,.int .i64 1,.slice (some ⟨na,0,none⟩) 1 1,.slice none 0 0,.slice (some ⟨ba,0,none⟩) 1 1]):=by
 have hk:KB w.heap.size W (W.setCells w.heap.size 0 [.string ⟨#[115,117,109]⟩,.bool true,.slice (some ⟨pb,0,none⟩) 1 1,.int .i64 5,.string ⟨#[99]⟩,.string ⟨#[]⟩,.int .i64 0,.int .i64 1,.slice (some ⟨na,0,none⟩) 1 1,.slice none 0 0,.slice (some ⟨ba,0,none⟩) 1 1]):=fun a x hn hx=>far_cells (Ne.symm hn) hx
 have hR:=World.rangeAt_setCells_same W w.heap.size 0 [.string ⟨#[115,117,109]⟩,.bool true,.slice (some ⟨pb,0,none⟩) 1 1,.int .i64 5,.string ⟨#[99]⟩,.string ⟨#[]⟩,.int .i64 0,.int .i64 1,.slice (some ⟨na,0,none⟩) 1 1,.slice none 0 0,.slice (some ⟨ba,0,none⟩) 1 1] (hS.there hb)
 have hbel:=setCells_below (xs:=[.string ⟨#[115,117,109]⟩,.bool true,.slice (some ⟨pb,0,none⟩) 1 1,.int .i64 5,.string ⟨#[99]⟩,.string ⟨#[]⟩,.int .i64 0,.int .i64 1,.slice (some ⟨na,0,none⟩) 1 1,.slice none 0 0,.slice (some ⟨ba,0,none⟩) 1 1]) (hS.next hb).below (hS.next hb).size
 obtain⟨W',hW'⟩:∃ W',W'=W.setCells w.heap.size 0 [.string ⟨#[115,117,109]⟩,.bool true,.slice (some ⟨pb,0,none⟩) 1 1,.int .i64 5,.string ⟨#[99]⟩,.string ⟨#[]⟩,.int .i64 0,.int .i64 1,.slice (some ⟨na,0,none⟩) 1 1,.slice none 0 0,.slice (some ⟨ba,0,none⟩) 1 1]:=⟨_,rfl⟩
 rw [← hW'] at hk hR hbel ⊢
 refine⟨pb,na,ba,fun i x hx=>?_,⟨⟨#[115,117,109]⟩,⟨#[]⟩,true,_,_,0,1,none,some ⟨ba,0,none⟩,0,1,0,0,ba,0,rfl,⟨_,_,rfl,fun _=>⟨pb,0,rfl,fun i n hi=>?_⟩⟩,atoms1 (hk _ _ hn2 (row8 hA 0 _ rfl)) (hk _ _ hn2 (row8 hA 1 _ rfl)),fun h=>absurd h (Nat.lt_irrefl _),?_,fun _=>rfl,te_one (hT W' (KB.of (kept_below hb) hk)) (fun i x hx=>hk _ _ hn3 (row8 hB i x hx))⟩,hbel⟩
 ·have:=hR i x (by simpa using hx)
  rw [Nat.zero_add] at this;exact this
 ·match i,hi with
  | 0,hi=>simp at hi;subst hi;exact⟨true,hk _ _ hn1 (row8 hP 0 _ rfl),hk _ _ hn1 (row8 hP 1 _ rfl)⟩
  | i+1,hi=>simp at hi
 ·show TAAt W' .nil 0 0;rw [TAAt];trivial
theorem Tryz.info29:(Tryz.prog.info? 29).map (·.size)=some 11:=by kernel_rfl
set_option maxHeartbeats 4000000 in
set_option maxRecDepth 20000 in
theorem sum_any (w:World):Calls Tryz.prog 49 #[] w (SuP w):=by
 go_enter Tryz.func49,Tryz.ntmps49
 go_upto_region 1 with fail
 go_cut [1] from 7 (fun p wc=>∃ b,p = .pointer (some ⟨b,0,none⟩)∧EX w.heap.size wc b eEnd∧SuI w wc)
 case first =>
  go_wp2_with fail
  refine(name_any _ _).mono ?_
  rintro en w1 ⟨rfl,rfl⟩
  go_wp2_with fail
  go_meet
  refine⟨_,rfl,⟨_,all8 (by go_simp;try rfl) (by go_simp;try rfl) (by go_simp;try rfl) (by go_simp;try rfl) (by go_simp;try rfl) (by go_simp;try rfl) (by go_simp;try rfl) (by go_simp;try rfl),fun W' hW'=>TEV.mk0 (atoms1 (hW' _ _ (by simp) (by go_simp;try rfl)) (hW' _ _ (by simp) (by go_simp;try rfl)))⟩,(SuI.start w _ rfl).next (((Below.refl _ _).alloc (Nat.le_refl _) _).alloc (by simp) _)⟩
 case rest =>
  obtain⟨b1,rfl,hE,hS⟩:=hcut
  obtain⟨vs,op,num,site,xa,xn,xc,aa,ab,ca,cb,h8,hT⟩:=hE.e8
  have HS:=zh hS
  have HT:=zh hT
  obtain⟨rfl,y0,y1,y2,y3,y4,y5,y6,y7⟩:=h8
  rename World=>wd
  have d0:=in_drew y0
  have d1:=in_drew y1
  have d2:=in_drew y2
  have d3:=in_drew y3
  have d4:=in_drew y4
  have d5:=in_drew y5
  have d6:=in_drew y6
  have d7:=in_drew y7
  have hb2:b1<wd.heap.size:=World.block_lt_of_cell? _ _ y0
  have hsz:=HS.out.size
  clear hS hT hE
  go_upto_region 2 with fail
  go_cut [2] from 9 (fun p we=>∃ b,p = .pointer (some ⟨b,0,none⟩)∧EX w.heap.size we b eAdd∧SuI w we)
  case first =>
   go_wp2_with fail
   go_meet
   have hBW:=(A3.mk0 wd (.cells #[.string ⟨#[104]⟩,.int .i64 0,.string ⟨#[115]⟩,.int .i64 0] 146) (.cells #[.int .i64 eEnd.kind,.string eEnd.name,.string op,.int .i64 num,.int .i64 site,.slice xa xn xc,.slice aa eEnd.arms.length ca,.slice ab eEnd.body.length cb] 27) (.cells #[.int .i64 1,.string ⟨#[107]⟩,.string ⟨#[43]⟩,.int .i64 0,.int .i64 0,.slice (some ⟨wd.heap.size,0,none⟩) 2 2,.slice none 0 0,.slice (some ⟨wd.heap.size+1,0,none⟩) 1 1] 27))
   exact⟨_,rfl,EX.mk1 (kept_below hBW.hb) HT.out (by omega) (fun W' hW'=>atoms2 (hW' _ _ (by simp;omega) (row8 hBW.h0 0 _ rfl)) (hW' _ _ (by simp;omega) (row8 hBW.h0 1 _ rfl)) (hW' _ _ (by simp;omega) (row8 hBW.h0 2 _ rfl)) (hW' _ _ (by simp;omega) (row8 hBW.h0 3 _ rfl))) (row8 hBW.h1) (row8 hBW.h2),HS.out.next hBW.hb⟩
  case rest =>
   obtain⟨b2,rfl,hE,hS⟩:=hcut
   clear y0 y1 y2 y3 y4 y5 y6 y7 d0 d1 d2 d3 d4 d5 d6 d7 hb2 hsz HT HS wd
   obtain⟨vs,op,num,site,xa,xn,xc,aa,ab,ca,cb,h8,hT⟩:=hE.e8
   have HS:=zh hS
   have HT:=zh hT
   obtain⟨rfl,y0,y1,y2,y3,y4,y5,y6,y7⟩:=h8
   rename World=>wd
   have d0:=in_drew y0
   have d1:=in_drew y1
   have d2:=in_drew y2
   have d3:=in_drew y3
   have d4:=in_drew y4
   have d5:=in_drew y5
   have d6:=in_drew y6
   have d7:=in_drew y7
   have hb2:b2<wd.heap.size:=World.block_lt_of_cell? _ _ y0
   have hsz:=HS.out.size
   clear hS hT hE
   go_upto_region 3 with fail
   have hn1:b2≠wd.heap.size:=by omega
   have hn2:b2≠wd.heap.size+1:=by omega
   have hn3:b2≠wd.heap.size+1+1:=by omega
   go_cut [3] from 15 (fun p we=>∃ b,p = .pointer (some ⟨b,0,none⟩)∧EX w.heap.size we b eRead∧SuI w we)
   case first =>
    go_region_held3 (fun w'=>w'.cell? ⟨b2,0,none⟩=some (.int .i64 eAdd.kind)∧w'.cell? ⟨b2,1,none⟩=some (.string eAdd.name)∧w'.cell? ⟨b2,2,none⟩=some (.string op)∧w'.cell? ⟨b2,3,none⟩=some (.int .i64 num)∧w'.cell? ⟨b2,4,none⟩=some (.int .i64 site)∧w'.cell? ⟨b2,5,none⟩=some (.slice xa xn xc)∧w'.cell? ⟨b2,6,none⟩=some (.slice aa eAdd.arms.length ca)∧w'.cell? ⟨b2,7,none⟩=some (.slice ab eAdd.body.length cb)) (refine⟨?_,?_,?_,?_,?_,?_,?_,?_⟩<;>(repeat (first | assumption | refine Lib.cell?_alloc_some _ ?_ | (rw [World.cell?_setCell_far _ _ _ _ (by simp;omega)])))) ((go_at_call 81;refine(name_any _ _).mono ?_;rintro e w' ⟨rfl,rfl⟩))
    all_goals go_wp2_with fail
    all_goals go_meet
    all_goals
     first
      | exact SuI.fin HT.out HS.out (A3.mk3 wd _ _ _).hb (by omega) (by omega) (A3.mk3 wd _ _ _).h0 (A3.mk3 wd _ _ _).h1 (A3.mk3 wd _ _ _).h2
      | exact SuI.fin HT.out HS.out (A3.mk3 wd _ _ _).hb (by omega) (by omega) (A3.mk3 wd _ _ _).h0 (A3.mk3 wd _ _ _).h2 (A3.mk3 wd _ _ _).h1
      | exact SuI.fin HT.out HS.out (A3.mk3 wd _ _ _).hb (by omega) (by omega) (A3.mk3 wd _ _ _).h1 (A3.mk3 wd _ _ _).h0 (A3.mk3 wd _ _ _).h2
      | exact SuI.fin HT.out HS.out (A3.mk3 wd _ _ _).hb (by omega) (by omega) (A3.mk3 wd _ _ _).h1 (A3.mk3 wd _ _ _).h2 (A3.mk3 wd _ _ _).h0
      | exact SuI.fin HT.out HS.out (A3.mk3 wd _ _ _).hb (by omega) (by omega) (A3.mk3 wd _ _ _).h2 (A3.mk3 wd _ _ _).h0 (A3.mk3 wd _ _ _).h1
      | exact SuI.fin HT.out HS.out (A3.mk3 wd _ _ _).hb (by omega) (by omega) (A3.mk3 wd _ _ _).h2 (A3.mk3 wd _ _ _).h1 (A3.mk3 wd _ _ _).h0
   case rest =>
    obtain⟨b3,rfl,hE,hS⟩:=hcut
    clear y0 y1 y2 y3 y4 y5 y6 y7 d0 d1 d2 d3 d4 d5 d6 d7 hb2 hsz HT HS hn1 hn2 hn3 wd
    obtain⟨vs,op,num,site,xa,xn,xc,aa,ab,ca,cb,h8,hT⟩:=hE.e8
    have HS:=zh hS
    have HT:=zh hT
    obtain⟨rfl,y0,y1,y2,y3,y4,y5,y6,y7⟩:=h8
    rename World=>wd
    have d0:=in_drew y0
    have d1:=in_drew y1
    have d2:=in_drew y2
    have d3:=in_drew y3
    have d4:=in_drew y4
    have d5:=in_drew y5
    have d6:=in_drew y6
    have d7:=in_drew y7
    have hb2:b3<wd.heap.size:=World.block_lt_of_cell? _ _ y0
    have hsz:=HS.out.size
    clear hS hT hE
    go_upto_region 4 with fail
    have hn1:b3≠wd.heap.size:=by omega
    have hn2:b3≠wd.heap.size+1:=by omega
    have hn3:b3≠wd.heap.size+1+1:=by omega
    go_cut [4] from 19 (fun p we=>∃ b,p = .pointer (some ⟨b,0,none⟩)∧EX w.heap.size we b eMod∧SuI w we)
    case first =>
     go_region_held3 (fun w'=>w'.cell? ⟨b3,0,none⟩=some (.int .i64 eRead.kind)∧w'.cell? ⟨b3,1,none⟩=some (.string eRead.name)∧w'.cell? ⟨b3,2,none⟩=some (.string op)∧w'.cell? ⟨b3,3,none⟩=some (.int .i64 num)∧w'.cell? ⟨b3,4,none⟩=some (.int .i64 site)∧w'.cell? ⟨b3,5,none⟩=some (.slice xa xn xc)∧w'.cell? ⟨b3,6,none⟩=some (.slice aa eRead.arms.length ca)∧w'.cell? ⟨b3,7,none⟩=some (.slice ab eRead.body.length cb)) (refine⟨?_,?_,?_,?_,?_,?_,?_,?_⟩<;>(repeat (first | assumption | refine Lib.cell?_alloc_some _ ?_ | (rw [World.cell?_setCell_far _ _ _ _ (by simp;omega)])))) ((go_at_call 81;refine(name_any _ _).mono ?_;rintro e w' ⟨rfl,rfl⟩))
     all_goals go_wp2_with fail
     all_goals go_meet
     all_goals
      first
       | exact SuI.fin HT.out HS.out (A3.mk3 wd _ _ _).hb (by omega) (by omega) (A3.mk3 wd _ _ _).h0 (A3.mk3 wd _ _ _).h1 (A3.mk3 wd _ _ _).h2
       | exact SuI.fin HT.out HS.out (A3.mk3 wd _ _ _).hb (by omega) (by omega) (A3.mk3 wd _ _ _).h0 (A3.mk3 wd _ _ _).h2 (A3.mk3 wd _ _ _).h1
       | exact SuI.fin HT.out HS.out (A3.mk3 wd _ _ _).hb (by omega) (by omega) (A3.mk3 wd _ _ _).h1 (A3.mk3 wd _ _ _).h0 (A3.mk3 wd _ _ _).h2
       | exact SuI.fin HT.out HS.out (A3.mk3 wd _ _ _).hb (by omega) (by omega) (A3.mk3 wd _ _ _).h1 (A3.mk3 wd _ _ _).h2 (A3.mk3 wd _ _ _).h0
       | exact SuI.fin HT.out HS.out (A3.mk3 wd _ _ _).hb (by omega) (by omega) (A3.mk3 wd _ _ _).h2 (A3.mk3 wd _ _ _).h0 (A3.mk3 wd _ _ _).h1
       | exact SuI.fin HT.out HS.out (A3.mk3 wd _ _ _).hb (by omega) (by omega) (A3.mk3 wd _ _ _).h2 (A3.mk3 wd _ _ _).h1 (A3.mk3 wd _ _ _).h0
    case rest =>
     obtain⟨b4,rfl,hE,hS⟩:=hcut
     clear y0 y1 y2 y3 y4 y5 y6 y7 d0 d1 d2 d3 d4 d5 d6 d7 hb2 hsz HT HS hn1 hn2 hn3 wd
     obtain⟨vs,op,num,site,xa,xn,xc,aa,ab,ca,cb,h8,hT⟩:=hE.e8
     have HS:=zh hS
     have HT:=zh hT
     obtain⟨rfl,y0,y1,y2,y3,y4,y5,y6,y7⟩:=h8
     rename World=>wd
     have d0:=in_drew y0
     have d1:=in_drew y1
     have d2:=in_drew y2
     have d3:=in_drew y3
     have d4:=in_drew y4
     have d5:=in_drew y5
     have d6:=in_drew y6
     have d7:=in_drew y7
     have hb2:b4<wd.heap.size:=World.block_lt_of_cell? _ _ y0
     have hsz:=HS.out.size
     clear hS hT hE
     go_upto_region 5 with fail
     go_cut [5] from 23 (fun p we=>∃ b,p = .slice (some ⟨b,0,none⟩) 2 2∧(∀ W',KB w.heap.size we W'→TAAt W' (.cons [] eNil (.cons [⟨#[104]⟩,⟨#[116]⟩] eMod .nil)) b 0)∧SuI w we)
     case first =>
      go_wp2_with fail
      go_meet
      refine⟨_,rfl,fun W' hW'=>arms2 (HT.out W' (KB.of (kept_below (A3.mk0 wd _ _ _).hb) hW')) rfl (fun i x hx=>hW' _ _ ?_ (row8 (A3.mk0 wd _ _ _).h0 i x hx)) (fun i x hx=>hW' _ _ ?_ (row8 (A3.mk0 wd _ _ _).h1 i x hx)) (fun i x hx=>hW' _ _ ?_ (row8 (A3.mk0 wd _ _ _).h2 i x hx)),HS.out.next (A3.mk0 wd _ _ _).hb⟩
      ·simp;omega
      ·simp;omega
      ·simp;omega
     case rest =>
      obtain⟨b5,rfl,hE,hS⟩:=hcut
      clear y0 y1 y2 y3 y4 y5 y6 y7 d0 d1 d2 d3 d4 d5 d6 d7 hb2 hsz HT HS wd
      rename World=>wd
      have HE:=zh hE
      have HS:=zh hS
      have hsz:=HS.out.size
      clear hE hS
      go_upto_region 6 with fail
      go_cut [6] from 31 (fun p we=>∃ b,p = .pointer (some ⟨b,0,none⟩)∧EX w.heap.size we b eSplit∧SuI w we∧b≠w.heap.size)
      case first =>
       go_wp2_with fail
       refine(name_any _ _).mono ?_
       rintro en w1 ⟨rfl,rfl⟩
       go_wp2_with fail
       go_meet
       have hBW:=((Below.refl wd.heap.size wd).alloc (Nat.le_refl _) (.cells #[.string ⟨#[99]⟩,.int .i64 0] 146)).alloc (by simp) (.cells #[.int .i64 7,.string ⟨#[]⟩,.string ⟨#[]⟩,.int .i64 0,.int .i64 0,.slice (some ⟨wd.heap.size,0,none⟩) 1 1,.slice (some ⟨b5,0,none⟩) 2 2,.slice none 0 0] 27)
       have e2:=heap_alloc_new (wd.alloc (.cells #[.string ⟨#[99]⟩,.int .i64 0] 146)) (.cells #[.int .i64 7,.string ⟨#[]⟩,.string ⟨#[]⟩,.int .i64 0,.int .i64 0,.slice (some ⟨wd.heap.size,0,none⟩) 1 1,.slice (some ⟨b5,0,none⟩) 2 2,.slice none 0 0] 27)
       rw [World.size_alloc] at e2
       exact⟨_,rfl,⟨_,row8 e2,TX.split (fun W' hW'=>HE.out W' (KB.of (kept_below hBW) hW')) rfl (by omega) ((Below.heap_alloc _ _ _ (by simp)).trans (heap_alloc_new wd _))⟩,HS.out.next hBW,by omega⟩
      case rest =>
       obtain⟨b6,rfl,hE,hS,hwb0⟩:=hcut
       clear HE HS hsz wd
       obtain⟨vs,op,num,site,xa,xn,xc,aa,ab,ca,cb,h8,hT⟩:=hE.e8
       have HS:=zh hS
       have HT:=zh hT
       obtain⟨rfl,y0,y1,y2,y3,y4,y5,y6,y7⟩:=h8
       rename World=>wd
       have d0:=in_drew y0
       have d1:=in_drew y1
       have d2:=in_drew y2
       have d3:=in_drew y3
       have d4:=in_drew y4
       have d5:=in_drew y5
       have d6:=in_drew y6
       have d7:=in_drew y7
       have hb2:b6<wd.heap.size:=World.block_lt_of_cell? _ _ y0
       have hsz:=HS.out.size
       clear hS hT hE
       go_upto_region 7 with fail
       have hn1:b6≠wd.heap.size:=by omega
       have hn2:b6≠wd.heap.size+1:=by omega
       have hn3:b6≠wd.heap.size+1+1:=by omega
       have hwb:w.heap.size≠b6:=fun e=>hwb0 e.symm
       clear hwb0
       go_cut [0] from 34 (fun p we=>p = .pointer (some ⟨w.heap.size,0,none⟩)∧SuR w we)
       case first =>
        refine wp_region_held_drew (S:=(fun w'=>w'.cell? ⟨b6,0,none⟩=some (.int .i64 eSplit.kind)∧w'.cell? ⟨b6,1,none⟩=some (.string eSplit.name)∧w'.cell? ⟨b6,2,none⟩=some (.string op)∧w'.cell? ⟨b6,3,none⟩=some (.int .i64 num)∧w'.cell? ⟨b6,4,none⟩=some (.int .i64 site)∧w'.cell? ⟨b6,5,none⟩=some (.slice xa xn xc)∧w'.cell? ⟨b6,6,none⟩=some (.slice aa eSplit.arms.length ca)∧w'.cell? ⟨b6,7,none⟩=some (.slice ab eSplit.body.length cb))) (by kernel_rfl) ⟨d0,d1,d2,d3,d4,d5,d6,d7⟩ (fun hHeld=>?_)
        obtain⟨k0,k1,k2,k3,k4,k5,k6,k7⟩:=hHeld
        refine wpAnyH_take (i:=0) (v:=?_) rfl (by kernel_rfl) (by kernel_rfl) (by kernel_rfl) (fun _ _ _ h=>h) (Or.inl ⟨by rfl,?_⟩) ⟨k0,k1,k2,k3,k4,k5,k6,k7⟩ ?_
        rotate_left
        ·intro wz hSw
         obtain⟨zk0,zk1,zk2,zk3,zk4,zk5,zk6,zk7⟩:=hSw
         try simp only [zq1,zq2,zq3]
         go_simp
         try with_reducible rfl
        try simp only [Act.put,zq1,zq2,zq3,zq4,zq5,zq6]
        refine wpAnyH_take (i:=3) (v:=?_) rfl (by kernel_rfl) (by kernel_rfl) (by kernel_rfl) (fun _ _ _ h=>h) (Or.inl ⟨by rfl,?_⟩) ⟨k0,k1,k2,k3,k4,k5,k6,k7⟩ ?_
        rotate_left
        ·intro wz hSw
         obtain⟨zk0,zk1,zk2,zk3,zk4,zk5,zk6,zk7⟩:=hSw
         try simp only [zq1,zq2,zq3]
         go_simp
         try with_reducible rfl
        try simp only [Act.put,zq1,zq2,zq3,zq4,zq5,zq6]
        refine wpAnyH_ready (rs:=[1,2,4]) (by kernel_rfl) (by simp) ?_
        refine AllReadyH.cons rfl (fun K hK=>?_) ?_
        ·try simp only [zq1,zq2,zq3]
         go_simp
         refine hK.out _ _ ?hs (fun hHeld=>?_)
         case hs=>first | exact⟨alloc_d k0,alloc_d k1,alloc_d k2,alloc_d k3,alloc_d k4,alloc_d k5,alloc_d k6,alloc_d k7⟩ | exact⟨Lib.cell?_alloc_some _ k0,Lib.cell?_alloc_some _ k1,Lib.cell?_alloc_some _ k2,Lib.cell?_alloc_some _ k3,Lib.cell?_alloc_some _ k4,Lib.cell?_alloc_some _ k5,Lib.cell?_alloc_some _ k6,Lib.cell?_alloc_some _ k7⟩
         clear hK K k0 k1 k2 k3 k4 k5 k6 k7
         obtain⟨k0,k1,k2,k3,k4,k5,k6,k7⟩:=hHeld
         try simp only [Act.put,zq1,zq2,zq3,zq4,zq5,zq6]
         refine wpAnyH_ready (rs:=[2,4]) (by kernel_rfl) (by simp) ?_
         refine AllReadyH.cons rfl (fun K hK=>?_) ?_
         ·try simp only [zq1,zq2,zq3]
          go_simp
          go_at_call 81
          refine(name_any _ _).mono ?_
          rintro e w' ⟨rfl,rfl⟩
          (try simp only [])
          refine hK.out _ _ ?hs (fun hHeld=>?_)
          case hs=>first | exact⟨alloc_d k0,alloc_d k1,alloc_d k2,alloc_d k3,alloc_d k4,alloc_d k5,alloc_d k6,alloc_d k7⟩ | exact⟨Lib.cell?_alloc_some _ k0,Lib.cell?_alloc_some _ k1,Lib.cell?_alloc_some _ k2,Lib.cell?_alloc_some _ k3,Lib.cell?_alloc_some _ k4,Lib.cell?_alloc_some _ k5,Lib.cell?_alloc_some _ k6,Lib.cell?_alloc_some _ k7⟩
          clear hK K k0 k1 k2 k3 k4 k5 k6 k7
          obtain⟨k0,k1,k2,k3,k4,k5,k6,k7⟩:=hHeld
          try simp only [Act.put,zq1,zq2,zq3,zq4,zq5,zq6]
          refine wpAnyH_ready (rs:=[4]) (by kernel_rfl) (by simp) ?_
          refine AllReadyH.cons rfl (fun K hK=>?_) ?_
          ·try simp only [zq1,zq2,zq3]
           go_simp
           refine hK.out _ _ ?hs (fun hHeld=>?_)
           case hs=>first | exact⟨alloc_d k0,alloc_d k1,alloc_d k2,alloc_d k3,alloc_d k4,alloc_d k5,alloc_d k6,alloc_d k7⟩ | exact⟨Lib.cell?_alloc_some _ k0,Lib.cell?_alloc_some _ k1,Lib.cell?_alloc_some _ k2,Lib.cell?_alloc_some _ k3,Lib.cell?_alloc_some _ k4,Lib.cell?_alloc_some _ k5,Lib.cell?_alloc_some _ k6,Lib.cell?_alloc_some _ k7⟩
           clear hK K k0 k1 k2 k3 k4 k5 k6 k7
           obtain⟨k0,k1,k2,k3,k4,k5,k6,k7⟩:=hHeld
           try simp only [Act.put,zq1,zq2,zq3,zq4,zq5,zq6]
           refine wpAnyH_take (i:=5) (v:=?_) rfl (by kernel_rfl) (by kernel_rfl) (by kernel_rfl) (fun _ _ _ h=>h) (Or.inl ⟨by rfl,?_⟩) ⟨k0,k1,k2,k3,k4,k5,k6,k7⟩ ?_
           rotate_left
           ·intro wz hSw
            obtain⟨zk0,zk1,zk2,zk3,zk4,zk5,zk6,zk7⟩:=hSw
            try simp only [zq1,zq2,zq3]
            go_simp
            try with_reducible rfl
           try simp only [Act.put,zq1,zq2,zq3,zq4,zq5,zq6]
           refine wpAnyH_take (i:=6) (v:=?_) rfl (by kernel_rfl) (by kernel_rfl) (by kernel_rfl) (fun _ _ _ h=>h) (Or.inl ⟨by rfl,?_⟩) ⟨k0,k1,k2,k3,k4,k5,k6,k7⟩ ?_
           rotate_left
           ·intro wz hSw
            obtain⟨zk0,zk1,zk2,zk3,zk4,zk5,zk6,zk7⟩:=hSw
            try simp only [zq1,zq2,zq3]
            go_simp
            try with_reducible rfl
           try simp only [Act.put,zq1,zq2,zq3,zq4,zq5,zq6]
           refine wpAnyH_ready (rs:=[7]) (by kernel_rfl) (by simp) ?_
           refine AllReadyH.cons rfl (fun K hK=>?_) AllReadyH.nil
           rw [if_pos (by rfl)]
           try simp only [zq1,zq2,zq3]
           refine wp_store_mid 29 _ _ rfl w.heap.size 0 _ rfl rfl (HS.out.there (A3.mk3 wd _ _ _).hb) Tryz.info29 (by simp [Value.oneCell']) ?_
           refine hK.out _ _ ?hs (fun _=>?_)
           case hs=>exact⟨far_cells hwb k0,far_cells hwb k1,far_cells hwb k2,far_cells hwb k3,far_cells hwb k4,far_cells hwb k5,far_cells hwb k6,far_cells hwb k7⟩
           clear hK K
           refine wpAnyH_done (by kernel_rfl) ?_ _
           simp only [Act.put]
           go_wp2_with fail
           go_meet
           refine⟨rfl,?_⟩
           first
            | exact SuI.last HT.out HS.out (A3.mk3 wd _ _ _).hb (by omega) (by omega) (by omega) (A3.mk3 wd _ _ _).h0 (A3.mk3 wd _ _ _).h1 (A3.mk3 wd _ _ _).h2
            | exact SuI.last HT.out HS.out (A3.mk3 wd _ _ _).hb (by omega) (by omega) (by omega) (A3.mk3 wd _ _ _).h0 (A3.mk3 wd _ _ _).h2 (A3.mk3 wd _ _ _).h1
            | exact SuI.last HT.out HS.out (A3.mk3 wd _ _ _).hb (by omega) (by omega) (by omega) (A3.mk3 wd _ _ _).h1 (A3.mk3 wd _ _ _).h0 (A3.mk3 wd _ _ _).h2
            | exact SuI.last HT.out HS.out (A3.mk3 wd _ _ _).hb (by omega) (by omega) (by omega) (A3.mk3 wd _ _ _).h1 (A3.mk3 wd _ _ _).h2 (A3.mk3 wd _ _ _).h0
            | exact SuI.last HT.out HS.out (A3.mk3 wd _ _ _).hb (by omega) (by omega) (by omega) (A3.mk3 wd _ _ _).h2 (A3.mk3 wd _ _ _).h0 (A3.mk3 wd _ _ _).h1
            | exact SuI.last HT.out HS.out (A3.mk3 wd _ _ _).hb (by omega) (by omega) (by omega) (A3.mk3 wd _ _ _).h2 (A3.mk3 wd _ _ _).h1 (A3.mk3 wd _ _ _).h0
          exact AllReadyH.nil
         refine AllReadyH.cons rfl (fun K hK=>?_) ?_
         ·try simp only [zq1,zq2,zq3]
          go_simp
          refine hK.out _ _ ?hs (fun hHeld=>?_)
          case hs=>first | exact⟨alloc_d k0,alloc_d k1,alloc_d k2,alloc_d k3,alloc_d k4,alloc_d k5,alloc_d k6,alloc_d k7⟩ | exact⟨Lib.cell?_alloc_some _ k0,Lib.cell?_alloc_some _ k1,Lib.cell?_alloc_some _ k2,Lib.cell?_alloc_some _ k3,Lib.cell?_alloc_some _ k4,Lib.cell?_alloc_some _ k5,Lib.cell?_alloc_some _ k6,Lib.cell?_alloc_some _ k7⟩
          clear hK K k0 k1 k2 k3 k4 k5 k6 k7
          obtain⟨k0,k1,k2,k3,k4,k5,k6,k7⟩:=hHeld
          try simp only [Act.put,zq1,zq2,zq3,zq4,zq5,zq6]
          refine wpAnyH_ready (rs:=[2]) (by kernel_rfl) (by simp) ?_
          refine AllReadyH.cons rfl (fun K hK=>?_) ?_
          ·try simp only [zq1,zq2,zq3]
           go_simp
           go_at_call 81
           refine(name_any _ _).mono ?_
           rintro e w' ⟨rfl,rfl⟩
           (try simp only [])
           refine hK.out _ _ ?hs (fun hHeld=>?_)
           case hs=>first | exact⟨alloc_d k0,alloc_d k1,alloc_d k2,alloc_d k3,alloc_d k4,alloc_d k5,alloc_d k6,alloc_d k7⟩ | exact⟨Lib.cell?_alloc_some _ k0,Lib.cell?_alloc_some _ k1,Lib.cell?_alloc_some _ k2,Lib.cell?_alloc_some _ k3,Lib.cell?_alloc_some _ k4,Lib.cell?_alloc_some _ k5,Lib.cell?_alloc_some _ k6,Lib.cell?_alloc_some _ k7⟩
           clear hK K k0 k1 k2 k3 k4 k5 k6 k7
           obtain⟨k0,k1,k2,k3,k4,k5,k6,k7⟩:=hHeld
           try simp only [Act.put,zq1,zq2,zq3,zq4,zq5,zq6]
           refine wpAnyH_take (i:=5) (v:=?_) rfl (by kernel_rfl) (by kernel_rfl) (by kernel_rfl) (fun _ _ _ h=>h) (Or.inl ⟨by rfl,?_⟩) ⟨k0,k1,k2,k3,k4,k5,k6,k7⟩ ?_
           rotate_left
           ·intro wz hSw
            obtain⟨zk0,zk1,zk2,zk3,zk4,zk5,zk6,zk7⟩:=hSw
            try simp only [zq1,zq2,zq3]
            go_simp
            try with_reducible rfl
           try simp only [Act.put,zq1,zq2,zq3,zq4,zq5,zq6]
           refine wpAnyH_take (i:=6) (v:=?_) rfl (by kernel_rfl) (by kernel_rfl) (by kernel_rfl) (fun _ _ _ h=>h) (Or.inl ⟨by rfl,?_⟩) ⟨k0,k1,k2,k3,k4,k5,k6,k7⟩ ?_
           rotate_left
           ·intro wz hSw
            obtain⟨zk0,zk1,zk2,zk3,zk4,zk5,zk6,zk7⟩:=hSw
            try simp only [zq1,zq2,zq3]
            go_simp
            try with_reducible rfl
           try simp only [Act.put,zq1,zq2,zq3,zq4,zq5,zq6]
           refine wpAnyH_ready (rs:=[7]) (by kernel_rfl) (by simp) ?_
           refine AllReadyH.cons rfl (fun K hK=>?_) AllReadyH.nil
           rw [if_pos (by rfl)]
           try simp only [zq1,zq2,zq3]
           refine wp_store_mid 29 _ _ rfl w.heap.size 0 _ rfl rfl (HS.out.there (A3.mk3 wd _ _ _).hb) Tryz.info29 (by simp [Value.oneCell']) ?_
           refine hK.out _ _ ?hs (fun _=>?_)
           case hs=>exact⟨far_cells hwb k0,far_cells hwb k1,far_cells hwb k2,far_cells hwb k3,far_cells hwb k4,far_cells hwb k5,far_cells hwb k6,far_cells hwb k7⟩
           clear hK K
           refine wpAnyH_done (by kernel_rfl) ?_ _
           simp only [Act.put]
           go_wp2_with fail
           go_meet
           refine⟨rfl,?_⟩
           first
            | exact SuI.last HT.out HS.out (A3.mk3 wd _ _ _).hb (by omega) (by omega) (by omega) (A3.mk3 wd _ _ _).h0 (A3.mk3 wd _ _ _).h1 (A3.mk3 wd _ _ _).h2
            | exact SuI.last HT.out HS.out (A3.mk3 wd _ _ _).hb (by omega) (by omega) (by omega) (A3.mk3 wd _ _ _).h0 (A3.mk3 wd _ _ _).h2 (A3.mk3 wd _ _ _).h1
            | exact SuI.last HT.out HS.out (A3.mk3 wd _ _ _).hb (by omega) (by omega) (by omega) (A3.mk3 wd _ _ _).h1 (A3.mk3 wd _ _ _).h0 (A3.mk3 wd _ _ _).h2
            | exact SuI.last HT.out HS.out (A3.mk3 wd _ _ _).hb (by omega) (by omega) (by omega) (A3.mk3 wd _ _ _).h1 (A3.mk3 wd _ _ _).h2 (A3.mk3 wd _ _ _).h0
            | exact SuI.last HT.out HS.out (A3.mk3 wd _ _ _).hb (by omega) (by omega) (by omega) (A3.mk3 wd _ _ _).h2 (A3.mk3 wd _ _ _).h0 (A3.mk3 wd _ _ _).h1
            | exact SuI.last HT.out HS.out (A3.mk3 wd _ _ _).hb (by omega) (by omega) (by omega) (A3.mk3 wd _ _ _).h2 (A3.mk3 wd _ _ _).h1 (A3.mk3 wd _ _ _).h0
          exact AllReadyH.nil
         exact AllReadyH.nil
        refine AllReadyH.cons rfl (fun K hK=>?_) ?_
        ·try simp only [zq1,zq2,zq3]
         go_simp
         go_at_call 81
         refine(name_any _ _).mono ?_
         rintro e w' ⟨rfl,rfl⟩
         (try simp only [])
         refine hK.out _ _ ?hs (fun hHeld=>?_)
         case hs=>first | exact⟨alloc_d k0,alloc_d k1,alloc_d k2,alloc_d k3,alloc_d k4,alloc_d k5,alloc_d k6,alloc_d k7⟩ | exact⟨Lib.cell?_alloc_some _ k0,Lib.cell?_alloc_some _ k1,Lib.cell?_alloc_some _ k2,Lib.cell?_alloc_some _ k3,Lib.cell?_alloc_some _ k4,Lib.cell?_alloc_some _ k5,Lib.cell?_alloc_some _ k6,Lib.cell?_alloc_some _ k7⟩
         clear hK K k0 k1 k2 k3 k4 k5 k6 k7
         obtain⟨k0,k1,k2,k3,k4,k5,k6,k7⟩:=hHeld
         try simp only [Act.put,zq1,zq2,zq3,zq4,zq5,zq6]
         refine wpAnyH_ready (rs:=[1,4]) (by kernel_rfl) (by simp) ?_
         refine AllReadyH.cons rfl (fun K hK=>?_) ?_
         ·try simp only [zq1,zq2,zq3]
          go_simp
          refine hK.out _ _ ?hs (fun hHeld=>?_)
          case hs=>first | exact⟨alloc_d k0,alloc_d k1,alloc_d k2,alloc_d k3,alloc_d k4,alloc_d k5,alloc_d k6,alloc_d k7⟩ | exact⟨Lib.cell?_alloc_some _ k0,Lib.cell?_alloc_some _ k1,Lib.cell?_alloc_some _ k2,Lib.cell?_alloc_some _ k3,Lib.cell?_alloc_some _ k4,Lib.cell?_alloc_some _ k5,Lib.cell?_alloc_some _ k6,Lib.cell?_alloc_some _ k7⟩
          clear hK K k0 k1 k2 k3 k4 k5 k6 k7
          obtain⟨k0,k1,k2,k3,k4,k5,k6,k7⟩:=hHeld
          try simp only [Act.put,zq1,zq2,zq3,zq4,zq5,zq6]
          refine wpAnyH_ready (rs:=[4]) (by kernel_rfl) (by simp) ?_
          refine AllReadyH.cons rfl (fun K hK=>?_) ?_
          ·try simp only [zq1,zq2,zq3]
           go_simp
           refine hK.out _ _ ?hs (fun hHeld=>?_)
           case hs=>first | exact⟨alloc_d k0,alloc_d k1,alloc_d k2,alloc_d k3,alloc_d k4,alloc_d k5,alloc_d k6,alloc_d k7⟩ | exact⟨Lib.cell?_alloc_some _ k0,Lib.cell?_alloc_some _ k1,Lib.cell?_alloc_some _ k2,Lib.cell?_alloc_some _ k3,Lib.cell?_alloc_some _ k4,Lib.cell?_alloc_some _ k5,Lib.cell?_alloc_some _ k6,Lib.cell?_alloc_some _ k7⟩
           clear hK K k0 k1 k2 k3 k4 k5 k6 k7
           obtain⟨k0,k1,k2,k3,k4,k5,k6,k7⟩:=hHeld
           try simp only [Act.put,zq1,zq2,zq3,zq4,zq5,zq6]
           refine wpAnyH_take (i:=5) (v:=?_) rfl (by kernel_rfl) (by kernel_rfl) (by kernel_rfl) (fun _ _ _ h=>h) (Or.inl ⟨by rfl,?_⟩) ⟨k0,k1,k2,k3,k4,k5,k6,k7⟩ ?_
           rotate_left
           ·intro wz hSw
            obtain⟨zk0,zk1,zk2,zk3,zk4,zk5,zk6,zk7⟩:=hSw
            try simp only [zq1,zq2,zq3]
            go_simp
            try with_reducible rfl
           try simp only [Act.put,zq1,zq2,zq3,zq4,zq5,zq6]
           refine wpAnyH_take (i:=6) (v:=?_) rfl (by kernel_rfl) (by kernel_rfl) (by kernel_rfl) (fun _ _ _ h=>h) (Or.inl ⟨by rfl,?_⟩) ⟨k0,k1,k2,k3,k4,k5,k6,k7⟩ ?_
           rotate_left
           ·intro wz hSw
            obtain⟨zk0,zk1,zk2,zk3,zk4,zk5,zk6,zk7⟩:=hSw
            try simp only [zq1,zq2,zq3]
            go_simp
            try with_reducible rfl
           try simp only [Act.put,zq1,zq2,zq3,zq4,zq5,zq6]
           refine wpAnyH_ready (rs:=[7]) (by kernel_rfl) (by simp) ?_
           refine AllReadyH.cons rfl (fun K hK=>?_) AllReadyH.nil
           rw [if_pos (by rfl)]
           try simp only [zq1,zq2,zq3]
           refine wp_store_mid 29 _ _ rfl w.heap.size 0 _ rfl rfl (HS.out.there (A3.mk3 wd _ _ _).hb) Tryz.info29 (by simp [Value.oneCell']) ?_
           refine hK.out _ _ ?hs (fun _=>?_)
           case hs=>exact⟨far_cells hwb k0,far_cells hwb k1,far_cells hwb k2,far_cells hwb k3,far_cells hwb k4,far_cells hwb k5,far_cells hwb k6,far_cells hwb k7⟩
           clear hK K
           refine wpAnyH_done (by kernel_rfl) ?_ _
           simp only [Act.put]
           go_wp2_with fail
           go_meet
           refine⟨rfl,?_⟩
           first
            | exact SuI.last HT.out HS.out (A3.mk3 wd _ _ _).hb (by omega) (by omega) (by omega) (A3.mk3 wd _ _ _).h0 (A3.mk3 wd _ _ _).h1 (A3.mk3 wd _ _ _).h2
            | exact SuI.last HT.out HS.out (A3.mk3 wd _ _ _).hb (by omega) (by omega) (by omega) (A3.mk3 wd _ _ _).h0 (A3.mk3 wd _ _ _).h2 (A3.mk3 wd _ _ _).h1
            | exact SuI.last HT.out HS.out (A3.mk3 wd _ _ _).hb (by omega) (by omega) (by omega) (A3.mk3 wd _ _ _).h1 (A3.mk3 wd _ _ _).h0 (A3.mk3 wd _ _ _).h2
            | exact SuI.last HT.out HS.out (A3.mk3 wd _ _ _).hb (by omega) (by omega) (by omega) (A3.mk3 wd _ _ _).h1 (A3.mk3 wd _ _ _).h2 (A3.mk3 wd _ _ _).h0
            | exact SuI.last HT.out HS.out (A3.mk3 wd _ _ _).hb (by omega) (by omega) (by omega) (A3.mk3 wd _ _ _).h2 (A3.mk3 wd _ _ _).h0 (A3.mk3 wd _ _ _).h1
            | exact SuI.last HT.out HS.out (A3.mk3 wd _ _ _).hb (by omega) (by omega) (by omega) (A3.mk3 wd _ _ _).h2 (A3.mk3 wd _ _ _).h1 (A3.mk3 wd _ _ _).h0
          exact AllReadyH.nil
         refine AllReadyH.cons rfl (fun K hK=>?_) ?_
         ·try simp only [zq1,zq2,zq3]
          go_simp
          refine hK.out _ _ ?hs (fun hHeld=>?_)
          case hs=>first | exact⟨alloc_d k0,alloc_d k1,alloc_d k2,alloc_d k3,alloc_d k4,alloc_d k5,alloc_d k6,alloc_d k7⟩ | exact⟨Lib.cell?_alloc_some _ k0,Lib.cell?_alloc_some _ k1,Lib.cell?_alloc_some _ k2,Lib.cell?_alloc_some _ k3,Lib.cell?_alloc_some _ k4,Lib.cell?_alloc_some _ k5,Lib.cell?_alloc_some _ k6,Lib.cell?_alloc_some _ k7⟩
          clear hK K k0 k1 k2 k3 k4 k5 k6 k7
          obtain⟨k0,k1,k2,k3,k4,k5,k6,k7⟩:=hHeld
          try simp only [Act.put,zq1,zq2,zq3,zq4,zq5,zq6]
          refine wpAnyH_take (i:=5) (v:=?_) rfl (by kernel_rfl) (by kernel_rfl) (by kernel_rfl) (fun _ _ _ h=>h) (Or.inl ⟨by rfl,?_⟩) ⟨k0,k1,k2,k3,k4,k5,k6,k7⟩ ?_
          rotate_left
          ·intro wz hSw
           obtain⟨zk0,zk1,zk2,zk3,zk4,zk5,zk6,zk7⟩:=hSw
           try simp only [zq1,zq2,zq3]
           go_simp
           try with_reducible rfl
          try simp only [Act.put,zq1,zq2,zq3,zq4,zq5,zq6]
          refine wpAnyH_ready (rs:=[1]) (by kernel_rfl) (by simp) ?_
          refine AllReadyH.cons rfl (fun K hK=>?_) ?_
          ·try simp only [zq1,zq2,zq3]
           go_simp
           refine hK.out _ _ ?hs (fun hHeld=>?_)
           case hs=>first | exact⟨alloc_d k0,alloc_d k1,alloc_d k2,alloc_d k3,alloc_d k4,alloc_d k5,alloc_d k6,alloc_d k7⟩ | exact⟨Lib.cell?_alloc_some _ k0,Lib.cell?_alloc_some _ k1,Lib.cell?_alloc_some _ k2,Lib.cell?_alloc_some _ k3,Lib.cell?_alloc_some _ k4,Lib.cell?_alloc_some _ k5,Lib.cell?_alloc_some _ k6,Lib.cell?_alloc_some _ k7⟩
           clear hK K k0 k1 k2 k3 k4 k5 k6 k7
           obtain⟨k0,k1,k2,k3,k4,k5,k6,k7⟩:=hHeld
           try simp only [Act.put,zq1,zq2,zq3,zq4,zq5,zq6]
           refine wpAnyH_take (i:=6) (v:=?_) rfl (by kernel_rfl) (by kernel_rfl) (by kernel_rfl) (fun _ _ _ h=>h) (Or.inl ⟨by rfl,?_⟩) ⟨k0,k1,k2,k3,k4,k5,k6,k7⟩ ?_
           rotate_left
           ·intro wz hSw
            obtain⟨zk0,zk1,zk2,zk3,zk4,zk5,zk6,zk7⟩:=hSw
            try simp only [zq1,zq2,zq3]
            go_simp
            try with_reducible rfl
           try simp only [Act.put,zq1,zq2,zq3,zq4,zq5,zq6]
           refine wpAnyH_ready (rs:=[7]) (by kernel_rfl) (by simp) ?_
           refine AllReadyH.cons rfl (fun K hK=>?_) AllReadyH.nil
           rw [if_pos (by rfl)]
           try simp only [zq1,zq2,zq3]
           refine wp_store_mid 29 _ _ rfl w.heap.size 0 _ rfl rfl (HS.out.there (A3.mk3 wd _ _ _).hb) Tryz.info29 (by simp [Value.oneCell']) ?_
           refine hK.out _ _ ?hs (fun _=>?_)
           case hs=>exact⟨far_cells hwb k0,far_cells hwb k1,far_cells hwb k2,far_cells hwb k3,far_cells hwb k4,far_cells hwb k5,far_cells hwb k6,far_cells hwb k7⟩
           clear hK K
           refine wpAnyH_done (by kernel_rfl) ?_ _
           simp only [Act.put]
           go_wp2_with fail
           go_meet
           refine⟨rfl,?_⟩
           first
            | exact SuI.last HT.out HS.out (A3.mk3 wd _ _ _).hb (by omega) (by omega) (by omega) (A3.mk3 wd _ _ _).h0 (A3.mk3 wd _ _ _).h1 (A3.mk3 wd _ _ _).h2
            | exact SuI.last HT.out HS.out (A3.mk3 wd _ _ _).hb (by omega) (by omega) (by omega) (A3.mk3 wd _ _ _).h0 (A3.mk3 wd _ _ _).h2 (A3.mk3 wd _ _ _).h1
            | exact SuI.last HT.out HS.out (A3.mk3 wd _ _ _).hb (by omega) (by omega) (by omega) (A3.mk3 wd _ _ _).h1 (A3.mk3 wd _ _ _).h0 (A3.mk3 wd _ _ _).h2
            | exact SuI.last HT.out HS.out (A3.mk3 wd _ _ _).hb (by omega) (by omega) (by omega) (A3.mk3 wd _ _ _).h1 (A3.mk3 wd _ _ _).h2 (A3.mk3 wd _ _ _).h0
            | exact SuI.last HT.out HS.out (A3.mk3 wd _ _ _).hb (by omega) (by omega) (by omega) (A3.mk3 wd _ _ _).h2 (A3.mk3 wd _ _ _).h0 (A3.mk3 wd _ _ _).h1
            | exact SuI.last HT.out HS.out (A3.mk3 wd _ _ _).hb (by omega) (by omega) (by omega) (A3.mk3 wd _ _ _).h2 (A3.mk3 wd _ _ _).h1 (A3.mk3 wd _ _ _).h0
          exact AllReadyH.nil
         exact AllReadyH.nil
        refine AllReadyH.cons rfl (fun K hK=>?_) ?_
        ·try simp only [zq1,zq2,zq3]
         go_simp
         refine hK.out _ _ ?hs (fun hHeld=>?_)
         case hs=>first | exact⟨alloc_d k0,alloc_d k1,alloc_d k2,alloc_d k3,alloc_d k4,alloc_d k5,alloc_d k6,alloc_d k7⟩ | exact⟨Lib.cell?_alloc_some _ k0,Lib.cell?_alloc_some _ k1,Lib.cell?_alloc_some _ k2,Lib.cell?_alloc_some _ k3,Lib.cell?_alloc_some _ k4,Lib.cell?_alloc_some _ k5,Lib.cell?_alloc_some _ k6,Lib.cell?_alloc_some _ k7⟩
         clear hK K k0 k1 k2 k3 k4 k5 k6 k7
         obtain⟨k0,k1,k2,k3,k4,k5,k6,k7⟩:=hHeld
         try simp only [Act.put,zq1,zq2,zq3,zq4,zq5,zq6]
         refine wpAnyH_ready (rs:=[1,2]) (by kernel_rfl) (by simp) ?_
         refine AllReadyH.cons rfl (fun K hK=>?_) ?_
         ·try simp only [zq1,zq2,zq3]
          go_simp
          refine hK.out _ _ ?hs (fun hHeld=>?_)
          case hs=>first | exact⟨alloc_d k0,alloc_d k1,alloc_d k2,alloc_d k3,alloc_d k4,alloc_d k5,alloc_d k6,alloc_d k7⟩ | exact⟨Lib.cell?_alloc_some _ k0,Lib.cell?_alloc_some _ k1,Lib.cell?_alloc_some _ k2,Lib.cell?_alloc_some _ k3,Lib.cell?_alloc_some _ k4,Lib.cell?_alloc_some _ k5,Lib.cell?_alloc_some _ k6,Lib.cell?_alloc_some _ k7⟩
          clear hK K k0 k1 k2 k3 k4 k5 k6 k7
          obtain⟨k0,k1,k2,k3,k4,k5,k6,k7⟩:=hHeld
          try simp only [Act.put,zq1,zq2,zq3,zq4,zq5,zq6]
          refine wpAnyH_ready (rs:=[2]) (by kernel_rfl) (by simp) ?_
          refine AllReadyH.cons rfl (fun K hK=>?_) ?_
          ·try simp only [zq1,zq2,zq3]
           go_simp
           go_at_call 81
           refine(name_any _ _).mono ?_
           rintro e w' ⟨rfl,rfl⟩
           (try simp only [])
           refine hK.out _ _ ?hs (fun hHeld=>?_)
           case hs=>first | exact⟨alloc_d k0,alloc_d k1,alloc_d k2,alloc_d k3,alloc_d k4,alloc_d k5,alloc_d k6,alloc_d k7⟩ | exact⟨Lib.cell?_alloc_some _ k0,Lib.cell?_alloc_some _ k1,Lib.cell?_alloc_some _ k2,Lib.cell?_alloc_some _ k3,Lib.cell?_alloc_some _ k4,Lib.cell?_alloc_some _ k5,Lib.cell?_alloc_some _ k6,Lib.cell?_alloc_some _ k7⟩
           clear hK K k0 k1 k2 k3 k4 k5 k6 k7
           obtain⟨k0,k1,k2,k3,k4,k5,k6,k7⟩:=hHeld
           try simp only [Act.put,zq1,zq2,zq3,zq4,zq5,zq6]
           refine wpAnyH_take (i:=5) (v:=?_) rfl (by kernel_rfl) (by kernel_rfl) (by kernel_rfl) (fun _ _ _ h=>h) (Or.inl ⟨by rfl,?_⟩) ⟨k0,k1,k2,k3,k4,k5,k6,k7⟩ ?_
           rotate_left
           ·intro wz hSw
            obtain⟨zk0,zk1,zk2,zk3,zk4,zk5,zk6,zk7⟩:=hSw
            try simp only [zq1,zq2,zq3]
            go_simp
            try with_reducible rfl
           try simp only [Act.put,zq1,zq2,zq3,zq4,zq5,zq6]
           refine wpAnyH_take (i:=6) (v:=?_) rfl (by kernel_rfl) (by kernel_rfl) (by kernel_rfl) (fun _ _ _ h=>h) (Or.inl ⟨by rfl,?_⟩) ⟨k0,k1,k2,k3,k4,k5,k6,k7⟩ ?_
           rotate_left
           ·intro wz hSw
            obtain⟨zk0,zk1,zk2,zk3,zk4,zk5,zk6,zk7⟩:=hSw
            try simp only [zq1,zq2,zq3]
            go_simp
            try with_reducible rfl
           try simp only [Act.put,zq1,zq2,zq3,zq4,zq5,zq6]
           refine wpAnyH_ready (rs:=[7]) (by kernel_rfl) (by simp) ?_
           refine AllReadyH.cons rfl (fun K hK=>?_) AllReadyH.nil
           rw [if_pos (by rfl)]
           try simp only [zq1,zq2,zq3]
           refine wp_store_mid 29 _ _ rfl w.heap.size 0 _ rfl rfl (HS.out.there (A3.mk3 wd _ _ _).hb) Tryz.info29 (by simp [Value.oneCell']) ?_
           refine hK.out _ _ ?hs (fun _=>?_)
           case hs=>exact⟨far_cells hwb k0,far_cells hwb k1,far_cells hwb k2,far_cells hwb k3,far_cells hwb k4,far_cells hwb k5,far_cells hwb k6,far_cells hwb k7⟩
           clear hK K
           refine wpAnyH_done (by kernel_rfl) ?_ _
           simp only [Act.put]
           go_wp2_with fail
           go_meet
           refine⟨rfl,?_⟩
           first
            | exact SuI.last HT.out HS.out (A3.mk3 wd _ _ _).hb (by omega) (by omega) (by omega) (A3.mk3 wd _ _ _).h0 (A3.mk3 wd _ _ _).h1 (A3.mk3 wd _ _ _).h2
            | exact SuI.last HT.out HS.out (A3.mk3 wd _ _ _).hb (by omega) (by omega) (by omega) (A3.mk3 wd _ _ _).h0 (A3.mk3 wd _ _ _).h2 (A3.mk3 wd _ _ _).h1
            | exact SuI.last HT.out HS.out (A3.mk3 wd _ _ _).hb (by omega) (by omega) (by omega) (A3.mk3 wd _ _ _).h1 (A3.mk3 wd _ _ _).h0 (A3.mk3 wd _ _ _).h2
            | exact SuI.last HT.out HS.out (A3.mk3 wd _ _ _).hb (by omega) (by omega) (by omega) (A3.mk3 wd _ _ _).h1 (A3.mk3 wd _ _ _).h2 (A3.mk3 wd _ _ _).h0
            | exact SuI.last HT.out HS.out (A3.mk3 wd _ _ _).hb (by omega) (by omega) (by omega) (A3.mk3 wd _ _ _).h2 (A3.mk3 wd _ _ _).h0 (A3.mk3 wd _ _ _).h1
            | exact SuI.last HT.out HS.out (A3.mk3 wd _ _ _).hb (by omega) (by omega) (by omega) (A3.mk3 wd _ _ _).h2 (A3.mk3 wd _ _ _).h1 (A3.mk3 wd _ _ _).h0
          exact AllReadyH.nil
         refine AllReadyH.cons rfl (fun K hK=>?_) ?_
         ·try simp only [zq1,zq2,zq3]
          go_simp
          go_at_call 81
          refine(name_any _ _).mono ?_
          rintro e w' ⟨rfl,rfl⟩
          (try simp only [])
          refine hK.out _ _ ?hs (fun hHeld=>?_)
          case hs=>first | exact⟨alloc_d k0,alloc_d k1,alloc_d k2,alloc_d k3,alloc_d k4,alloc_d k5,alloc_d k6,alloc_d k7⟩ | exact⟨Lib.cell?_alloc_some _ k0,Lib.cell?_alloc_some _ k1,Lib.cell?_alloc_some _ k2,Lib.cell?_alloc_some _ k3,Lib.cell?_alloc_some _ k4,Lib.cell?_alloc_some _ k5,Lib.cell?_alloc_some _ k6,Lib.cell?_alloc_some _ k7⟩
          clear hK K k0 k1 k2 k3 k4 k5 k6 k7
          obtain⟨k0,k1,k2,k3,k4,k5,k6,k7⟩:=hHeld
          try simp only [Act.put,zq1,zq2,zq3,zq4,zq5,zq6]
          refine wpAnyH_take (i:=5) (v:=?_) rfl (by kernel_rfl) (by kernel_rfl) (by kernel_rfl) (fun _ _ _ h=>h) (Or.inl ⟨by rfl,?_⟩) ⟨k0,k1,k2,k3,k4,k5,k6,k7⟩ ?_
          rotate_left
          ·intro wz hSw
           obtain⟨zk0,zk1,zk2,zk3,zk4,zk5,zk6,zk7⟩:=hSw
           try simp only [zq1,zq2,zq3]
           go_simp
           try with_reducible rfl
          try simp only [Act.put,zq1,zq2,zq3,zq4,zq5,zq6]
          refine wpAnyH_ready (rs:=[1]) (by kernel_rfl) (by simp) ?_
          refine AllReadyH.cons rfl (fun K hK=>?_) ?_
          ·try simp only [zq1,zq2,zq3]
           go_simp
           refine hK.out _ _ ?hs (fun hHeld=>?_)
           case hs=>first | exact⟨alloc_d k0,alloc_d k1,alloc_d k2,alloc_d k3,alloc_d k4,alloc_d k5,alloc_d k6,alloc_d k7⟩ | exact⟨Lib.cell?_alloc_some _ k0,Lib.cell?_alloc_some _ k1,Lib.cell?_alloc_some _ k2,Lib.cell?_alloc_some _ k3,Lib.cell?_alloc_some _ k4,Lib.cell?_alloc_some _ k5,Lib.cell?_alloc_some _ k6,Lib.cell?_alloc_some _ k7⟩
           clear hK K k0 k1 k2 k3 k4 k5 k6 k7
           obtain⟨k0,k1,k2,k3,k4,k5,k6,k7⟩:=hHeld
           try simp only [Act.put,zq1,zq2,zq3,zq4,zq5,zq6]
           refine wpAnyH_take (i:=6) (v:=?_) rfl (by kernel_rfl) (by kernel_rfl) (by kernel_rfl) (fun _ _ _ h=>h) (Or.inl ⟨by rfl,?_⟩) ⟨k0,k1,k2,k3,k4,k5,k6,k7⟩ ?_
           rotate_left
           ·intro wz hSw
            obtain⟨zk0,zk1,zk2,zk3,zk4,zk5,zk6,zk7⟩:=hSw
            try simp only [zq1,zq2,zq3]
            go_simp
            try with_reducible rfl
           try simp only [Act.put,zq1,zq2,zq3,zq4,zq5,zq6]
           refine wpAnyH_ready (rs:=[7]) (by kernel_rfl) (by simp) ?_
           refine AllReadyH.cons rfl (fun K hK=>?_) AllReadyH.nil
           rw [if_pos (by rfl)]
           try simp only [zq1,zq2,zq3]
           refine wp_store_mid 29 _ _ rfl w.heap.size 0 _ rfl rfl (HS.out.there (A3.mk3 wd _ _ _).hb) Tryz.info29 (by simp [Value.oneCell']) ?_
           refine hK.out _ _ ?hs (fun _=>?_)
           case hs=>exact⟨far_cells hwb k0,far_cells hwb k1,far_cells hwb k2,far_cells hwb k3,far_cells hwb k4,far_cells hwb k5,far_cells hwb k6,far_cells hwb k7⟩
           clear hK K
           refine wpAnyH_done (by kernel_rfl) ?_ _
           simp only [Act.put]
           go_wp2_with fail
           go_meet
           refine⟨rfl,?_⟩
           first
            | exact SuI.last HT.out HS.out (A3.mk3 wd _ _ _).hb (by omega) (by omega) (by omega) (A3.mk3 wd _ _ _).h0 (A3.mk3 wd _ _ _).h1 (A3.mk3 wd _ _ _).h2
            | exact SuI.last HT.out HS.out (A3.mk3 wd _ _ _).hb (by omega) (by omega) (by omega) (A3.mk3 wd _ _ _).h0 (A3.mk3 wd _ _ _).h2 (A3.mk3 wd _ _ _).h1
            | exact SuI.last HT.out HS.out (A3.mk3 wd _ _ _).hb (by omega) (by omega) (by omega) (A3.mk3 wd _ _ _).h1 (A3.mk3 wd _ _ _).h0 (A3.mk3 wd _ _ _).h2
            | exact SuI.last HT.out HS.out (A3.mk3 wd _ _ _).hb (by omega) (by omega) (by omega) (A3.mk3 wd _ _ _).h1 (A3.mk3 wd _ _ _).h2 (A3.mk3 wd _ _ _).h0
            | exact SuI.last HT.out HS.out (A3.mk3 wd _ _ _).hb (by omega) (by omega) (by omega) (A3.mk3 wd _ _ _).h2 (A3.mk3 wd _ _ _).h0 (A3.mk3 wd _ _ _).h1
            | exact SuI.last HT.out HS.out (A3.mk3 wd _ _ _).hb (by omega) (by omega) (by omega) (A3.mk3 wd _ _ _).h2 (A3.mk3 wd _ _ _).h1 (A3.mk3 wd _ _ _).h0
          exact AllReadyH.nil
         exact AllReadyH.nil
        exact AllReadyH.nil
       case rest =>
        obtain⟨rfl,pb,na,ba,hc,hV,hB⟩:=hcut
        have z0:=hc 0 _ rfl
        have z1:=hc 1 _ rfl
        have z2:=hc 2 _ rfl
        have z3:=hc 3 _ rfl
        have z4:=hc 4 _ rfl
        have z5:=hc 5 _ rfl
        have z6:=hc 6 _ rfl
        have z7:=hc 7 _ rfl
        have z8:=hc 8 _ rfl
        have z9:=hc 9 _ rfl
        have z10:=hc 10 _ rfl
        have HV:=zh hV
        have HB:=zh hB
        clear hc hV hB
        go_wp2_with fail
        refine bodyPost_ret (v := .agg #[.string ⟨#[115,117,109]⟩,.bool true,.slice (some ⟨pb,0,none⟩) 1 1,.int .i64 5,.string ⟨#[99]⟩,.string ⟨#[]⟩,.int .i64 0,.int .i64 1,.slice (some ⟨na,0,none⟩) 1 1,.slice none 0 0,.slice (some ⟨ba,0,none⟩) 1 1]) (by simp [results,Tryz.results49,go_sem,z0,z1,z2,z3,z4,z5,z6,z7,z8,z9,z10];try rfl) rfl ?_
        exact⟨_,rfl,HV.out,HB.out⟩
end Go.Proofs.YtnkahlloahgifaaGreatDoor
