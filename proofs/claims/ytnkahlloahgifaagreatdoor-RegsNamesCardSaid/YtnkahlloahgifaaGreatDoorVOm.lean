/- Part. -/
import Derived.Test.YtnkahlloahgifaaGreatDoorVDm
import Derived.Deep.MidRow
import Derived.Shelf.RegionOpenPlain
import Derived.KernelRfl
import Derived.Test.YtnkahlloahgifaaGreatDoorRows
import Derived.Test.YtnkahlloahgifaaGreatDoorTie
import Derived.Test.YtnkahlloahgifaaGreatDoorCards
import Derived.ProofKit
import Derived.OpenShut
import Derived.LaidMore
import Derived.LaidLaws
import Derived.MakeChecks
import Derived.Lay
import Derived.Shelf.Vars
import Derived.Stop.LaidErr
import Derived.Lib.LaidTab
import Derived.HandedShaped
import Derived.SevenTiedAt
import Derived.LaidByTextLater
import Derived.Deep.Slices
import Derived.Deep.Fields
import Derived.ChangeSame
import Derived.Carry
import Derived.SizedLaws
set_option maxHeartbeats 16000000
set_option maxRecDepth 100000
set_option linter.unusedSimpArgs false
set_option linter.unusedVariables false
namespace Go.Proofs.YtnkahlloahgifaaGreatDoor
section
open Go.RowKit RG Go.Maps
def TEV (w:World) (vs:Array Value) (e:TE):Prop :=
 ∃ (op:ByteArray) (va:Value) (num site:Int) (aa ab:Option Addr) (ca cb ga oa gb ob:Nat),
  vs = #[.int .i64 e.kind,.string e.name,.string op,.int .i64 num,.int .i64 site,va,.slice aa e.arms.length ca,.slice ab e.body.length cb] ∧
   AtomsAt w va e.args∧(0<e.arms.length→aa=some ⟨ga,oa,none⟩)∧TAAt w e.arms ga oa∧(0<e.body.length→ab=some ⟨gb,ob,none⟩)∧TBAt w e.body gb ob
theorem TEV.kept {w w':World}{vs:Array Value}{e:TE}(h:TEV w vs e) (hb:Kept w w'):TEV w' vs e:=by
 obtain⟨op,va,num,site,aa,ab,ca,cb,ga,oa,gb,ob,h0,h2,h3,h4,h5,h6⟩:=h;exact⟨op,va,num,site,aa,ab,ca,cb,ga,oa,gb,ob,h0,h2.kept hb,h3,TAAt.kept hb _ _ _ h4,h5,TBAt.kept hb _ _ _ h6⟩
theorem TEV.te {w:World}{vs:Array Value}{e:TE}{b o:Nat}(h:TEV w vs e) (hc:∀ i x,vs[i]?=some x→w.cell? ⟨b,o+i,none⟩=some x):TEAt w e b o:=by
 obtain⟨op,va,num,site,aa,ab,ca,cb,ga,oa,gb,ob,rfl,h2,h3,h4,h5,h6⟩:=h;obtain⟨k,name,args,arms,body⟩:=e;rw [TEAt];exact⟨op,num,site,_,aa,ab,ca,cb,ga,oa,gb,ob,⟨hc 0 _ rfl,hc 1 _ rfl,hc 2 _ rfl,hc 3 _ rfl⟩,⟨hc 4 _ rfl,hc 5 _ rfl,hc 6 _ rfl,hc 7 _ rfl⟩,h2,h3,h4,h5,h6⟩
def EB (w:World) (b:Nat) (e:TE):Prop:=∃ vs,(∀ i x,vs[i]?=some x→w.cell? ⟨b,i,none⟩=some x)∧TEV w vs e
structure E8 (w:World) (b:Nat) (e:TE) (vs:Array Value) (op:ByteArray) (num site:Int) (xa:Option Addr) (xn xc:Nat) (aa ab:Option Addr) (ca cb:Nat):Prop where
 vs:vs = #[.int .i64 e.kind,.string e.name,.string op,.int .i64 num,.int .i64 site,.slice xa xn xc,.slice aa e.arms.length ca,.slice ab e.body.length cb]
 c0:w.cell? ⟨b,0,none⟩=some (.int .i64 e.kind)
 c1:w.cell? ⟨b,1,none⟩=some (.string e.name)
 c2:w.cell? ⟨b,2,none⟩=some (.string op)
 c3:w.cell? ⟨b,3,none⟩=some (.int .i64 num)
 c4:w.cell? ⟨b,4,none⟩=some (.int .i64 site)
 c5:w.cell? ⟨b,5,none⟩=some (.slice xa xn xc)
 c6:w.cell? ⟨b,6,none⟩=some (.slice aa e.arms.length ca)
 c7:w.cell? ⟨b,7,none⟩=some (.slice ab e.body.length cb)
theorem EB.e8 {w:World}{b:Nat}{e:TE}(h:EB w b e):∃ vs op num site xa xn xc aa ab ca cb,E8 w b e vs op num site xa xn xc aa ab ca cb∧TEV w vs e:=by
 obtain⟨vs,hc,hT⟩:=h;obtain⟨op,va,num,site,aa,ab,ca,cb,ga,oa,gb,ob,rfl,h2,h3,h4,h5,h6⟩:=id hT;obtain⟨xa,xc,rfl,-⟩:=id h2.at';exact⟨_,op,num,site,xa,_,xc,aa,ab,ca,cb,⟨rfl,hc 0 _ rfl,hc 1 _ rfl,hc 2 _ rfl,hc 3 _ rfl,hc 4 _ rfl,hc 5 _ rfl,hc 6 _ rfl,hc 7 _ rfl⟩,hT⟩
def KB (rb:Nat) (w w':World):Prop:=∀ (a:Addr) (x:Value),a.block≠rb→w.cell? a=some x→w'.cell? a=some x
theorem KB.refl (rb:Nat) (w:World):KB rb w w:=fun _ _ _ h=>h
theorem KB.of {rb:Nat}{w w1 w2:World}(h:Kept w w1) (k:KB rb w1 w2):KB rb w w2:=fun a x hn hx=>k a x hn (h a x hx)
def TX (rb:Nat) (w:World) (vs:Array Value) (e:TE):Prop:=∀ W',KB rb w W'→TEV W' vs e
def EX (rb:Nat) (w:World) (b:Nat) (e:TE):Prop:=∃ vs,(∀ i x,vs[i]?=some x→w.cell? ⟨b,i,none⟩=some x)∧TX rb w vs e
theorem EX.e8 {rb:Nat}{w:World}{b:Nat}{e:TE}(h:EX rb w b e):∃ vs op num site xa xn xc aa ab ca cb,E8 w b e vs op num site xa xn xc aa ab ca cb∧TX rb w vs e:=by
 obtain⟨vs,hc,hX⟩:=h;obtain⟨op,va,num,site,aa,ab,ca,cb,ga,oa,gb,ob,rfl,h2,h3,h4,h5,h6⟩:=hX w (KB.refl _ _);obtain⟨xa,xc,rfl,-⟩:=id h2.at';exact⟨_,op,num,site,xa,_,xc,aa,ab,ca,cb,⟨rfl,hc 0 _ rfl,hc 1 _ rfl,hc 2 _ rfl,hc 3 _ rfl,hc 4 _ rfl,hc 5 _ rfl,hc 6 _ rfl,hc 7 _ rfl⟩,hX⟩
theorem te_one {w:World}{b:Nat}{vs:Array Value}{e:TE}(h:TEV w vs e) (hc:∀ i x,vs[i]?=some x→w.cell? ⟨b,i,none⟩=some x):TBAt w (.cons e .nil) b 0:=by
 rw [TBAt];refine⟨h.te fun i x hx=>by rw [Nat.zero_add];exact hc i x hx,?_⟩
 rw [TBAt];trivial
theorem EX.mk1 {rb:Nat}{wd W:World}{pa na ba n:Nat}{vs:Array Value}{e:TE}{k num site:Int}{name op:Nm}{xs:List Nm}(hk:Kept wd W) (hX:TX rb wd vs e) (hba:ba≠rb)
  (h1:∀ W',KB rb W W'→AtomsAt W' (.slice (some ⟨na,0,none⟩) n n) xs) (h2:∀ i x,vs[i]?=some x→W.cell? ⟨ba,i,none⟩=some x)
  (h3:∀ i y,#[Value.int .i64 k,.string name,.string op,.int .i64 num,.int .i64 site,.slice (some ⟨na,0,none⟩) n n,.slice none 0 0,.slice (some ⟨ba,0,none⟩) 1 1][i]?=some y→W.cell? ⟨pa,i,none⟩=some y):EX rb W pa (.mk k name xs .nil (.cons e .nil)):=by
 refine⟨_,h3,fun W' hW'=>?_⟩
 refine⟨op,_,num,site,none,some ⟨ba,0,none⟩,0,1,0,0,ba,0,rfl,h1 W' hW',fun h=>absurd h (Nat.lt_irrefl _),?_,fun _=>rfl,?_⟩
 ·show TAAt W' .nil 0 0;rw [TAAt];trivial
 exact te_one (hX W' (KB.of hk hW')) fun i x hx=>hW' _ _ hba (h2 i x hx)
theorem zi {W:World}{rb:Nat}{p:Addr}{v:Value}{xs:List Value}(h:rb≠p.block) (hW:W.cell? p=some v):(W.setCells rb 0 xs).cell? p=some v:=by
 rw [World.cell?_setCells_out rb xs 0 W p (fun e=>absurd e.symm h)];exact hW
theorem cell_drew (X:World) (p:Addr):X.drew.cell? p=X.cell? p:=rfl
theorem in_drew {X:World}{p:Addr}{v:Value}(h:X.cell? p=some v):X.drew.cell? p=some v:=h
theorem alloc_d {X:World}{o:Obj}{p:Addr}{v:Value}(h:X.drew.cell? p=some v):(X.alloc o).drew.cell? p=some v:=by
 rw [cell_drew] at *;exact zs4 o h
theorem TEV.mk0 {W:World}{na n:Nat}{k num site:Int}{name op:Nm}{xs:List Nm}(h1:AtomsAt W (.slice (some ⟨na,0,none⟩) n n) xs) :
  TEV W #[.int .i64 k,.string name,.string op,.int .i64 num,.int .i64 site,.slice (some ⟨na,0,none⟩) n n,.slice none 0 0,.slice none 0 0] (.mk k name xs .nil .nil):=by
 refine⟨op,_,num,site,none,none,0,0,0,0,0,0,rfl,h1,fun h=>absurd h (Nat.lt_irrefl _),?_,fun h=>absurd h (Nat.lt_irrefl _),?_⟩
 ·show TAAt W .nil 0 0;rw [TAAt];trivial
 show TBAt W .nil 0 0;rw [TBAt];trivial
theorem all8 {w:World}{b:Nat}{v0 v1 v2 v3 v4 v5 v6 v7:Value}(h0:w.cell? ⟨b,0,none⟩=some v0) (h1:w.cell? ⟨b,1,none⟩=some v1) (h2:w.cell? ⟨b,2,none⟩=some v2) (h3:w.cell? ⟨b,3,none⟩=some v3)
  (h4:w.cell? ⟨b,4,none⟩=some v4) (h5:w.cell? ⟨b,5,none⟩=some v5) (h6:w.cell? ⟨b,6,none⟩=some v6) (h7:w.cell? ⟨b,7,none⟩=some v7):∀ i x,#[v0,v1,v2,v3,v4,v5,v6,v7][i]?=some x→w.cell? ⟨b,i,none⟩=some x:=fun i x hx=>by
 match i,hx with
 | 0,hx=>simp at hx;subst hx;exact h0
 | 1,hx=>simp at hx;subst hx;exact h1
 | 2,hx=>simp at hx;subst hx;exact h2
 | 3,hx=>simp at hx;subst hx;exact h3
 | 4,hx=>simp at hx;subst hx;exact h4
 | 5,hx=>simp at hx;subst hx;exact h5
 | 6,hx=>simp at hx;subst hx;exact h6
 | 7,hx=>simp at hx;subst hx;exact h7
 | i+8,hx=>simp at hx
def NaP (w:World) (s:Nm) (e:Ending) (w':World):Prop:=e = .returned (.slice (some ⟨w.heap.size,0,none⟩) 1 1)∧w'=w.alloc (.cells #[.string s,.int .i64 0] 146)
theorem name_any (w:World) (s:Nm):Calls Tryz.prog 81 #[.string s] w (NaP w s):=by
 go_enter Tryz.func81,Tryz.ntmps81
 go_wp2_with fail
 go_ret
 exact⟨rfl,rfl⟩
def eEnd:TE := .mk 9 ⟨#[]⟩ [⟨#[107]⟩] .nil .nil
def eAdd:TE := .mk 1 ⟨#[107]⟩ [⟨#[104]⟩,⟨#[115]⟩] .nil (.cons eEnd .nil)
def eRead:TE := .mk 5 ⟨#[115]⟩ [⟨#[114]⟩] .nil (.cons eAdd .nil)
def eMod:TE := .mk 4 ⟨#[114]⟩ [⟨#[116]⟩] .nil (.cons eRead .nil)
def eNil:TE := .mk 9 ⟨#[]⟩ [⟨#[]⟩] .nil .nil
def eSplit:TE := .mk 7 ⟨#[]⟩ [⟨#[99]⟩] (.cons [] eNil (.cons [⟨#[104]⟩,⟨#[116]⟩] eMod .nil)) .nil
def eSum:TE := .mk 5 ⟨#[99]⟩ [⟨#[109]⟩] .nil (.cons eSplit .nil)
def SuP (w:World) (en:Ending) (w':World):Prop:=∃ cs,en = .returned (.agg cs)∧TFunV w' (.agg cs) [⟨#[109]⟩] eSum∧Below w.heap.size w w'
theorem atoms1 {w:World}{b:Nat}{x:Nm}{m:Int}(h0:w.cell? ⟨b,0,none⟩=some (.string x)) (h1:w.cell? ⟨b,1,none⟩=some (.int .i64 m)):AtomsAt w (.slice (some ⟨b,0,none⟩) 1 1) [x] :=
 ⟨⟨_,_,rfl,fun _=>⟨b,0,rfl,fun i n hi=>by
  match i,hi with
  | 0,hi=>simp at hi;subst hi;exact⟨m,h0,h1⟩
  | i+1,hi=>simp at hi⟩⟩⟩
theorem atoms2 {w:World}{b:Nat}{x y:Nm}{m k:Int}(h0:w.cell? ⟨b,0,none⟩=some (.string x)) (h1:w.cell? ⟨b,1,none⟩=some (.int .i64 m)) (h2:w.cell? ⟨b,2,none⟩=some (.string y)) (h3:w.cell? ⟨b,3,none⟩=some (.int .i64 k)):AtomsAt w (.slice (some ⟨b,0,none⟩) 2 2) [x,y] :=
 ⟨⟨_,_,rfl,fun _=>⟨b,0,rfl,fun i n hi=>by
  match i,hi with
  | 0,hi=>simp at hi;subst hi;exact⟨m,h0,h1⟩
  | 1,hi=>simp at hi;subst hi;exact⟨k,h2,h3⟩
  | i+2,hi=>simp at hi⟩⟩⟩
structure SuI (w wc:World):Prop where
 row:∃ cs,cs.size=11∧wc.heap[w.heap.size]?=some (.cells cs 29 (0,0))
 below:Below w.heap.size w wc
 size:w.heap.size<wc.heap.size
theorem SuI.next {w wc W:World}(h:SuI w wc) (hb:Below wc.heap.size wc W):SuI w W:=by
 obtain⟨⟨cs,h1,h2⟩,h3,h4⟩:=h;exact⟨⟨cs,h1,(hb.block _ h4).trans h2⟩,h3.trans (hb.mono (by omega)),zt5 h4 hb.size⟩
theorem SuI.start (w:World) (cs:Array Value) (h:cs.size=11):SuI w (w.alloc (.cells cs 29)):=⟨⟨cs,h,zs2 w _⟩,(zs9 _ _).alloc (zr4 _) _,by simp⟩
structure A3 (w W:World) (o1 o2 o3:Obj):Prop where
 h0:W.heap[w.heap.size]?=some o1
 h1:W.heap[w.heap.size+1]?=some o2
 h2:W.heap[w.heap.size+1+1]?=some o3
 hb:Below w.heap.size w W
theorem A3.mk3 (w:World) (o1 o2 o3:Obj):A3 w (((w.alloc o1).alloc o2).alloc o3).drew o1 o2 o3:=by
 have e2:=zs2 (w.alloc o1) o2;have e3:=zs2 ((w.alloc o1).alloc o2) o3
 rw [World.size_alloc] at e2;rw [World.size_alloc,World.size_alloc] at e3;refine⟨?_,?_,e3,?_⟩
 ·exact(zt2 _ _ _ (by simp;omega)).trans ((zt2 _ _ _ (by simp)).trans (zs2 w o1))
 ·exact(zt2 _ _ _ (by simp)).trans e2
 exact((((zs9 _ _).alloc (zr4 _) _).alloc (by simp) _).alloc (by simp;omega) _).trans (zj _ _ 1)
theorem A3.mk0 (w:World) (o1 o2 o3:Obj):A3 w (((w.alloc o1).alloc o2).alloc o3) o1 o2 o3 :=
 ⟨(A3.mk3 w o1 o2 o3).h0,(A3.mk3 w o1 o2 o3).h1,(A3.mk3 w o1 o2 o3).h2,(((zs9 _ _).alloc (zr4 _) _).alloc (by simp) _).alloc (by simp;omega) _⟩
theorem row8 {w:World}{b:Nat}{vs:Array Value}{t:TypeId}(h:w.heap[b]?=some (.cells vs t (0,0))):∀ i x,vs[i]?=some x→w.cell? ⟨b,i,none⟩=some x:=fun i x hx=>by rw [zb _ _ _ _ _ _ h];exact hx
theorem arms2 {W:World}{nb hb b:Nat}{vs:Array Value}{e:TE}{k num site:Int}{op:ByteArray}{xa aa ab:Option Addr}{name:Nm}{xn xc an ca bn cb:Nat}(hT:TEV W vs e) (hvs:vs = #[.int .i64 k,.string name,.string op,.int .i64 num,.int .i64 site,.slice xa xn xc,.slice aa an ca,.slice ab bn cb])
  (rA:∀ i x,#[Value.string ⟨#[]⟩,.int .i64 0][i]?=some x→W.cell? ⟨nb,i,none⟩=some x) (rB:∀ i x,#[Value.string ⟨#[104]⟩,.string ⟨#[116]⟩][i]?=some x→W.cell? ⟨hb,i,none⟩=some x)
  (r:∀ i x,#[Value.string ⟨#[78,105,108]⟩,.slice none 0 0,.int .i64 9,.string ⟨#[]⟩,.string ⟨#[]⟩,.int .i64 0,.int .i64 0,.slice (some ⟨nb,0,none⟩) 1 1,.slice none 0 0,.slice none 0 0,.string ⟨#[67,111,110,115]⟩,.slice (some ⟨hb,0,none⟩) 2 2,.int .i64 k,.string name,.string op,.int .i64 num,.int .i64 site,.slice xa xn xc,.slice aa an ca,.slice ab bn cb][i]?=some x→W.cell? ⟨b,i,none⟩=some x) :
  TAAt W (.cons [] eNil (.cons [⟨#[104]⟩,⟨#[116]⟩] e .nil)) b 0:=by
 rw [TAAt];refine⟨⟨_,_,r 0 _ rfl,r 1 _ rfl,rfl,none,0,rfl,fun h=>absurd h (Nat.lt_irrefl _)⟩,?_,?_⟩
 ·refine(TEV.mk0 (W:=W) (na:=nb) (n:=1) (k:=9) (num:=0) (site:=0) (name:=⟨#[]⟩) (op:=⟨#[]⟩) (atoms1 (rA 0 _ rfl) (rA 1 _ rfl))).te fun i x hx=>?_
  have hi:=(zq7.1 hx).1;refine r (0+2+i) x ?_;simp at hi;have:i=0∨i=1∨i=2∨i=3∨i=4∨i=5∨i=6∨i=7:=by omega
  rcases this with rfl | rfl | rfl | rfl | rfl | rfl | rfl | rfl<;>exact hx
 rw [TAAt];refine⟨⟨_,_,r 10 _ rfl,r 11 _ rfl,rfl,some ⟨hb,0,none⟩,2,rfl,fun _=>⟨hb,0,rfl,fun i x hx=>?_⟩⟩,?_,?_⟩
 ·match i,hx with
  | 0,hx=>simp [strs] at hx;subst hx;exact rB 0 _ rfl
  | 1,hx=>simp [strs] at hx;subst hx;exact rB 1 _ rfl
  | i+2,hx=>simp [strs] at hx
 ·refine hT.te fun i x hx=>?_
  subst hvs;have hi:=(zq7.1 hx).1;refine r (0+10+2+i) x ?_;simp at hi;have:i=0∨i=1∨i=2∨i=3∨i=4∨i=5∨i=6∨i=7:=by omega
  rcases this with rfl | rfl | rfl | rfl | rfl | rfl | rfl | rfl<;>exact hx
 rw [TAAt];trivial
theorem TX.split {rb:Nat}{W:World}{na ba:Nat}{a:TA}{k num site:Int}{name op:Nm}{x:Nm}(ha:∀ W',KB rb W W'→TAAt W' a ba 0) (hl:a.length=2) (hna:na≠rb) (hA:W.heap[na]?=some (.cells #[.string x,.int .i64 0] 146 (0,0))) :
  TX rb W #[.int .i64 k,.string name,.string op,.int .i64 num,.int .i64 site,.slice (some ⟨na,0,none⟩) 1 1,.slice (some ⟨ba,0,none⟩) 2 2,.slice none 0 0] (.mk k name [x] a .nil):=fun W' hW'=>by
 refine⟨op,_,num,site,some ⟨ba,0,none⟩,none,2,0,ba,0,0,0,?_,atoms1 (hW' _ _ hna (row8 hA 0 _ rfl)) (hW' _ _ hna (row8 hA 1 _ rfl)),fun _=>rfl,ha W' hW',fun h=>absurd h (Nat.lt_irrefl _),?_⟩
 ·show _ = #[Value.int .i64 k,.string name,.string op,.int .i64 num,.int .i64 site,_,.slice _ a.length 2,.slice none 0 0]
  rw [hl]
 show TBAt W' .nil 0 0;rw [TBAt];trivial
theorem SuI.fin {rb:Nat}{w wd W:World}{na ba pa:Nat}{x:Nm}{vs:Array Value}{e:TE}{k num site:Int}{name op:Nm}(hT:TX rb wd vs e) (hS:SuI w wd) (hb:Below wd.heap.size wd W) (hn1:na≠rb) (hn2:ba≠rb) (hA:W.heap[na]?=some (.cells #[.string x,.int .i64 0] 146 (0,0))) (hB:W.heap[ba]?=some (.cells vs 27 (0,0)))
  (hC:W.heap[pa]?=some (.cells #[.int .i64 k,.string name,.string op,.int .i64 num,.int .i64 site,.slice (some ⟨na,0,none⟩) 1 1,.slice none 0 0,.slice (some ⟨ba,0,none⟩) 1 1] 27 (0,0))) :
  ∃ b,Value.pointer (some ⟨pa,0,none⟩) = .pointer (some ⟨b,0,none⟩)∧EX rb W b (.mk k name [x] .nil (.cons e .nil))∧SuI w W :=
 ⟨pa,rfl,EX.mk1 (zd hb) hT hn2 (fun W' hW'=>atoms1 (hW' _ _ hn1 (row8 hA 0 _ rfl)) (hW' _ _ hn1 (row8 hA 1 _ rfl))) (row8 hB) (row8 hC),hS.next hb⟩
theorem SuI.there {w wd W:World}(h:SuI w wd) (hb:Below wd.heap.size wd W):W.there w.heap.size 0 11:=fun j hj=>by
 obtain⟨⟨cs,h1,h2⟩,h3,h4⟩:=h.next hb;rw [Nat.zero_add];exact⟨by rw [zb _ _ _ _ _ _ h2,Array.getElem?_eq_getElem (by omega)];rfl,zs1 _ _ _ _ _ h2⟩
def SuR (w wc:World):Prop:=∃ (pb na ba:Nat),(∀ i x,#[Value.string ⟨#[115,117,109]⟩,.bool true,.slice (some ⟨pb,0,none⟩) 1 1,.int .i64 5,.string ⟨#[99]⟩,.string ⟨#[]⟩,.int .i64 0,.int .i64 1,.slice (some ⟨na,0,none⟩) 1 1,.slice none 0 0,.slice (some ⟨ba,0,none⟩) 1 1][i]?=some x→wc.cell? ⟨w.heap.size,i,none⟩=some x) ∧
 TFunV wc (.agg #[.string ⟨#[115,117,109]⟩,.bool true,.slice (some ⟨pb,0,none⟩) 1 1,.int .i64 5,.string ⟨#[99]⟩,.string ⟨#[]⟩,.int .i64 0,.int .i64 1,.slice (some ⟨na,0,none⟩) 1 1,.slice none 0 0,.slice (some ⟨ba,0,none⟩) 1 1]) [⟨#[109]⟩] eSum∧Below w.heap.size w wc
theorem setCells_below {w W:World}{xs:List Value}(h:Below w.heap.size w W) (hs:w.heap.size<W.heap.size):Below w.heap.size w (W.setCells w.heap.size 0 xs):=h.grown (grown_setCells w.heap.size xs 0 W) (by omega) (fun r e=>by simp at e;omega)
theorem SuI.last {w wd W:World}{pb na ba:Nat}{vs:Array Value}(hT:TX w.heap.size wd vs eSplit) (hS:SuI w wd) (hb:Below wd.heap.size wd W) (hn1:pb≠w.heap.size) (hn2:na≠w.heap.size) (hn3:ba≠w.heap.size)
  (hP:W.heap[pb]?=some (.cells #[.string ⟨#[109]⟩,.bool true] 70 (0,0))) (hA:W.heap[na]?=some (.cells #[.string ⟨#[109]⟩,.int .i64 0] 146 (0,0))) (hB:W.heap[ba]?=some (.cells vs 27 (0,0))) :
  SuR w (W.setCells w.heap.size 0 [.string ⟨#[115,117,109]⟩,.bool true,.slice (some ⟨pb,0,none⟩) 1 1,.int .i64 5,.string ⟨#[99]⟩,.string ⟨#[]⟩,.int .i64 0,.int .i64 1,.slice (some ⟨na,0,none⟩) 1 1,.slice none 0 0,.slice (some ⟨ba,0,none⟩) 1 1]):=by
 have hk:KB w.heap.size W (W.setCells w.heap.size 0 [.string ⟨#[115,117,109]⟩,.bool true,.slice (some ⟨pb,0,none⟩) 1 1,.int .i64 5,.string ⟨#[99]⟩,.string ⟨#[]⟩,.int .i64 0,.int .i64 1,.slice (some ⟨na,0,none⟩) 1 1,.slice none 0 0,.slice (some ⟨ba,0,none⟩) 1 1]):=fun a x hn hx=>zi (Ne.symm hn) hx
 have hR:=World.rangeAt_setCells_same W w.heap.size 0 [.string ⟨#[115,117,109]⟩,.bool true,.slice (some ⟨pb,0,none⟩) 1 1,.int .i64 5,.string ⟨#[99]⟩,.string ⟨#[]⟩,.int .i64 0,.int .i64 1,.slice (some ⟨na,0,none⟩) 1 1,.slice none 0 0,.slice (some ⟨ba,0,none⟩) 1 1] (hS.there hb);have hbel:=setCells_below (xs:=[.string ⟨#[115,117,109]⟩,.bool true,.slice (some ⟨pb,0,none⟩) 1 1,.int .i64 5,.string ⟨#[99]⟩,.string ⟨#[]⟩,.int .i64 0,.int .i64 1,.slice (some ⟨na,0,none⟩) 1 1,.slice none 0 0,.slice (some ⟨ba,0,none⟩) 1 1]) (hS.next hb).below (hS.next hb).size
 obtain⟨W',hW'⟩:∃ W',W'=W.setCells w.heap.size 0 [.string ⟨#[115,117,109]⟩,.bool true,.slice (some ⟨pb,0,none⟩) 1 1,.int .i64 5,.string ⟨#[99]⟩,.string ⟨#[]⟩,.int .i64 0,.int .i64 1,.slice (some ⟨na,0,none⟩) 1 1,.slice none 0 0,.slice (some ⟨ba,0,none⟩) 1 1]:=⟨_,rfl⟩;rw [← hW'] at hk hR hbel ⊢;refine⟨pb,na,ba,fun i x hx=>?_,⟨⟨#[115,117,109]⟩,⟨#[]⟩,true,_,_,0,1,none,some ⟨ba,0,none⟩,0,1,0,0,ba,0,rfl,⟨_,_,rfl,fun _=>⟨pb,0,rfl,fun i n hi=>?_⟩⟩,atoms1 (hk _ _ hn2 (row8 hA 0 _ rfl)) (hk _ _ hn2 (row8 hA 1 _ rfl)),fun h=>absurd h (Nat.lt_irrefl _),?_,fun _=>rfl,te_one (hT W' (KB.of (zd hb) hk)) (fun i x hx=>hk _ _ hn3 (row8 hB i x hx))⟩,hbel⟩
 ·have:=hR i x (by simpa using hx)
  rw [Nat.zero_add] at this;exact this
 ·match i,hi with
  | 0,hi=>simp at hi;subst hi;exact⟨true,hk _ _ hn1 (row8 hP 0 _ rfl),hk _ _ hn1 (row8 hP 1 _ rfl)⟩
  | i+1,hi=>simp at hi
 show TAAt W' .nil 0 0;rw [TAAt];trivial
theorem Tryz.info29:(Tryz.prog.info? 29).map (·.size)=some 11:=by kernel_rfl
theorem sum_any (w:World):Calls Tryz.prog 49 #[] w (SuP w):=by
 go_enter Tryz.func49,Tryz.ntmps49
 go_upto_region 1 with fail
 go_cut [1] from 7 (fun p wc=>∃ b,p = .pointer (some ⟨b,0,none⟩)∧EX w.heap.size wc b eEnd∧SuI w wc)
 case first =>
  go_wp2_with fail
  refine(name_any _ _).mono ?_;rintro en w1 ⟨rfl,rfl⟩
  go_wp2_with fail
  go_meet
  refine⟨_,rfl,⟨_,all8 (by go_simp;try rfl) (by go_simp;try rfl) (by go_simp;try rfl) (by go_simp;try rfl) (by go_simp;try rfl) (by go_simp;try rfl) (by go_simp;try rfl) (by go_simp;try rfl),fun W' hW'=>TEV.mk0 (atoms1 (hW' _ _ (by simp) (by go_simp;try rfl)) (hW' _ _ (by simp) (by go_simp;try rfl)))⟩,(SuI.start w _ rfl).next (((zs9 _ _).alloc (zr4 _) _).alloc (by simp) _)⟩
 obtain⟨b1,rfl,hE,hS⟩:=hcut;obtain⟨vs,op,num,site,xa,xn,xc,aa,ab,ca,cb,h8,hT⟩:=hE.e8;have HS:=zh hS;have HT:=zh hT
 obtain⟨rfl,y0,y1,y2,y3,y4,y5,y6,y7⟩:=h8
 rename World=>wd
 have d0:=in_drew y0;have d1:=in_drew y1
 have d2:=in_drew y2;have d3:=in_drew y3
 have d4:=in_drew y4;have d5:=in_drew y5
 have d6:=in_drew y6;have d7:=in_drew y7
 have hb2:b1<wd.heap.size:=zs3 _ _ y0;have hsz:=HS.out.size
 clear hS hT hE
 go_upto_region 2 with fail
 go_cut [2] from 9 (fun p we=>∃ b,p = .pointer (some ⟨b,0,none⟩)∧EX w.heap.size we b eAdd∧SuI w we)
 case first =>
  go_wp2_with fail
  go_meet
  have hBW:=(A3.mk0 wd (.cells #[.string ⟨#[104]⟩,.int .i64 0,.string ⟨#[115]⟩,.int .i64 0] 146) (.cells #[.int .i64 eEnd.kind,.string eEnd.name,.string op,.int .i64 num,.int .i64 site,.slice xa xn xc,.slice aa eEnd.arms.length ca,.slice ab eEnd.body.length cb] 27) (.cells #[.int .i64 1,.string ⟨#[107]⟩,.string ⟨#[43]⟩,.int .i64 0,.int .i64 0,.slice (some ⟨wd.heap.size,0,none⟩) 2 2,.slice none 0 0,.slice (some ⟨wd.heap.size+1,0,none⟩) 1 1] 27));exact⟨_,rfl,EX.mk1 (zd hBW.hb) HT.out (by omega) (fun W' hW'=>atoms2 (hW' _ _ (by simp;omega) (row8 hBW.h0 0 _ rfl)) (hW' _ _ (by simp;omega) (row8 hBW.h0 1 _ rfl)) (hW' _ _ (by simp;omega) (row8 hBW.h0 2 _ rfl)) (hW' _ _ (by simp;omega) (row8 hBW.h0 3 _ rfl))) (row8 hBW.h1) (row8 hBW.h2),HS.out.next hBW.hb⟩
 obtain⟨b2,rfl,hE,hS⟩:=hcut;clear y0 y1 y2 y3 y4 y5 y6 y7 d0 d1 d2 d3 d4 d5 d6 d7 hb2 hsz HT HS wd;obtain⟨vs,op,num,site,xa,xn,xc,aa,ab,ca,cb,h8,hT⟩:=hE.e8;have HS:=zh hS;have HT:=zh hT
 obtain⟨rfl,y0,y1,y2,y3,y4,y5,y6,y7⟩:=h8
 rename World=>wd
 have d0:=in_drew y0;have d1:=in_drew y1
 have d2:=in_drew y2;have d3:=in_drew y3
 have d4:=in_drew y4;have d5:=in_drew y5
 have d6:=in_drew y6;have d7:=in_drew y7
 have hb2:b2<wd.heap.size:=zs3 _ _ y0;have hsz:=HS.out.size
 clear hS hT hE
 go_upto_region 3 with fail
 have hn1:b2≠wd.heap.size:=by omega
 have hn2:b2≠wd.heap.size+1:=by omega
 have hn3:b2≠wd.heap.size+1+1:=by omega
 go_cut [3] from 15 (fun p we=>∃ b,p = .pointer (some ⟨b,0,none⟩)∧EX w.heap.size we b eRead∧SuI w we)
 case first =>
  go_region_held3 (fun w'=>w'.cell? ⟨b2,0,none⟩=some (.int .i64 eAdd.kind)∧w'.cell? ⟨b2,1,none⟩=some (.string eAdd.name)∧w'.cell? ⟨b2,2,none⟩=some (.string op)∧w'.cell? ⟨b2,3,none⟩=some (.int .i64 num)∧w'.cell? ⟨b2,4,none⟩=some (.int .i64 site)∧w'.cell? ⟨b2,5,none⟩=some (.slice xa xn xc)∧w'.cell? ⟨b2,6,none⟩=some (.slice aa eAdd.arms.length ca)∧w'.cell? ⟨b2,7,none⟩=some (.slice ab eAdd.body.length cb)) (refine⟨?_,?_,?_,?_,?_,?_,?_,?_⟩<;>(repeat (first | assumption | refine zs4 _ ?_ | (rw [World.cell?_setCell_far _ _ _ _ (by simp;omega)])))) ((go_at_call 81;refine(name_any _ _).mono ?_;rintro e w' ⟨rfl,rfl⟩))
  all_goals go_wp2_with fail
  all_goals go_meet
  all_goals
   first
    | exact SuI.fin HT.out HS.out (A3.mk3 wd _ _ _).hb (by omega) (by omega) (A3.mk3 wd _ _ _).h0 (A3.mk3 wd _ _ _).h1 (A3.mk3 wd _ _ _).h2
    | exact SuI.fin HT.out HS.out (A3.mk3 wd _ _ _).hb (by omega) (by omega) (A3.mk3 wd _ _ _).h0 (A3.mk3 wd _ _ _).h2 (A3.mk3 wd _ _ _).h1
    | exact SuI.fin HT.out HS.out (A3.mk3 wd _ _ _).hb (by omega) (by omega) (A3.mk3 wd _ _ _).h1 (A3.mk3 wd _ _ _).h0 (A3.mk3 wd _ _ _).h2
    | exact SuI.fin HT.out HS.out (A3.mk3 wd _ _ _).hb (by omega) (by omega) (A3.mk3 wd _ _ _).h1 (A3.mk3 wd _ _ _).h2 (A3.mk3 wd _ _ _).h0
    | exact SuI.fin HT.out HS.out (A3.mk3 wd _ _ _).hb (by omega) (by omega) (A3.mk3 wd _ _ _).h2 (A3.mk3 wd _ _ _).h0 (A3.mk3 wd _ _ _).h1
    | exact SuI.fin HT.out HS.out (A3.mk3 wd _ _ _).hb (by omega) (by omega) (A3.mk3 wd _ _ _).h2 (A3.mk3 wd _ _ _).h1 (A3.mk3 wd _ _ _).h0
 obtain⟨b3,rfl,hE,hS⟩:=hcut;clear y0 y1 y2 y3 y4 y5 y6 y7 d0 d1 d2 d3 d4 d5 d6 d7 hb2 hsz HT HS hn1 hn2 hn3 wd;obtain⟨vs,op,num,site,xa,xn,xc,aa,ab,ca,cb,h8,hT⟩:=hE.e8;have HS:=zh hS;have HT:=zh hT
 obtain⟨rfl,y0,y1,y2,y3,y4,y5,y6,y7⟩:=h8
 rename World=>wd
 have d0:=in_drew y0;have d1:=in_drew y1
 have d2:=in_drew y2;have d3:=in_drew y3
 have d4:=in_drew y4;have d5:=in_drew y5
 have d6:=in_drew y6;have d7:=in_drew y7
 have hb2:b3<wd.heap.size:=zs3 _ _ y0;have hsz:=HS.out.size
 clear hS hT hE
 go_upto_region 4 with fail
 have hn1:b3≠wd.heap.size:=by omega
 have hn2:b3≠wd.heap.size+1:=by omega
 have hn3:b3≠wd.heap.size+1+1:=by omega
 go_cut [4] from 19 (fun p we=>∃ b,p = .pointer (some ⟨b,0,none⟩)∧EX w.heap.size we b eMod∧SuI w we)
 case first =>
  go_region_held3 (fun w'=>w'.cell? ⟨b3,0,none⟩=some (.int .i64 eRead.kind)∧w'.cell? ⟨b3,1,none⟩=some (.string eRead.name)∧w'.cell? ⟨b3,2,none⟩=some (.string op)∧w'.cell? ⟨b3,3,none⟩=some (.int .i64 num)∧w'.cell? ⟨b3,4,none⟩=some (.int .i64 site)∧w'.cell? ⟨b3,5,none⟩=some (.slice xa xn xc)∧w'.cell? ⟨b3,6,none⟩=some (.slice aa eRead.arms.length ca)∧w'.cell? ⟨b3,7,none⟩=some (.slice ab eRead.body.length cb)) (refine⟨?_,?_,?_,?_,?_,?_,?_,?_⟩<;>(repeat (first | assumption | refine zs4 _ ?_ | (rw [World.cell?_setCell_far _ _ _ _ (by simp;omega)])))) ((go_at_call 81;refine(name_any _ _).mono ?_;rintro e w' ⟨rfl,rfl⟩))
  all_goals go_wp2_with fail
  all_goals go_meet
  all_goals
   first
    | exact SuI.fin HT.out HS.out (A3.mk3 wd _ _ _).hb (by omega) (by omega) (A3.mk3 wd _ _ _).h0 (A3.mk3 wd _ _ _).h1 (A3.mk3 wd _ _ _).h2
    | exact SuI.fin HT.out HS.out (A3.mk3 wd _ _ _).hb (by omega) (by omega) (A3.mk3 wd _ _ _).h0 (A3.mk3 wd _ _ _).h2 (A3.mk3 wd _ _ _).h1
    | exact SuI.fin HT.out HS.out (A3.mk3 wd _ _ _).hb (by omega) (by omega) (A3.mk3 wd _ _ _).h1 (A3.mk3 wd _ _ _).h0 (A3.mk3 wd _ _ _).h2
    | exact SuI.fin HT.out HS.out (A3.mk3 wd _ _ _).hb (by omega) (by omega) (A3.mk3 wd _ _ _).h1 (A3.mk3 wd _ _ _).h2 (A3.mk3 wd _ _ _).h0
    | exact SuI.fin HT.out HS.out (A3.mk3 wd _ _ _).hb (by omega) (by omega) (A3.mk3 wd _ _ _).h2 (A3.mk3 wd _ _ _).h0 (A3.mk3 wd _ _ _).h1
    | exact SuI.fin HT.out HS.out (A3.mk3 wd _ _ _).hb (by omega) (by omega) (A3.mk3 wd _ _ _).h2 (A3.mk3 wd _ _ _).h1 (A3.mk3 wd _ _ _).h0
 obtain⟨b4,rfl,hE,hS⟩:=hcut;clear y0 y1 y2 y3 y4 y5 y6 y7 d0 d1 d2 d3 d4 d5 d6 d7 hb2 hsz HT HS hn1 hn2 hn3 wd;obtain⟨vs,op,num,site,xa,xn,xc,aa,ab,ca,cb,h8,hT⟩:=hE.e8;have HS:=zh hS;have HT:=zh hT
 obtain⟨rfl,y0,y1,y2,y3,y4,y5,y6,y7⟩:=h8
 rename World=>wd
 have d0:=in_drew y0;have d1:=in_drew y1
 have d2:=in_drew y2;have d3:=in_drew y3
 have d4:=in_drew y4;have d5:=in_drew y5
 have d6:=in_drew y6;have d7:=in_drew y7
 have hb2:b4<wd.heap.size:=zs3 _ _ y0;have hsz:=HS.out.size
 clear hS hT hE
 go_upto_region 5 with fail
 go_cut [5] from 23 (fun p we=>∃ b,p = .slice (some ⟨b,0,none⟩) 2 2∧(∀ W',KB w.heap.size we W'→TAAt W' (.cons [] eNil (.cons [⟨#[104]⟩,⟨#[116]⟩] eMod .nil)) b 0)∧SuI w we)
 case first =>
  go_wp2_with fail
  go_meet
  refine⟨_,rfl,fun W' hW'=>arms2 (HT.out W' (KB.of (zd (A3.mk0 wd _ _ _).hb) hW')) rfl (fun i x hx=>hW' _ _ ?_ (row8 (A3.mk0 wd _ _ _).h0 i x hx)) (fun i x hx=>hW' _ _ ?_ (row8 (A3.mk0 wd _ _ _).h1 i x hx)) (fun i x hx=>hW' _ _ ?_ (row8 (A3.mk0 wd _ _ _).h2 i x hx)),HS.out.next (A3.mk0 wd _ _ _).hb⟩
  ·simp;omega
  ·simp;omega
  simp;omega
 obtain⟨b5,rfl,hE,hS⟩:=hcut;clear y0 y1 y2 y3 y4 y5 y6 y7 d0 d1 d2 d3 d4 d5 d6 d7 hb2 hsz HT HS wd
 rename World=>wd
 have HE:=zh hE;have HS:=zh hS
 have hsz:=HS.out.size;clear hE hS
 go_upto_region 6 with fail
 go_cut [6] from 31 (fun p we=>∃ b,p = .pointer (some ⟨b,0,none⟩)∧EX w.heap.size we b eSplit∧SuI w we∧b≠w.heap.size)
 case first =>
  go_wp2_with fail
  refine(name_any _ _).mono ?_;rintro en w1 ⟨rfl,rfl⟩
  go_wp2_with fail
  go_meet
  have hBW:=((zs9 wd.heap.size wd).alloc (zr4 _) (.cells #[.string ⟨#[99]⟩,.int .i64 0] 146)).alloc (by simp) (.cells #[.int .i64 7,.string ⟨#[]⟩,.string ⟨#[]⟩,.int .i64 0,.int .i64 0,.slice (some ⟨wd.heap.size,0,none⟩) 1 1,.slice (some ⟨b5,0,none⟩) 2 2,.slice none 0 0] 27)
  have e2:=zs2 (wd.alloc (.cells #[.string ⟨#[99]⟩,.int .i64 0] 146)) (.cells #[.int .i64 7,.string ⟨#[]⟩,.string ⟨#[]⟩,.int .i64 0,.int .i64 0,.slice (some ⟨wd.heap.size,0,none⟩) 1 1,.slice (some ⟨b5,0,none⟩) 2 2,.slice none 0 0] 27);rw [World.size_alloc] at e2;exact⟨_,rfl,⟨_,row8 e2,TX.split (fun W' hW'=>HE.out W' (KB.of (zd hBW) hW')) rfl (by omega) ((zt2 _ _ _ (by simp)).trans (zs2 wd _))⟩,HS.out.next hBW,by omega⟩
 obtain⟨b6,rfl,hE,hS,hwb0⟩:=hcut;clear HE HS hsz wd;obtain⟨vs,op,num,site,xa,xn,xc,aa,ab,ca,cb,h8,hT⟩:=hE.e8;have HS:=zh hS;have HT:=zh hT
 obtain⟨rfl,y0,y1,y2,y3,y4,y5,y6,y7⟩:=h8
 rename World=>wd
 have d0:=in_drew y0;have d1:=in_drew y1
 have d2:=in_drew y2;have d3:=in_drew y3
 have d4:=in_drew y4;have d5:=in_drew y5
 have d6:=in_drew y6;have d7:=in_drew y7
 have hb2:b6<wd.heap.size:=zs3 _ _ y0;have hsz:=HS.out.size
 clear hS hT hE
 go_upto_region 7 with fail
 have hn1:b6≠wd.heap.size:=by omega
 have hn2:b6≠wd.heap.size+1:=by omega
 have hn3:b6≠wd.heap.size+1+1:=by omega
 have hwb:w.heap.size≠b6:=fun e=>hwb0 e.symm
 clear hwb0
 go_cut [0] from 34 (fun p we=>p = .pointer (some ⟨w.heap.size,0,none⟩)∧SuR w we)
 case first =>
  refine wp_region_held_drew (S:=(fun w'=>w'.cell? ⟨b6,0,none⟩=some (.int .i64 eSplit.kind)∧w'.cell? ⟨b6,1,none⟩=some (.string eSplit.name)∧w'.cell? ⟨b6,2,none⟩=some (.string op)∧w'.cell? ⟨b6,3,none⟩=some (.int .i64 num)∧w'.cell? ⟨b6,4,none⟩=some (.int .i64 site)∧w'.cell? ⟨b6,5,none⟩=some (.slice xa xn xc)∧w'.cell? ⟨b6,6,none⟩=some (.slice aa eSplit.arms.length ca)∧w'.cell? ⟨b6,7,none⟩=some (.slice ab eSplit.body.length cb))) (by kernel_rfl) ⟨d0,d1,d2,d3,d4,d5,d6,d7⟩ (fun hHeld=>?_)
  obtain⟨k0,k1,k2,k3,k4,k5,k6,k7⟩:=hHeld;refine zs5 (i:=0) (v:=?_) rfl (by kernel_rfl) (by kernel_rfl) (by kernel_rfl) (fun _ _ _ h=>h) (Or.inl ⟨by rfl,?_⟩) ⟨k0,k1,k2,k3,k4,k5,k6,k7⟩ ?_
  rotate_left
  ·intro wz hSw
   obtain⟨zk0,zk1,zk2,zk3,zk4,zk5,zk6,zk7⟩:=hSw
   try simp only [zq1,zq2,zq3]
   go_simp
   try with_reducible rfl
  try simp only [Act.put,zq1,zq2,zq3,zq4,zq5,zq6]
  refine zs5 (i:=3) (v:=?_) rfl (by kernel_rfl) (by kernel_rfl) (by kernel_rfl) (fun _ _ _ h=>h) (Or.inl ⟨by rfl,?_⟩) ⟨k0,k1,k2,k3,k4,k5,k6,k7⟩ ?_
  rotate_left
  ·intro wz hSw
   obtain⟨zk0,zk1,zk2,zk3,zk4,zk5,zk6,zk7⟩:=hSw
   try simp only [zq1,zq2,zq3]
   go_simp
   try with_reducible rfl
  try simp only [Act.put,zq1,zq2,zq3,zq4,zq5,zq6]
  refine zs6 (rs:=[1,2,4]) (by kernel_rfl) (by simp) ?_
  refine zs7 rfl (fun K hK=>?_) ?_
  ·try simp only [zq1,zq2,zq3]
   go_simp
   refine hK.out _ _ ?hs (fun hHeld=>?_)
   case hs=>first | exact⟨alloc_d k0,alloc_d k1,alloc_d k2,alloc_d k3,alloc_d k4,alloc_d k5,alloc_d k6,alloc_d k7⟩ | exact⟨zs4 _ k0,zs4 _ k1,zs4 _ k2,zs4 _ k3,zs4 _ k4,zs4 _ k5,zs4 _ k6,zs4 _ k7⟩
   clear hK K k0 k1 k2 k3 k4 k5 k6 k7;obtain⟨k0,k1,k2,k3,k4,k5,k6,k7⟩:=hHeld
   try simp only [Act.put,zq1,zq2,zq3,zq4,zq5,zq6]
   refine zs6 (rs:=[2,4]) (by kernel_rfl) (by simp) ?_
   refine zs7 rfl (fun K hK=>?_) ?_
   ·try simp only [zq1,zq2,zq3]
    go_simp
    go_at_call 81
    refine(name_any _ _).mono ?_;rintro e w' ⟨rfl,rfl⟩
    (try simp only [])
    refine hK.out _ _ ?hs (fun hHeld=>?_)
    case hs=>first | exact⟨alloc_d k0,alloc_d k1,alloc_d k2,alloc_d k3,alloc_d k4,alloc_d k5,alloc_d k6,alloc_d k7⟩ | exact⟨zs4 _ k0,zs4 _ k1,zs4 _ k2,zs4 _ k3,zs4 _ k4,zs4 _ k5,zs4 _ k6,zs4 _ k7⟩
    clear hK K k0 k1 k2 k3 k4 k5 k6 k7;obtain⟨k0,k1,k2,k3,k4,k5,k6,k7⟩:=hHeld
    try simp only [Act.put,zq1,zq2,zq3,zq4,zq5,zq6]
    refine zs6 (rs:=[4]) (by kernel_rfl) (by simp) ?_
    refine zs7 rfl (fun K hK=>?_) ?_
    ·try simp only [zq1,zq2,zq3]
     go_simp
     refine hK.out _ _ ?hs (fun hHeld=>?_)
     case hs=>first | exact⟨alloc_d k0,alloc_d k1,alloc_d k2,alloc_d k3,alloc_d k4,alloc_d k5,alloc_d k6,alloc_d k7⟩ | exact⟨zs4 _ k0,zs4 _ k1,zs4 _ k2,zs4 _ k3,zs4 _ k4,zs4 _ k5,zs4 _ k6,zs4 _ k7⟩
     clear hK K k0 k1 k2 k3 k4 k5 k6 k7;obtain⟨k0,k1,k2,k3,k4,k5,k6,k7⟩:=hHeld
     try simp only [Act.put,zq1,zq2,zq3,zq4,zq5,zq6]
     refine zs5 (i:=5) (v:=?_) rfl (by kernel_rfl) (by kernel_rfl) (by kernel_rfl) (fun _ _ _ h=>h) (Or.inl ⟨by rfl,?_⟩) ⟨k0,k1,k2,k3,k4,k5,k6,k7⟩ ?_
     rotate_left
     ·intro wz hSw
      obtain⟨zk0,zk1,zk2,zk3,zk4,zk5,zk6,zk7⟩:=hSw
      try simp only [zq1,zq2,zq3]
      go_simp
      try with_reducible rfl
     try simp only [Act.put,zq1,zq2,zq3,zq4,zq5,zq6]
     refine zs5 (i:=6) (v:=?_) rfl (by kernel_rfl) (by kernel_rfl) (by kernel_rfl) (fun _ _ _ h=>h) (Or.inl ⟨by rfl,?_⟩) ⟨k0,k1,k2,k3,k4,k5,k6,k7⟩ ?_
     rotate_left
     ·intro wz hSw
      obtain⟨zk0,zk1,zk2,zk3,zk4,zk5,zk6,zk7⟩:=hSw
      try simp only [zq1,zq2,zq3]
      go_simp
      try with_reducible rfl
     try simp only [Act.put,zq1,zq2,zq3,zq4,zq5,zq6]
     refine zs6 (rs:=[7]) (by kernel_rfl) (by simp) ?_
     refine zs7 rfl (fun K hK=>?_) zs8
     rw [if_pos (by rfl)]
     try simp only [zq1,zq2,zq3]
     refine wp_store_mid 29 _ _ rfl w.heap.size 0 _ rfl rfl (HS.out.there (A3.mk3 wd _ _ _).hb) Tryz.info29 (by simp [Value.oneCell']) ?_
     refine hK.out _ _ ?hs (fun _=>?_)
     case hs=>exact⟨zi hwb k0,zi hwb k1,zi hwb k2,zi hwb k3,zi hwb k4,zi hwb k5,zi hwb k6,zi hwb k7⟩
     clear hK K;refine wpAnyH_done (by kernel_rfl) ?_ _
     simp only [Act.put]
     go_wp2_with fail
     go_meet
     refine⟨rfl,?_⟩
     first
      | exact SuI.last HT.out HS.out (A3.mk3 wd _ _ _).hb (by omega) (by omega) (by omega) (A3.mk3 wd _ _ _).h0 (A3.mk3 wd _ _ _).h1 (A3.mk3 wd _ _ _).h2
      | exact SuI.last HT.out HS.out (A3.mk3 wd _ _ _).hb (by omega) (by omega) (by omega) (A3.mk3 wd _ _ _).h0 (A3.mk3 wd _ _ _).h2 (A3.mk3 wd _ _ _).h1
      | exact SuI.last HT.out HS.out (A3.mk3 wd _ _ _).hb (by omega) (by omega) (by omega) (A3.mk3 wd _ _ _).h1 (A3.mk3 wd _ _ _).h0 (A3.mk3 wd _ _ _).h2
      | exact SuI.last HT.out HS.out (A3.mk3 wd _ _ _).hb (by omega) (by omega) (by omega) (A3.mk3 wd _ _ _).h1 (A3.mk3 wd _ _ _).h2 (A3.mk3 wd _ _ _).h0
      | exact SuI.last HT.out HS.out (A3.mk3 wd _ _ _).hb (by omega) (by omega) (by omega) (A3.mk3 wd _ _ _).h2 (A3.mk3 wd _ _ _).h0 (A3.mk3 wd _ _ _).h1
      | exact SuI.last HT.out HS.out (A3.mk3 wd _ _ _).hb (by omega) (by omega) (by omega) (A3.mk3 wd _ _ _).h2 (A3.mk3 wd _ _ _).h1 (A3.mk3 wd _ _ _).h0
    exact zs8
   refine zs7 rfl (fun K hK=>?_) ?_
   ·try simp only [zq1,zq2,zq3]
    go_simp
    refine hK.out _ _ ?hs (fun hHeld=>?_)
    case hs=>first | exact⟨alloc_d k0,alloc_d k1,alloc_d k2,alloc_d k3,alloc_d k4,alloc_d k5,alloc_d k6,alloc_d k7⟩ | exact⟨zs4 _ k0,zs4 _ k1,zs4 _ k2,zs4 _ k3,zs4 _ k4,zs4 _ k5,zs4 _ k6,zs4 _ k7⟩
    clear hK K k0 k1 k2 k3 k4 k5 k6 k7;obtain⟨k0,k1,k2,k3,k4,k5,k6,k7⟩:=hHeld
    try simp only [Act.put,zq1,zq2,zq3,zq4,zq5,zq6]
    refine zs6 (rs:=[2]) (by kernel_rfl) (by simp) ?_
    refine zs7 rfl (fun K hK=>?_) ?_
    ·try simp only [zq1,zq2,zq3]
     go_simp
     go_at_call 81
     refine(name_any _ _).mono ?_;rintro e w' ⟨rfl,rfl⟩
     (try simp only [])
     refine hK.out _ _ ?hs (fun hHeld=>?_)
     case hs=>first | exact⟨alloc_d k0,alloc_d k1,alloc_d k2,alloc_d k3,alloc_d k4,alloc_d k5,alloc_d k6,alloc_d k7⟩ | exact⟨zs4 _ k0,zs4 _ k1,zs4 _ k2,zs4 _ k3,zs4 _ k4,zs4 _ k5,zs4 _ k6,zs4 _ k7⟩
     clear hK K k0 k1 k2 k3 k4 k5 k6 k7;obtain⟨k0,k1,k2,k3,k4,k5,k6,k7⟩:=hHeld
     try simp only [Act.put,zq1,zq2,zq3,zq4,zq5,zq6]
     refine zs5 (i:=5) (v:=?_) rfl (by kernel_rfl) (by kernel_rfl) (by kernel_rfl) (fun _ _ _ h=>h) (Or.inl ⟨by rfl,?_⟩) ⟨k0,k1,k2,k3,k4,k5,k6,k7⟩ ?_
     rotate_left
     ·intro wz hSw
      obtain⟨zk0,zk1,zk2,zk3,zk4,zk5,zk6,zk7⟩:=hSw
      try simp only [zq1,zq2,zq3]
      go_simp
      try with_reducible rfl
     try simp only [Act.put,zq1,zq2,zq3,zq4,zq5,zq6]
     refine zs5 (i:=6) (v:=?_) rfl (by kernel_rfl) (by kernel_rfl) (by kernel_rfl) (fun _ _ _ h=>h) (Or.inl ⟨by rfl,?_⟩) ⟨k0,k1,k2,k3,k4,k5,k6,k7⟩ ?_
     rotate_left
     ·intro wz hSw
      obtain⟨zk0,zk1,zk2,zk3,zk4,zk5,zk6,zk7⟩:=hSw
      try simp only [zq1,zq2,zq3]
      go_simp
      try with_reducible rfl
     try simp only [Act.put,zq1,zq2,zq3,zq4,zq5,zq6]
     refine zs6 (rs:=[7]) (by kernel_rfl) (by simp) ?_
     refine zs7 rfl (fun K hK=>?_) zs8
     rw [if_pos (by rfl)]
     try simp only [zq1,zq2,zq3]
     refine wp_store_mid 29 _ _ rfl w.heap.size 0 _ rfl rfl (HS.out.there (A3.mk3 wd _ _ _).hb) Tryz.info29 (by simp [Value.oneCell']) ?_
     refine hK.out _ _ ?hs (fun _=>?_)
     case hs=>exact⟨zi hwb k0,zi hwb k1,zi hwb k2,zi hwb k3,zi hwb k4,zi hwb k5,zi hwb k6,zi hwb k7⟩
     clear hK K;refine wpAnyH_done (by kernel_rfl) ?_ _
     simp only [Act.put]
     go_wp2_with fail
     go_meet
     refine⟨rfl,?_⟩
     first
      | exact SuI.last HT.out HS.out (A3.mk3 wd _ _ _).hb (by omega) (by omega) (by omega) (A3.mk3 wd _ _ _).h0 (A3.mk3 wd _ _ _).h1 (A3.mk3 wd _ _ _).h2
      | exact SuI.last HT.out HS.out (A3.mk3 wd _ _ _).hb (by omega) (by omega) (by omega) (A3.mk3 wd _ _ _).h0 (A3.mk3 wd _ _ _).h2 (A3.mk3 wd _ _ _).h1
      | exact SuI.last HT.out HS.out (A3.mk3 wd _ _ _).hb (by omega) (by omega) (by omega) (A3.mk3 wd _ _ _).h1 (A3.mk3 wd _ _ _).h0 (A3.mk3 wd _ _ _).h2
      | exact SuI.last HT.out HS.out (A3.mk3 wd _ _ _).hb (by omega) (by omega) (by omega) (A3.mk3 wd _ _ _).h1 (A3.mk3 wd _ _ _).h2 (A3.mk3 wd _ _ _).h0
      | exact SuI.last HT.out HS.out (A3.mk3 wd _ _ _).hb (by omega) (by omega) (by omega) (A3.mk3 wd _ _ _).h2 (A3.mk3 wd _ _ _).h0 (A3.mk3 wd _ _ _).h1
      | exact SuI.last HT.out HS.out (A3.mk3 wd _ _ _).hb (by omega) (by omega) (by omega) (A3.mk3 wd _ _ _).h2 (A3.mk3 wd _ _ _).h1 (A3.mk3 wd _ _ _).h0
    exact zs8
   exact zs8
  refine zs7 rfl (fun K hK=>?_) ?_
  ·try simp only [zq1,zq2,zq3]
   go_simp
   go_at_call 81
   refine(name_any _ _).mono ?_;rintro e w' ⟨rfl,rfl⟩
   (try simp only [])
   refine hK.out _ _ ?hs (fun hHeld=>?_)
   case hs=>first | exact⟨alloc_d k0,alloc_d k1,alloc_d k2,alloc_d k3,alloc_d k4,alloc_d k5,alloc_d k6,alloc_d k7⟩ | exact⟨zs4 _ k0,zs4 _ k1,zs4 _ k2,zs4 _ k3,zs4 _ k4,zs4 _ k5,zs4 _ k6,zs4 _ k7⟩
   clear hK K k0 k1 k2 k3 k4 k5 k6 k7;obtain⟨k0,k1,k2,k3,k4,k5,k6,k7⟩:=hHeld
   try simp only [Act.put,zq1,zq2,zq3,zq4,zq5,zq6]
   refine zs6 (rs:=[1,4]) (by kernel_rfl) (by simp) ?_
   refine zs7 rfl (fun K hK=>?_) ?_
   ·try simp only [zq1,zq2,zq3]
    go_simp
    refine hK.out _ _ ?hs (fun hHeld=>?_)
    case hs=>first | exact⟨alloc_d k0,alloc_d k1,alloc_d k2,alloc_d k3,alloc_d k4,alloc_d k5,alloc_d k6,alloc_d k7⟩ | exact⟨zs4 _ k0,zs4 _ k1,zs4 _ k2,zs4 _ k3,zs4 _ k4,zs4 _ k5,zs4 _ k6,zs4 _ k7⟩
    clear hK K k0 k1 k2 k3 k4 k5 k6 k7;obtain⟨k0,k1,k2,k3,k4,k5,k6,k7⟩:=hHeld
    try simp only [Act.put,zq1,zq2,zq3,zq4,zq5,zq6]
    refine zs6 (rs:=[4]) (by kernel_rfl) (by simp) ?_
    refine zs7 rfl (fun K hK=>?_) ?_
    ·try simp only [zq1,zq2,zq3]
     go_simp
     refine hK.out _ _ ?hs (fun hHeld=>?_)
     case hs=>first | exact⟨alloc_d k0,alloc_d k1,alloc_d k2,alloc_d k3,alloc_d k4,alloc_d k5,alloc_d k6,alloc_d k7⟩ | exact⟨zs4 _ k0,zs4 _ k1,zs4 _ k2,zs4 _ k3,zs4 _ k4,zs4 _ k5,zs4 _ k6,zs4 _ k7⟩
     clear hK K k0 k1 k2 k3 k4 k5 k6 k7;obtain⟨k0,k1,k2,k3,k4,k5,k6,k7⟩:=hHeld
     try simp only [Act.put,zq1,zq2,zq3,zq4,zq5,zq6]
     refine zs5 (i:=5) (v:=?_) rfl (by kernel_rfl) (by kernel_rfl) (by kernel_rfl) (fun _ _ _ h=>h) (Or.inl ⟨by rfl,?_⟩) ⟨k0,k1,k2,k3,k4,k5,k6,k7⟩ ?_
     rotate_left
     ·intro wz hSw
      obtain⟨zk0,zk1,zk2,zk3,zk4,zk5,zk6,zk7⟩:=hSw
      try simp only [zq1,zq2,zq3]
      go_simp
      try with_reducible rfl
     try simp only [Act.put,zq1,zq2,zq3,zq4,zq5,zq6]
     refine zs5 (i:=6) (v:=?_) rfl (by kernel_rfl) (by kernel_rfl) (by kernel_rfl) (fun _ _ _ h=>h) (Or.inl ⟨by rfl,?_⟩) ⟨k0,k1,k2,k3,k4,k5,k6,k7⟩ ?_
     rotate_left
     ·intro wz hSw
      obtain⟨zk0,zk1,zk2,zk3,zk4,zk5,zk6,zk7⟩:=hSw
      try simp only [zq1,zq2,zq3]
      go_simp
      try with_reducible rfl
     try simp only [Act.put,zq1,zq2,zq3,zq4,zq5,zq6]
     refine zs6 (rs:=[7]) (by kernel_rfl) (by simp) ?_
     refine zs7 rfl (fun K hK=>?_) zs8
     rw [if_pos (by rfl)]
     try simp only [zq1,zq2,zq3]
     refine wp_store_mid 29 _ _ rfl w.heap.size 0 _ rfl rfl (HS.out.there (A3.mk3 wd _ _ _).hb) Tryz.info29 (by simp [Value.oneCell']) ?_
     refine hK.out _ _ ?hs (fun _=>?_)
     case hs=>exact⟨zi hwb k0,zi hwb k1,zi hwb k2,zi hwb k3,zi hwb k4,zi hwb k5,zi hwb k6,zi hwb k7⟩
     clear hK K;refine wpAnyH_done (by kernel_rfl) ?_ _
     simp only [Act.put]
     go_wp2_with fail
     go_meet
     refine⟨rfl,?_⟩
     first
      | exact SuI.last HT.out HS.out (A3.mk3 wd _ _ _).hb (by omega) (by omega) (by omega) (A3.mk3 wd _ _ _).h0 (A3.mk3 wd _ _ _).h1 (A3.mk3 wd _ _ _).h2
      | exact SuI.last HT.out HS.out (A3.mk3 wd _ _ _).hb (by omega) (by omega) (by omega) (A3.mk3 wd _ _ _).h0 (A3.mk3 wd _ _ _).h2 (A3.mk3 wd _ _ _).h1
      | exact SuI.last HT.out HS.out (A3.mk3 wd _ _ _).hb (by omega) (by omega) (by omega) (A3.mk3 wd _ _ _).h1 (A3.mk3 wd _ _ _).h0 (A3.mk3 wd _ _ _).h2
      | exact SuI.last HT.out HS.out (A3.mk3 wd _ _ _).hb (by omega) (by omega) (by omega) (A3.mk3 wd _ _ _).h1 (A3.mk3 wd _ _ _).h2 (A3.mk3 wd _ _ _).h0
      | exact SuI.last HT.out HS.out (A3.mk3 wd _ _ _).hb (by omega) (by omega) (by omega) (A3.mk3 wd _ _ _).h2 (A3.mk3 wd _ _ _).h0 (A3.mk3 wd _ _ _).h1
      | exact SuI.last HT.out HS.out (A3.mk3 wd _ _ _).hb (by omega) (by omega) (by omega) (A3.mk3 wd _ _ _).h2 (A3.mk3 wd _ _ _).h1 (A3.mk3 wd _ _ _).h0
    exact zs8
   refine zs7 rfl (fun K hK=>?_) ?_
   ·try simp only [zq1,zq2,zq3]
    go_simp
    refine hK.out _ _ ?hs (fun hHeld=>?_)
    case hs=>first | exact⟨alloc_d k0,alloc_d k1,alloc_d k2,alloc_d k3,alloc_d k4,alloc_d k5,alloc_d k6,alloc_d k7⟩ | exact⟨zs4 _ k0,zs4 _ k1,zs4 _ k2,zs4 _ k3,zs4 _ k4,zs4 _ k5,zs4 _ k6,zs4 _ k7⟩
    clear hK K k0 k1 k2 k3 k4 k5 k6 k7;obtain⟨k0,k1,k2,k3,k4,k5,k6,k7⟩:=hHeld
    try simp only [Act.put,zq1,zq2,zq3,zq4,zq5,zq6]
    refine zs5 (i:=5) (v:=?_) rfl (by kernel_rfl) (by kernel_rfl) (by kernel_rfl) (fun _ _ _ h=>h) (Or.inl ⟨by rfl,?_⟩) ⟨k0,k1,k2,k3,k4,k5,k6,k7⟩ ?_
    rotate_left
    ·intro wz hSw
     obtain⟨zk0,zk1,zk2,zk3,zk4,zk5,zk6,zk7⟩:=hSw
     try simp only [zq1,zq2,zq3]
     go_simp
     try with_reducible rfl
    try simp only [Act.put,zq1,zq2,zq3,zq4,zq5,zq6]
    refine zs6 (rs:=[1]) (by kernel_rfl) (by simp) ?_
    refine zs7 rfl (fun K hK=>?_) ?_
    ·try simp only [zq1,zq2,zq3]
     go_simp
     refine hK.out _ _ ?hs (fun hHeld=>?_)
     case hs=>first | exact⟨alloc_d k0,alloc_d k1,alloc_d k2,alloc_d k3,alloc_d k4,alloc_d k5,alloc_d k6,alloc_d k7⟩ | exact⟨zs4 _ k0,zs4 _ k1,zs4 _ k2,zs4 _ k3,zs4 _ k4,zs4 _ k5,zs4 _ k6,zs4 _ k7⟩
     clear hK K k0 k1 k2 k3 k4 k5 k6 k7;obtain⟨k0,k1,k2,k3,k4,k5,k6,k7⟩:=hHeld
     try simp only [Act.put,zq1,zq2,zq3,zq4,zq5,zq6]
     refine zs5 (i:=6) (v:=?_) rfl (by kernel_rfl) (by kernel_rfl) (by kernel_rfl) (fun _ _ _ h=>h) (Or.inl ⟨by rfl,?_⟩) ⟨k0,k1,k2,k3,k4,k5,k6,k7⟩ ?_
     rotate_left
     ·intro wz hSw
      obtain⟨zk0,zk1,zk2,zk3,zk4,zk5,zk6,zk7⟩:=hSw
      try simp only [zq1,zq2,zq3]
      go_simp
      try with_reducible rfl
     try simp only [Act.put,zq1,zq2,zq3,zq4,zq5,zq6]
     refine zs6 (rs:=[7]) (by kernel_rfl) (by simp) ?_
     refine zs7 rfl (fun K hK=>?_) zs8
     rw [if_pos (by rfl)]
     try simp only [zq1,zq2,zq3]
     refine wp_store_mid 29 _ _ rfl w.heap.size 0 _ rfl rfl (HS.out.there (A3.mk3 wd _ _ _).hb) Tryz.info29 (by simp [Value.oneCell']) ?_
     refine hK.out _ _ ?hs (fun _=>?_)
     case hs=>exact⟨zi hwb k0,zi hwb k1,zi hwb k2,zi hwb k3,zi hwb k4,zi hwb k5,zi hwb k6,zi hwb k7⟩
     clear hK K;refine wpAnyH_done (by kernel_rfl) ?_ _
     simp only [Act.put]
     go_wp2_with fail
     go_meet
     refine⟨rfl,?_⟩
     first
      | exact SuI.last HT.out HS.out (A3.mk3 wd _ _ _).hb (by omega) (by omega) (by omega) (A3.mk3 wd _ _ _).h0 (A3.mk3 wd _ _ _).h1 (A3.mk3 wd _ _ _).h2
      | exact SuI.last HT.out HS.out (A3.mk3 wd _ _ _).hb (by omega) (by omega) (by omega) (A3.mk3 wd _ _ _).h0 (A3.mk3 wd _ _ _).h2 (A3.mk3 wd _ _ _).h1
      | exact SuI.last HT.out HS.out (A3.mk3 wd _ _ _).hb (by omega) (by omega) (by omega) (A3.mk3 wd _ _ _).h1 (A3.mk3 wd _ _ _).h0 (A3.mk3 wd _ _ _).h2
      | exact SuI.last HT.out HS.out (A3.mk3 wd _ _ _).hb (by omega) (by omega) (by omega) (A3.mk3 wd _ _ _).h1 (A3.mk3 wd _ _ _).h2 (A3.mk3 wd _ _ _).h0
      | exact SuI.last HT.out HS.out (A3.mk3 wd _ _ _).hb (by omega) (by omega) (by omega) (A3.mk3 wd _ _ _).h2 (A3.mk3 wd _ _ _).h0 (A3.mk3 wd _ _ _).h1
      | exact SuI.last HT.out HS.out (A3.mk3 wd _ _ _).hb (by omega) (by omega) (by omega) (A3.mk3 wd _ _ _).h2 (A3.mk3 wd _ _ _).h1 (A3.mk3 wd _ _ _).h0
    exact zs8
   exact zs8
  refine zs7 rfl (fun K hK=>?_) ?_
  ·try simp only [zq1,zq2,zq3]
   go_simp
   refine hK.out _ _ ?hs (fun hHeld=>?_)
   case hs=>first | exact⟨alloc_d k0,alloc_d k1,alloc_d k2,alloc_d k3,alloc_d k4,alloc_d k5,alloc_d k6,alloc_d k7⟩ | exact⟨zs4 _ k0,zs4 _ k1,zs4 _ k2,zs4 _ k3,zs4 _ k4,zs4 _ k5,zs4 _ k6,zs4 _ k7⟩
   clear hK K k0 k1 k2 k3 k4 k5 k6 k7;obtain⟨k0,k1,k2,k3,k4,k5,k6,k7⟩:=hHeld
   try simp only [Act.put,zq1,zq2,zq3,zq4,zq5,zq6]
   refine zs6 (rs:=[1,2]) (by kernel_rfl) (by simp) ?_
   refine zs7 rfl (fun K hK=>?_) ?_
   ·try simp only [zq1,zq2,zq3]
    go_simp
    refine hK.out _ _ ?hs (fun hHeld=>?_)
    case hs=>first | exact⟨alloc_d k0,alloc_d k1,alloc_d k2,alloc_d k3,alloc_d k4,alloc_d k5,alloc_d k6,alloc_d k7⟩ | exact⟨zs4 _ k0,zs4 _ k1,zs4 _ k2,zs4 _ k3,zs4 _ k4,zs4 _ k5,zs4 _ k6,zs4 _ k7⟩
    clear hK K k0 k1 k2 k3 k4 k5 k6 k7;obtain⟨k0,k1,k2,k3,k4,k5,k6,k7⟩:=hHeld
    try simp only [Act.put,zq1,zq2,zq3,zq4,zq5,zq6]
    refine zs6 (rs:=[2]) (by kernel_rfl) (by simp) ?_
    refine zs7 rfl (fun K hK=>?_) ?_
    ·try simp only [zq1,zq2,zq3]
     go_simp
     go_at_call 81
     refine(name_any _ _).mono ?_;rintro e w' ⟨rfl,rfl⟩
     (try simp only [])
     refine hK.out _ _ ?hs (fun hHeld=>?_)
     case hs=>first | exact⟨alloc_d k0,alloc_d k1,alloc_d k2,alloc_d k3,alloc_d k4,alloc_d k5,alloc_d k6,alloc_d k7⟩ | exact⟨zs4 _ k0,zs4 _ k1,zs4 _ k2,zs4 _ k3,zs4 _ k4,zs4 _ k5,zs4 _ k6,zs4 _ k7⟩
     clear hK K k0 k1 k2 k3 k4 k5 k6 k7;obtain⟨k0,k1,k2,k3,k4,k5,k6,k7⟩:=hHeld
     try simp only [Act.put,zq1,zq2,zq3,zq4,zq5,zq6]
     refine zs5 (i:=5) (v:=?_) rfl (by kernel_rfl) (by kernel_rfl) (by kernel_rfl) (fun _ _ _ h=>h) (Or.inl ⟨by rfl,?_⟩) ⟨k0,k1,k2,k3,k4,k5,k6,k7⟩ ?_
     rotate_left
     ·intro wz hSw
      obtain⟨zk0,zk1,zk2,zk3,zk4,zk5,zk6,zk7⟩:=hSw
      try simp only [zq1,zq2,zq3]
      go_simp
      try with_reducible rfl
     try simp only [Act.put,zq1,zq2,zq3,zq4,zq5,zq6]
     refine zs5 (i:=6) (v:=?_) rfl (by kernel_rfl) (by kernel_rfl) (by kernel_rfl) (fun _ _ _ h=>h) (Or.inl ⟨by rfl,?_⟩) ⟨k0,k1,k2,k3,k4,k5,k6,k7⟩ ?_
     rotate_left
     ·intro wz hSw
      obtain⟨zk0,zk1,zk2,zk3,zk4,zk5,zk6,zk7⟩:=hSw
      try simp only [zq1,zq2,zq3]
      go_simp
      try with_reducible rfl
     try simp only [Act.put,zq1,zq2,zq3,zq4,zq5,zq6]
     refine zs6 (rs:=[7]) (by kernel_rfl) (by simp) ?_
     refine zs7 rfl (fun K hK=>?_) zs8
     rw [if_pos (by rfl)]
     try simp only [zq1,zq2,zq3]
     refine wp_store_mid 29 _ _ rfl w.heap.size 0 _ rfl rfl (HS.out.there (A3.mk3 wd _ _ _).hb) Tryz.info29 (by simp [Value.oneCell']) ?_
     refine hK.out _ _ ?hs (fun _=>?_)
     case hs=>exact⟨zi hwb k0,zi hwb k1,zi hwb k2,zi hwb k3,zi hwb k4,zi hwb k5,zi hwb k6,zi hwb k7⟩
     clear hK K;refine wpAnyH_done (by kernel_rfl) ?_ _
     simp only [Act.put]
     go_wp2_with fail
     go_meet
     refine⟨rfl,?_⟩
     first
      | exact SuI.last HT.out HS.out (A3.mk3 wd _ _ _).hb (by omega) (by omega) (by omega) (A3.mk3 wd _ _ _).h0 (A3.mk3 wd _ _ _).h1 (A3.mk3 wd _ _ _).h2
      | exact SuI.last HT.out HS.out (A3.mk3 wd _ _ _).hb (by omega) (by omega) (by omega) (A3.mk3 wd _ _ _).h0 (A3.mk3 wd _ _ _).h2 (A3.mk3 wd _ _ _).h1
      | exact SuI.last HT.out HS.out (A3.mk3 wd _ _ _).hb (by omega) (by omega) (by omega) (A3.mk3 wd _ _ _).h1 (A3.mk3 wd _ _ _).h0 (A3.mk3 wd _ _ _).h2
      | exact SuI.last HT.out HS.out (A3.mk3 wd _ _ _).hb (by omega) (by omega) (by omega) (A3.mk3 wd _ _ _).h1 (A3.mk3 wd _ _ _).h2 (A3.mk3 wd _ _ _).h0
      | exact SuI.last HT.out HS.out (A3.mk3 wd _ _ _).hb (by omega) (by omega) (by omega) (A3.mk3 wd _ _ _).h2 (A3.mk3 wd _ _ _).h0 (A3.mk3 wd _ _ _).h1
      | exact SuI.last HT.out HS.out (A3.mk3 wd _ _ _).hb (by omega) (by omega) (by omega) (A3.mk3 wd _ _ _).h2 (A3.mk3 wd _ _ _).h1 (A3.mk3 wd _ _ _).h0
    exact zs8
   refine zs7 rfl (fun K hK=>?_) ?_
   ·try simp only [zq1,zq2,zq3]
    go_simp
    go_at_call 81
    refine(name_any _ _).mono ?_;rintro e w' ⟨rfl,rfl⟩
    (try simp only [])
    refine hK.out _ _ ?hs (fun hHeld=>?_)
    case hs=>first | exact⟨alloc_d k0,alloc_d k1,alloc_d k2,alloc_d k3,alloc_d k4,alloc_d k5,alloc_d k6,alloc_d k7⟩ | exact⟨zs4 _ k0,zs4 _ k1,zs4 _ k2,zs4 _ k3,zs4 _ k4,zs4 _ k5,zs4 _ k6,zs4 _ k7⟩
    clear hK K k0 k1 k2 k3 k4 k5 k6 k7;obtain⟨k0,k1,k2,k3,k4,k5,k6,k7⟩:=hHeld
    try simp only [Act.put,zq1,zq2,zq3,zq4,zq5,zq6]
    refine zs5 (i:=5) (v:=?_) rfl (by kernel_rfl) (by kernel_rfl) (by kernel_rfl) (fun _ _ _ h=>h) (Or.inl ⟨by rfl,?_⟩) ⟨k0,k1,k2,k3,k4,k5,k6,k7⟩ ?_
    rotate_left
    ·intro wz hSw
     obtain⟨zk0,zk1,zk2,zk3,zk4,zk5,zk6,zk7⟩:=hSw
     try simp only [zq1,zq2,zq3]
     go_simp
     try with_reducible rfl
    try simp only [Act.put,zq1,zq2,zq3,zq4,zq5,zq6]
    refine zs6 (rs:=[1]) (by kernel_rfl) (by simp) ?_
    refine zs7 rfl (fun K hK=>?_) ?_
    ·try simp only [zq1,zq2,zq3]
     go_simp
     refine hK.out _ _ ?hs (fun hHeld=>?_)
     case hs=>first | exact⟨alloc_d k0,alloc_d k1,alloc_d k2,alloc_d k3,alloc_d k4,alloc_d k5,alloc_d k6,alloc_d k7⟩ | exact⟨zs4 _ k0,zs4 _ k1,zs4 _ k2,zs4 _ k3,zs4 _ k4,zs4 _ k5,zs4 _ k6,zs4 _ k7⟩
     clear hK K k0 k1 k2 k3 k4 k5 k6 k7;obtain⟨k0,k1,k2,k3,k4,k5,k6,k7⟩:=hHeld
     try simp only [Act.put,zq1,zq2,zq3,zq4,zq5,zq6]
     refine zs5 (i:=6) (v:=?_) rfl (by kernel_rfl) (by kernel_rfl) (by kernel_rfl) (fun _ _ _ h=>h) (Or.inl ⟨by rfl,?_⟩) ⟨k0,k1,k2,k3,k4,k5,k6,k7⟩ ?_
     rotate_left
     ·intro wz hSw
      obtain⟨zk0,zk1,zk2,zk3,zk4,zk5,zk6,zk7⟩:=hSw
      try simp only [zq1,zq2,zq3]
      go_simp
      try with_reducible rfl
     try simp only [Act.put,zq1,zq2,zq3,zq4,zq5,zq6]
     refine zs6 (rs:=[7]) (by kernel_rfl) (by simp) ?_
     refine zs7 rfl (fun K hK=>?_) zs8
     rw [if_pos (by rfl)]
     try simp only [zq1,zq2,zq3]
     refine wp_store_mid 29 _ _ rfl w.heap.size 0 _ rfl rfl (HS.out.there (A3.mk3 wd _ _ _).hb) Tryz.info29 (by simp [Value.oneCell']) ?_
     refine hK.out _ _ ?hs (fun _=>?_)
     case hs=>exact⟨zi hwb k0,zi hwb k1,zi hwb k2,zi hwb k3,zi hwb k4,zi hwb k5,zi hwb k6,zi hwb k7⟩
     clear hK K;refine wpAnyH_done (by kernel_rfl) ?_ _
     simp only [Act.put]
     go_wp2_with fail
     go_meet
     refine⟨rfl,?_⟩
     first
      | exact SuI.last HT.out HS.out (A3.mk3 wd _ _ _).hb (by omega) (by omega) (by omega) (A3.mk3 wd _ _ _).h0 (A3.mk3 wd _ _ _).h1 (A3.mk3 wd _ _ _).h2
      | exact SuI.last HT.out HS.out (A3.mk3 wd _ _ _).hb (by omega) (by omega) (by omega) (A3.mk3 wd _ _ _).h0 (A3.mk3 wd _ _ _).h2 (A3.mk3 wd _ _ _).h1
      | exact SuI.last HT.out HS.out (A3.mk3 wd _ _ _).hb (by omega) (by omega) (by omega) (A3.mk3 wd _ _ _).h1 (A3.mk3 wd _ _ _).h0 (A3.mk3 wd _ _ _).h2
      | exact SuI.last HT.out HS.out (A3.mk3 wd _ _ _).hb (by omega) (by omega) (by omega) (A3.mk3 wd _ _ _).h1 (A3.mk3 wd _ _ _).h2 (A3.mk3 wd _ _ _).h0
      | exact SuI.last HT.out HS.out (A3.mk3 wd _ _ _).hb (by omega) (by omega) (by omega) (A3.mk3 wd _ _ _).h2 (A3.mk3 wd _ _ _).h0 (A3.mk3 wd _ _ _).h1
      | exact SuI.last HT.out HS.out (A3.mk3 wd _ _ _).hb (by omega) (by omega) (by omega) (A3.mk3 wd _ _ _).h2 (A3.mk3 wd _ _ _).h1 (A3.mk3 wd _ _ _).h0
    exact zs8
   exact zs8
  exact zs8
 obtain⟨rfl,pb,na,ba,hc,hV,hB⟩:=hcut;have z0:=hc 0 _ rfl;have z1:=hc 1 _ rfl
 have z2:=hc 2 _ rfl;have z3:=hc 3 _ rfl
 have z4:=hc 4 _ rfl;have z5:=hc 5 _ rfl
 have z6:=hc 6 _ rfl;have z7:=hc 7 _ rfl
 have z8:=hc 8 _ rfl;have z9:=hc 9 _ rfl
 have z10:=hc 10 _ rfl;have HV:=zh hV
 have HB:=zh hB;clear hc hV hB
 go_wp2_with fail
 refine bodyPost_ret (v := .agg #[.string ⟨#[115,117,109]⟩,.bool true,.slice (some ⟨pb,0,none⟩) 1 1,.int .i64 5,.string ⟨#[99]⟩,.string ⟨#[]⟩,.int .i64 0,.int .i64 1,.slice (some ⟨na,0,none⟩) 1 1,.slice none 0 0,.slice (some ⟨ba,0,none⟩) 1 1]) (by simp [results,Tryz.results49,go_sem,z0,z1,z2,z3,z4,z5,z6,z7,z8,z9,z10];try rfl) rfl ?_
 exact⟨_,rfl,HV.out,HB.out⟩
end
end Go.Proofs.YtnkahlloahgifaaGreatDoor
namespace RG
theorem lay_few:∀ (f n:Nat) (l:List (List Nm×TE)),sizes l≤f→(∀ d∈layS n l,nodeOk d.e=true)→(∀ p∈l,p.1.length≤16)→(vars (layS n l)).length≤16*sizes l
 | f,n,[],_,_,_=>by rw [layS_nil];simp [vars]
 | 0,n,(bs,e) :: r,hf,_,_=>by rw [zg] at hf;have:=e.size_pos;simp at hf;omega
 | f+1,n,(bs,e) :: r,hf,hd,hp=>by
  rw [zg] at hf;simp only [] at hf;rw [layS_cons] at hd ⊢;have hs:=e.size_kids;have hok:=hd _ List.mem_cons_self
  unfold nodeOk at hok;simp only [Bool.and_eq_true,List.all_eq_true,decide_eq_true_eq] at hok;have ih:=lay_few f (n+1) (e.kids++r) (by rw [zr];omega) (fun d h=>hd d (List.mem_cons_of_mem _ h)) (fun p h=>by
   rcases List.mem_append.1 h with h | h
   ·exact hok.2 p h
   exact hp p (List.mem_cons_of_mem _ h))
  have h0:=hp _ List.mem_cons_self;simp only [] at h0;rw [vars_cons,List.length_append,zg];rw [zr] at ih;simp only [];omega
theorem Good.few {isName:Nm→Bool}{ps:List Nm}{e:TE}(h:Good isName ps e):(vars (F0 ps e)).length≤320000:=by
 have hs:sizes [(ps,e)]=e.size:=by rw [zg,zw];rfl
 have:=lay_few e.size 0 [(ps,e)] (by rw [hs];exact Nat.le_refl _) h.form (fun p hp=>by simp at hp;rw [hp];exact h.params)
 rw [hs] at this;have:=h.size;unfold F0;omega
theorem nodup_sub_len:∀ {a b:List Int},a.Nodup→(∀ x∈a,x∈b)→a.length≤b.length:=fun {a b} h1 h2=>by
 by_cases h:b.length≤a.length
 ·have:=(RM.perm_of_sub h1 h2 h).length_eq;omega
 omega
theorem vars_take_succ {F:List Nd}{i:Nat}(hi:i<F.length):vars (F.take (i+1))=vars (F.take i)++(nd F i).binds:=by
 unfold vars;rw [List.take_add_one,nd_some hi,List.flatMap_append];simp
theorem named_le {F:List Nd}(q:Nm→Bool):(named F q).length≤(vars F).length:=List.length_filter_le _ _
end RG
namespace Go.Proofs.YtnkahlloahgifaaGreatDoor
section
open Go.RowKit RG Go.Maps
open Go.WideMaps (keyOf_string_mk)
theorem pmap_run {w:World}{b:Nat}{F:List Nd}(h:PMap w b (vars F)) {x:Nm}(hx:x∈vars F):(Instr.lookup 116 (.map (some b)) (.string x) false).run Tryz.prog w = .ok (.int .i64 (place F x:Nat)) w:=by
 obtain⟨D,h1,h2,h3,h4⟩:=h;obtain⟨g1,g2,g3⟩:=h3 _ _ (place_at hx);obtain⟨c,hrun,hat,_⟩:=h1.lookup_int keyed9 Tryz.underlying116 Tryz.underlying3 (zero3 w) (keyOf_string_mk Tryz.underlying9 g1);rw [g3] at hat;simp at hat;rw [← hat] at hrun;exact hrun
structure AlS (w:World) (g:Nat) (F:List Nd) (regs:List Nat) (done:List Nm) (f:Nat→Value):Prop where
 row:w.rowIs g 61 ((vars F).length*2) f
 len:regs.length=(vars F).length
 reg:∀ p,p<(vars F).length→f (p*2+1) = .int .i64 ((regs.getD p 0:Nat):Int)
 nam:∀ x∈done,x∈vars F→f (place F x*2) = .string x
 small:∀ r∈regs,r≤1000000
section
variable {w w':World} {g:Nat} {F:List Nd} {regs:List Nat} {done:List Nm} {f:Nat→Value}
theorem AlS.keep (h:AlS w g F regs done f) (hb:w'.heap[g]?=w.heap[g]?):AlS w' g F regs done f:=⟨h.row.of_block hb,h.len,h.reg,h.nam,h.small⟩
theorem getD_small (h:∀ r∈regs,r≤1000000) (p:Nat):regs.getD p 0≤1000000:=by
 rw [zt4];cases hq:regs[p]? with
 | none=>simp
 | some r=>exact h r (zr1 hq)
theorem AlS.put (h:AlS w g F regs done f) {x:Nm}(hx:x∈vars F) {r:Nat}(hr:r≤1000000):∃ f',AlS ((w.setCell ⟨g,place F x*2,none⟩ (.string x)).setCell ⟨g,place F x*2+1,none⟩ (.int .i64 (r:Int))) g F (regs.set (place F x) r) (done++[x]) f':=by
 have hp:=place_lt hx;refine⟨_,⟨(h.row.set _ _).set _ _,by rw [List.length_set];exact h.len,fun p hpl=>?_,fun y hy hyv=>?_,fun q hq=>?_⟩⟩
 ·show (if p*2+1=place F x*2+1 then _ else if p*2+1=place F x*2 then _ else f (p*2+1))=_
  by_cases e:p=place F x
  ·subst e
   rw [if_pos rfl,zt4,List.getElem?_set_self (by rw [h.len];exact hp)];rfl
  rw [if_neg (by omega),if_neg (by omega),h.reg p hpl,zt4,zt4,List.getElem?_set_ne (fun h=>e h.symm)]
 ·show (if place F y*2=place F x*2+1 then _ else if place F y*2=place F x*2 then _ else f (place F y*2))=_
  rw [if_neg (by omega)]
  by_cases e:place F y=place F x
  ·rw [if_pos (by omega),place_inj hyv hx e]
  rw [if_neg (by omega)]
  rcases List.mem_append.1 hy with hy | hy
  ·exact h.nam y hy hyv
  simp at hy;subst hy;exact absurd rfl e
 rcases List.mem_or_eq_of_mem_set hq with hq | rfl
 ·exact h.small q hq
 exact hr
theorem AlS.vars (h:AlS w g F regs done f) (hn:(vars F).Nodup) (hd:∀ x∈RG.vars F,x∈done):VarsAt w (.slice (some ⟨g,0,none⟩) (RG.vars F).length (RG.vars F).length) (pairs F regs):=by
 have hl:(pairs F regs).length=(RG.vars F).length:=zv1 _;refine⟨some ⟨g,0,none⟩,(RG.vars F).length,by rw [hl],fun h0=>⟨g,0,rfl,fun i m hi=>?_⟩⟩
 obtain⟨x,r⟩:=m;obtain⟨h1,h2⟩:=pairs_at hi;have hil:=(zq8.1 h1).1;have hxv:=zr1 h1
 have hpl:=place_of hn h1;rw [Nat.zero_add];constructor
 ·rw [h.row.cell (by omega)]
  have:=h.nam x (hd x hxv) hxv;rw [hpl] at this;rw [this]
 rw [h.row.cell (by omega),h.reg i hil,h2]
 unfold regIn;rw [hpl]
end
def Tx (F:List Nd) (i:Nat) (regs:List Nat) (todo:Int→Bool):List Nat:=((named F (cross F i)).filter fun x => !todo (place F x:Nat)).map fun x=>regs.getD (place F x) 0
theorem Tx_start (F:List Nd) (i:Nat) (regs:List Nat) (todo:Int→Bool) (h:∀ x∈named F (cross F i),todo (place F x:Nat)=true):Tx F i regs todo=[]:=by
 unfold Tx;rw [List.filter_eq_nil_iff.2 (fun x hx=>by rw [h x hx];decide)];rfl
theorem Tx_end (F:List Nd) (i:Nat) (regs:List Nat) (todo:Int→Bool) (h:∀ k,todo k=false):Tx F i regs todo=(named F (cross F i)).map fun x=>regs.getD (place F x) 0:=by
 unfold Tx;rw [List.filter_eq_self.2 (fun x hx=>by rw [h];rfl)]
theorem Tx_len (F:List Nd) (i:Nat) (regs:List Nat) (todo:Int→Bool):(Tx F i regs todo).length≤(vars F).length:=by
 unfold Tx;rw [zv1];exact zr5 (List.length_filter_le _ _) (named_le _)
theorem Tx_step {F:List Nd}{i:Nat}{regs:List Nat}{todo:Int→Bool}{y:Nm}(hy:y∈vars F) (hc:cross F i y=true) (ht:todo (place F y:Nat)=true) (t:Int) :
  t∈ofNats (Tx F i regs todo)++[((regs.getD (place F y) 0:Nat):Int)]↔t∈ofNats (Tx F i regs fun k=>todo k && !decide (k=(place F y:Nat))):=by
 unfold ofNats Tx;simp only [List.mem_append,List.mem_map,List.mem_filter,List.mem_singleton,List.map_map];constructor
 ·rintro (⟨x,⟨hx,h1⟩,rfl⟩ | rfl)
  ·exact⟨x,⟨hx,by simp at h1;simp [h1]⟩,rfl⟩
  exact⟨y,⟨mem_named.2 ⟨hy,hc⟩,by simp⟩,rfl⟩
 rintro ⟨x,⟨hx,h1⟩,rfl⟩
 by_cases e:place F x=place F y
 ·right;simp [e]
 left;have h2:todo (place F x:Nat)=false:=by
  simp at h1;rcases h1 with h1 | h1
  ·exact h1
  exact absurd (by exact_mod_cast h1) e
 exact⟨x,⟨hx,by rw [h2];rfl⟩,rfl⟩
theorem FnOk.boxedAt {Env:World→Prop}{isName:Nm→Bool}{w W:World}{v:Value}{ps:List Nm}{e:TE}(h:FnOk Env isName w v ps e) (hW:Below (w.alloc (.cells v.cells 29)).heap.size (w.alloc (.cells v.cells 29)) W):Calls Tryz.prog 58 #[.pointer (some ⟨w.heap.size,0,none⟩)] W (fun en w'=>ReadP isName W ps e en w'):=by
 have hb:Below w.heap.size w (w.alloc (.cells v.cells 29)):=(zs9 _ _).alloc (zr4 _) _;have hk:Kept w W:=(zd hb).trans (zd hW)
 obtain⟨nm,op,ch,pv,va,num,site,aa,ab,ca,cb,ga,oa,gb,ob,rfl,h1,h2,h3,h4,h5,h6⟩:=h.val;have hn:=zs2 w (.cells (Value.agg #[.string nm,.bool ch,pv,.int .i64 e.kind,.string e.name,.string op,.int .i64 num,.int .i64 site,va,.slice aa e.arms.length ca,.slice ab e.body.length cb]).cells 29);have hpv:∃ a n c,pv = .slice a n c:=by obtain⟨ad,c,e,_⟩:=h1.at';exact⟨_,_,_,e⟩
 have hva:∃ a n c,va = .slice a n c:=by obtain⟨ad,c,e,_⟩:=h2.at';exact⟨_,_,_,e⟩
 obtain⟨pa,pn,pc,rfl⟩:=hpv;obtain⟨xa,xn,xc,rfl⟩:=hva;have hcs:(Value.agg #[.string nm,.bool ch,.slice pa pn pc,.int .i64 e.kind,.string e.name,.string op,.int .i64 num,.int .i64 site,.slice xa xn xc,.slice aa e.arms.length ca,.slice ab e.body.length cb]).cells = #[.string nm,.bool ch,.slice pa pn pc,.int .i64 e.kind,.string e.name,.string op,.int .i64 num,.int .i64 site,.slice xa xn xc,.slice aa e.arms.length ca,.slice ab e.body.length cb]:=rfl;refine read_any h.law (h.law.keep _ _ _ (h.law.size _ h.env) h.env (hb.trans (hW.mono hb.size))) ?_ h.sz h.pl;have hkW:=zd hW
 rw [hcs] at hn;rw [hcs] at hkW;have c:∀ i x,#[Value.string nm,.bool ch,.slice pa pn pc,.int .i64 e.kind,.string e.name,.string op,.int .i64 num,.int .i64 site,.slice xa xn xc,.slice aa e.arms.length ca,.slice ab e.body.length cb][i]?=some x→W.cell? ⟨w.heap.size,i,none⟩=some x:=fun i x hx=>hkW _ _ (by rw [zb _ _ _ _ _ _ hn];exact hx)
 refine⟨⟨_,c 2 _ rfl,h1.kept hk⟩,?_⟩;obtain⟨k,name,args,arms,body⟩:=e;rw [TEAt];exact⟨op,num,site,_,aa,ab,ca,cb,ga,oa,gb,ob,⟨c 3 _ rfl,c 4 _ rfl,c 5 _ rfl,c 6 _ rfl⟩,⟨c 7 _ rfl,c 8 _ rfl,c 9 _ rfl,c 10 _ rfl⟩,h2.kept hk,h3,TAAt.kept hk _ _ _ h4,h5,TBAt.kept hk _ _ _ h6⟩
theorem AlS.made {w:World}{F:List Nd}{n:Nat}(hn:n=(RG.vars F).length):∃ f,AlS (w.alloc (.cells (madeCells #[.string ⟨#[]⟩,.int .i64 0] (n*2)) 61)) w.heap.size F ((RG.vars F).map fun _=>0) [] f:=by
 refine⟨fun i => #[Value.string ⟨#[]⟩,.int .i64 0][i % 2]!,⟨⟨_,zs2 w _,by rw [size_madeCells,hn],fun i hi=>?_⟩,by rw [zv1],fun p hp=>?_,fun x hx=>absurd hx (by simp),fun r hr=>by obtain⟨_,_,rfl⟩:=List.mem_map.1 hr;omega⟩⟩
 ·have hi2:i<n*2:=by omega
  simp [madeCells,hi2]
 have e1:(p*2+1) % 2=1:=by omega
 have e2:(((RG.vars F).map fun _=>(0:Nat)).getD p 0)=0:=by rw [zt4,List.getElem?_map];cases (RG.vars F)[p]?<;>rfl
 show #[Value.string ⟨#[]⟩,.int .i64 0][(p*2+1) % 2]! = _;rw [e1,e2];rfl
def AlP (isName:Nm→Bool) (w:World) (ps:List Nm) (e:TE) (en:Ending) (w':World):Prop :=
 Below w.heap.size w w'∧((RG.Good isName ps e∧∃ v,en = .returned (.tuple #[.agg #[.int .i64 ((alloc (F0 ps e)).2:Nat),v],.int .i64 0])∧VarsAt w' v (pairs (F0 ps e) (alloc (F0 ps e)).1)) ∨
  (¬ RG.Good isName ps e∧en = .returned (.tuple #[.agg #[.int .i64 0,.slice none 0 0],.int .i64 160])))
end
section
open Go.RowKit RG Go.Maps
theorem mvCells_drop:∀ (l:List RM.Mv) (i:Nat),zy (l.drop i)=(zy l).drop (i*2)
 | [],i=>by simp [zy]
 | a :: l,0=>rfl
 | a :: l,i+1=>by
  have e:zy (a :: l) = .int .i64 a.1 :: .int .i64 a.2 :: zy l:=rfl;rw [List.drop_succ_cons,mvCells_drop l i,e,show (i+1)*2=i*2+1+1 from by omega,List.drop_succ_cons,List.drop_succ_cons]
theorem eraseIdx_eq (l:List RM.Mv) (i:Nat):l.eraseIdx i=l.take i++l.drop (i+1):=List.eraseIdx_eq_take_drop_succ l i
theorem delete_any {w:World}{g:Nat}{v:Value}{l:List RM.Mv}{i j:Nat}(hj:j=i+1) (h:RestAt w g v l) (hi:i<l.length) (hl:l.length≤1000000) :
  Calls Tryz.prog 76 #[v,.int .i64 (i:Int),.int .i64 (j:Int)] w (DfP w g (l.eraseIdx i)):=by
 rcases h with ⟨rfl,_⟩|⟨cp,f,rfl,h1,h2,h3,h4⟩
 ·simp at hi
 obtain⟨i1,hi1,hz0,hz1,hz2⟩:=info_parts Tryz.info81;obtain⟨n,hn⟩:∃ n,n=l.length:=⟨_,rfl⟩;rw [← hn] at hi hl h1 ⊢;have HN:=zh hn;have hiz:(i:Int)<n:=by omega
 have hi1z:(j:Int)≤n:=by omega
 have hij:(i:Int)≤j:=by omega
 have hj0:(0:Int)≤j:=by omega
 have hjcz:(j:Int)≤cp:=by omega
 have hicz:(i:Int)≤cp:=by omega
 have hnz:(n:Int)≤1000000:=by omega
 have hi0:(0:Int)≤i:=by omega
 have hnc:(n:Int)≤cp:=by omega
 have hne:((i:Int)==j)=false:=by rw [beq_eq_false_iff_ne];omega
 obtain⟨news,hnews⟩:∃ news,news=zy (l.drop j):=⟨_,rfl⟩;have hlen:news.length=(n - j)*2:=by rw [hnews,mvCells_length,List.length_drop,hn]
 have hcell:∀ c u,(zy l)[c]?=some u→w.cell? ⟨g,c,none⟩=some u:=fun c u hu=>by
  have hc:=(zq8.1 hu).1;rw [mvCells_length] at hc;rw [h3.cell (by omega),h4 c u hu]
 obtain⟨A,hA,hsrc⟩:∃ A:Addr,(if cp=j then some (⟨g,0,none⟩:Addr) else some ⟨g,j*2,none⟩)=some A∧Hid (∀ t u,news[t]?=some u→w.drew.cell? (A.add t)=some u):=by
  by_cases hc:cp=j
  ·refine⟨_,if_pos hc,fun t u hu=>?_⟩
   have:=(zq8.1 hu).1;omega
  refine⟨_,if_neg hc,fun t u hu=>?_⟩
  rw [Addr.add_lit];refine hcell _ u ?_;rw [hnews,mvCells_drop,List.getElem?_drop] at hu;exact hu
 have s2:Hid (∀ u∈news,u.oneCell'=true):=fun u hu=>by rw [hnews] at hu;exact mvCells_one hu
 have s1:=zh hlen;have s3:Hid (∀ t,t<news.length→(w.drew.cell? ⟨g,0+i*2+t,none⟩).isSome=true∧w.drew.frozen? ⟨g,0+i*2+t,none⟩=false):=fun t ht=>by
  rw [hlen] at ht;refine⟨?_,h3.frozen _⟩;show (w.cell? _).isSome=true;rw [h3.cell (by omega)];rfl
 obtain⟨W1,hW1⟩:∃ W1,W1=w.drew.setCells g (0+i*2) news:=⟨_,rfl⟩;obtain⟨f1,hR1,hf1⟩:∃ f1,W1.rowIs g 81 (cp*2) f1∧∀ j,f1 j=if 0+i*2≤j∧j<0+i*2+news.length then news[j - (0+i*2)]?.getD default else f j:=⟨_,by rw [hW1];exact rowIs_setCells news (0+i*2) w.drew f h3.drew,fun j=>rfl⟩
 obtain⟨q,hq⟩:∃ q,i+(n - j)=q:=⟨_,rfl⟩;have HQ:=zh hq;have hqn:q<n:=by omega
 have hqj:n - q=j - i:=by omega
 have hcl:∀ ty,(Builtin.clear_ #[74] ty #[.slice (some ⟨g,q*2,none⟩) (n - q) (cp - q)]).run Tryz.prog W1 = .ok (.tuple #[]) (W1.setCells g (q*2) (List.replicate ((n - q)*2) (.int .i64 0))):=fun ty =>
  run_clear2 W1 74 ty Tryz.underlying74 g _ _ _ (by omega) (fun c hc=>by rw [Nat.zero_add] at *;rw [hR1.cell (by omega)];rfl) (fun c hc=>hR1.frozen _)
 have hqc:q<cp:=by omega
 have hqz:(q:Int)≤n:=by omega
 have hq0:(0:Int)≤q:=by omega
 have G1:Hid (w.grownBy W1 (some g)):=by
  show w.grownBy W1 (some g);have h:=grown_setCells g news (0+i*2) w.drew;rw [hW1];exact⟨h.os,h.tape,h.output,h.size,h.block⟩
 have hW:Hid (W1=w.drew.setCells g (0+i*2) news):=hW1;have R1:=zh hR1
 have F1:=zh hf1;have HNW:=zh hnews
 have HI:=zh (And.intro hi1 (And.intro hz0 (And.intro hz1 hz2)));clear hi1 hz0 hz1 hz2 hW1 hR1 hf1 hcell hlen hnews hq hqj;have H4:=zh h4
 have H3:=zh h3;have H2:=zh h2
 have H1:Hid (i<j∧j≤n∧n≤cp):=by show _∧_;omega
 have HJ:=zh hj;have mixed:Tryz.prog.follows .mixedOrders=true:=by kernel_rfl
 clear h2 h3 h4 h1 hj hn
 go_enter Tryz.func76,Tryz.ntmps76
 go_wp2_with fail
 go_region_law_o (refine step_append_room rfl (.tmp 22) (.tmp 25) 74 rfl 81 i1 2 Tryz.underlying74 HI.out.1 HI.out.2.2.1 g 0 i cp (by simp [Act.eval,Act.put]) A (n - j) (cp - j) news (by simp [Act.eval,Act.put]) s1.out hsrc.out s2.out (by have:=H1.out;omega) s3.out ?_;rw [← hW.out,HQ.out])
 go_wp2_with fail
 go_ret
 have hn2:(l.eraseIdx i).length=q:=by
  have h1:=H1.out;have h2:=HN.out;have h3:=HJ.out;have h4:=HQ.out
  rw [List.length_eraseIdx_of_lt (by omega)];omega
 refine⟨_,rfl,.inr ⟨cp,_,by rw [hn2];rfl,by rw [hn2];omega,H2.out,rowIs_setCells _ (q*2) W1 f1 R1.out,fun c u hu=>?_⟩,grown_trans G1.out (grown_setCells g _ (q*2) W1) (fun r e=>by simp at e;exact .inl e.symm)⟩
 have hc:=(zq8.1 hu).1;rw [mvCells_length,hn2] at hc;show (if q*2≤c∧_ then _ else f1 c)=u
 rw [if_neg (by omega),F1.out]
 rw [eraseIdx_eq,mvCells_append] at hu;have htl:(zy (l.take i)).length=i*2:=by rw [mvCells_length,List.length_take];have:=HN.out;omega
 by_cases hci:c<i*2
 ·rw [if_neg (by omega)]
  rw [List.getElem?_append_left (by omega)] at hu
  refine H4.out c u ?_;have:zy l=zy (l.take i)++zy (l.drop i):=by rw [← mvCells_append,List.take_append_drop]
  rw [this,List.getElem?_append_left (by omega)]
  exact hu
 have hnl:news.length=(n - j)*2:=s1.out;have:=HQ.out
 rw [if_pos (by omega),Nat.zero_add]
 rw [List.getElem?_append_right (by omega),htl,← HJ.out,← HNW.out] at hu
 rw [hu];rfl
end
end Go.Proofs.YtnkahlloahgifaaGreatDoor
namespace RM
theorem ord_free {spare:Int}{rest out:List Mv}{i:Nat}{m:Mv}(hF:Fit spare rest) (hi:rest.findIdx (free rest)=i) (hm:rest[i]?=some m) :
  ordN spare (mu rest+1) rest out=ordN spare (mu (rest.eraseIdx i)+1) (rest.eraseIdx i) (out++[m])∧mu (rest.eraseIdx i)<mu rest∧Fit spare (rest.eraseIdx i):=by
 have hl:=(List.getElem?_eq_some_iff.1 hm).1;have ha:anyFree rest=true:=(findIdx_lt_iff rest).1 (by rw [hi];exact hl)
 have hmu:=mu_erase hl;refine⟨?_,hmu,hF.erase i⟩;cases rest with
 | nil=>simp at hl
 | cons x r =>
  rw [ordN_free spare ha,hi];have e:(x :: r).getD i (0,0)=m:=by rw [List.getD_eq_getElem?_getD,hm];rfl
  rw [e];exact ordN_fuel _ _ _ _ (hF.erase i) hmu (Nat.lt_succ_self _)
theorem ord_turn {spare:Int}{m:Mv}{r out:List Mv}(hF:Fit spare (m :: r)) (h:¬ (m :: r).findIdx (free (m :: r))<(m :: r).length) :
  ordN spare (mu (m :: r)+1) (m :: r) out=ordN spare (mu (turn spare m.1 (m :: r))+1) (turn spare m.1 (m :: r)) (out++[(spare,m.1)])∧mu (turn spare m.1 (m :: r))<mu (m :: r)∧Fit spare (turn spare m.1 (m :: r)):=by
 have ha:anyFree (m :: r)=false:=by
  cases hq:anyFree (m :: r) with
  | false=>rfl
  | true=>exact absurd ((findIdx_lt_iff _).2 hq) h
 have hmu:=mu_turn hF ha;refine⟨?_,hmu,hF.turn _⟩;rw [ordN_turn spare ha];exact ordN_fuel _ _ _ _ (hF.turn _) hmu (Nat.lt_succ_self _)
def part (spare kept:Int) (k:Nat) (rest:List Mv):List Mv:=(rest.take k).map (fun o=>if o.2=kept then (o.1,spare) else o)++rest.drop k
theorem part_all (spare kept:Int) (rest:List Mv):part spare kept rest.length rest=turn spare kept rest:=by unfold part turn;simp
theorem part_length (spare kept:Int) (k:Nat) (rest:List Mv):(part spare kept k rest).length=rest.length:=by unfold part;simp;omega
theorem part_at {spare kept:Int}{k:Nat}{rest:List Mv}{m:Mv}(h:rest[k]?=some m):(part spare kept k rest)[k]?=some m:=by
 have hk:=(List.getElem?_eq_some_iff.1 h).1;unfold part;rw [List.getElem?_append_right (by simp;omega)]
 simp only [List.length_map,List.length_take,List.getElem?_drop];rw [show k+(k - min k rest.length)=k from by omega];exact h
theorem part_succ {spare kept:Int}{k:Nat}{rest:List Mv}{m:Mv}(h:rest[k]?=some m):part spare kept (k+1) rest=if m.2=kept then (part spare kept k rest).set k (m.1,spare) else part spare kept k rest:=by
 have hk:=(List.getElem?_eq_some_iff.1 h).1;have e:rest.drop k=m :: rest.drop (k+1):=by
  rw [List.drop_eq_getElem_cons hk];congr 1;exact(List.getElem?_eq_some_iff.1 h).2
 have hl:((rest.take k).map fun o=>if o.2=kept then (o.1,spare) else o).length=k:=by simp;omega
 unfold part;rw [List.take_add_one,h,e];simp only [Option.toList_some,List.map_append,List.map_cons,List.map_nil,List.append_assoc,List.singleton_append]
 split
 ·rw [List.set_append_right _ _ (by omega),hl,Nat.sub_self];rfl
 rfl
end RM
namespace Go.Proofs.YtnkahlloahgifaaGreatDoor
section
open Go.RowKit RG Go.Maps
theorem mvCells_set:∀ (l:List RM.Mv) (i:Nat) (m:RM.Mv) (c:Int),l[i]?=some m→zy (l.set i (m.1,c))=(zy l).set (i*2+1) (.int .i64 c)
 | [],i,m,c,h=>by simp at h
 | a :: l,0,m,c,h=>by
  simp at h;subst h;rfl
 | a :: l,i+1,m,c,h=>by
  have e:∀ l:List RM.Mv,zy (a :: l) = .int .i64 a.1 :: .int .i64 a.2 :: zy l:=fun _=>rfl
  rw [zq6,e,e,mvCells_set l i m c (by simpa using h),show (i+1)*2+1=i*2+1+1+1 from by omega,zq6,zq6]
theorem RestAt.setFrom {w:World}{g:Nat}{v:Value}{l:List RM.Mv}{i:Nat}{m:RM.Mv}{c:Int}(h:RestAt w g v l) (hm:l[i]?=some m):RestAt (w.setCell ⟨g,i*2+1,none⟩ (.int .i64 c)) g v (l.set i (m.1,c)):=by
 have hi:=(zq8.1 hm).1;rcases h with ⟨rfl,_⟩|⟨cp,f,rfl,h1,h2,h3,h4⟩
 ·simp at hi
 refine .inr ⟨cp,_,by rw [List.length_set],by rw [List.length_set];exact h1,h2,h3.set (i*2+1) _,fun j u hu=>?_⟩
 rw [mvCells_set l i m c hm] at hu;show (if j=i*2+1 then _ else f j)=u
 by_cases e:j=i*2+1
 ·subst e
  rw [if_pos rfl];rw [List.getElem?_set_self (by rw [mvCells_length];omega)] at hu
  exact Option.some.inj hu
 rw [if_neg e];rw [List.getElem?_set_ne (fun h=>e h.symm)] at hu
 exact h4 j u hu
theorem MvOwn.keep {w w':World}{B:Nat}{v:Value}{l:List RM.Mv}(h:MvOwn w B v l) (hk:∀ k,B≤k→k<w.heap.size→w'.heap[k]?=w.heap[k]?):MvOwn w' B v l:=by
 obtain⟨h1,h2⟩:=h;refine⟨h1,?_⟩;rcases h2 with h2 | ⟨g,cap,cur,rfl,hb,hg,rest⟩
 ·exact .inl h2
 exact .inr ⟨g,cap,cur,rfl,hb,(hk g hb (zq7.1 hg).1).trans hg,rest⟩
theorem MvOwn.shape {w:World}{B:Nat}{v:Value}{l:List RM.Mv}(h:MvOwn w B v l):∃ a c,v = .slice a l.length c:=by
 rcases h.2 with ⟨rfl,h0⟩|⟨g,cap,cur,rfl,_⟩
 ·exact⟨none,0,by rw [h0]⟩
 exact⟨_,_,rfl⟩
theorem RestAt.shape {w:World}{g:Nat}{v:Value}{l:List RM.Mv}(h:RestAt w g v l):∃ a c,v = .slice a l.length c:=by
 rcases h with ⟨rfl,rfl⟩|⟨cp,f,rfl,_⟩
 ·exact⟨none,0,rfl⟩
 exact⟨_,_,rfl⟩
theorem RestAt.full {w:World}{g:Nat}{v:Value}{l:List RM.Mv}(h:RestAt w g v l) (h0:0<l.length):∃ cp,v = .slice (some ⟨g,0,none⟩) l.length cp∧(∀ (i:Nat) m,l[i]?=some m→w.cell? ⟨g,i*2,none⟩=some (.int .i64 m.1)∧w.cell? ⟨g,i*2+1,none⟩=some (.int .i64 m.2))∧∀ i,w.frozen? ⟨g,i,none⟩=false:=by
 rcases h with ⟨rfl,rfl⟩|⟨cp,f,rfl,h1,h2,h3,h4⟩
 ·simp at h0
 refine⟨cp,rfl,fun i m hm=>?_,fun i=>h3.frozen i⟩
 have hi:=(zq8.1 hm).1;obtain⟨a,b⟩:=mvCells_at l i m hm;exact⟨by rw [h3.cell (by omega),h4 _ _ a],by rw [h3.cell (by omega),h4 _ _ b]⟩
end
section
open Go.RowKit RG Go.Maps
def OrP (w:World) (l:List RM.Mv) (spare:Int) (e:Ending) (w':World):Prop :=
 Below w.heap.size w w'∧((RM.areMoves l spare=true∧∃ v,MvsAt w' v (RM.order l spare)∧e = .returned (.tuple #[v,.int .i64 0]))∨(RM.areMoves l spare=false∧e = .returned (.tuple #[.slice none 0 0,.int .i64 1])))
structure OrM (w:World) (B rc g:Nat) (rest out:List RM.Mv) (v vo:Value) (wr:World):Prop where
 cell:wr.cell? ⟨rc,0,none⟩=some v
 froz:wr.frozen? ⟨rc,0,none⟩=false
 rst:RestAt wr g v rest
 ot:MvOwn wr B vo out
 below:Below w.heap.size w wr
 size:B≤wr.heap.size
structure OrC (w:World) (B rc g:Nat):Prop where
 gB:g<B
 rcB:rc<B
 ne:g≠rc
 wg:w.heap.size≤g
 wrc:w.heap.size≤rc
structure OrL (l:List RM.Mv) (spare:Int) (rest out:List RM.Mv):Prop where
 fit:RM.Fit spare rest
 ord:RM.ordN spare (RM.mu rest+1) rest out=RM.order l spare
 few:rest.length≤16
 outs:out.length+RM.mu rest≤40
section
variable {w wr W:World} {B rc g:Nat} {l rest out rest' out':List RM.Mv} {spare:Int} {v vo v' vo':Value}
theorem OrL.start (h:RM.areMoves l spare=true):OrL l spare (RM.rest0 l) []:=by
 have hl:(RM.rest0 l).length≤16:=zr5 (List.length_filter_le _ _) (RM.areMoves_iff.1 h).1;refine⟨RM.rest0_fit h,rfl,hl,?_⟩;unfold RM.mu
 split<;>simp<;>omega
theorem OrL.free {i:Nat}{m:RM.Mv}(h:OrL l spare rest out) (hi:rest.findIdx (RM.free rest)=i) (hm:rest[i]?=some m):OrL l spare (rest.eraseIdx i) (out++[m])∧RM.mu (rest.eraseIdx i)<RM.mu rest:=by
 obtain⟨h1,h2,h3⟩:=RM.ord_free (out:=out) h.fit hi hm;refine⟨⟨h3,h1.symm.trans h.ord,zr5 (List.length_eraseIdx_le _ _) h.few,?_⟩,h2⟩;have:=h.outs;rw [zr2,List.length_singleton];omega
theorem OrL.turn {m:RM.Mv}{r:List RM.Mv}(h:OrL l spare (m :: r) out) (hi:¬ (m :: r).findIdx (RM.free (m :: r))<(m :: r).length):OrL l spare (RM.turn spare m.1 (m :: r)) (out++[(spare,m.1)])∧RM.mu (RM.turn spare m.1 (m :: r))<RM.mu (m :: r):=by
 obtain⟨h1,h2,h3⟩:=RM.ord_turn (out:=out) h.fit hi;refine⟨⟨h3,h1.symm.trans h.ord,by rw [RM.turn_length];exact h.few,?_⟩,h2⟩
 have:=h.outs;rw [zr2,List.length_singleton];omega
theorem own_ge (h:MvOwn wr B vo out) {k:Nat}(hk:vo.ownBlock=some k):B≤k∧k<wr.heap.size:=World.ownsRow.lt h k hk
theorem OrM.keep (h:OrM w B rc g rest out v vo wr) (hC:OrC w B rc g) (hb:Below wr.heap.size wr W):OrM w B rc g rest out v vo W :=
 ⟨zd hb _ _ h.cell,(World.frozen?_of_block (a:=⟨rc,0,none⟩) (hb.block rc (zs3 _ _ h.cell))).trans h.froz,by
  rcases h.rst with e | ⟨cp,f,e,h1,h2,h3,h4⟩
  ·exact .inl e
  exact .inr ⟨cp,f,e,h1,h2,h3.of_block (hb.block _ h3.lt),h4⟩,h.ot.keep fun k _ hk=>hb.block k hk,h.below.trans (hb.mono h.below.size),zr5 h.size hb.size⟩
theorem OrM.push (h:OrM w B rc g rest out v vo wr) (hC:OrC w B rc g) (hg:wr.grownBy W vo.ownBlock) (ho:MvOwn W B vo' out'):OrM w B rc g rest out' v vo' W:=by
 have hrc:rc<wr.heap.size:=zs3 _ _ h.cell;have brc:=hg.block rc hrc (fun e=>by have:=(own_ge h.ot e.symm).1;have:=hC.rcB;omega)
 refine⟨(World.cell?_of_block (a:=⟨rc,0,none⟩) brc).trans h.cell,(World.frozen?_of_block (a:=⟨rc,0,none⟩) brc).trans h.froz,?_,ho,h.below.grown hg h.below.size (fun r e=>?_),zr5 h.size hg.size⟩
 ·rcases h.rst with e | ⟨cp,f,e,h1,h2,h3,h4⟩
  ·exact .inl e
  exact .inr ⟨cp,f,e,h1,h2,h3.of_block (hg.block _ h3.lt (fun e=>by have:=(own_ge h.ot e.symm).1;have:=hC.gB;omega)),h4⟩
 have:=(own_ge h.ot e).1;have:=hC.gB;have:=hC.wg;omega
theorem OrM.put (h:OrM w B rc g rest out v vo wr) (hC:OrC w B rc g) (hg:wr.grownBy W (some g)) (hr:RestAt W g v' rest'):OrM w B rc g rest' out v' vo (W.setCell ⟨rc,0,none⟩ v'):=by
 have hrc:rc<wr.heap.size:=zs3 _ _ h.cell;have brc:=hg.block rc hrc (fun e=>hC.ne (by simpa using e.symm))
 have c1:=(World.cell?_of_block (a:=⟨rc,0,none⟩) brc).trans h.cell;refine⟨World.cell?_setCell_same _ _ _ c1,?_,hr.keep (zt1 _ _ _ _ hC.ne),h.ot.keep fun k hk hk2=>?_,?_,?_⟩
 ·rw [World.frozen?_setCell];exact(World.frozen?_of_block (a:=⟨rc,0,none⟩) brc).trans h.froz
 ·rw [zt1 _ _ _ _ (by have:=hC.rcB;show k≠rc;omega)]
  exact hg.block k hk2 (fun e=>by have:=hC.gB;simp at e;omega)
 ·exact(h.below.grown hg h.below.size (fun r e=>by have:=hC.wg;simp at e;omega)).setCell (by exact hC.wrc) _
 have h1:=h.size;have h2:=hg.size;simp;omega
theorem OrM.change (h:OrM w B rc g rest out v vo wr) (hC:OrC w B rc g) (hg:wr.grownBy W (some g)) (hr:RestAt W g v rest'):OrM w B rc g rest' out v vo W:=by
 have hrc:rc<wr.heap.size:=zs3 _ _ h.cell;have brc:=hg.block rc hrc (fun e=>hC.ne (by simpa using e.symm))
 refine⟨(World.cell?_of_block (a:=⟨rc,0,none⟩) brc).trans h.cell,(World.frozen?_of_block (a:=⟨rc,0,none⟩) brc).trans h.froz,hr,h.ot.keep fun k hk hk2=>hg.block k hk2 (fun e=>by have:=hC.gB;simp at e;omega),?_,zr5 h.size hg.size⟩
 exact h.below.grown hg h.below.size (fun r e=>by have:=hC.wg;simp at e;omega)
end
theorem MvOwn.rest' {w:World}{base:Nat}{v:Value}{l:List RM.Mv}(h:MvOwn w base v l):∃ g,base≤g∧RestAt w g v l∧(0<l.length→g<w.heap.size):=by
 obtain⟨h1,h2⟩:=id h;rcases h2 with ⟨rfl,h0⟩|⟨g,cap,cur,rfl,hb,hg,k1,k2,k3,k4⟩
 ·exact⟨base,zr4 _,.inl ⟨List.eq_nil_of_length_eq_zero h0,rfl⟩,fun h=>by omega⟩
 refine⟨g,hb,.inr ⟨cap,fun i=>cur[i]?.getD default,rfl,k1,k2,⟨cur,hg,k3,fun i hi=>?_⟩,fun j u hu=>?_⟩,fun _=>(zq7.1 hg).1⟩
 ·show cur[i]?=some (cur[i]?.getD default);rw [Array.getElem?_eq_getElem (by omega)];rfl
 have hj:=(zq8.1 hu).1;rw [mvCells_length] at hj;rw [← k4,List.getElem?_take_of_lt hj,Array.getElem?_toList] at hu;show cur[j]?.getD default=u;rw [hu];rfl
theorem order_any {w:World}{v:Value}{l:List RM.Mv}{spare:Int}(h:MvsAt w v l):Calls Tryz.prog 40 #[v,.int .i64 spare] w (OrP w l spare):=by
 have AM:=zh (areMoves_any (spare:=spare) h);have HV:=zh h
 obtain⟨ad,c,rfl,-⟩:=id h;obtain⟨n,hn⟩:∃ n,n=l.length:=⟨_,rfl⟩;rw [← hn] at AM HV ⊢;have HN:=zh hn;clear h hn;cases ham:RM.areMoves l spare with
 | false =>
  rw [ham] at AM;have E:=zh ham;clear ham
  go_enter Tryz.func40,Tryz.ntmps40
  go_wp2_with (go_at_call 68;refine(AM.out).mono ?_;rintro e w1 ⟨rfl,hb⟩)
  go_ret2
  exact⟨hb,.inr ⟨E.out,rfl⟩⟩
 | true =>
  rw [ham] at AM;have E:=zh ham;have HL:Hid (l.length≤16):=(RM.areMoves_iff.1 ham).1
  clear ham
  go_enter Tryz.func40,Tryz.ntmps40
  go_wp2_with (go_at_call 68;refine(AM.out).mono ?_;rintro e w1 ⟨rfl,hb⟩)
  have HB1:=zh hb;clear hb;have eg:=same_fun.enter
  refine(clone_any (HV.out.kept (zd HB1.out)) (by have:=HL.out;omega)).mono ?_
  rintro e w2 ⟨v2,rfl,ho2,hb2⟩;have HO2:=zh ho2;have HB2:=zh (HB1.out.trans (hb2.mono HB1.out.size))
  clear ho2 hb2;obtain⟨g,hgb,hrs,hgl⟩:=HO2.out.rest';have HGB:=zh hgb;have HGL:=zh hgl
  have DF:=zh (deleteFunc_any same_fun hrs (by have:=HL.out;omega))
  obtain⟨va,vc,rfl⟩:=hrs.shape;clear hgb hgl hrs;obtain⟨n2,hn2⟩:∃ n,n=l.length:=⟨_,rfl⟩;rw [← hn2] at DF HO2 ⊢;have HN2:=zh hn2;clear hn2
  go_wp2_with fail
  refine DF.out.mono ?_;rintro e w3 ⟨v3,rfl,hr3,hg3⟩;have HR3:Hid (RestAt w3 g v3 (RM.rest0 l)):=hr3;have HG3:=zh hg3
  have HB3:Hid (Below w.heap.size w w3):=HB2.out.grown hg3 HB2.out.size (fun r e=>by simp at e;have:=HGB.out;have:=HB1.out.size;omega)
  obtain⟨va3,vc3,hv3⟩:=hr3.shape;obtain⟨n3,hn3⟩:∃ n,n=(RM.rest0 l).length:=⟨_,rfl⟩;rw [show (l.filter fun m => !decide (m.1=m.2))=RM.rest0 l from rfl,← hn3] at hv3
  subst hv3;have HN3:=zh hn3;clear hr3 hg3 hn3
  by_cases h0:0<n3
  ·have HC:Hid (OrC w (w3.heap.size+1) w3.heap.size g):=by
    show OrC _ _ _ _;have hlt:g<w3.heap.size:=HR3.out.lt (by rw [← HN3.out];exact h0)
    have h1:=HGB.out;have h2:=HB1.out.size;have h3:=HB3.out.size
    exact⟨by omega,by omega,by omega,by omega,by omega⟩
   have HM0:Hid (OrM w (w3.heap.size+1) w3.heap.size g (RM.rest0 l) [] (.slice va3 n3 vc3) (.slice none 0 0) (w3.alloc (.cells #[.slice va3 n3 vc3] 74))) :=
    ⟨by rw [zb _ _ 0 _ _ _ (zs2 w3 _)];rfl,zs1 _ _ _ _ _ (zs2 w3 _),HR3.out.keep (zt2 _ _ _ (HR3.out.lt (by rw [← HN3.out];exact h0))),World.ownsRow_nil _ _ _ _,HB3.out.alloc HB3.out.size _,by simp⟩
   have HL0:=zh (OrL.start E.out);clear h0
   go_wp2_with fail
   go_loopg [6] (RM.mu (RM.rest0 l)) (fun gk vo wr=>∃ rest out v,gk=RM.mu rest∧OrM w (w3.heap.size+1) w3.heap.size g rest out v vo wr∧OrL l spare rest out)
   case atStart=>exact⟨_,_,_,rfl,HM0.out,HL0.out⟩
   obtain⟨rest,out,v,hgk,hm,hl⟩:=hrel;have KM:=zh hm;have KL:=zh hl
   have KG:=zh hgk;obtain⟨nr,hnr⟩:∃ n,n=rest.length:=⟨_,rfl⟩;have HNR:=zh hnr
   have hnz:(nr:Int)≤16:=by have:=hl.few;omega
   obtain⟨oa,oc,hvo⟩:=hm.ot.shape;obtain⟨no,hno⟩:∃ n,n=out.length:=⟨_,rfl⟩;rw [← hno] at hvo;have HNO:=zh hno;have hnoz:(no:Int)≤40:=by have:=hl.outs;omega
   by_cases hr0:0<nr
   ·obtain⟨cp,hv,hat,hfr⟩:=hm.rst.full (by omega)
    rw [← hnr] at hv;subst hv;have hr0z:(0:Int)<nr:=by omega
    have IX:=zh (indexFunc_any (free_fun w3.heap.size rest (by have:=hl.few;omega)) hm.rst.mvs (by have:=hl.few;omega) ⟨_,hm.cell,hm.rst.mvs⟩)
    have eg73:=(free_fun w3.heap.size rest (by have:=hl.few;omega)).enter
    have c0:=hm.cell;subst hvo
    by_cases hx:rest.findIdx (RM.free rest)<rest.length
    ·obtain⟨i,hi⟩:∃ i,rest.findIdx (RM.free rest)=i:=⟨_,rfl⟩
     rw [hi] at hx;obtain⟨⟨a,b⟩,hmv⟩:∃ m,rest[i]?=some m:=⟨_,zq9 hx⟩;have IX2:Hid (Calls Tryz.prog 72 #[.slice (some ⟨g,0,none⟩) nr cp,.func (.func 73) #[] #[.pointer (some ⟨w3.heap.size,0,none⟩)]] wr fun e w'=>Below wr.heap.size wr w'∧e = .returned (.int .i64 (i:Int))):=by
      refine IX.out.mono ?_;rintro e w' ⟨hb,he⟩;rw [hi,if_pos hx] at he;exact⟨hb,he⟩
     have HIX:=zh hi;have HMV:=zh hmv
     have HXL:=zh hx;have hiz:(i:Int)<nr:=by omega
     have hi0:(0:Int)≤i:=by omega
     clear hm hl hgk hnr hno IX hat hfr hi hmv hx
     go_wp2_with fail
     refine IX2.out.mono ?_;rintro e w4 ⟨hb4,rfl⟩;have M4:=zh (KM.out.keep HC.out hb4);clear hb4 c0;have c0:=M4.out.cell
     obtain⟨cp',hv,hat,hfr⟩:=M4.out.rst.full (by have:=HNR.out;omega)
     rw [← HNR.out] at hv;simp only [Value.slice.injEq,true_and] at hv;subst hv;obtain⟨y0,y1⟩:=hat i _ HMV.out;clear hat hfr;obtain⟨i0,hi1,hz0,hz1,hz2⟩:=info_parts Tryz.info81;have HI:=zh (And.intro hi1 (And.intro hz0 (And.intro hz1 hz2)));have M5:=zh (M4.out.keep HC.out ((zs9 _ w4).alloc (zr4 _) (.cells #[.int .i64 a,.int .i64 b] 81)))
     have O5:Hid (World.ownsRow (w4.alloc (.cells #[.int .i64 a,.int .i64 b] 81)) (w3.heap.size+1) 81 2 (.slice oa no oc) no (zy out)):=by have:=M5.out.ot;unfold MvOwn at this;rw [← HNO.out] at this;exact this
     have N5:Hid (∀ (j:Nat) (u:Value),[Value.int .i64 a,Value.int .i64 b][j]?=some u→(w4.alloc (.cells #[.int .i64 a,.int .i64 b] 81)).cell? ((⟨w4.heap.size,0,none⟩:Addr).add j)=some u):=fun j u hu=>by
      rw [Addr.add_lit,zb _ _ _ _ _ _ (zs2 w4 _),Nat.zero_add]
      match j,hu with
      | 0,hu=>exact hu
      | 1,hu=>exact hu
      | j+2,hu=>simp at hu
     have hno2:no+1≤maxLen∧(no+1)*16≤140737488355328:=by simp only [maxLen];omega
     have HNB:=zh hno2;clear hi1 hz0 hz1 hz2 hno2
     go_wp2_with (at_builtin;refine wpList_append_own _ rfl _ _ 74 rfl (w3.heap.size+1) 81 i0 (.agg #[.int .i64 0,.int .i64 0]) 2 16 Tryz.underlying74 HI.out.1 HI.out.2.1 HI.out.2.2.1 HI.out.2.2.2 rfl (by decide) (.slice oa no oc) no (zy out) rfl O5.out ⟨w4.heap.size,0,none⟩ 1 1 [.int .i64 a,.int .i64 b] rfl rfl N5.out (fun u hu=>by simp at hu;rcases hu with rfl | rfl<;>rfl) HNB.out.1 HNB.out.2 M5.out.size ?_)
     intro vo' w6 hown hg6 _;have M6:Hid (OrM w (w3.heap.size+1) w3.heap.size g rest (out++[(a,b)]) (.slice (some ⟨g,0,none⟩) nr cp) vo' w6):=M5.out.push HC.out hg6 (by
      show World.ownsRow _ _ _ _ _ _ _;rw [zr2,List.length_singleton,← HNO.out,mvCells_append];exact hown)
     clear hown hg6 y0 y1 c0;have c0:=M6.out.cell;have DL:=zh (delete_any (j:=i+1) rfl M6.out.rst HXL.out (by have:=KL.out.few;omega))
     rw [show (((i+1:Nat)):Int)=(i:Int)+1 from by push_cast;rfl] at DL
     go_wp2_with fail
     refine DL.out.mono ?_;rintro e w7 ⟨v7,rfl,hr7,hg7⟩;have M7:=zh (M6.out.put HC.out hg7 hr7);have LF:=zh (KL.out.free HIX.out HMV.out)
     have brc:=hg7.block w3.heap.size (zs3 _ _ c0) (fun e=>HC.out.ne (by simpa using e.symm))
     have c7:=(World.cell?_of_block (a:=⟨w3.heap.size,0,none⟩) brc).trans c0;have f7:=(World.frozen?_of_block (a:=⟨w3.heap.size,0,none⟩) brc).trans M6.out.froz
     obtain⟨va7,vc7,hv7⟩:=hr7.shape;obtain⟨n7,hn7⟩:∃ n,n=(rest.eraseIdx i).length:=⟨_,rfl⟩;rw [← hn7] at hv7;subst hv7;clear hr7 hg7 brc c0 hn7
     go_wp2_with fail
     go_roundg (RM.mu (rest.eraseIdx i))
     case measure=>rw [KG.out];exact LF.out.2
     case rel=>exact⟨_,_,_,rfl,M7.out,LF.out.1⟩
    obtain⟨m,r,hmr⟩:∃ m r,rest=m :: r:=by
     cases rest with
     | nil=>have:=HNR.out;simp at this;omega
     | cons m r=>exact⟨m,r,rfl⟩
    subst hmr;have IX2:Hid (Calls Tryz.prog 72 #[.slice (some ⟨g,0,none⟩) nr cp,.func (.func 73) #[] #[.pointer (some ⟨w3.heap.size,0,none⟩)]] wr fun e w'=>Below wr.heap.size wr w'∧e = .returned (.int .i64 (-1))):=by
     refine IX.out.mono ?_;rintro e w' ⟨hb,he⟩;rw [if_neg hx] at he;exact⟨hb,he⟩
    have LF:=zh (KL.out.turn hx);clear hm hl hgk hnr hno IX hat hfr hx
    go_wp2_with fail
    refine IX2.out.mono ?_;rintro e w4 ⟨hb4,rfl⟩;have M4:=zh (KM.out.keep HC.out hb4);clear hb4 c0;have c0:=M4.out.cell
    obtain⟨cp',hv,hat,hfr⟩:=M4.out.rst.full (by have:=HNR.out;omega)
    rw [← HNR.out] at hv;simp only [Value.slice.injEq,true_and] at hv;subst hv;obtain⟨y0,y1⟩:=hat 0 m rfl;clear hat hfr;obtain⟨i0,hi1,hz0,hz1,hz2⟩:=info_parts Tryz.info81;have HI:=zh (And.intro hi1 (And.intro hz0 (And.intro hz1 hz2)));have M5:=zh (M4.out.keep HC.out ((zs9 _ w4).alloc (zr4 _) (.cells #[.int .i64 spare,.int .i64 m.1] 81)))
    have O5:Hid (World.ownsRow (w4.alloc (.cells #[.int .i64 spare,.int .i64 m.1] 81)) (w3.heap.size+1) 81 2 (.slice oa no oc) no (zy out)):=by have:=M5.out.ot;unfold MvOwn at this;rw [← HNO.out] at this;exact this
    have N5:Hid (∀ (j:Nat) (u:Value),[Value.int .i64 spare,Value.int .i64 m.1][j]?=some u→(w4.alloc (.cells #[.int .i64 spare,.int .i64 m.1] 81)).cell? ((⟨w4.heap.size,0,none⟩:Addr).add j)=some u):=fun j u hu=>by
     rw [Addr.add_lit,zb _ _ _ _ _ _ (zs2 w4 _),Nat.zero_add]
     match j,hu with
     | 0,hu=>exact hu
     | 1,hu=>exact hu
     | j+2,hu=>simp at hu
    have hno2:no+1≤maxLen∧(no+1)*16≤140737488355328:=by simp only [maxLen];omega
    have HNB:=zh hno2;clear hi1 hz0 hz1 hz2 hno2
    go_wp2_with (at_builtin;refine wpList_append_own _ rfl _ _ 74 rfl (w3.heap.size+1) 81 i0 (.agg #[.int .i64 0,.int .i64 0]) 2 16 Tryz.underlying74 HI.out.1 HI.out.2.1 HI.out.2.2.1 HI.out.2.2.2 rfl (by decide) (.slice oa no oc) no (zy out) rfl O5.out ⟨w4.heap.size,0,none⟩ 1 1 [.int .i64 spare,.int .i64 m.1] rfl rfl N5.out (fun u hu=>by simp at hu;rcases hu with rfl | rfl<;>rfl) HNB.out.1 HNB.out.2 M5.out.size ?_)
    intro vo' w6 hown hg6 _;have M6:Hid (OrM w (w3.heap.size+1) w3.heap.size g (m :: r) (out++[(spare,m.1)]) (.slice (some ⟨g,0,none⟩) nr cp) vo' w6):=M5.out.push HC.out hg6 (by
     show World.ownsRow _ _ _ _ _ _ _;rw [zr2,List.length_singleton,← HNO.out,mvCells_append];exact hown)
    clear hown hg6 y0 y1 c0;have c0:=M6.out.cell
    go_wp2_with fail
    go_loopw [50] (fun iv wl=>∃ k:Nat,k≤nr∧iv = .int .i64 k∧OrM w (w3.heap.size+1) w3.heap.size g (RM.part spare m.1 k (m :: r)) (out++[(spare,m.1)]) (.slice (some ⟨g,0,none⟩) nr cp) vo' wl) (fun iv _=>nr - (intOf iv).toNat)
    case atStart=>exact⟨0,zv3 _,rfl,M6.out⟩
    obtain⟨k,hk,rfl,hml⟩:=hrel;have KK:=zh hk;have ML:=zh hml
    have cl:=hml.cell;clear hk hml c0
    by_cases hlt:k<nr
    ·have hlz:(k:Int)<nr:=by omega
     have hk0:(0:Int)≤k:=by omega
     obtain⟨⟨a,b⟩,hmv⟩:∃ x,(m :: r)[k]?=some x:=⟨_,zq9 (by have:=HNR.out;omega)⟩
     have hpl:=RM.part_length spare m.1 k (m :: r);obtain⟨cp',hv,hat,hfr⟩:=ML.out.rst.full (by have:=HNR.out;omega)
     rw [hpl,← HNR.out] at hv;simp only [Value.slice.injEq,true_and] at hv;subst hv;have HPA:=RM.part_at (spare:=spare) (kept:=m.1) hmv;obtain⟨y0,y1⟩:=hat k _ HPA;have f1:=hfr (k*2+1)
     have PS:=RM.part_succ (spare:=spare) (kept:=m.1) hmv;have HLT:=zh hlt
     have HP:=zh HPA;simp only [] at y0 y1;clear hat hfr hpl HPA hmv hlt
     by_cases hbk:b=m.1
     ·have PS2:Hid (RM.part spare m.1 (k+1) (m :: r)=(RM.part spare m.1 k (m :: r)).set k (a,spare)):=by show _=_;rw [PS];exact if_pos hbk
      have db:(b==m.1)=true:=by simp [hbk]
      clear PS hbk
      go_wp2_with fail
      go_roundw
      case rel =>
       refine⟨k+1,HLT.out,by go_num,?_⟩
       rw [PS2.out];exact ML.out.change HC.out (grown_setCell wr ⟨g,k*2+1,none⟩ _) (ML.out.rst.setFrom HP.out)
      case measure=>have:=HLT.out;simp [intOf];omega
     have PS2:Hid (RM.part spare m.1 (k+1) (m :: r)=RM.part spare m.1 k (m :: r)):=by show _=_;rw [PS];exact if_neg hbk
     have db:(b==m.1)=false:=by simp [hbk]
     clear PS hbk
     go_wp2_with fail
     go_roundw
     case rel =>
      refine⟨k+1,HLT.out,by go_num,?_⟩
      rw [PS2.out];exact ML.out
     case measure=>have:=HLT.out;simp [intOf];omega
    have hkn:k=(m :: r).length:=by have:=KK.out;have:=HNR.out;omega
    have hlz:(nr:Int)≤k:=by omega
    have MT:Hid (OrM w (w3.heap.size+1) w3.heap.size g (RM.turn spare m.1 (m :: r)) (out++[(spare,m.1)]) (.slice (some ⟨g,0,none⟩) nr cp) vo' wr):=by
     have:=ML.out;rw [hkn,RM.part_all] at this;exact this
    clear hkn hlt
    go_wp2_with fail
    go_roundg (RM.mu (RM.turn spare m.1 (m :: r)))
    case measure=>rw [KG.out];exact LF.out.2
    case rel=>exact⟨_,_,_,rfl,MT.out,LF.out.1⟩
   have hr1:rest=[]:=List.eq_nil_of_length_eq_zero (by omega)
   obtain⟨va,vc,hv⟩:=hm.rst.shape;have hn0:nr=0:=by omega
   rw [← hnr,hn0] at hv;subst hv;have c0:=hm.cell;have EO:Hid (out=RM.order l spare):=by have:=hl.ord;rw [hr1] at this;exact this
   have OM:=zh hm.ot.at';subst hvo;clear hm hl hgk hr0
   go_wp2_with fail
   go_ret2
   refine⟨KM.out.below,.inl ⟨E.out,_,?_,rfl⟩⟩;rw [← EO.out];exact OM.out
  have e3:n3=0:=by omega
  subst e3;clear h0
  go_wp2_with fail
  go_loopw [6] (fun vo wr=>vo = .slice none 0 0∧wr=w3.alloc (.cells #[.slice va3 0 vc3] 74)) (fun _ _=>0)
  case atStart=>exact⟨rfl,rfl⟩
  obtain⟨rfl,rfl⟩:=hrel
  go_wp2_with fail
  go_ret2
  refine⟨HB3.out.alloc HB3.out.size _,.inl ⟨E.out,_,?_,rfl⟩⟩;have e0:RM.rest0 l=[]:=List.eq_nil_of_length_eq_zero HN3.out.symm;have:RM.order l spare=[]:=by unfold RM.order;rw [e0];rfl
  rw [this];exact⟨none,0,rfl,fun h=>absurd h (by simp)⟩
end
section
open RG
def xEnd:TE := .mk 9 ⟨#[]⟩ [⟨#[107]⟩] .nil .nil
def xAdd:TE := .mk 1 ⟨#[107]⟩ [⟨#[104]⟩,⟨#[115]⟩] .nil (.cons xEnd .nil)
def xRead:TE := .mk 5 ⟨#[115]⟩ [⟨#[114]⟩] .nil (.cons xAdd .nil)
def xMod:TE := .mk 4 ⟨#[114]⟩ [⟨#[116]⟩] .nil (.cons xRead .nil)
def xNil:TE := .mk 9 ⟨#[]⟩ [⟨#[]⟩] .nil .nil
def xSplit:TE := .mk 7 ⟨#[]⟩ [⟨#[99]⟩] (.cons [] xNil (.cons [⟨#[104]⟩,⟨#[116]⟩] xMod .nil)) .nil
def xSum:TE := .mk 5 ⟨#[99]⟩ [⟨#[109]⟩] .nil (.cons xSplit .nil)
def xF:List Nd:=F0 [⟨#[109]⟩] xSum
theorem xsize:xSum.size=7:=by kernel_rfl
theorem xvars:vars xF=[⟨#[109]⟩,⟨#[99]⟩,⟨#[104]⟩,⟨#[116]⟩,⟨#[114]⟩,⟨#[115]⟩,⟨#[107]⟩]:=by kernel_rfl
theorem xlive:liveAt xF 4=[⟨#[104]⟩,⟨#[114]⟩]:=by kernel_rfl
theorem xc1:conflict xF ⟨#[104]⟩ ⟨#[114]⟩=true:=by kernel_rfl
theorem xc2:conflict xF ⟨#[116]⟩ ⟨#[114]⟩=false:=by kernel_rfl
theorem xwidth:width xF=2:=by kernel_rfl
theorem xalloc:alloc xF=([0,0,0,1,1,1,0],2):=by kernel_rfl
theorem xorder:(RM.order [(0,1),(1,0)] 2).length=3:=by kernel_rfl
theorem xmoves:RM.areMoves [(0,1),(1,0)] 2=true:=by kernel_rfl
theorem xnames:(vars xF).all isNm=true:=by kernel_rfl
theorem xform:xF.all (fun d=>nodeOk d.e)=true:=by kernel_rfl
theorem xscope:xSum.inScope [⟨#[109]⟩]=true:=by kernel_rfl
theorem xsmall:xF.all (fun d=>d.binds.all (fun x=>decide (x.size≤1))&&d.e.args.all (fun x=>decide (x.size≤1)))=true:=by kernel_rfl
theorem xnodup:(vars xF).Nodup:=by rw [xvars];decide
theorem xgood:RG.Good isNm [⟨#[109]⟩] xSum where
 params:=by decide
 size:=by rw [xsize];decide
 form:=List.all_eq_true.1 xform
 names:=List.all_eq_true.1 xnames
 nodup:=xnodup
 inScope:=xscope
theorem xreg:regFind (pairs xF (alloc xF).1) ⟨#[115]⟩=some 1:=by kernel_rfl
theorem xpairs:(pairs xF (alloc xF).1).length=7:=by kernel_rfl
end
section
open Go.RowKit RG Go.Maps
theorem Tryz.info61:(Tryz.prog.info? 61).map (fun i=>(i.zero,i.size,i.bytes))=some (some (.agg #[.string ⟨#[]⟩,.int .i64 0]),2,24):=by kernel_rfl
structure AlI (w w1:World) (A:Ad) (fl g ob:Nat) (F:List Nd) (i:Nat) (regs:List Nat) (most:Nat) (done:List Nm) (wr:World):Prop where
 st:(regs,most)=(List.range i).foldl (allocStep F) ((vars F).map fun _=>0,0)
 row:∃ f,AlS wr g F regs done f
 out:wr.heap[ob]?=some (.cells #[.int .i64 (most:Nat),.slice (some ⟨g,0,none⟩) (vars F).length (vars F).length] 56 (0,0))
 most:most≤1000001
 below:Below w1.heap.size w1 wr
theorem allocate_any {Env:World→Prop}{isName:Nm→Bool}{w:World}{v:Value}{ps:List Nm}{e:TE}(h:FnOk Env isName w v ps e):Calls Tryz.prog 26 #[v] w (AlP isName w ps e):=by
 have RD:=zh h.boxed;obtain⟨cs,rfl⟩:=h.cells;have LAW:=zh h
 have B0:Hid (Below w.heap.size w ((w.alloc (.cells cs 29)).alloc (.cells #[.int .i64 0,.slice none 0 0] 56))):=((zs9 _ _).alloc (zr4 _) _).alloc (by simp) _
 have RD2:Hid (Calls Tryz.prog 58 #[.pointer (some ⟨w.heap.size,0,none⟩)] ((w.alloc (.cells cs 29)).alloc (.cells #[.int .i64 0,.slice none 0 0] 56)) (fun en w'=>ReadP isName ((w.alloc (.cells cs 29)).alloc (.cells #[.int .i64 0,.slice none 0 0] 56)) ps e en w')):=h.boxedAt ((zs9 _ _).alloc (zr4 _) _)
 clear h
 go_enter Tryz.func26,Tryz.ntmps26
 go_wp2_with fail
 refine RD2.out.mono ?_;rintro en w1 ⟨hb,⟨hg,A,fl,rfl,hfl⟩|⟨hng,rfl⟩⟩
 ·have HB1:Hid (Below w.heap.size w w1):=B0.out.trans (hb.mono B0.out.size)
  have HG:=zh hg;have HF:=zh hfl
  have HW1:Hid (w.heap.size+1<w1.heap.size):=by have:=hb.size;simp at this;show _<_;omega
  have rbw:w1.heap[w.heap.size+1]?=some (.cells #[.int .i64 0,.slice none 0 0] 56):=by
   rw [hb.block _ (by simp)]
   have:=zs2 (w.alloc (.cells cs 29)) (.cells #[.int .i64 0,.slice none 0 0] 56);rw [World.size_alloc] at this;exact this
  have RBW:=zh rbw;obtain⟨sl,sn,sv,f0,f1,f2,f3⟩:=hfl.at'.flat;obtain⟨-,ad3,c3',hsv3,-⟩:=id f3;have c3:w1.cell? ⟨fl,3,none⟩=some (.slice ad3 (vars (F0 ps e)).length c3'):=by rw [zb _ _ 3 _ _ _ f0,hsv3];rfl
  obtain⟨nv,hnv⟩:∃ n,n=(vars (F0 ps e)).length:=⟨_,rfl⟩;rw [← hnv] at c3;have HNV:=zh hnv;have hnvz:(nv:Int)≤320000:=by have:=hg.few;omega
  obtain⟨lc,lg,lo,c1,hlat⟩:=hfl.links;have HLAT:=zh hlat;obtain⟨n,hn⟩:∃ n,n=(F0 ps e).length:=⟨_,rfl⟩;rw [← hn] at c1;have HN:=zh hn
  have hnz:(n:Int)≤20000:=by have:=hfl.len;omega
  obtain⟨i0,hi0,hz0,hz1,hz2⟩:=info_parts Tryz.info61;obtain⟨f0',hs0⟩:=AlS.made (w:=w1) hnv;have hms:=run_make (P:=Tryz.prog) w1 54 61 i0 (.agg #[.string ⟨#[]⟩,.int .i64 0]) Tryz.underlying54 hi0 hz0 .i64 .i64 (nv:Int) (nv:Int) (by omega) (Int.le_refl _) (by rw [hz2];omega) (by omega)
  rw [hz1,Int.toNat_natCast] at hms
  change _=Result.ok _ (w1.alloc (.cells (madeCells #[.string ⟨#[]⟩,.int .i64 0] (nv*2)) 61)) at hms
  obtain⟨MC,hMC⟩:∃ m,m=madeCells #[.string ⟨#[]⟩,.int .i64 0] (nv*2):=⟨_,rfl⟩;rw [← hMC] at hms hs0;have S0:=zh hs0;clear hb hg hfl rbw f0 f1 f2 f3 hsv3 hnv hlat hn hs0 hMC hi0 hz0 hz1 hz2;have B2:Hid (Below w1.heap.size w1 ((w1.alloc (.cells MC 61)).alloc (.cells #[.int .i64 0,.slice (some ⟨w1.heap.size,0,none⟩) nv nv] 56))):=((zs9 _ _).alloc (zr4 _) _).alloc (by simp) _
  have c1':=zd B2.out _ _ c1;have I0:Hid (AlI w w1 A fl w1.heap.size (w1.heap.size+1) (F0 ps e) 0 ((vars (F0 ps e)).map fun _=>0) 0 [] ((w1.alloc (.cells MC 61)).alloc (.cells #[.int .i64 0,.slice (some ⟨w1.heap.size,0,none⟩) nv nv] 56))):=by
   refine⟨rfl,⟨f0',S0.out.keep (zt2 _ _ _ (by simp))⟩,?_,by omega,B2.out⟩
   have:=zs2 (w1.alloc (.cells MC 61)) (.cells #[.int .i64 0,.slice (some ⟨w1.heap.size,0,none⟩) nv nv] 56);rw [World.size_alloc] at this;rw [this,HNV.out];rfl
  clear S0 B2
  go_wp2_with fail
  clear c3 hms c1 c1'
  go_loopw [29] (fun iv wr=>∃ (i:Nat) (regs:List Nat) (most:Nat),i≤n∧iv = .int .i64 i∧AlI w w1 A fl w1.heap.size (w1.heap.size+1) (F0 ps e) i regs most (vars ((F0 ps e).take i)) wr) (fun iv _=>n - (intOf iv).toNat)
  case atStart=>exact⟨0,_,_,zv3 _,rfl,I0.out⟩
  rename World=>wo
  obtain⟨i,regs,most,hi,rfl,hI⟩:=hrel;have KI:=zh hI;have KN:=zh hi
  clear hi hI I0
  by_cases hlt:i<n
  ·have hlz:(i:Int)<n:=by omega
   have HLT:=zh hlt;have hci:=zd KI.out.below _ _ (HLAT.out i (by rw [← HN.out];exact hlt))
   have LK:=zh ((HF.out.link (i:=i) (by rw [← HN.out];exact hlt)).keep KI.out.below)
   have hmm := @run_makeMap Tryz.prog;have VB:Hid (Below wo.heap.size wo (wo.alloc (.map #[] 0))):=(zs9 _ _).alloc (zr4 _) _
   have HS1:Hid (w1.heap.size+1<wo.heap.size):=(zq7.1 KI.out.out).1;clear hlt
   go_wp2_with fail
   refine(crossing_any (LK.out.keep VB.out)).mono ?_;rintro en w2 ⟨cb,rfl,hcb,hs2,hb2⟩;have HC2:=zh hs2;have HB2:Hid (Below wo.heap.size wo w2):=VB.out.trans (hb2.mono VB.out.size)
   have HT2:Hid (ISet w2 wo.heap.size (ofNats (Tx (F0 ps e) i regs (ikey (VSet (F0 ps e) (cross (F0 ps e) i)))))):=by
    rw [show Tx (F0 ps e) i regs (ikey (VSet (F0 ps e) (cross (F0 ps e) i)))=[] from Tx_start _ _ _ _ (fun x hx=>ikey_iff.2 ⟨1,vset_mem.2 ⟨x,(mem_named.1 hx).1,(mem_named.1 hx).2,rfl,rfl⟩⟩)]
    exact(ISet.made wo).keep (hb2.block _ (by simp))
   have HCB:Hid (wo.heap.size<cb∧cb<w2.heap.size):=⟨by simp at hcb;omega,IMap.lt hs2⟩
   clear hcb hs2 hb2 hci
   go_wp2_with (at_range;refine wpList_irange Tryz.underlying3 rfl _ 108 rfl Tryz.underlying108 cb (VSet (F0 ps e) (cross (F0 ps e) i)) rfl HC2.out ?_;intro w3 hrg0 hg0 hs0)
   go_frame
   have R0:=zh hrg0;have HB3:Hid (Below wo.heap.size wo w3):=HB2.out.grown hg0 HB2.out.size (fun r e=>by cases e)
   have HT3:=zh (HT2.out.keep (hg0.block _ HT2.out.lt (by simp)))
   have HS3:Hid (w2.heap.size<w3.heap.size):=by show _<_;rw [hs0];exact Nat.lt_succ_self _
   obtain⟨f,hf⟩:=KI.out.row;have SF:=zh hf;have OB:=zh KI.out.out
   obtain⟨tb,htb⟩:∃ b,b=wo.heap.size:=⟨_,rfl⟩;have HTB:=zh htb;rw [← htb] at HT3 HCB HB3 HS1 ⊢;rw [← HNV.out] at OB;clear hrg0 hg0 hs0 hf htb HT2 HB2 HC2
   go_loopw [9] (fun _ wl=>∃ (todo:Int→Bool) (cnt:Nat),IRg Tryz.prog wl cb w2.heap.size (VSet (F0 ps e) (cross (F0 ps e) i)) todo cnt∧ISet wl tb (ofNats (Tx (F0 ps e) i regs todo))∧Below tb wo wl∧w2.heap.size<wl.heap.size) (fun _ wl=>wl.rangeLeft cb w2.heap.size)
   case atStart=>exact⟨_,_,R0.out,HT3.out,HB3.out,HS3.out⟩
   obtain⟨todo,cnt,hrg,hset,hbl,hsz⟩:=hrel;have RG1:=zh hrg;have KT:=zh hset
   have KB:=zh hbl;have KS:=zh hsz
   clear hrg hset hbl hsz
   go_wp2_with (at_next;refine wpList_inext Tryz.underlying3 rfl _ rfl cb w2.heap.size _ todo cnt rfl RG1.out ?_ ?_)
   ·intro hl0
    have HT4:Hid (ISet wr tb (ofNats ((named (F0 ps e) (cross (F0 ps e) i)).map fun x=>regs.getD (place (F0 ps e) x) 0))):=by have:=KT.out;rw [Tx_end _ _ _ _ hl0] at this;exact this
    have KBW:Hid (Below w1.heap.size w1 wr):=KI.out.below.trans (KB.out.mono (by have:=HS1.out;omega))
    have LK4:=zh ((HF.out.link (i:=i) (by rw [← HN.out];exact HLT.out)).keep KBW.out)
    have SF4:Hid (∃ f,AlS wr w1.heap.size (F0 ps e) regs (vars ((F0 ps e).take i)++(nd (F0 ps e) i).binds.take 0) f):=⟨f,by rw [List.take_zero,List.append_nil];exact SF.out.keep (KB.out.block _ (by have:=HS1.out;omega))⟩
    have OB4:=zh ((KB.out.block _ HS1.out).trans OB.out);have HTW:Hid (w1.heap.size+1<tb):=HS1.out
    obtain⟨sv,hsv1,hst⟩:=(HF.out.link (i:=i) (by rw [← HN.out];exact HLT.out)).l0
    have hsv:=zd KBW.out _ _ hsv1;clear hsv1;obtain⟨-,sa,sc,rfl,hsl⟩:=hst;have HSL:=zh hsl
    obtain⟨bs,hbs⟩:∃ b,b=(nd (F0 ps e) i).binds:=⟨_,rfl⟩;obtain⟨nb,hnb⟩:∃ n,n=bs.length:=⟨_,rfl⟩;rw [← hbs] at hsv HSL SF4;rw [← hnb] at hsv HSL;have HBS:=zh hbs;have HNB:=zh hnb
    have HBV:Hid (∀ x∈bs,x∈vars (F0 ps e)):=fun x hx=>LK4.out.sub x (by rw [← hbs];exact hx)
    have hnbz:nb≤320000:=by have h1:=binds_le (F:=F0 ps e) (i:=i) (by rw [← HN.out];exact HLT.out);rw [← hbs,← hnb] at h1;have:=HG.out.few;omega
    have HNBZ:=zh hnbz;have hnbi:(nb:Int)≤320000:=by omega
    have GV0:Hid (giveRegs (F0 ps e) (bs.drop 0) ((named (F0 ps e) (cross (F0 ps e) i)).map fun x=>regs.getD (place (F0 ps e) x) 0) (regs,most)=allocStep (F0 ps e) (regs,most) i):=by show _=_;rw [List.drop_zero,hbs];rfl
    have TL0:Hid (((named (F0 ps e) (cross (F0 ps e) i)).map fun x=>regs.getD (place (F0 ps e) x) 0).length≤320000+0):=by show _≤_;rw [zv1];have:=named_le (F:=F0 ps e) (cross (F0 ps e) i);have:=HG.out.few;omega
    have MO4:=zh KI.out.most;have KST:=zh KI.out.st
    clear hl0 hsl hbs hnb hnbz KB KT KS RG1 R0 HT3 HB3 HS3 SF OB KI
    go_wp2_with fail
    clear hsv
    go_loopw [54] (fun iv wl=>∃ (k:Nat) (regs':List Nat) (most':Nat) (T:List Nat),k≤nb∧iv = .int .i64 k∧(∃ f,AlS wl w1.heap.size (F0 ps e) regs' (vars ((F0 ps e).take i)++bs.take k) f) ∧
     wl.heap[w1.heap.size+1]?=some (.cells #[.int .i64 (most':Nat),.slice (some ⟨w1.heap.size,0,none⟩) nv nv] 56 (0,0))∧most'≤1000001∧Below w1.heap.size w1 wl∧ISet wl tb (ofNats T)∧T.length≤320000+k∧giveRegs (F0 ps e) (bs.drop k) T (regs',most')=allocStep (F0 ps e) (regs,most) i) (fun iv _=>nb - (intOf iv).toNat)
    case atStart=>exact⟨0,_,_,_,zv3 _,rfl,SF4.out,OB4.out,MO4.out,KBW.out,HT4.out,TL0.out,GV0.out⟩
    obtain⟨k,regs',most',T,hk,rfl,hsf,hob,hmo,hbl,hse,htl,hgv⟩:=hrel;have KK:=zh hk;have SF:=zh hsf
    have OB:=zh hob;have MO:=zh hmo
    have KB:=zh hbl;have KT:=zh hse
    have TL:=zh htl;have GV:=zh hgv
    clear hk hsf hob hmo hbl hse htl hgv SF4 OB4 HT4 TL0 GV0
    by_cases hlt:k<nb
    ·have hklz:(k:Int)<nb:=by omega
     obtain⟨g4,o4,rfl,hat⟩:=HSL.out (by omega)
     obtain⟨x,hx⟩:∃ x,bs[k]?=some x:=⟨_,zq9 (by have:=HNB.out;omega)⟩
     have hcx:=zd KB.out _ _ (hat k _ (strs_at hx));have HX:=zh hx
     have HXV:=zh (HBV.out x (zr1 hx));have HKL:=zh hlt
     have LOW:=zh (lowest_any KT.out (by have:=TL.out;have:=HNBZ.out;omega))
     obtain⟨r,hr⟩:∃ r,r=low T:=⟨_,rfl⟩;have HR:=zh hr;rw [← hr] at LOW;have HRL:Hid (r≤640000):=by show _≤_;have:=(low_spec T).2.2;have:=TL.out;have:=HNBZ.out;omega
     have hrz:(r:Int)≤640000:=by have:=HRL.out;omega
     clear hat hx hlt hr
     go_upto_region 17 with (go_at_call 63;refine LOW.out.mono ?_;rintro e w' ⟨rfl,rfl⟩)
     go_upto_region 18 with (at_mapUpdate;refine wpList_sput rfl _ _ _ rfl tb (ofNats T) rfl KT.out ?_ ?_ r rfl rfl (wf_nat (by omega)) ?_)
     ·have:=TL.out;have:=HNBZ.out;unfold ofNats;rw [zv1];omega
     ·intro l hn hl
      have h1:=nodup_sub_len hn hl;have:=TL.out;have:=HNBZ.out
      unfold ofNats at h1;rw [zv1] at h1;omega
     intro w6 hm6 hg6;have KT6:Hid (ISet w6 tb (ofNats (T++[low T]))):=by
      have h:ofNats (T++[low T])=ofNats T++[(r:Int)]:=by unfold ofNats;rw [List.map_append,HR.out];rfl
      show ISet _ _ _;rw [h];exact hm6
     have B6:Hid (Below w1.heap.size w1 w6):=KB.out.grown hg6 KB.out.size (fun r e=>by simp at e;have:=HTW.out;omega)
     have OB6:=zh ((hg6.block _ (zq7.1 OB.out).1 (by have:=HTW.out;simp;omega)).trans OB.out)
     obtain⟨f,hf⟩:=SF.out;have SF6:=hf.keep (hg6.block _ hf.row.lt (by have:=HTW.out;simp;omega))
     have hpl:=place_lt HXV.out;have hr6:r≤1000000:=by have:=HRL.out;omega
     obtain⟨f',hf'⟩:=SF6.put HXV.out hr6;have s0:=SF6.row.cell (i:=place (F0 ps e) x*2) (by omega)
     have s1:=SF6.row.cell (i:=place (F0 ps e) x*2+1) (by omega)
     have sf0:=SF6.row.frozen (place (F0 ps e) x*2);have sf1:=SF6.row.frozen (place (F0 ps e) x*2+1)
     have LK6:=(HF.out.link (i:=i) (by rw [← HN.out];exact HLT.out)).keep B6.out
     have p1:(Instr.lookup 116 (.map (some A.pl)) (.string x) false).run Tryz.prog w6.drew = .ok (.int .i64 (place (F0 ps e) x:Nat)) w6.drew:=pmap_run (w:=w6.drew) (LK6.pm.keep rfl) HXV.out;have p2:w6.cell? ⟨fl,4,none⟩=some (.map (some A.pl)):=LK6.f4
     have p3:w6.cell? ⟨w1.heap.size+1,1,none⟩=some (.slice (some ⟨w1.heap.size,0,none⟩) nv nv):=by rw [zb _ _ 1 _ _ _ OB6.out];rfl
     have p0:w6.cell? ⟨w1.heap.size+1,0,none⟩=some (.int .i64 (most':Nat)):=by rw [zb _ _ 0 _ _ _ OB6.out];rfl
     have pf:∀ q,w6.frozen? ⟨w1.heap.size+1,q,none⟩=false:=fun q=>zs1 _ _ q _ _ OB6.out
     have SF9:=zh hf';obtain⟨pl,hpp⟩:∃ q,q=place (F0 ps e) x:=⟨_,rfl⟩;rw [← HNV.out] at hpl;rw [← hpp] at hpl s0 s1 sf0 sf1 p1 SF9;obtain⟨u0,hu0⟩:∃ u,u=f (pl*2):=⟨_,rfl⟩;obtain⟨u1,hu1⟩:∃ u,u=f (pl*2+1):=⟨_,rfl⟩;rw [← hu0] at s0;rw [← hu1] at s1;have HPP:=zh hpp
     have hplz:(pl:Int)<nv:=by omega
     have hpl0:(0:Int)≤pl:=by omega
     have hmoz:(most':Int)≤1000001:=by have:=MO.out;omega
     clear hm6 hg6 hf SF6 hf' LK6 hpp hpl hcx hu0 hu1
     go_upto_region 18 with fail
     refine wp_region_still_tail 12 (by kernel_rfl) (by kernel_rfl) ?_
     simp only [List.take_succ_cons,List.take_zero,List.drop_succ_cons,List.drop_zero,World.drew_eq]
     iterate 12 still_step
     refine wpStill_nil ?_
     go_wp2_with fail
     have hmax:(if (most':Int)<(r:Int)+1 then (r:Int)+1 else (most':Int))=((max most' (r+1):Nat):Int):=by split<;>omega
     first | rw [hmax] | rw [show max (most':Int) ((r:Int)+1)=((max most' (r+1):Nat):Int) from by omega]
     have ebt:bs.take (k+1)=bs.take k++[x]:=by rw [List.take_add_one,HX.out];rfl
     refine⟨⟨k+1,regs'.set pl r,max most' (r+1),T++[low T],HKL.out,by go_num,⟨f',?_⟩,?_,?_,?_,?_,?_,?_⟩,?_⟩
     ·rw [ebt,← List.append_assoc]
      exact SF9.out.keep (zt1 _ ⟨w1.heap.size+1,0,none⟩ _ w1.heap.size (by simp))
     ·exact heap_setCell_same _ (w1.heap.size+1) 0 _ _ _ ((zt1 _ _ _ _ (by simp)).trans ((zt1 _ _ _ _ (by simp)).trans OB6.out))
     ·have:=MO.out;have:=HRL.out;omega
     ·exact(((B6.out.setCell (zr4 _) _).setCell (zr4 _) _).setCell (Nat.le_succ _) _).trans (zj _ _ 1)
     ·have:=HTW.out
      exact KT6.out.keep ((zt1 _ ⟨w1.heap.size+1,0,none⟩ _ tb (by show tb≠w1.heap.size+1;omega)).trans ((zt1 _ ⟨w1.heap.size,pl*2+1,none⟩ _ tb (by show tb≠w1.heap.size;omega)).trans (zt1 _ ⟨w1.heap.size,pl*2,none⟩ _ tb (by show tb≠w1.heap.size;omega))))
     ·have:=TL.out;rw [zr2,List.length_singleton];omega
     ·have h1:=GV.out
      have h2:bs.drop k=x :: bs.drop (k+1):=by
       rw [List.drop_eq_getElem_cons (by have:=HKL.out;have:=HNB.out;omega)];congr 1;exact(zq8.1 HX.out).2
      rw [h2,giveRegs,← HPP.out,← HR.out] at h1;rw [← HR.out];exact h1
     have:=HKL.out;simp [intOf];omega
    have hkn:k=nb:=by have:=KK.out;omega
    have hklz:(nb:Int)≤k:=by omega
    have ST5:Hid ((regs',most')=(List.range (i+1)).foldl (allocStep (F0 ps e)) ((vars (F0 ps e)).map fun _=>0,0)):=by
     show _=_;rw [List.range_succ,List.foldl_append,← KST.out];have h1:=GV.out;rw [hkn,HNB.out,List.drop_length] at h1;exact h1
    have SF5:Hid (∃ f,AlS wr w1.heap.size (F0 ps e) regs' (vars ((F0 ps e).take (i+1))) f):=by
     obtain⟨f,hf⟩:=SF.out;refine⟨f,?_⟩;rw [vars_take_succ (by rw [← HN.out];exact HLT.out),← HBS.out]
     rw [hkn,HNB.out,List.take_length] at hf;exact hf
    have hdk3:decide (k<nb)=false:=by simp;omega
    clear hkn hlt
    go_wp2_with fail
    go_roundw
    case rel=>exact⟨i+1,regs',most',HLT.out,by go_num,ST5.out,SF5.out,by rw [← HNV.out];exact OB.out,MO.out,KB.out⟩
    case measure=>have:=HLT.out;simp [intOf];omega
   intro x v w5 cnt1 hwx hx htx hrg1 hlt1 hg1 hs1 hen;obtain⟨y,hyv,hyc,rfl,rfl⟩:=vset_mem.1 hx;have hpl:=place_lt hyv;rw [← HNV.out] at hpl;have htw:tb≤w2.heap.size:=by have:=HCB.out;omega
   have B5:Hid (Below tb wo w5):=KB.out.grown hg1 (by have:=KS.out;omega) (fun r e=>by simp at e;omega)
   have o1:w5.cell? ⟨w1.heap.size+1,1,none⟩=some (.slice (some ⟨w1.heap.size,0,none⟩) nv nv):=by rw [zb _ _ 1 _ _ _ ((B5.out.block _ HS1.out).trans OB.out)];rfl
   have SF5:=SF.out.keep (B5.out.block _ (by have:=HS1.out;omega))
   have s1:=SF5.row.cell (i:=place (F0 ps e) y*2+1) (by rw [← HNV.out];omega)
   rw [SF.out.reg _ (by rw [← HNV.out];exact hpl)] at s1
   obtain⟨pl,hpp⟩:∃ q,q=place (F0 ps e) y:=⟨_,rfl⟩;obtain⟨rg,hrgy⟩:∃ q,q=regs.getD pl 0:=⟨_,rfl⟩;rw [← hpp] at hpl s1 hwx hx htx hrg1 hen ⊢;rw [← hrgy] at s1;have hplz:(pl:Int)<nv:=by omega
   have hpl0:(0:Int)≤pl:=by omega
   have K4:=zh hrg1;have K5:=zh hlt1
   have HRG:Hid (rg≤1000000):=by show _≤_;rw [hrgy];exact getD_small SF.out.small pl
   have KT5:=zh (KT.out.keep (hg1.block tb KT.out.lt (by intro e;simp at e;have:=HCB.out;omega)))
   have STP:=zh (fun t=>Tx_step (regs:=regs) hyv hyc (by rw [← hpp];exact htx) t)
   rw [← hpp,← hrgy] at STP;have HFEW:Hid ((vars (F0 ps e)).length≤320000):=HG.out.few;have KS5:Hid (w2.heap.size<w5.heap.size):=zt5 KS.out hg1.size
   clear hpl hyv hyc hpp hrgy hrg1 hlt1 hg1 hs1 hwx hx htx SF5
   go_wp2_with (at_mapUpdate;refine wpList_sput rfl _ _ _ rfl tb (ofNats (Tx (F0 ps e) i regs todo)) rfl KT5.out ?_ ?_ rg rfl rfl (wf_nat (by have:=HRG.out;omega)) ?_)
   ·have:=Tx_len (F0 ps e) i regs todo;have:=HFEW.out;unfold ofNats;rw [zv1];omega
   ·intro l hn hl
    have h1:=nodup_sub_len hn hl;have h2:=Tx_len (F0 ps e) i regs todo
    have h3:=HFEW.out;unfold ofNats at h1;rw [zv1] at h1;omega
   intro w6 hm6 hg6;have KT6:=zh (hm6.congr fun t=>STP.out t)
   have RG6:=zh (K4.out.kept hg6 (by intro e;simp at e;have:=HCB.out;omega) (by intro e;simp at e;have:=HCB.out;omega))
   have B6:Hid (Below tb wo w6):=B5.out.grown hg6 (by have:=KS5.out;omega) (fun r e=>by simp at e;omega)
   have KS6:Hid (w2.heap.size<w6.heap.size):=zt5 KS5.out hg6.size;clear hm6 hg6 hen o1 s1
   go_wp2_with fail
   go_roundw
   case rel=>exact⟨_,cnt1,RG6.out,KT6.out,B6.out,KS6.out⟩
   case measure=>rw [RG6.out.left_eq,RG1.out.left_eq];exact K5.out
  have hin:i=n:=by have:=KN.out;omega
  have hlz:(n:Int)≤i:=by omega
  have OB:=zh KI.out.out;rw [← HNV.out] at OB;have o0:wo.cell? ⟨w1.heap.size+1,0,none⟩=some (.int .i64 (most:Nat)):=by rw [zb _ _ 0 _ _ _ OB.out];rfl
  have o1:wo.cell? ⟨w1.heap.size+1,1,none⟩=some (.slice (some ⟨w1.heap.size,0,none⟩) nv nv):=by rw [zb _ _ 1 _ _ _ OB.out];rfl
  have rbw:=(KI.out.below.block _ HW1.out).trans RBW.out;have r0:wo.cell? ⟨w.heap.size+1,0,none⟩=some (.int .i64 0):=by rw [zb _ _ 0 _ _ _ rbw];rfl
  have r1:wo.cell? ⟨w.heap.size+1,1,none⟩=some (.slice none 0 0):=by rw [zb _ _ 1 _ _ _ rbw];rfl
  have rf:∀ q,wo.frozen? ⟨w.heap.size+1,q,none⟩=false:=fun q=>zs1 _ _ q _ _ rbw
  have HIN:=zh hin;have RB:=zh rbw
  clear hin hlt rbw
  go_wp2_with fail
  obtain⟨WF,hWF⟩:∃ W,W=(wo.setCell ⟨w.heap.size+1,0,none⟩ (.int .i64 (most:Nat))).setCell ⟨w.heap.size+1,1,none⟩ (.slice (some ⟨w1.heap.size,0,none⟩) nv nv):=⟨_,rfl⟩;rw [← hWF];have rw1:WF.heap[w.heap.size+1]?=some (.cells #[.int .i64 (most:Nat),.slice (some ⟨w1.heap.size,0,none⟩) nv nv] 56):=by
   rw [hWF];exact heap_setCell_same _ _ 1 _ _ _ (heap_setCell_same _ _ 0 _ _ _ RB.out)
  have z0:WF.cell? ⟨w.heap.size+1,0,none⟩=some (.int .i64 (most:Nat)):=by rw [zb _ _ 0 _ _ _ rw1];rfl
  have z1:WF.cell? ⟨w.heap.size+1,1,none⟩=some (.slice (some ⟨w1.heap.size,0,none⟩) nv nv):=by rw [zb _ _ 1 _ _ _ rw1];rfl
  refine bodyPost_ret (v := .tuple #[.agg #[.int .i64 (most:Nat),.slice (some ⟨w1.heap.size,0,none⟩) nv nv],.int .i64 0]) (by simp [results,Tryz.results26,go_sem,z0,z1];try rfl) rfl ?_
  have BF:Below w.heap.size w WF:=by
   rw [hWF];exact((HB1.out.trans (KI.out.below.mono (by have:=HW1.out;omega))).setCell (Nat.le_succ _) _).setCell (Nat.le_succ _) _
  have hst:=KI.out.st;rw [HIN.out,HN.out] at hst;have hal:(regs,most)=alloc (F0 ps e):=hst
  refine⟨BF,.inl ⟨HG.out,_,by rw [← hal],?_⟩⟩
  rw [← hal];obtain⟨f,hf⟩:=KI.out.row;have hf2:=hf.keep (w':=WF) (by rw [hWF];exact(zt1 _ _ _ _ (by have:=HW1.out;show w1.heap.size≠w.heap.size+1;omega)).trans (zt1 _ _ _ _ (by have:=HW1.out;show w1.heap.size≠w.heap.size+1;omega)))
  rw [HNV.out];exact hf2.vars HF.out.fo.once (fun x hx=>by rw [HIN.out,HN.out,List.take_length];exact hx)
 have HB:Hid (Below w.heap.size w w1):=B0.out.trans (hb.mono B0.out.size);have HG:=zh hng
 have rbw:w1.heap[w.heap.size+1]?=some (.cells #[.int .i64 0,.slice none 0 0] 56):=by
  rw [hb.block _ (by simp)]
  have:=zs2 (w.alloc (.cells cs 29)) (.cells #[.int .i64 0,.slice none 0 0] 56);rw [World.size_alloc] at this;exact this
 have r0:w1.cell? ⟨w.heap.size+1,0,none⟩=some (.int .i64 0):=by rw [zb _ _ 0 _ _ _ rbw];rfl
 have r1:w1.cell? ⟨w.heap.size+1,1,none⟩=some (.slice none 0 0):=by rw [zb _ _ 1 _ _ _ rbw];rfl
 have rf:∀ q,w1.frozen? ⟨w.heap.size+1,q,none⟩=false:=fun q=>zs1 _ _ q _ _ rbw
 have RB:=zh rbw;clear hb hng rbw
 go_wp2_with fail
 obtain⟨WF,hWF⟩:∃ W,W=(w1.setCell ⟨w.heap.size+1,0,none⟩ (.int .i64 0)).setCell ⟨w.heap.size+1,1,none⟩ (.slice none 0 0):=⟨_,rfl⟩;rw [← hWF];have rw1:WF.heap[w.heap.size+1]?=some (.cells #[.int .i64 0,.slice none 0 0] 56):=by
  rw [hWF];exact heap_setCell_same _ _ 1 _ _ _ (heap_setCell_same _ _ 0 _ _ _ RB.out)
 have z0:WF.cell? ⟨w.heap.size+1,0,none⟩=some (.int .i64 0):=by rw [zb _ _ 0 _ _ _ rw1];rfl
 have z1:WF.cell? ⟨w.heap.size+1,1,none⟩=some (.slice none 0 0):=by rw [zb _ _ 1 _ _ _ rw1];rfl
 refine bodyPost_ret (v := .tuple #[.agg #[.int .i64 0,.slice none 0 0],.int .i64 160]) (by simp [results,Tryz.results26,go_sem,z0,z1];try rfl) rfl ?_
 refine⟨?_,.inr ⟨HG.out,rfl⟩⟩;rw [hWF];exact(HB.out.setCell (Nat.le_succ _) _).setCell (Nat.le_succ _) _
end
section
open Go.RowKit RG Go.Maps
theorem eSum_eq:F0 [⟨#[109]⟩] eSum=xF:=rfl
def CLs (w:World) (b:Nat) (cs:Array Value):Prop:=∀ i x,cs[i]?=some x→w.cell? ⟨b,i,none⟩=some x
theorem CLs.kept {w w':World}{b:Nat}{cs:Array Value}(h:CLs w b cs) (hk:Kept w w'):CLs w' b cs:=fun i x hx=>hk _ _ (h i x hx)
def SnP (w:World) (e:Ending) (w':World):Prop:=e = .returned (.bool true)∧Below w.heap.size w w'
theorem sane_any {w:World}(hE:Lx.Env w):Calls Tryz.prog 14 #[] w (SnP w):=by
 have HE:=zh hE;clear hE
 go_enter Tryz.func14,Tryz.ntmps14
 go_wp2_with fail
 refine(sum_any w).mono ?_;rintro en w1 ⟨cs,rfl,hT,hb⟩;obtain⟨nm,op,ch,pv,va,num,site,aa,ab,ca,cb,ga,oa,gb,ob,hcs,h1,h2,h3,h4,h5,h6⟩:=id hT;have hpv:∃ a n c,pv = .slice a n c:=by obtain⟨ad,c,e,_⟩:=h1.at';exact⟨_,_,_,e⟩
 have hva:∃ a n c,va = .slice a n c:=by obtain⟨ad,c,e,_⟩:=h2.at';exact⟨_,_,_,e⟩
 obtain⟨pa,pn,pc,rfl⟩:=hpv;obtain⟨xa,xn,xc,rfl⟩:=hva;rw [Value.agg.injEq] at hcs;subst hcs;have FO:Hid (FnOk Lx.Env isNm w1 (.agg #[.string nm,.bool ch,.slice pa pn pc,.int .i64 eSum.kind,.string eSum.name,.string op,.int .i64 num,.int .i64 site,.slice xa xn xc,.slice aa eSum.arms.length ca,.slice ab eSum.body.length cb]) [⟨#[109]⟩] eSum):=⟨nlaw,nlaw.keep _ _ _ (nlaw.size _ HE.out) HE.out hb,hT,fun d hd=>by
  have:=List.all_eq_true.1 xsmall d hd;simp only [Bool.and_eq_true,List.all_eq_true,decide_eq_true_eq] at this;exact⟨fun x hx=>zr5 (this.1 x hx) (by decide),fun x hx=>zr5 (this.2 x hx) (by decide)⟩,by decide⟩
 have HG:Hid (RG.Good isNm [⟨#[109]⟩] eSum):=xgood;have B1:Hid (Below w.heap.size w (w1.alloc (.cells #[.string nm,.bool ch,.slice pa pn pc,.int .i64 eSum.kind,.string eSum.name,.string op,.int .i64 num,.int .i64 site,.slice xa xn xc,.slice aa eSum.arms.length ca,.slice ab eSum.body.length cb] 29))):=hb.alloc hb.size _
 have C1:Hid (CLs (w1.alloc (.cells #[.string nm,.bool ch,.slice pa pn pc,.int .i64 eSum.kind,.string eSum.name,.string op,.int .i64 num,.int .i64 site,.slice xa xn xc,.slice aa eSum.arms.length ca,.slice ab eSum.body.length cb] 29)) w1.heap.size #[.string nm,.bool ch,.slice pa pn pc,.int .i64 eSum.kind,.string eSum.name,.string op,.int .i64 num,.int .i64 site,.slice xa xn xc,.slice aa eSum.arms.length ca,.slice ab eSum.body.length cb]):=fun i x hx=>by rw [zb _ _ _ _ _ _ (zs2 w1 _)];exact hx
 have K1:Hid (Below w1.heap.size w1 (w1.alloc (.cells #[.string nm,.bool ch,.slice pa pn pc,.int .i64 eSum.kind,.string eSum.name,.string op,.int .i64 num,.int .i64 site,.slice xa xn xc,.slice aa eSum.arms.length ca,.slice ab eSum.body.length cb] 29))):=(zs9 _ _).alloc (zr4 _) _;clear hT hb h1 h2 h3 h4 h5 h6;have y0:=C1.out 0 _ rfl
 have y1:=C1.out 1 _ rfl;have y2:=C1.out 2 _ rfl
 have y3:=C1.out 3 _ rfl;have y4:=C1.out 4 _ rfl
 have y5:=C1.out 5 _ rfl;have y6:=C1.out 6 _ rfl
 have y7:=C1.out 7 _ rfl;have y8:=C1.out 8 _ rfl
 have y9:=C1.out 9 _ rfl;have y10:=C1.out 10 _ rfl
 go_wp2_with fail
 refine(bound_any (FO.out.keep K1.out)).mono ?_;rintro en w2 ⟨hb,hq⟩;rcases hq with ⟨-,l1,rfl,hl1⟩|⟨hng,-⟩
 rotate_left
 ·exact absurd HG.out hng
 have B2:=zh (B1.out.trans (hb.mono B1.out.size));have K2:=zh (K1.out.trans (hb.mono K1.out.size))
 have C2:=zh (C1.out.kept (zd hb));have L1:=zh hl1
 clear hl1;clear hb C1 y0 y1 y2 y3 y4 y5 y6 y7 y8 y9 y10;have y0:=C2.out 0 _ rfl;have y1:=C2.out 1 _ rfl
 have y2:=C2.out 2 _ rfl;have y3:=C2.out 3 _ rfl
 have y4:=C2.out 4 _ rfl;have y5:=C2.out 5 _ rfl
 have y6:=C2.out 6 _ rfl;have y7:=C2.out 7 _ rfl
 have y8:=C2.out 8 _ rfl;have y9:=C2.out 9 _ rfl
 have y10:=C2.out 10 _ rfl
 go_wp2_with fail
 refine(live_any sort_law (FO.out.keep K2.out) 4).mono ?_;rintro en w3 ⟨hb,hq⟩;rcases hq with ⟨-,i,l2,hi,-,rfl,hl2⟩|⟨-,ho,-⟩|⟨hng,-⟩
 rotate_left
 ·exact absurd ho (by rw [show eSum.size=7 from xsize];decide)
 ·exact absurd HG.out hng
 obtain rfl:i=4:=by omega
 have B3:=zh (B2.out.trans (hb.mono B2.out.size));have K3:=zh (K2.out.trans (hb.mono K2.out.size))
 have C3:=zh (C2.out.kept (zd hb));have L1:=zh (StrsAt.kept L1.out (zd hb))
 have L2:=zh hl2;clear hl2 hi;clear hb C2 y0 y1 y2 y3 y4 y5 y6 y7 y8 y9 y10;have y0:=C3.out 0 _ rfl
 have y1:=C3.out 1 _ rfl;have y2:=C3.out 2 _ rfl
 have y3:=C3.out 3 _ rfl;have y4:=C3.out 4 _ rfl
 have y5:=C3.out 5 _ rfl;have y6:=C3.out 6 _ rfl
 have y7:=C3.out 7 _ rfl;have y8:=C3.out 8 _ rfl
 have y9:=C3.out 9 _ rfl;have y10:=C3.out 10 _ rfl
 go_wp2_with fail
 refine(conflict_any (FO.out.keep K3.out) ⟨#[104]⟩ ⟨#[114]⟩ (by decide) (by decide)).mono ?_
 rintro en w4 ⟨hb,hq⟩;rcases hq with ⟨-,-,-,he⟩|⟨-,hno,-⟩|⟨hng,-⟩
 rotate_left
 ·exact absurd hno (by rw [eSum_eq,xvars];simp)
 ·exact absurd HG.out hng
 rw [eSum_eq,xc1] at he;subst he;have B4:=zh (B3.out.trans (hb.mono B3.out.size));have K4:=zh (K3.out.trans (hb.mono K3.out.size))
 have C4:=zh (C3.out.kept (zd hb));have L1:=zh (StrsAt.kept L1.out (zd hb))
 have L2:=zh (StrsAt.kept L2.out (zd hb));clear hb C3 y0 y1 y2 y3 y4 y5 y6 y7 y8 y9 y10;have y0:=C4.out 0 _ rfl
 have y1:=C4.out 1 _ rfl;have y2:=C4.out 2 _ rfl
 have y3:=C4.out 3 _ rfl;have y4:=C4.out 4 _ rfl
 have y5:=C4.out 5 _ rfl;have y6:=C4.out 6 _ rfl
 have y7:=C4.out 7 _ rfl;have y8:=C4.out 8 _ rfl
 have y9:=C4.out 9 _ rfl;have y10:=C4.out 10 _ rfl
 go_wp2_with fail
 refine(conflict_any (FO.out.keep K4.out) ⟨#[116]⟩ ⟨#[114]⟩ (by decide) (by decide)).mono ?_
 rintro en w5 ⟨hb,hq⟩;rcases hq with ⟨-,-,-,he⟩|⟨-,hno,-⟩|⟨hng,-⟩
 rotate_left
 ·exact absurd hno (by rw [eSum_eq,xvars];simp)
 ·exact absurd HG.out hng
 rw [eSum_eq,xc2] at he;subst he;have B5:=zh (B4.out.trans (hb.mono B4.out.size));have K5:=zh (K4.out.trans (hb.mono K4.out.size))
 have C5:=zh (C4.out.kept (zd hb));have L1:=zh (StrsAt.kept L1.out (zd hb))
 have L2:=zh (StrsAt.kept L2.out (zd hb));clear hb C4 y0 y1 y2 y3 y4 y5 y6 y7 y8 y9 y10;have y0:=C5.out 0 _ rfl
 have y1:=C5.out 1 _ rfl;have y2:=C5.out 2 _ rfl
 have y3:=C5.out 3 _ rfl;have y4:=C5.out 4 _ rfl
 have y5:=C5.out 5 _ rfl;have y6:=C5.out 6 _ rfl
 have y7:=C5.out 7 _ rfl;have y8:=C5.out 8 _ rfl
 have y9:=C5.out 9 _ rfl;have y10:=C5.out 10 _ rfl
 go_wp2_with fail
 refine(width_any (FO.out.keep K5.out)).mono ?_;rintro en w6 ⟨hb,hq⟩;rcases hq with ⟨-,he⟩|⟨hng,-⟩
 rotate_left
 ·exact absurd HG.out hng
 rw [eSum_eq,xwidth,show ((2:Nat):Int)=2 from rfl] at he
 subst he;have B6:=zh (B5.out.trans (hb.mono B5.out.size));have K6:=zh (K5.out.trans (hb.mono K5.out.size))
 have C6:=zh (C5.out.kept (zd hb));have L1:=zh (StrsAt.kept L1.out (zd hb))
 have L2:=zh (StrsAt.kept L2.out (zd hb));clear hb C5 y0 y1 y2 y3 y4 y5 y6 y7 y8 y9 y10;have y0:=C6.out 0 _ rfl
 have y1:=C6.out 1 _ rfl;have y2:=C6.out 2 _ rfl
 have y3:=C6.out 3 _ rfl;have y4:=C6.out 4 _ rfl
 have y5:=C6.out 5 _ rfl;have y6:=C6.out 6 _ rfl
 have y7:=C6.out 7 _ rfl;have y8:=C6.out 8 _ rfl
 have y9:=C6.out 9 _ rfl;have y10:=C6.out 10 _ rfl
 go_wp2_with fail
 refine(allocate_any (FO.out.keep K6.out)).mono ?_;rintro en w7 ⟨hb,hq⟩;rcases hq with ⟨-,av,he,hav⟩|⟨hng,-⟩
 rotate_left
 ·exact absurd HG.out hng
 rw [eSum_eq,show (alloc xF).2=2 from by rw [xalloc],show ((2:Nat):Int)=2 from rfl] at he
 rw [eSum_eq] at hav;obtain⟨aad,aac,hav0,-⟩:=id hav;rw [xpairs] at hav0;subst hav0;subst he;have B7:=zh (B6.out.trans (hb.mono B6.out.size));have K7:=zh (K6.out.trans (hb.mono K6.out.size))
 have C7:=zh (C6.out.kept (zd hb));have L1:=zh (StrsAt.kept L1.out (zd hb))
 have L2:=zh (StrsAt.kept L2.out (zd hb));have AV:=zh hav
 clear hav;clear hb C6 y0 y1 y2 y3 y4 y5 y6 y7 y8 y9 y10;have hbl:w1.heap.size<w7.heap.size:=zs3 _ _ (C7.out 0 _ rfl);have y0:=C7.out 0 _ rfl
 have y1:=C7.out 1 _ rfl;have y2:=C7.out 2 _ rfl
 have y3:=C7.out 3 _ rfl;have y4:=C7.out 4 _ rfl
 have y5:=C7.out 5 _ rfl;have y6:=C7.out 6 _ rfl
 have y7:=C7.out 7 _ rfl;have y8:=C7.out 8 _ rfl
 have y9:=C7.out 9 _ rfl;have y10:=C7.out 10 _ rfl
 go_wp2_with fail
 have A7:Hid (Below w7.heap.size w7 (w7.alloc (.cells #[.int .i64 2,.slice aad 7 aac] 56))):=(zs9 _ _).alloc (zr4 _) _;have AC7:Hid (CLs (w7.alloc (.cells #[.int .i64 2,.slice aad 7 aac] 56)) w7.heap.size #[.int .i64 2,.slice aad 7 aac]):=fun i x hx=>by rw [zb _ _ _ _ _ _ (zs2 w7 _)];exact hx
 refine(count_any (FO.out.keep (K7.out.trans (A7.out.mono K7.out.size)))).mono ?_;rintro en w8 ⟨hb,hq⟩;rcases hq with ⟨-,he⟩|⟨hng,-⟩
 rotate_left
 ·exact absurd HG.out hng
 rw [show eSum.size=7 from xsize,show ((7:Nat):Int)=7 from rfl] at he
 subst he;have B8:=zh (B7.out.trans ((A7.out.mono B7.out.size).trans (hb.mono (zr5 B7.out.size A7.out.size))));have AC8:=zh (AC7.out.kept (zd hb))
 have L1:=zh (StrsAt.kept (StrsAt.kept L1.out (zd A7.out)) (zd hb));have L2:=zh (StrsAt.kept (StrsAt.kept L2.out (zd A7.out)) (zd hb))
 have AV:=zh (VarsAt.kept (VarsAt.kept AV.out (zd A7.out)) (zd hb));clear hb C7 AC7 y0 y1 y2 y3 y4 y5 y6 y7 y8 y9 y10;have N8:Hid (StrsAt (w8.alloc (.cells #[.string ⟨#[109]⟩,.string ⟨#[99]⟩,.string ⟨#[104]⟩,.string ⟨#[116]⟩,.string ⟨#[114]⟩,.string ⟨#[115]⟩,.string ⟨#[107]⟩] 9)) (.slice (some ⟨w8.heap.size,0,none⟩) 7 7) [⟨#[109]⟩,⟨#[99]⟩,⟨#[104]⟩,⟨#[116]⟩,⟨#[114]⟩,⟨#[115]⟩,⟨#[107]⟩]):=⟨rfl,_,_,rfl,fun _=>⟨w8.heap.size,0,rfl,fun i x hx=>by rw [Nat.zero_add,zb _ _ _ _ _ _ (zs2 w8 _)];simpa [YtnkahlloahgifaaGreatDoor.strs] using hx⟩⟩
 have D8:Hid (Below w8.heap.size w8 (w8.alloc (.cells #[.string ⟨#[109]⟩,.string ⟨#[99]⟩,.string ⟨#[104]⟩,.string ⟨#[116]⟩,.string ⟨#[114]⟩,.string ⟨#[115]⟩,.string ⟨#[107]⟩] 9))):=(zs9 _ _).alloc (zr4 _) _
 go_wp2_with fail
 refine(sameTexts_any (StrsAt.kept L1.out (zd D8.out)) N8.out (by rw [eSum_eq,xvars];decide)).mono ?_
 rintro en w9 ⟨hb,rfl⟩;rw [show decide (vars (F0 [⟨#[109]⟩] eSum)=[⟨#[109]⟩,⟨#[99]⟩,⟨#[104]⟩,⟨#[116]⟩,⟨#[114]⟩,⟨#[115]⟩,⟨#[107]⟩])=true from by rw [eSum_eq,xvars];simp]
 have B9:=zh (B8.out.trans ((D8.out.mono B8.out.size).trans (hb.mono (zr5 B8.out.size D8.out.size))));have AC9:=zh ((AC8.out.kept (zd D8.out)).kept (zd hb))
 have L2:=zh (StrsAt.kept (StrsAt.kept L2.out (zd D8.out)) (zd hb));have AV:=zh (VarsAt.kept (VarsAt.kept AV.out (zd D8.out)) (zd hb))
 clear hb AC8 N8 L1;have N9:Hid (StrsAt (w9.alloc (.cells #[.string ⟨#[104]⟩,.string ⟨#[114]⟩] 9)) (.slice (some ⟨w9.heap.size,0,none⟩) 2 2) [⟨#[104]⟩,⟨#[114]⟩]):=⟨rfl,_,_,rfl,fun _=>⟨w9.heap.size,0,rfl,fun i x hx=>by rw [Nat.zero_add,zb _ _ _ _ _ _ (zs2 w9 _)];simpa [YtnkahlloahgifaaGreatDoor.strs] using hx⟩⟩
 have D9:Hid (Below w9.heap.size w9 (w9.alloc (.cells #[.string ⟨#[104]⟩,.string ⟨#[114]⟩] 9))):=(zs9 _ _).alloc (zr4 _) _
 go_wp2_with fail
 refine(sameTexts_any (StrsAt.kept L2.out (zd D9.out)) N9.out (by rw [eSum_eq,xlive];decide)).mono ?_
 rintro en w10 ⟨hb,rfl⟩;rw [show decide (liveAt (F0 [⟨#[109]⟩] eSum) 4=[⟨#[104]⟩,⟨#[114]⟩])=true from by rw [eSum_eq,xlive];simp]
 have B10:=zh (B9.out.trans ((D9.out.mono B9.out.size).trans (hb.mono (zr5 B9.out.size D9.out.size))));have AC10:=zh ((AC9.out.kept (zd D9.out)).kept (zd hb))
 have AV:=zh (VarsAt.kept (VarsAt.kept AV.out (zd D9.out)) (zd hb));clear hb AC9 N9 L2;have z0:=AC10.out 0 _ rfl
 have z1:=AC10.out 1 _ rfl
 go_wp2_with fail
 refine(reg_any ⟨#[115]⟩ AV.out (by rw [xpairs];decide)).mono ?_
 rintro en w11 ⟨hb,rfl⟩;rw [xreg];have B11:=zh (B10.out.trans (hb.mono B10.out.size));have AC11:=zh (AC10.out.kept (zd hb))
 clear hb AC10 z0 z1 AV;have N11:Hid (MvsAt (w11.alloc (.cells #[.int .i64 0,.int .i64 1,.int .i64 1,.int .i64 0] 81)) (.slice (some ⟨w11.heap.size,0,none⟩) 2 2) [(0,1),(1,0)]):=⟨_,_,rfl,fun _=>⟨w11.heap.size,0,rfl,fun i m hm=>by
  have r:=row8 (zs2 w11 (.cells #[.int .i64 0,.int .i64 1,.int .i64 1,.int .i64 0] 81))
  match i,hm with
  | 0,hm=>simp at hm;subst hm;exact⟨r 0 _ rfl,r 1 _ rfl⟩
  | 1,hm=>simp at hm;subst hm;exact⟨r 2 _ rfl,r 3 _ rfl⟩
  | i+2,hm=>simp at hm⟩⟩
 have D11:Hid (Below w11.heap.size w11 (w11.alloc (.cells #[.int .i64 0,.int .i64 1,.int .i64 1,.int .i64 0] 81))):=(zs9 _ _).alloc (zr4 _) _
 go_wp2_with fail
 refine(order_any (spare:=2) N11.out).mono ?_;rintro en w12 ⟨hb,hq⟩;rcases hq with ⟨-,o,ho,rfl⟩|⟨hng,-⟩
 rotate_left
 ·rw [xmoves] at hng;cases hng
 obtain⟨oa,oc,hoa,-⟩:=id ho;rw [xorder] at hoa;subst hoa;have B12:=zh (B11.out.trans ((D11.out.mono B11.out.size).trans (hb.mono (zr5 B11.out.size D11.out.size))));have z0:=((AC11.out.kept (zd D11.out)).kept (zd hb)) 0 _ rfl
 clear hb ho AC11 N11
 go_wp2_with fail
 go_ret
 exact⟨rfl,B12.out⟩
end
section
open Go.RowKit RG Go.Maps RF
theorem box11 {V:World}{b:Nat}{c0 c1 c2 c3 c4 c5 c6 c7 c8 c9 c10:Value}{T:TypeId}(h:V.heap[b]?=some (.cells #[c0,c1,c2,c3,c4,c5,c6,c7,c8,c9,c10] T (0,0))) :
  V.cell? ⟨b,0,none⟩=some c0∧V.cell? ⟨b,1,none⟩=some c1∧V.cell? ⟨b,2,none⟩=some c2∧V.cell? ⟨b,3,none⟩=some c3∧V.cell? ⟨b,4,none⟩=some c4∧V.cell? ⟨b,5,none⟩=some c5 ∧
  V.cell? ⟨b,6,none⟩=some c6∧V.cell? ⟨b,7,none⟩=some c7∧V.cell? ⟨b,8,none⟩=some c8∧V.cell? ⟨b,9,none⟩=some c9∧V.cell? ⟨b,10,none⟩=some c10:=by
 refine⟨?_,?_,?_,?_,?_,?_,?_,?_,?_,?_,?_⟩<;>exact(zb _ _ _ _ _ _ h).trans rfl
end
section
open Go.RowKit RG Go.Maps
theorem Tryz.info70:(Tryz.prog.info? 70).map (fun i=>(i.zero,i.size,i.bytes))=some (some (.agg #[.string ⟨#[]⟩,.bool false]),2,24):=by kernel_rfl
theorem Tryz.info29b:(Tryz.prog.info? 29).map (fun i=>(i.zero,i.size,i.bytes))=some (some (.agg #[.string ⟨#[]⟩,.bool false,.slice none 0 0,.int .i64 0,.string ⟨#[]⟩,.string ⟨#[]⟩,.int .i64 0,.int .i64 0,.slice none 0 0,.slice none 0 0,.slice none 0 0]),11,176):=by kernel_rfl
theorem new_ob {ρ:Nat→Nat}{W:World}(h:∀ k,W.heap.size≤k→ρ k=0) (r:Nat) (T:TypeId) (cs:Array Value):∃ ρ',Ch (fun _=>False) ρ ρ' W (W.alloc (.cells cs T))∧Ob (W.alloc (.cells cs T)) ρ' W.heap.size r T cs :=
 ⟨roleAt ρ W.heap.size r,((Ch.refl h).alloc _).named _ _ (zr4 _) (by simp),Ob.new r⟩
theorem PS.start {w:World} {ρ0:Nat→Nat}{ps:List Nm}{e:TE}{pv:Value}{xa aa ab:Option Addr}{xc:Nat} (hρ:∀ k,w.heap.size≤k→ρ0 k=0) (hp:ParamsAt (Zw ρ0 w) pv ps) (hx:TEX (Zw ρ0 w) e xa aa ab xc) (g:Nat) (fcs:Array Value) :
  ∃ ρ,PS w ρ0 g w.heap.size (w.heap.size+1+1+1) (w.heap.size+1) (w.heap.size+1+1) (w.heap.size+1+1+1+1) ps e pv xa aa ab xc
   (((((w.alloc (.cells #[.slice none 0 0,.slice none 0 0,.slice (some ⟨g,0,none⟩) 1 1,.slice none 0 0] 128)).alloc (.cells #[.slice none 0 0,.slice none 0 0,.slice none 0 0,.slice none 0 0] 128)).alloc (.cells #[.slice none 0 0,.slice none 0 0,.slice none 0 0,.slice none 0 0] 128)).alloc (.cells #[.slice none 0 0] 169)).alloc (.cells fcs 29)) ρ [] fcs #[.slice none 0 0,.slice none 0 0,.slice none 0 0,.slice none 0 0] (.slice none 0 0) []:=by
 have c1:Ch (fun _=>False) ρ0 ρ0 w (w.alloc (.cells #[.slice none 0 0,.slice none 0 0,.slice (some ⟨g,0,none⟩) 1 1,.slice none 0 0] 128)):=(Ch.refl hρ).alloc _
 have o1:Ob (w.alloc (.cells #[.slice none 0 0,.slice none 0 0,.slice (some ⟨g,0,none⟩) 1 1,.slice none 0 0] 128)) ρ0 w.heap.size 0 128 #[.slice none 0 0,.slice none 0 0,.slice (some ⟨g,0,none⟩) 1 1,.slice none 0 0]:=⟨zs2 w _,hρ _ (zr4 _)⟩;obtain⟨ρ2,c2,o2⟩:=new_ob c1.fresh 27 128 #[.slice none 0 0,.slice none 0 0,.slice none 0 0,.slice none 0 0];obtain⟨ρ3,c3,o3⟩:=new_ob c2.fresh 22 128 #[.slice none 0 0,.slice none 0 0,.slice none 0 0,.slice none 0 0];obtain⟨ρ4,c4,o4⟩:=new_ob c3.fresh 20 169 #[.slice none 0 0];obtain⟨ρ5,c5,o5⟩:=new_ob c4.fresh 28 29 fcs;have e1:(w.alloc (.cells #[.slice none 0 0,.slice none 0 0,.slice (some ⟨g,0,none⟩) 1 1,.slice none 0 0] 128)).heap.size=w.heap.size+1:=by simp
 have e2:((w.alloc (.cells #[.slice none 0 0,.slice none 0 0,.slice (some ⟨g,0,none⟩) 1 1,.slice none 0 0] 128)).alloc (.cells #[.slice none 0 0,.slice none 0 0,.slice none 0 0,.slice none 0 0] 128)).heap.size=w.heap.size+1+1:=by simp
 have e3:(((w.alloc (.cells #[.slice none 0 0,.slice none 0 0,.slice (some ⟨g,0,none⟩) 1 1,.slice none 0 0] 128)).alloc (.cells #[.slice none 0 0,.slice none 0 0,.slice none 0 0,.slice none 0 0] 128)).alloc (.cells #[.slice none 0 0,.slice none 0 0,.slice none 0 0,.slice none 0 0] 128)).heap.size=w.heap.size+1+1+1:=by simp
 have e4:((((w.alloc (.cells #[.slice none 0 0,.slice none 0 0,.slice (some ⟨g,0,none⟩) 1 1,.slice none 0 0] 128)).alloc (.cells #[.slice none 0 0,.slice none 0 0,.slice none 0 0,.slice none 0 0] 128)).alloc (.cells #[.slice none 0 0,.slice none 0 0,.slice none 0 0,.slice none 0 0] 128)).alloc (.cells #[.slice none 0 0] 169)).heap.size=w.heap.size+1+1+1+1:=by simp
 have c:=(((c1.trans c2).trans c3).trans c4).trans c5;have q2:=((o2.keep c3 id).keep c4 id).keep c5 id
 have q3:=(o3.keep c4 id).keep c5 id;have q4:=o4.keep c5 id
 rw [e1] at q2;rw [e2] at q3;rw [e3] at q4;rw [e4] at o5;have k:=zw_ch c id;exact⟨_,c.mono (fun _ x=>x.elim),⟨_,q4.1,q4.2,RR.nil _ _ _ _ _⟩,hp.kept k,hx.kept k,(((o1.keep c2 id).keep c3 id).keep c4 id).keep c5 id,q2,q3,o5,⟨by omega,by omega,by omega,by omega⟩,⟨[],RB.nil _ _ _ _ _ _,.nil⟩⟩
def RnmP (w:World) (ρ0:Nat→Nat) (ps:List Nm) (e:TE) (nm:ByteArray) (cg:Bool) (op:ByteArray) (num site:Int) (en:Ending) (w':World):Prop :=
 ∃ (ρ:Nat→Nat) (g c:Nat) (lv:Value) (xa aa ab:Option Addr) (xc ca cb:Nat),Ch NM ρ0 ρ w w'∧en = .returned (.agg #[.slice none 0 0,.slice none 0 0,.slice (some ⟨g,0,none⟩) 1 c,.slice none 0 0]) ∧
  (∃ la lc,lv = .slice la ps.length lc)∧∀ W',Ch (· = 27) ρ ρ w' W'→(∀ (j:Nat) v,(#[Value.string nm,.bool cg,lv,.int .i64 (e.ren (rnk (metE e (ps.foldl met [])))).kind,.string (e.ren (rnk (metE e (ps.foldl met [])))).name,.string op,.int .i64 num,.int .i64 site,.slice xa (e.ren (rnk (metE e (ps.foldl met [])))).args.length xc,
   .slice aa (e.ren (rnk (metE e (ps.foldl met [])))).arms.length ca,.slice ab (e.ren (rnk (metE e (ps.foldl met [])))).body.length cb]:Array Value)[j]?=some v→W'.cell? ⟨g,j,none⟩=some v) ∧
  ParamsAt W' lv (ps.map (rnk (metE e (ps.foldl met []))))∧TEX W' (e.ren (rnk (metE e (ps.foldl met [])))) xa aa ab xc
theorem renamed_any {w:World} {ρ0:Nat→Nat}{g:Nat}{ps:List Nm}{e:TE}{nm:ByteArray}{cg:Bool}{op:ByteArray}{num site:Int}{pa xa aa ab:Option Addr}{pc xc ca cb:Nat}
  (hf:w.heap[g]?=some (.cells #[.string nm,.bool cg,.slice pa ps.length pc,.int .i64 e.kind,.string e.name,.string op,.int .i64 num,.int .i64 site,.slice xa e.args.length xc,.slice aa e.arms.length ca,.slice ab e.body.length cb] 29 (0,0)))
  (hρ:∀ k,w.heap.size≤k→ρ0 k=0) (hp:ParamsAt (Zw ρ0 w) (.slice pa ps.length pc) ps) (hx:TEX (Zw ρ0 w) e xa aa ab xc) (hml:(metE e (ps.foldl met [])).length≤1000) (hsl:slimE e) (hpl:ps.length≤1000) :
  Calls Tryz.prog 64 #[.agg #[.slice none 0 0,.slice none 0 0,.slice (some ⟨g,0,none⟩) 1 1,.slice none 0 0]] w (RnmP w ρ0 ps e nm cg op num site):=by
 have HP:=zh hp;have HX:=zh hx
 have HML:=zh hml;have HSL:=zh hsl
 obtain⟨np,hnp⟩:∃ n,n=ps.length:=⟨_,rfl⟩;obtain⟨na,hna⟩:∃ n,n=e.args.length:=⟨_,rfl⟩;obtain⟨nc,hnc⟩:∃ n,n=e.arms.length:=⟨_,rfl⟩;obtain⟨nb,hnb⟩:∃ n,n=e.body.length:=⟨_,rfl⟩;obtain⟨kd,hkd⟩:∃ n,n=e.kind:=⟨_,rfl⟩;obtain⟨en,hen⟩:∃ n,n=e.name:=⟨_,rfl⟩;rw [← hnp,← hna,← hnc,← hnb,← hkd,← hen] at hf;rw [← hnp] at HP;have HNP:=zh hnp;have HNA:=zh (And.intro hkd (And.intro hen (And.intro hna (And.intro hnc hnb))))
 have hnz:(np:Int)≤1000:=by omega
 have HF:=zh hf;clear hf hp hx hml hsl hpl hnp hna hnc hnb hkd hen
 go_enter Tryz.func64,Tryz.ntmps64
 go_upto_region 3 with fail
 obtain⟨ρ1,ps0⟩:=PS.start hρ HP.out HX.out g #[.string nm,.bool cg,.slice pa np pc,.int .i64 kd,.string en,.string op,.int .i64 num,.int .i64 site,.slice xa na xc,.slice aa nc ca,.slice ab nb cb];have PS0:=zh ps0;clear ps0 hρ;obtain⟨W0,hW0⟩:∃ W,W=(((w.alloc (.cells #[.slice none 0 0,.slice none 0 0,.slice (some ⟨g,0,none⟩) 1 1,.slice none 0 0] 128)).alloc (.cells #[.slice none 0 0,.slice none 0 0,.slice none 0 0,.slice none 0 0] 128)).alloc (.cells #[.slice none 0 0,.slice none 0 0,.slice none 0 0,.slice none 0 0] 128)):=⟨_,rfl⟩;have BX:Hid (W0.heap[w.heap.size]?=some (.cells #[.slice none 0 0,.slice none 0 0,.slice (some ⟨g,0,none⟩) 1 1,.slice none 0 0] 128 (0,0))):=by
  show _=_;rw [hW0];have h:=zs2 w (.cells #[.slice none 0 0,.slice none 0 0,.slice (some ⟨g,0,none⟩) 1 1,.slice none 0 0] 128);have h1:=(zt2 _ (.cells #[.slice none 0 0,.slice none 0 0,.slice none 0 0,.slice none 0 0] 128) w.heap.size (by simp)).trans h
  exact(zt2 _ _ w.heap.size (by simp;omega)).trans h1
 have FX:Hid (W0.heap[g]?=some (.cells #[.string nm,.bool cg,.slice pa np pc,.int .i64 kd,.string en,.string op,.int .i64 num,.int .i64 site,.slice xa na xc,.slice aa nc ca,.slice ab nb cb] 29 (0,0))):=by
  have hg:=(zq7.1 HF.out).1;show _=_;rw [hW0];have h1:=(zt2 w (.cells #[.slice none 0 0,.slice none 0 0,.slice (some ⟨g,0,none⟩) 1 1,.slice none 0 0] 128) g hg).trans HF.out
  have h2:=(zt2 _ (.cells #[.slice none 0 0,.slice none 0 0,.slice none 0 0,.slice none 0 0] 128) g (by simp;omega)).trans h1
  exact(zt2 _ (.cells #[.slice none 0 0,.slice none 0 0,.slice none 0 0,.slice none 0 0] 128) g (by simp;omega)).trans h2
 have SX:Hid (W0.heap.size=w.heap.size+1+1+1):=by show _=_;rw [hW0];simp
 rw [← hW0] at PS0;rw [← hW0];obtain⟨sb,hsb⟩:∃ b,b=w.heap.size+1+1:=⟨_,rfl⟩;obtain⟨za,hzb⟩:∃ b,b=w.heap.size+1:=⟨_,rfl⟩;rw [← hsb,← hzb] at PS0;rw [← hsb] at SX;rw [← hsb,← hzb];obtain⟨bb,hbb⟩:∃ b,b=w.heap.size:=⟨_,rfl⟩;rw [← hbb] at BX PS0;rw [← hbb];rw [← SX.out] at PS0;clear hW0 hsb hzb hbb;obtain⟨i70,p1,p2,p3,p4⟩:=info_parts Tryz.info70;have HI70:=zh (And.intro p1 (And.intro p2 (And.intro p3 p4)));obtain⟨i29,r1,r2,r3,r4⟩:=info_parts Tryz.info29b;have HI29:=zh (And.intro r1 (And.intro r2 (And.intro r3 r4)))
 clear p1 p2 p3 p4 r1 r2 r3 r4
 go_wp2_with fail
 go_loopw [4] (fun iv wr=>(iv = .int .i64 0∧wr=W0)∨(iv = .int .i64 1∧∃ (ρ:Nat→Nat) (rb fb:Nat) (old:List Nm) (fcs:Array Value) (lv:Value) (qs:List (Nm×Bool)) (xaF aaF abF:Option Addr) (xcF caF cbF:Nat) (fa:Option Addr) (fc:Nat) (eF:TE),
  PS w ρ0 g bb rb za sb fb ps e (.slice pa np pc) xa aa ab xc wr ρ old fcs #[.slice none 0 0,.slice none 0 0,.slice fa 1 fc,.slice none 0 0] lv qs∧TEX (Zw ρ wr) eF xaF aaF abF xcF∧eF=e.ren (rnk (metE e (ps.foldl met [])))∧qs.map Prod.fst=ps.map (rnk (metE e (ps.foldl met []))) ∧
  RB wr w.heap.size ρ 24 29 11 (.slice fa 1 fc) 1 (#[.string nm,.bool cg,lv,.int .i64 eF.kind,.string eF.name,.string op,.int .i64 num,.int .i64 site,.slice xaF eF.args.length xcF,.slice aaF eF.arms.length caF,.slice abF eF.body.length cbF]:Array Value).toList)) (fun iv _=>1 - (intOf iv).toNat)
 case atStart=>exact .inl ⟨rfl,rfl⟩
 rename World=>V
 rcases hrel with ⟨rfl,rfl⟩|⟨rfl,hst⟩
 ·have b2:V.cell? ⟨bb,2,none⟩=some (.slice (some ⟨g,0,none⟩) 1 1):=by rw [zb _ _ 2 _ _ _ BX.out];rfl
  obtain⟨q0,q1,q2,q3,q4,q5,q6,q7,q8,q9,q10⟩:=box11 FX.out;have hbl:bb<V.heap.size:=zs3 V _ b2;have hgl:g<V.heap.size:=zs3 V _ q0
  go_upto_region 8 with fail
  obtain⟨V1,hV1⟩:∃ W,W=(V.alloc (.cells #[.slice none 0 0] 169)).alloc (.cells #[.string nm,.bool cg,.slice pa np pc,.int .i64 kd,.string en,.string op,.int .i64 num,.int .i64 site,.slice xa na xc,.slice aa nc ca,.slice ab nb cb] 29):=⟨_,rfl⟩;rw [← hV1] at PS0;rw [← hV1];obtain⟨fb,hfb⟩:∃ b,b=V.heap.size+1:=⟨_,rfl⟩;obtain⟨rb,hrb⟩:∃ b,b=V.heap.size:=⟨_,rfl⟩;rw [← hfb,← hrb] at PS0;rw [← hfb,← hrb];clear hV1 hfb hrb b2 q0 q1 q2 q3 q4 q5 q6 q7 q8 q9 q10 hbl hgl BX FX SX
  go_wp2_with fail
  go_loopw [7,8] (fun lv kv wr=>∃ (k:Nat) (ρ:Nat→Nat) (qs:List (Nm×Bool)),k≤np∧kv = .int .i64 k∧PS w ρ0 g bb rb za sb fb ps e (.slice pa np pc) xa aa ab xc wr ρ ((ps.take k).foldl met []) #[.string nm,.bool cg,.slice pa np pc,.int .i64 kd,.string en,.string op,.int .i64 num,.int .i64 site,.slice xa na xc,.slice aa nc ca,.slice ab nb cb] #[.slice none 0 0,.slice none 0 0,.slice none 0 0,.slice none 0 0] lv qs ∧
   qs.map Prod.fst=(ps.take k).map (rnk ((ps.take k).foldl met []))∧qs.length=k) (fun _ kv _=>np - (intOf kv).toNat)
  case atStart=>exact⟨0,ρ1,[],zv3 _,rfl,PS0.out,rfl,rfl⟩
  rename World=>wo
  rename World=>V
  obtain⟨k,ρ4,qs,hk,rfl,hps,hqs,hql⟩:=hrel;have KK:=zh hk;have KP:=zh hps
  have KQ:=zh hqs;have KL:=zh hql
  have f2:V.cell? ⟨fb,2,none⟩=some (.slice pa np pc):=hps.fn.cell 2 rfl;clear hk hqs hql PS0
  by_cases hlt:k<np
  ·have hkz:(k:Int)<np:=by omega
   have hk0:(0:Int)≤k:=by omega
   have KLT:=zh hlt;obtain⟨pa0,pc0,hsl,hat⟩:=hps.pin;simp only [Value.slice.injEq] at hsl;obtain⟨rfl,-,rfl⟩:=hsl;obtain⟨g2,o2,rfl,hat2⟩:=hat (by rw [← HNP.out];omega)
   obtain⟨x,hx⟩:∃ x,ps[k]?=some x:=⟨_,zq9 (by rw [← HNP.out];exact hlt)⟩
   obtain⟨m,y1,y2⟩:=hat2 k x hx;have RG0:Hid (ρ4 g2=0):=(zw_cell.1 y1).1;have y1:=(zw_cell.1 y1).2
   have y2:=(zw_cell.1 y2).2;have RI:=zh (vars_snoc hx [])
   have RF:=zh (fold_snoc (f:=met) hx []);obtain⟨ok,hok⟩:∃ q,q=(ps.take k).foldl met []:=⟨_,rfl⟩;have HOK:Hid (ok.length≤1000∧ok.Nodup):=by
    rw [hok];exact⟨zr5 (List.IsPrefix.length_le ((folds_take met_pre ps k []).trans (metE_pre e _))) HML.out,folds_nodup (fun o s h=>met_nodup h) _ _ List.nodup_nil⟩
   rw [← hok] at KP RI RF KQ;have NC:=zh (rnm_any x KP.out.drew.rn KP.out.drew.ch.fresh HOK.out.1 HOK.out.2);obtain⟨xs,hrb,hgr⟩:=KP.out.row;obtain⟨lA,lC,hlv⟩:=hrb.shape;rw [KL.out] at hlv;subst hlv;clear hlt hat hat2 hx hps hok hrb hgr
   go_wp2_with fail
   refine wp_region_part (S:=fun w'=>w'.cell? ⟨fb,2,none⟩=some (.slice (some ⟨g2,o2,none⟩) np pc)∧w'.cell? ⟨g2,o2+k*2,none⟩=some (.string x)∧w'.cell? ⟨g2,o2+k*2+1,none⟩=some (.bool m))
    [true,true,true,true,true,true,true,true,false,true,true,true,true,true,true,false,false] (by kernel_rfl) (by kernel_rfl) (fun _ _ d _ _ h=>by cases d<;>exact h) ⟨f2,y1,y2⟩ ?_
   iterate 14 (refine wpRd_step (v:=?_) (Or.inl ⟨by rfl,?_⟩) ?_;rotate_left;(intro wz hSw;obtain⟨k0,k1,k2⟩:=hSw;go_simp;try with_reducible rfl);try simp only [Act.put,zq4,zq5,zq6])
   refine wpEf_step (fun K hK=>?_)
   go_simp
   refine NC.out.mono ?_;rintro en V2 ⟨ρ5,rfl,hc5,hr5,hf5⟩;obtain⟨y,hy⟩:∃ q,q=yk (numOf (met ok x) x):=⟨_,rfl⟩;rw [← hy];have HY:Hid (rnk (met ok x) x=y):=hy.symm;have SP:=zh ((KP.out.drew.on (KP.out.drew.ch.trans hc5) hc5 (fun r hr=>by rcases hr with rfl | rfl<;>omega) hr5).below ((zs9 _ _).alloc (zr4 _) (.cells #[.string y,.bool m] 70)))
   have X2:=zh (zs2 V2 (.cells #[.string y,.bool m] 70));have ng:¬ NM (ρ4 g2):=by rw [RG0.out];intro h;rcases h with h | h<;>cases h
   have nf:¬ NM (ρ4 fb):=by rw [KP.out.fn.2];intro h;rcases h with h | h<;>cases h
   refine hK.out _ _ ⟨hc5.cell f2 nf,hc5.cell y1 ng,hc5.cell y2 ng⟩ (fun hHeld=>?_)
   clear hK K hc5 hr5 hf5 ng nf NC f2 y1 y2 hy;obtain⟨k0,k1,k2⟩:=hHeld
   try simp only [Act.put,zq4,zq5,zq6]
   refine wpEf_step (fun K hK=>?_)
   go_simp
   refine hK.out _ _ ⟨k0,k1,k2⟩ (fun hHeld=>?_)
   clear hK K hHeld
   try simp only [Act.put,zq4,zq5,zq6]
   refine wpEf_step (fun K hK=>?_)
   go_simp
   refine hK.out _ _ ⟨zs4 _ k0,zs4 _ k1,zs4 _ k2⟩ (fun hHeld=>?_)
   clear hK K hHeld k0 k1 k2
   try simp only [Act.put,zq4,zq5,zq6]
   refine wpEf_nil ?_;simp only [behind];obtain⟨xs,hr2,hg2⟩:=SP.out.row;rw [KL.out] at hr2;have RB2:=zh hr2;have GR2:=zh hg2
   have NB:Hid (k+1≤maxLen∧(k+1)*24≤140737488355328):=by show _∧_;have:=KLT.out;simp only [maxLen];omega
   clear hr2 hg2
   go_wp2_with (at_builtin;refine wpList_append_rb rfl _ _ 22 rfl 70 i70 (.agg #[.string ⟨#[]⟩,.bool false]) 2 24 Tryz.underlying22 HI70.out.1 HI70.out.2.1 HI70.out.2.2.1 HI70.out.2.2.2 rfl (by decide) NM w ρ0 ρ5 23 (.slice lA k lC) k xs rfl RB2.out SP.out.ch ⟨V2.heap.size,0,none⟩ 1 1 [.string y,.bool m] rfl rfl (news_of X2.out) (fun u hu=>by simp at hu;rcases hu with rfl | rfl<;>rfl) NB.out.1 NB.out.2 ?_)
   intro a3 c3 V3 ρ6 hr6 hg6;have BP:=zh (SP.out.grow (q:=(y,m)) GR2.out (by rw [KL.out];exact hr6) hg6 rfl rfl)
   clear hr6 hg6 SP GR2 RB2 X2
   go_wp2_with fail
   go_roundw
   case rel=>exact⟨k+1,ρ6,qs++[(y,m)],KLT.out,by go_num,by rw [RF.out];exact BP.out,by rw [RI.out,List.map_append,KQ.out,HY.out];rfl,by rw [zr2,KL.out];rfl⟩
   case measure=>have:=KLT.out;simp [intOf];omega
  have hkn:k=np:=by have:=KK.out;omega
  subst hkn;have hgz:(k:Int)≤k:=Int.le_refl _;have TK:Hid (ps.take k=ps):=zr3 (by rw [← HNP.out];exact zr4 _)
  obtain⟨o1,ho1⟩:∃ q,q=ps.foldl met []:=⟨_,rfl⟩;have HO1:=zh ho1;rw [TK.out,← ho1] at KP KQ;obtain⟨xsr,hrb,-⟩:=KP.out.row;obtain⟨lA,lC,hlv⟩:=hrb.shape;rw [KL.out] at hlv;subst hlv;have KP2:=zh (KP.out.setF 2 (.slice lA k lC))
  simp only [zq4,zq5,zq6] at KP2;have ff:V.frozen? ⟨fb,2,none⟩=false:=KP.out.fn.frozen 2;have ND1:Hid o1.Nodup:=by rw [ho1];exact folds_nodup (fun o s h=>met_nodup h) _ _ List.nodup_nil
  have ML1:Hid ((metE e o1).length≤1000):=by rw [ho1];exact HML.out
  obtain⟨V5,hV5⟩:∃ W,W=V.setCell ⟨fb,2,none⟩ (.slice lA k lC):=⟨_,rfl⟩;rw [← hV5] at KP2;clear hlt hps ho1 hrb
  go_upto_region 14 with fail
  rw [← hV5];clear hV5 f2 ff;have hN:=HNA.out;obtain⟨hN1,hN2,hN3,hN4,hN5⟩:=hN;have CB:=zh (rbody_any e.size e (zr4 _) (op:=op) (num:=num) (site:=site) (ca:=ca) (cb:=cb) KP2.out.inn KP2.out.rn KP2.out.ch.fresh ND1.out ML1.out HSL.out)
  have CB:Hid (Calls Tryz.prog 93 #[.pointer (some ⟨rb,0,none⟩),.agg #[.int .i64 kd,.string en,.string op,.int .i64 num,.int .i64 site,.slice xa na xc,.slice aa nc ca,.slice ab nb cb]] V5 (RbdP V5 ρ4 rb o1 e op num site)):=by rw [hN1,hN2,hN3,hN4,hN5];exact CB.out
  have f3:V5.cell? ⟨fb,3,none⟩=some (.int .i64 kd):=KP2.out.fn.cell 3 rfl;have f4:V5.cell? ⟨fb,4,none⟩=some (.string en):=KP2.out.fn.cell 4 rfl
  have f5:V5.cell? ⟨fb,5,none⟩=some (.string op):=KP2.out.fn.cell 5 rfl;have f6:V5.cell? ⟨fb,6,none⟩=some (.int .i64 num):=KP2.out.fn.cell 6 rfl
  have f7:V5.cell? ⟨fb,7,none⟩=some (.int .i64 site):=KP2.out.fn.cell 7 rfl;have f8:V5.cell? ⟨fb,8,none⟩=some (.slice xa na xc):=KP2.out.fn.cell 8 rfl
  have f9:V5.cell? ⟨fb,9,none⟩=some (.slice aa nc ca):=KP2.out.fn.cell 9 rfl;have f10:V5.cell? ⟨fb,10,none⟩=some (.slice ab nb cb):=KP2.out.fn.cell 10 rfl
  clear hN1 hN2 hN3 hN4 hN5 KP
  go_wp2_with fail
  refine CB.out.mono ?_;rintro en5 V6 ⟨ρ5,xaF,aaF,abF,xcF,caF,cbF,rfl,hc5,hr5,hx5,hf5⟩;have SP:=zh (KP2.out.on (KP2.out.ch.trans hc5) hc5 (fun r hr=>by rcases hr with rfl | rfl<;>omega) hr5)
  obtain⟨eF,heF⟩:∃ q,q=e.ren (rnk (metE e o1)):=⟨_,rfl⟩;have HEF:=zh heF;rw [← heF] at hx5;rw [← heF];have HX5:=zh hx5
  obtain⟨q0,q1,q2,q3,q4,q5,q6,q7,q8,q9,q10⟩:=box11 SP.out.fn.1;have ff:∀ j,V6.frozen? ⟨fb,j,none⟩=false:=fun j=>SP.out.fn.frozen j
  have SF:=zh ((((((((SP.out.setF 3 (.int .i64 eF.kind)).setF 4 (.string eF.name)).setF 5 (.string op)).setF 6 (.int .i64 num)).setF 7 (.int .i64 site)).setF 8 (.slice xaF eF.args.length xcF)).setF 9 (.slice aaF eF.arms.length caF)).setF 10 (.slice abF eF.body.length cbF));simp only [zq4,zq5,zq6] at SF;have XF:Hid (TEX (Zw ρ5 ((((((((V6.setCell ⟨fb,3,none⟩ (.int .i64 eF.kind)).setCell ⟨fb,4,none⟩ (.string eF.name)).setCell ⟨fb,5,none⟩ (.string op)).setCell ⟨fb,6,none⟩ (.int .i64 num)).setCell ⟨fb,7,none⟩ (.int .i64 site)).setCell ⟨fb,8,none⟩ (.slice xaF eF.args.length xcF)).setCell ⟨fb,9,none⟩ (.slice aaF eF.arms.length caF)).setCell ⟨fb,10,none⟩ (.slice abF eF.body.length cbF))) eF xaF aaF abF xcF):=by
   have hr:ρ5 fb=28:=SP.out.fn.2;have c:Ch (· = 28) ρ5 ρ5 V6 _:=((((((((Ch.refl SP.out.ch.fresh).setCell ⟨fb,3,none⟩ (.int .i64 eF.kind) fun _=>hr).setCell ⟨fb,4,none⟩ (.string eF.name) fun _=>hr).setCell ⟨fb,5,none⟩ (.string op) fun _=>hr).setCell ⟨fb,6,none⟩ (.int .i64 num) fun _=>hr).setCell ⟨fb,7,none⟩ (.int .i64 site) fun _=>hr).setCell ⟨fb,8,none⟩ (.slice xaF eF.args.length xcF) fun _=>hr).setCell ⟨fb,9,none⟩ (.slice aaF eF.arms.length caF) fun _=>hr).setCell ⟨fb,10,none⟩ (.slice abF eF.body.length cbF) fun _=>hr
   exact HX5.out.kept (zw_ch c (by decide))
  clear hc5 hr5 hx5 hf5 heF f3 f4 f5 f6 f7 f8 f9 f10 CB KP2
  go_upto_region 15 with fail
  obtain⟨V7,hV7⟩:∃ W,W=(((((((V6.setCell ⟨fb,3,none⟩ (.int .i64 eF.kind)).setCell ⟨fb,4,none⟩ (.string eF.name)).setCell ⟨fb,5,none⟩ (.string op)).setCell ⟨fb,6,none⟩ (.int .i64 num)).setCell ⟨fb,7,none⟩ (.int .i64 site)).setCell ⟨fb,8,none⟩ (.slice xaF eF.args.length xcF)).setCell ⟨fb,9,none⟩ (.slice aaF eF.arms.length caF)).setCell ⟨fb,10,none⟩ (.slice abF eF.body.length cbF):=⟨_,rfl⟩;rw [← hV7] at SF XF;rw [← hV7];clear hV7 q0 q1 q2 q3 q4 q5 q6 q7 q8 q9 q10 ff SP HX5;have SA:=zh (SF.out.below ((zs9 _ _).alloc (zr4 _) (.cells #[.string nm,.bool cg,.slice lA k lC,.int .i64 eF.kind,.string eF.name,.string op,.int .i64 num,.int .i64 site,.slice xaF eF.args.length xcF,.slice aaF eF.arms.length caF,.slice abF eF.body.length cbF] 29)));have XA:Hid (TEX (Zw ρ5 (V7.alloc (.cells #[.string nm,.bool cg,.slice lA k lC,.int .i64 eF.kind,.string eF.name,.string op,.int .i64 num,.int .i64 site,.slice xaF eF.args.length xcF,.slice aaF eF.arms.length caF,.slice abF eF.body.length cbF] 29))) eF xaF aaF abF xcF):=XF.out.kept (zw_ch (Ch.of_below (M:=fun _=>False) ((zs9 _ _).alloc (zr4 _) _) SF.out.ch.fresh) id)
  have X2:=zh (zs2 V7 (.cells #[.string nm,.bool cg,.slice lA k lC,.int .i64 eF.kind,.string eF.name,.string op,.int .i64 num,.int .i64 site,.slice xaF eF.args.length xcF,.slice aaF eF.arms.length caF,.slice abF eF.body.length cbF] 29));have s2:V7.cell? ⟨sb,2,none⟩=some (.slice none 0 0):=SF.out.out.cell 2 rfl
  obtain⟨q0,q1,q2,q3,q4,q5,q6,q7,q8,q9,q10⟩:=box11 SF.out.fn.1;have NB:Hid (0+1≤maxLen∧(0+1)*176≤140737488355328):=by show _∧_;simp only [maxLen];omega
  go_wp2_with (at_builtin;refine wpList_append_rb rfl _ _ 126 rfl 29 i29 (.agg #[.string ⟨#[]⟩,.bool false,.slice none 0 0,.int .i64 0,.string ⟨#[]⟩,.string ⟨#[]⟩,.int .i64 0,.int .i64 0,.slice none 0 0,.slice none 0 0,.slice none 0 0]) 11 176 Tryz.underlying126 HI29.out.1 HI29.out.2.1 HI29.out.2.2.1 HI29.out.2.2.2 rfl (by decide) NM w ρ0 ρ5 24 (.slice none 0 0) 0 [] rfl (RB.nil _ _ _ _ _ _) SA.out.ch ⟨V7.heap.size,0,none⟩ 1 1 [.string nm,.bool cg,.slice lA k lC,.int .i64 eF.kind,.string eF.name,.string op,.int .i64 num,.int .i64 site,.slice xaF eF.args.length xcF,.slice aaF eF.arms.length caF,.slice abF eF.body.length cbF] rfl rfl (news_of X2.out) (fun u hu=>by simp at hu;rcases hu with rfl | rfl | rfl | rfl | rfl | rfl | rfl | rfl | rfl | rfl | rfl<;>rfl) NB.out.1 NB.out.2 ?_)
  intro a3 c3 V8 ρ6 hr6 hg6;have SB:=zh (SA.out.on hg6.whole hg6.step (fun r hr=>by omega) (SA.out.rn.keep hg6.step (by decide) (by decide)))
  have XB:=zh (XA.out.kept (zw_ch hg6.step (by decide)))
  have SC:=zh (SB.out.setS 2 (.slice a3 (0+1) c3));simp only [zq4,zq5,zq6] at SC;have c22:Ch (· = 22) ρ6 ρ6 V8 (V8.setCell ⟨sb,2,none⟩ (.slice a3 (0+1) c3)):=(Ch.refl hg6.step.fresh).setCell _ _ fun _=>SB.out.out.2
  have XC:=zh (XB.out.kept (zw_ch c22 (by decide)))
  have RC:=zh (hr6.keep c22 (by decide))
  have f2:V8.frozen? ⟨sb,2,none⟩=false:=SB.out.out.frozen 2;have s2:V8.cell? ⟨sb,2,none⟩=some (.slice none 0 0):=SB.out.out.cell 2 rfl
  clear hr6 hg6 c22 SA XA X2 q0 q1 q2 q3 q4 q5 q6 q7 q8 q9 q10 SF XF SB XB
  go_upto_region 5 with fail
  obtain⟨V9,hV9⟩:∃ W,W=V8.setCell ⟨sb,2,none⟩ (.slice a3 1 c3):=⟨_,rfl⟩;rw [← hV9] at SC XC RC;rw [← hV9];clear hV9 f2 s2
  go_wp2_with fail
  go_roundw
  case rel =>
   refine .inr ⟨by go_num,ρ6,rb,fb,_,_,_,qs,xaF,aaF,abF,xcF,caF,cbF,a3,c3,eF,SC.out,XC.out,by rw [HEF.out,HO1.out],?_,?_⟩
   ·rw [KQ.out,← HO1.out]
    exact(vars_more (o:=[]) (metE_pre e o1) (by rw [← HO1.out];exact List.prefix_refl _)).symm
   exact RC.out
  case measure=>simp [intOf]
 obtain⟨ρ6,rb,fb,old,fcs,lv,qs,xaF,aaF,abF,xcF,caF,cbF,fa,fc,eF,hps,hxF,heF,hqF,hrF⟩:=hst;have b2:V.cell? ⟨bb,2,none⟩=some (.slice (some ⟨g,0,none⟩) 1 1):=hps.box.cell 2 rfl;have s0:V.cell? ⟨sb,0,none⟩=some (.slice none 0 0):=hps.out.cell 0 rfl
 have s1:V.cell? ⟨sb,1,none⟩=some (.slice none 0 0):=hps.out.cell 1 rfl;have s2:V.cell? ⟨sb,2,none⟩=some (.slice fa 1 fc):=hps.out.cell 2 rfl
 have s3:V.cell? ⟨sb,3,none⟩=some (.slice none 0 0):=hps.out.cell 3 rfl;have z0:V.cell? ⟨za,0,none⟩=some (.slice none 0 0):=hps.res.cell 0 rfl
 have z1:V.cell? ⟨za,1,none⟩=some (.slice none 0 0):=hps.res.cell 1 rfl;have z2:V.cell? ⟨za,2,none⟩=some (.slice none 0 0):=hps.res.cell 2 rfl
 have z3:V.cell? ⟨za,3,none⟩=some (.slice none 0 0):=hps.res.cell 3 rfl;have zf:∀ j,V.frozen? ⟨za,j,none⟩=false:=fun j=>hps.res.frozen j
 have PF:=zh hps;have XF:=zh hxF
 have EF:=zh heF;have QF:=zh hqF
 have RF:=zh hrF;clear hps hxF heF hqF hrF PS0 BX FX SX
 go_wp2_with fail
 obtain⟨WF,hWF⟩:∃ W,W=(((V.setCell ⟨za,0,none⟩ (.slice none 0 0)).setCell ⟨za,1,none⟩ (.slice none 0 0)).setCell ⟨za,2,none⟩ (.slice fa 1 fc)).setCell ⟨za,3,none⟩ (.slice none 0 0):=⟨_,rfl⟩;have hr:ρ6 za=27:=PF.out.res.2;have c:Ch (· = 27) ρ6 ρ6 V WF:=by
  rw [hWF];exact((((Ch.refl PF.out.ch.fresh).setCell ⟨za,0,none⟩ (.slice none 0 0) fun _=>hr).setCell ⟨za,1,none⟩ (.slice none 0 0) fun _=>hr).setCell ⟨za,2,none⟩ (.slice fa 1 fc) fun _=>hr).setCell ⟨za,3,none⟩ (.slice none 0 0) fun _=>hr
 have hz:¬ za<w.heap.size:=by have:=PF.out.new.1;omega
 have cw:Ch NM ρ0 ρ6 w WF:=by
  rw [hWF];exact(((PF.out.ch.setCell ⟨za,0,none⟩ (.slice none 0 0) fun h=>absurd h hz).setCell ⟨za,1,none⟩ (.slice none 0 0) fun h=>absurd h hz).setCell ⟨za,2,none⟩ (.slice fa 1 fc) fun h=>absurd h hz).setCell ⟨za,3,none⟩ (.slice none 0 0) fun h=>absurd h hz
 have DF:=zh (heap_setCell_same _ _ 3 _ _ (.slice none 0 0) (heap_setCell_same _ _ 2 _ _ (.slice fa 1 fc) (heap_setCell_same _ _ 1 _ _ (.slice none 0 0) (heap_setCell_same _ _ 0 _ _ (.slice none 0 0) PF.out.res.1))));rw [← hWF] at DF;rw [← hWF];simp only [zq4,zq5,zq6] at DF;clear hWF b2 s0 s1 s2 s3 z0 z1 z2 z3 zf;have y0:WF.cell? ⟨za,0,none⟩=some (.slice none 0 0):=by rw [zb _ _ 0 _ _ _ DF.out];rfl
 have y1:WF.cell? ⟨za,1,none⟩=some (.slice none 0 0):=by rw [zb _ _ 1 _ _ _ DF.out];rfl
 have y2:WF.cell? ⟨za,2,none⟩=some (.slice fa 1 fc):=by rw [zb _ _ 2 _ _ _ DF.out];rfl
 have y3:WF.cell? ⟨za,3,none⟩=some (.slice none 0 0):=by rw [zb _ _ 3 _ _ _ DF.out];rfl
 refine bodyPost_ret (v := .agg #[.slice none 0 0,.slice none 0 0,.slice fa 1 fc,.slice none 0 0]) (by simp [results,Tryz.results64,go_sem,y0,y1,y2,y3];try rfl) rfl ?_
 obtain⟨xs,a1,b1⟩:=PF.out.row;obtain⟨la,lc,hlv⟩:=a1.shape;obtain⟨gF,hgF,-,-,-⟩:=RF.out.cells (by decide)
 refine⟨ρ6,gF,fc,lv,xaF,aaF,abF,xcF,caF,cbF,cw,by rw [hgF],⟨la,lc,by rw [hlv];congr 1;have h:=congrArg List.length QF.out;rw [zv1,zv1] at h;exact h⟩,fun W' cW=>⟨?_,params_of ((a1.keep c (by decide)).keep cW (by decide)) b1 QF.out,?_⟩⟩
 ·rw [← EF.out]
  obtain⟨g2,hg2,-,-,hcF⟩:=((RF.out.keep c (by decide)).keep cW (by decide)).cells (by decide)
  rw [hgF] at hg2;simp only [zt3,Addr.mk.injEq] at hg2;obtain⟨rfl,-,-⟩:=hg2;intro j v hv;exact hcF j v (by simpa using hv)
 rw [← EF.out];exact((XF.out.kept (zw_ch c (by decide))).kept (zw_ch cW (by decide))).kept (zw_kept _ _)
def RnfP (w:World) (ps:List Nm) (e:TE) (en:Ending) (w':World):Prop :=
 Below w.heap.size w w'∧∃ v,en = .returned v∧TFunV w' v (ps.map (rnk (metE e (ps.foldl met [])))) (e.ren (rnk (metE e (ps.foldl met []))))
theorem TEX.tfun {w:World}{e:TE}{xa aa ab:Option Addr}{xc:Nat}(h:TEX w e xa aa ab xc) (ca cb:Nat) (nm op:ByteArray) (ch:Bool) (pv:Value) (num site:Int) {ps:List Nm}(hp:ParamsAt w pv ps) :
  TFunV w (.agg #[.string nm,.bool ch,pv,.int .i64 e.kind,.string e.name,.string op,.int .i64 num,.int .i64 site,.slice xa e.args.length xc,.slice aa e.arms.length ca,.slice ab e.body.length cb]) ps e:=by
 have ha:∃ ga oa,(0<e.arms.length→aa=some ⟨ga,oa,none⟩)∧TAAt w e.arms ga oa:=by
  cases hq:e.arms with
  | nil=>exact⟨0,0,fun h=>by simp [TA.length] at h,by rw [TAAt];trivial⟩
  | cons vs e1 r =>
   obtain⟨g,o,h1,h2⟩:=h.arms (by rw [hq];simp [TA.length])
   exact⟨g,o,fun _=>h1,hq ▸ h2⟩
 have hb:∃ gb ob,(0<e.body.length→ab=some ⟨gb,ob,none⟩)∧TBAt w e.body gb ob:=by
  cases hq:e.body with
  | nil=>exact⟨0,0,fun h=>by simp [TB.length] at h,by rw [TBAt];trivial⟩
  | cons e1 r =>
   obtain⟨g,o,h1,h2⟩:=h.body (by rw [hq];simp [TB.length])
   exact⟨g,o,fun _=>h1,hq ▸ h2⟩
 obtain⟨ga,oa,a1,a2⟩:=ha;obtain⟨gb,ob,b1,b2⟩:=hb;exact⟨nm,op,ch,pv,_,num,site,aa,ab,ca,cb,ga,oa,gb,ob,rfl,hp,h.atoms,a1,a2,b1,b2⟩
theorem TFunV.tex {w:World}{v:Value}{ps:List Nm}{e:TE}(h:TFunV w v ps e):∃ (nm op:ByteArray) (ch:Bool) (pa:Option Addr) (pc:Nat) (num site:Int) (xa aa ab:Option Addr) (xc ca cb:Nat),
  v = .agg #[.string nm,.bool ch,.slice pa ps.length pc,.int .i64 e.kind,.string e.name,.string op,.int .i64 num,.int .i64 site,.slice xa e.args.length xc,.slice aa e.arms.length ca,.slice ab e.body.length cb]∧ParamsAt w (.slice pa ps.length pc) ps∧TEX w e xa aa ab xc:=by
 obtain⟨nm,op,ch,pv,va,num,site,aa,ab,ca,cb,ga,oa,gb,ob,h0,h1,h2,h3,h4,h5,h6⟩:=h;obtain⟨xa,xc,rfl,-⟩:=id h2.at';obtain⟨pa,pc,rfl,-⟩:=id h1.at';exact⟨nm,op,ch,pa,pc,num,site,xa,aa,ab,xc,ca,cb,h0,h1,h2,fun h=>⟨ga,oa,h3 h,h4⟩,fun h=>⟨gb,ob,h5 h,h6⟩⟩
theorem field128 (a b c d:Value) (W:World):(Instr.field 128 (.agg #[a,b,c,d]) 2).run Tryz.prog W = .ok c W:=by kernel_rfl
theorem renamedFn_any {w:World}{v:Value}{ps:List Nm}{e:TE}(h:TFunV w v ps e) (hml:(metE e (ps.foldl met [])).length≤1000) (hsl:slimE e) (hpl:ps.length≤1000):Calls Tryz.prog 27 #[v] w (RnfP w ps e):=by
 obtain⟨nm,op,cg,pa,pc,num,site,xa,aa,ab,xc,ca,cb,rfl,hp,hx⟩:=h.tex;have HP:=zh hp;have HX:=zh hx
 have HC:=zh (And.intro hml (And.intro hsl hpl));clear h hp hx hml hsl hpl
 go_enter Tryz.func27,Tryz.ntmps27
 obtain⟨W2,hW2⟩:∃ W,W=((w.alloc (.cells #[.string nm,.bool cg,.slice pa ps.length pc,.int .i64 e.kind,.string e.name,.string op,.int .i64 num,.int .i64 site,.slice xa e.args.length xc,.slice aa e.arms.length ca,.slice ab e.body.length cb] 29)).alloc (.cells #[.string ⟨#[]⟩,.bool false,.slice none 0 0,.int .i64 0,.string ⟨#[]⟩,.string ⟨#[]⟩,.int .i64 0,.int .i64 0,.slice none 0 0,.slice none 0 0,.slice none 0 0] 29)).alloc (.cells #[.string nm,.bool cg,.slice pa ps.length pc,.int .i64 e.kind,.string e.name,.string op,.int .i64 num,.int .i64 site,.slice xa e.args.length xc,.slice aa e.arms.length ca,.slice ab e.body.length cb] 29):=⟨_,rfl⟩;have B2:Hid (Below w.heap.size w W2):=by show Below _ _ _;rw [hW2];exact(((zs9 _ _).alloc (zr4 _) _).alloc (by simp) _).alloc (by simp;omega) _
 have F2:Hid (W2.heap[w.heap.size+1+1]?=some (.cells #[.string nm,.bool cg,.slice pa ps.length pc,.int .i64 e.kind,.string e.name,.string op,.int .i64 num,.int .i64 site,.slice xa e.args.length xc,.slice aa e.arms.length ca,.slice ab e.body.length cb] 29 (0,0))):=by
  show _=_;rw [hW2];have h:=zs2 ((w.alloc (.cells #[.string nm,.bool cg,.slice pa ps.length pc,.int .i64 e.kind,.string e.name,.string op,.int .i64 num,.int .i64 site,.slice xa e.args.length xc,.slice aa e.arms.length ca,.slice ab e.body.length cb] 29)).alloc (.cells #[.string ⟨#[]⟩,.bool false,.slice none 0 0,.int .i64 0,.string ⟨#[]⟩,.string ⟨#[]⟩,.int .i64 0,.int .i64 0,.slice none 0 0,.slice none 0 0,.slice none 0 0] 29)) (.cells #[.string nm,.bool cg,.slice pa ps.length pc,.int .i64 e.kind,.string e.name,.string op,.int .i64 num,.int .i64 site,.slice xa e.args.length xc,.slice aa e.arms.length ca,.slice ab e.body.length cb] 29);rw [show ((w.alloc (.cells #[.string nm,.bool cg,.slice pa ps.length pc,.int .i64 e.kind,.string e.name,.string op,.int .i64 num,.int .i64 site,.slice xa e.args.length xc,.slice aa e.arms.length ca,.slice ab e.body.length cb] 29)).alloc (.cells #[.string ⟨#[]⟩,.bool false,.slice none 0 0,.int .i64 0,.string ⟨#[]⟩,.string ⟨#[]⟩,.int .i64 0,.int .i64 0,.slice none 0 0,.slice none 0 0,.slice none 0 0] 29)).heap.size=w.heap.size+1+1 from by simp] at h
  exact h
 have Z2:Hid (W2.heap[w.heap.size+1]?=some (.cells #[.string ⟨#[]⟩,.bool false,.slice none 0 0,.int .i64 0,.string ⟨#[]⟩,.string ⟨#[]⟩,.int .i64 0,.int .i64 0,.slice none 0 0,.slice none 0 0,.slice none 0 0] 29 (0,0))):=by
  show _=_;rw [hW2];have h:=zs2 (w.alloc (.cells #[.string nm,.bool cg,.slice pa ps.length pc,.int .i64 e.kind,.string e.name,.string op,.int .i64 num,.int .i64 site,.slice xa e.args.length xc,.slice aa e.arms.length ca,.slice ab e.body.length cb] 29)) (.cells #[.string ⟨#[]⟩,.bool false,.slice none 0 0,.int .i64 0,.string ⟨#[]⟩,.string ⟨#[]⟩,.int .i64 0,.int .i64 0,.slice none 0 0,.slice none 0 0,.slice none 0 0] 29);rw [show (w.alloc (.cells #[.string nm,.bool cg,.slice pa ps.length pc,.int .i64 e.kind,.string e.name,.string op,.int .i64 num,.int .i64 site,.slice xa e.args.length xc,.slice aa e.arms.length ca,.slice ab e.body.length cb] 29)).heap.size=w.heap.size+1 from by simp] at h
  exact(zt2 _ _ (w.heap.size+1) (by simp)).trans h
 obtain⟨ρ0,hρ0⟩:∃ ρ0:Nat→Nat,ρ0=fun k=>if k=w.heap.size+1 then 27 else 0:=⟨_,rfl⟩
 have SZ2:W2.heap.size=w.heap.size+1+1+1:=by rw [hW2];simp
 have hfr:∀ k,W2.heap.size≤k→ρ0 k=0:=fun k hk=>by rw [hρ0];exact if_neg (by omega)
 have k2:Kept w (Zw ρ0 W2):=by
  have c:Ch (fun _=>False) (fun _=>0) ρ0 w W2:=by
   have h:Ch (fun _=>False) (fun _=>0) (fun _=>0) w W2:=Ch.of_below B2.out fun _ _=>rfl
   exact⟨h.os,h.tape,h.output,h.size,h.block,fun k hk=>by rw [hρ0];exact if_neg (by omega),hfr⟩
  exact zw_none.trans (zw_ch c id)
 have RC:=zh (renamed_any (ca:=ca) (cb:=cb) F2.out hfr (HP.out.kept k2) (HX.out.kept k2) HC.out.1 HC.out.2.1 HC.out.2.2);have RZ:Hid (ρ0 (w.heap.size+1)=27∧∀ k,k<w.heap.size→ρ0 k=0):=⟨by rw [hρ0];exact if_pos rfl,fun k hk=>by rw [hρ0];exact if_neg (by omega)⟩
 clear hρ0 SZ2 hfr k2;have S2:Hid (w.heap.size+1+1<W2.heap.size):=(zq7.1 F2.out).1
 go_wp2_with fail
 rw [← hW2];obtain⟨za,hzb⟩:∃ b,b=w.heap.size+1:=⟨_,rfl⟩;rw [← hzb] at Z2 RC S2 RZ;rw [← hzb];have ZW:Hid (w.heap.size≤za):=by show _≤_;omega
 clear hW2 hzb;refine RC.out.mono ?_;rintro en1 w1 ⟨ρF,g,c,lv,xaF,aaF,abF,xcF,caF,cbF,hc,rfl,⟨la,lc,rfl⟩,hall⟩;obtain⟨eF,heF⟩:∃ q,q=e.ren (rnk (metE e (ps.foldl met []))):=⟨_,rfl⟩;have HEF:=zh heF;rw [← heF] at hall;have HA:=zh hall
 have HC1:=zh hc;have B1:Hid (Below w.heap.size w w1):=B2.out.trans (hc.below B2.out.size (fun k hk=>by rw [RZ.out.2 k hk];intro h;rcases h with h | h<;>cases h))
 have Z1:Hid (w1.heap[za]?=some (.cells #[.string ⟨#[]⟩,.bool false,.slice none 0 0,.int .i64 0,.string ⟨#[]⟩,.string ⟨#[]⟩,.int .i64 0,.int .i64 0,.slice none 0 0,.slice none 0 0,.slice none 0 0] 29 (0,0))):=hc.keep Z2.out (by rw [RZ.out.1];intro h;rcases h with h | h<;>cases h)
 have hr:ρF za=27:=(hc.keepRole Z2.out).trans RZ.out.1;have HR:=zh hr
 have hcl:=(hall w1 (Ch.refl hc.fresh)).1;have q0:w1.cell? ⟨g,0,none⟩=some (.string nm):=hcl 0 _ rfl
 have q1:w1.cell? ⟨g,1,none⟩=some (.bool cg):=hcl 1 _ rfl;have q2:w1.cell? ⟨g,2,none⟩=some (.slice la ps.length lc):=hcl 2 _ rfl
 have q3:w1.cell? ⟨g,3,none⟩=some (.int .i64 eF.kind):=hcl 3 _ rfl;have q4:w1.cell? ⟨g,4,none⟩=some (.string eF.name):=hcl 4 _ rfl
 have q5:w1.cell? ⟨g,5,none⟩=some (.string op):=hcl 5 _ rfl;have q6:w1.cell? ⟨g,6,none⟩=some (.int .i64 num):=hcl 6 _ rfl
 have q7:w1.cell? ⟨g,7,none⟩=some (.int .i64 site):=hcl 7 _ rfl;have q8:w1.cell? ⟨g,8,none⟩=some (.slice xaF eF.args.length xcF):=hcl 8 _ rfl
 have q9:w1.cell? ⟨g,9,none⟩=some (.slice aaF eF.arms.length caF):=hcl 9 _ rfl;have q10:w1.cell? ⟨g,10,none⟩=some (.slice abF eF.body.length cbF):=hcl 10 _ rfl
 have zf:∀ j,w1.frozen? ⟨za,j,none⟩=false:=fun j=>zs1 _ _ j _ _ Z1.out
 obtain⟨z0,z1,z2,z3,z4,z5,z6,z7,z8,z9,z10⟩:=box11 Z1.out;have CF:Hid (Ch (· = 27) ρF ρF w1 (((((((((((w1.setCell ⟨za,0,none⟩ (.string nm)).setCell ⟨za,1,none⟩ (.bool cg)).setCell ⟨za,2,none⟩ (.slice la ps.length lc)).setCell ⟨za,3,none⟩ (.int .i64 eF.kind)).setCell ⟨za,4,none⟩ (.string eF.name)).setCell ⟨za,5,none⟩ (.string op)).setCell ⟨za,6,none⟩ (.int .i64 num)).setCell ⟨za,7,none⟩ (.int .i64 site)).setCell ⟨za,8,none⟩ (.slice xaF eF.args.length xcF)).setCell ⟨za,9,none⟩ (.slice aaF eF.arms.length caF)).setCell ⟨za,10,none⟩ (.slice abF eF.body.length cbF))):=((((((((((((Ch.refl hc.fresh).setCell ⟨za,0,none⟩ (.string nm) fun _=>hr).setCell ⟨za,1,none⟩ (.bool cg) fun _=>hr).setCell ⟨za,2,none⟩ (.slice la ps.length lc) fun _=>hr).setCell ⟨za,3,none⟩ (.int .i64 eF.kind) fun _=>hr).setCell ⟨za,4,none⟩ (.string eF.name) fun _=>hr).setCell ⟨za,5,none⟩ (.string op) fun _=>hr).setCell ⟨za,6,none⟩ (.int .i64 num) fun _=>hr).setCell ⟨za,7,none⟩ (.int .i64 site) fun _=>hr).setCell ⟨za,8,none⟩ (.slice xaF eF.args.length xcF) fun _=>hr).setCell ⟨za,9,none⟩ (.slice aaF eF.arms.length caF) fun _=>hr).setCell ⟨za,10,none⟩ (.slice abF eF.body.length cbF) fun _=>hr)
 have DF:=zh (heap_setCell_same _ _ 10 _ _ (.slice abF eF.body.length cbF) (heap_setCell_same _ _ 9 _ _ (.slice aaF eF.arms.length caF) (heap_setCell_same _ _ 8 _ _ (.slice xaF eF.args.length xcF) (heap_setCell_same _ _ 7 _ _ (.int .i64 site) (heap_setCell_same _ _ 6 _ _ (.int .i64 num) (heap_setCell_same _ _ 5 _ _ (.string op) (heap_setCell_same _ _ 4 _ _ (.string eF.name) (heap_setCell_same _ _ 3 _ _ (.int .i64 eF.kind) (heap_setCell_same _ _ 2 _ _ (.slice la ps.length lc) (heap_setCell_same _ _ 1 _ _ (.bool cg) (heap_setCell_same _ _ 0 _ _ (.string nm) Z1.out)))))))))));have BF:Hid (Below w.heap.size w (((((((((((w1.setCell ⟨za,0,none⟩ (.string nm)).setCell ⟨za,1,none⟩ (.bool cg)).setCell ⟨za,2,none⟩ (.slice la ps.length lc)).setCell ⟨za,3,none⟩ (.int .i64 eF.kind)).setCell ⟨za,4,none⟩ (.string eF.name)).setCell ⟨za,5,none⟩ (.string op)).setCell ⟨za,6,none⟩ (.int .i64 num)).setCell ⟨za,7,none⟩ (.int .i64 site)).setCell ⟨za,8,none⟩ (.slice xaF eF.args.length xcF)).setCell ⟨za,9,none⟩ (.slice aaF eF.arms.length caF)).setCell ⟨za,10,none⟩ (.slice abF eF.body.length cbF))):=by show Below _ _ _;exact(((((((((((B1.out.setCell ZW.out (.string nm)).setCell ZW.out (.bool cg)).setCell ZW.out (.slice la ps.length lc)).setCell ZW.out (.int .i64 eF.kind)).setCell ZW.out (.string eF.name)).setCell ZW.out (.string op)).setCell ZW.out (.int .i64 num)).setCell ZW.out (.int .i64 site)).setCell ZW.out (.slice xaF eF.args.length xcF)).setCell ZW.out (.slice aaF eF.arms.length caF)).setCell ZW.out (.slice abF eF.body.length cbF))
 have FE:∀ W,(Instr.field 128 (.agg #[.slice none 0 0,.slice none 0 0,.slice (some ⟨g,0,none⟩) 1 c,.slice none 0 0]) 2).run Tryz.prog W = .ok (.slice (some ⟨g,0,none⟩) 1 c) W:=field128 _ _ _ _;clear hc hcl hall heF RC F2 Z2 B2 S2 HP HX HC hr
 go_wp2_with fail
 obtain⟨WF,hWF⟩:∃ W,W=(((((((((((w1.setCell ⟨za,0,none⟩ (.string nm)).setCell ⟨za,1,none⟩ (.bool cg)).setCell ⟨za,2,none⟩ (.slice la ps.length lc)).setCell ⟨za,3,none⟩ (.int .i64 eF.kind)).setCell ⟨za,4,none⟩ (.string eF.name)).setCell ⟨za,5,none⟩ (.string op)).setCell ⟨za,6,none⟩ (.int .i64 num)).setCell ⟨za,7,none⟩ (.int .i64 site)).setCell ⟨za,8,none⟩ (.slice xaF eF.args.length xcF)).setCell ⟨za,9,none⟩ (.slice aaF eF.arms.length caF)).setCell ⟨za,10,none⟩ (.slice abF eF.body.length cbF)):=⟨_,rfl⟩;rw [← hWF] at CF DF BF;rw [← hWF];simp only [zq4,zq5,zq6] at DF;clear hWF q0 q1 q2 q3 q4 q5 q6 q7 q8 q9 q10 z0 z1 z2 z3 z4 z5 z6 z7 z8 z9 z10 zf FE;obtain⟨y0,y1,y2,y3,y4,y5,y6,y7,y8,y9,y10⟩:=box11 DF.out;refine bodyPost_ret (v := .agg #[.string nm,.bool cg,.slice la ps.length lc,.int .i64 eF.kind,.string eF.name,.string op,.int .i64 num,.int .i64 site,.slice xaF eF.args.length xcF,.slice aaF eF.arms.length caF,.slice abF eF.body.length cbF]) (by simp [results,Tryz.results27,go_sem,y0,y1,y2,y3,y4,y5,y6,y7,y8,y9,y10];try rfl) rfl ?_
 obtain⟨-,hp,hx⟩:=HA.out WF CF.out;refine⟨BF.out,_,rfl,?_⟩;rw [← HEF.out];have hl:ps.length=(ps.map (rnk (metE e (ps.foldl met [])))).length:=(zv1 _).symm;exact hx.tfun caF cbF nm op cg _ num site hp
end
section
open Go.RowKit RG Go.Maps RF
def vrCells (l:List (Nm×Int)):List Value:=l.flatMap fun m=>[.string m.1,.int .i64 m.2]
theorem vrCells_at:∀ (l:List (Nm×Int)) (i:Nat) (m:Nm×Int),l[i]?=some m→(vrCells l)[i*2]?=some (.string m.1)∧(vrCells l)[i*2+1]?=some (.int .i64 m.2)
 | [],i,m,h=>by simp at h
 | a :: l,0,m,h=>by
  simp at h;subst h;exact⟨rfl,rfl⟩
 | a :: l,i+1,m,h=>by
  rw [List.getElem?_cons_succ] at h;have:=vrCells_at l i m h;rw [show (i+1)*2=i*2+1+1 from by omega]
  exact this
def VrOwn (w:World) (base:Nat) (v:Value) (l:List (Nm×Int)):Prop:=w.ownsRow base 61 2 v l.length (vrCells l)
theorem VrOwn.block {w:World}{base:Nat}{v:Value}{l:List (Nm×Int)}(h:VrOwn w base v l) (h0:0<l.length):∃ (g cap:Nat) (cur:Array Value),v = .slice (some ⟨g,0,none⟩) l.length cap∧base≤g∧w.heap[g]?=some (.cells cur 61 (0,0)) ∧
  ∀ (i:Nat) m,l[i]?=some m→cur[i*2]?=some (.string m.1)∧cur[i*2+1]?=some (.int .i64 m.2):=by
 obtain⟨h1,h2⟩:=h;rcases h2 with ⟨rfl,hz⟩|⟨g,cap,cur,rfl,hb,hg,k1,k2,k3,k4⟩
 ·omega
 refine⟨g,cap,cur,rfl,hb,hg,fun i m hi=>?_⟩
 have hl:=(zq8.1 hi).1;obtain⟨a,b⟩:=vrCells_at l i m hi;constructor
 ·rw [← Array.getElem?_toList,← List.getElem?_take_of_lt (show i*2<l.length*2 by omega),k4];exact a
 rw [← Array.getElem?_toList,← List.getElem?_take_of_lt (show i*2+1<l.length*2 by omega),k4];exact b
end
section
open Go.RowKit RG Go.Maps RF
theorem isNm_some {x:Nm}(h:isNm x=true):x.size≠0:=fun h0=>by
 have h1:isNm ⟨#[]⟩=false:=by kernel_rfl
 have h2:x=⟨#[]⟩:=ByteArray.ext (Array.eq_empty_of_size_eq_zero h0);rw [h2,h1] at h;cases h
theorem rnk_short (o:List Nm) (x:Nm) (h:o.length≤1000):(rnk o x).size≤maxLen:=by
 unfold rnk yk;rw [ByteArray.size_append];have h1:numOf o x≤o.length:=List.findIdx_le_length;have:=Lx.digS_size (numOf o x:Int) (by omega) (by omega)
 have h2:(⟨#[121]⟩:ByteArray).size=1:=rfl;simp only [maxLen];omega
theorem prs_length (F:List Nd) (l:List Nat):(pairs F l).length=(vars F).length:=zv1 _
theorem pairs_ren {ρ:Nm→Nm}{F:List Nd}(hr:Ren ρ F) (hF:Fo F) (l:List Nat):(pairs (F.map (Nd.ren ρ)) l).map (·.2)=(pairs F l).map (·.2):=by
 unfold pairs;rw [vars_ren,List.map_map,List.map_map,List.map_map];refine List.map_congr_left fun x hx=>?_
 show ((regIn (F.map (Nd.ren ρ)) l (ρ x):Nat):Int)=_;unfold regIn;rw [place_ren hr hF hx];rfl
theorem FnOk.renamed {w w':World}{v v':Value}{ps:List Nm}{e:TE}(h:FnOk Lx.Env isNm w v ps e) (hb:Below w.heap.size w w') (hg:RG.Good isNm ps e) (hl:(metF ps e).length≤700) (hv:TFunV w' v' (ps.map (rnk (metF ps e))) (e.ren (rnk (metF ps e)))) :
  FnOk Lx.Env isNm w' v' (ps.map (rnk (metF ps e))) (e.ren (rnk (metF ps e)))∧RG.Good isNm (ps.map (rnk (metF ps e))) (e.ren (rnk (metF ps e)))∧F0 (ps.map (rnk (metF ps e))) (e.ren (rnk (metF ps e)))=(F0 ps e).map (Nd.ren (rnk (metF ps e))):=by
 have hr:=metF_ren hg (fun x=>isNm_some) hl
 obtain⟨g1,g2⟩:=good_ren hg (fun x=>isNm_some) hr (fun x hx=>metF_name hg (fun x=>isNm_some) hl hx) (fun x _=>yk_size _)
 refine⟨⟨h.law,h.law.keep _ _ _ (h.law.size _ h.env) h.env hb,hv,fun d hd=>?_,?_⟩,g1,g2⟩
 ·rw [g2] at hd
  obtain⟨d0,hd0,rfl⟩:=List.mem_map.1 hd;refine⟨fun x hx=>?_,fun x hx=>?_⟩
  ·obtain⟨y,_,rfl⟩:=List.mem_map.1 (show x∈d0.binds.map _ from hx)
   exact rnk_short _ _ (by omega)
  obtain⟨bs,⟨k,n,us,arms,body⟩,nx⟩:=d0;obtain⟨y,_,hy⟩:=List.mem_map.1 (show x∈us.map (fun a=>if a.size=0 then a else rnk (metF ps e) a) from hx)
  rw [← hy]
  split
  ·rename_i h0;rw [h0];exact zv3 _
  exact rnk_short _ _ (by omega)
 rw [zv1];have:=hg.params;omega
theorem names_walk {w:World}(hE:Lx.Env w) {v:Value}{ps:List Nm}{e:TE}(h:FnOk Lx.Env isNm w v ps e):Calls Tryz.prog 4 #[v] w (SnP w):=by
 have HK:=zh h;obtain⟨nm,op,ch,pv,va,num,site,aa,ab,ca,cb,ga,oa,gb,ob,rfl,hp,hat,-⟩:=h.val;obtain⟨xa,xc,rfl,-⟩:=id hat.at';obtain⟨pa,pc,rfl,-⟩:=id hp.at';clear h hp hat;obtain⟨np,hnp⟩:∃ n,n=ps.length:=⟨_,rfl⟩;obtain⟨na,hna⟩:∃ n,n=e.args.length:=⟨_,rfl⟩;obtain⟨nc,hnc⟩:∃ n,n=e.arms.length:=⟨_,rfl⟩;obtain⟨nb,hnb⟩:∃ n,n=e.body.length:=⟨_,rfl⟩;obtain⟨ek,hek⟩:∃ n,n=e.kind:=⟨_,rfl⟩;obtain⟨en0,hen⟩:∃ n,n=e.name:=⟨_,rfl⟩;rw [← hnp,← hna,← hnc,← hnb,← hek,← hen] at HK ⊢;have HNP:=zh hnp
 clear hnp hna hnc hnb hek hen;have B0:Hid (Below w.heap.size w (w.alloc (.cells #[.string nm,.bool ch,.slice pa np pc,.int .i64 ek,.string en0,.string op,.int .i64 num,.int .i64 site,.slice xa na xc,.slice aa nc ca,.slice ab nb cb] 29))):=(zs9 _ _).alloc (zr4 _) _;have SN:Hid (Calls Tryz.prog 14 #[] (w.alloc (.cells #[.string nm,.bool ch,.slice pa np pc,.int .i64 ek,.string en0,.string op,.int .i64 num,.int .i64 site,.slice xa na xc,.slice aa nc ca,.slice ab nb cb] 29)) (SnP (w.alloc (.cells #[.string nm,.bool ch,.slice pa np pc,.int .i64 ek,.string en0,.string op,.int .i64 num,.int .i64 site,.slice xa na xc,.slice aa nc ca,.slice ab nb cb] 29)))):=sane_any (HK.out.law.keep _ _ _ (HK.out.law.size _ HK.out.env) HK.out.env B0.out)
 have O0:Hid ((w.alloc (.cells #[.string nm,.bool ch,.slice pa np pc,.int .i64 ek,.string en0,.string op,.int .i64 num,.int .i64 site,.slice xa na xc,.slice aa nc ca,.slice ab nb cb] 29)).heap[w.heap.size]?=some (.cells #[.string nm,.bool ch,.slice pa np pc,.int .i64 ek,.string en0,.string op,.int .i64 num,.int .i64 site,.slice xa na xc,.slice aa nc ca,.slice ab nb cb] 29 (0,0))):=zs2 w _;clear hE
 go_enter Tryz.func4,Tryz.ntmps4
 go_wp2_with fail
 refine SN.out.mono ?_;rintro en w1 ⟨rfl,hb⟩;have B1:Hid (Below w.heap.size w w1):=B0.out.trans (hb.mono B0.out.size);have O1:=zh ((hb.block w.heap.size (by simp)).trans O0.out)
 have L1:Hid (w.heap.size+1≤w1.heap.size):=by have:=hb.size;simp at this;exact this
 have SM:=zh (small_any (HK.out.keep B1.out).val);obtain⟨q0,q1,q2,q3,q4,q5,q6,q7,q8,q9,q10⟩:=box11 O1.out;clear hb SN O0 B0
 go_wp2_with fail
 refine SM.out.mono ?_;rintro en w2 ⟨hb,b,rfl,hs1,-⟩;have B2:Hid (Below w.heap.size w w2):=B1.out.trans (hb.mono B1.out.size);have O2:=zh ((hb.block w.heap.size (by have:=L1.out;omega)).trans O1.out)
 have L2:Hid (w.heap.size+1≤w2.heap.size):=zr5 L1.out hb.size;have S1:=zh hs1
 clear q0 q1 q2 q3 q4 q5 q6 q7 q8 q9 q10 hb hs1 SM;cases b
 ·go_wp2_with fail
  go_ret
  exact⟨rfl,B2.out⟩
 have AL:=zh (allocate_any (HK.out.keep B2.out));obtain⟨q0,q1,q2,q3,q4,q5,q6,q7,q8,q9,q10⟩:=box11 O2.out
 go_wp2_with fail
 refine AL.out.mono ?_;rintro en w3 ⟨hb,⟨hg,va3,rfl,hva⟩|⟨hng,rfl⟩⟩
 rotate_left
 ·have B3:Hid (Below w.heap.size w w3):=B2.out.trans (hb.mono B2.out.size)
  clear q0 q1 q2 q3 q4 q5 q6 q7 q8 q9 q10 hb hng AL S1
  go_wp2_with fail
  go_ret
  exact⟨rfl,B3.out.alloc B3.out.size _⟩
 have B3:Hid (Below w.heap.size w w3):=B2.out.trans (hb.mono B2.out.size);have O3:=zh ((hb.block w.heap.size (by have:=L2.out;omega)).trans O2.out)
 have L3:Hid (w.heap.size+1≤w3.heap.size):=zr5 L2.out hb.size;have HG:=zh hg
 have SZ:=zh (S1.out (by trivial) hg)
 have FO:=zh (good_fo hg);have ML:Hid ((metF ps e).length≤700):=zr5 (metF_few hg) (by have:=SZ.out;omega)
 have SL:Hid (slimE e):=stack_slim _ 0 [(ps,e)] (zr4 _) hg.form (ps,e) zr7;have PL:Hid (ps.length≤1000):=by have:=hg.params;show _≤_;omega
 obtain⟨c1,d1,hv1,hat1⟩:=hva;have HAT1:=zh hat1;have HL1:(pairs (F0 ps e) (alloc (F0 ps e)).1).length=(vars (F0 ps e)).length:=prs_length _ _
 rw [HL1] at hv1;obtain⟨nv,hnv⟩:∃ n,n=(vars (F0 ps e)).length:=⟨_,rfl⟩;have HNV:=zh hnv;have nvz:(nv:Int)≤300:=by have:=SZ.out.2;omega
 rw [← hnv] at hv1;subst hv1;obtain⟨rg,hrg⟩:∃ n:Nat,n=(alloc (F0 ps e)).2:=⟨_,rfl⟩;have HRG:=zh hrg;rw [← hrg];clear q0 q1 q2 q3 q4 q5 q6 q7 q8 q9 q10 hb hg hat1 HL1 hnv hrg AL S1;obtain⟨w4,hw4⟩:∃ W,W=w3.alloc (.cells #[.int .i64 (rg:Nat),.slice c1 nv d1] 56):=⟨_,rfl⟩;have K4:Hid (Below w3.heap.size w3 w4):=by show Below _ _ _;rw [hw4];exact(zs9 _ _).alloc (zr4 _) _
 have A4:Hid (w4.heap[w3.heap.size]?=some (.cells #[.int .i64 (rg:Nat),.slice c1 nv d1] 56 (0,0))):=by show _=_;rw [hw4];exact zs2 w3 _
 have T4:=zh ((K4.out.block w.heap.size L3.out).trans O3.out);have B4:Hid (Below w.heap.size w w4):=B3.out.trans (K4.out.mono B3.out.size)
 obtain⟨ab4,hab⟩:∃ b,b=w3.heap.size:=⟨_,rfl⟩;have LA:Hid (w.heap.size<ab4):=by show _<_;have:=L3.out;omega
 obtain⟨q0,q1,q2,q3,q4,q5,q6,q7,q8,q9,q10⟩:=box11 O3.out
 go_upto_region 5 with fail
 rw [← hw4,← hab];rw [← hab] at A4;have HAT4:Hid (0<nv→∃ g o,c1=some ⟨g,o,none⟩∧∀ (i:Nat) (m:Nm×Int),(pairs (F0 ps e) (alloc (F0 ps e)).1)[i]?=some m→w4.cell? ⟨g,o+i*2,none⟩=some (.string m.1)∧w4.cell? ⟨g,o+i*2+1,none⟩=some (.int .i64 m.2)):=fun h0=>by
  obtain⟨g,o,e1,h1⟩:=HAT1.out (by rw [prs_length,← HNV.out];exact h0)
  exact⟨g,o,e1,fun i m hi=>⟨zd K4.out _ _ (h1 i m hi).1,zd K4.out _ _ (h1 i m hi).2⟩⟩
 clear hw4 hab q0 q1 q2 q3 q4 q5 q6 q7 q8 q9 q10 HAT1 O3 B3 K4;have RN:=zh (renamedFn_any (HK.out.keep B4.out).val (show (metF ps e).length≤1000 from zr5 ML.out (by decide)) SL.out PL.out)
 obtain⟨q0,q1,q2,q3,q4,q5,q6,q7,q8,q9,q10⟩:=box11 T4.out
 go_wp2_with fail
 refine RN.out.mono ?_;rintro en w5 ⟨hb,v5,rfl,hv5⟩;have B5:Hid (Below w.heap.size w w5):=B4.out.trans (hb.mono B4.out.size);have A5:=zh ((hb.block ab4 (zq7.1 A4.out).1).trans A4.out)
 have K5:=zh (zd hb);obtain⟨hok,hg5,hF5⟩:=HK.out.renamed B5.out HG.out ML.out hv5;have HF5:=zh hF5
 have HG5:=zh hg5;have AL:=zh (allocate_any hok)
 clear q0 q1 q2 q3 q4 q5 q6 q7 q8 q9 q10 hb hv5 hok hg5 hF5 RN
 go_wp2_with fail
 refine AL.out.mono ?_;rintro en w6 ⟨hb,⟨-,va6,rfl,hva⟩|⟨hng,rfl⟩⟩
 rotate_left
 ·exact absurd HG5.out hng
 have B6:Hid (Below w.heap.size w w6):=B5.out.trans (hb.mono B5.out.size);have A6:=zh ((hb.block ab4 (zq7.1 A5.out).1).trans A5.out)
 have K6:=zh (K5.out.trans (zd hb));have RR:=zh (metF_ren HG.out (fun x=>isNm_some) ML.out)
 have PE:=zh (pairs_ren RR.out FO.out (alloc (F0 ps e)).1);rw [HF5.out,alloc_ren RR.out FO.out,← HRG.out];rw [HF5.out,alloc_ren RR.out FO.out] at hva;obtain⟨c2,d2,hv2,hat2⟩:=hva;have HAT2:=zh hat2
 have HL2:(pairs ((F0 ps e).map (Nd.ren (rnk (metF ps e)))) (alloc (F0 ps e)).1).length=nv:=by rw [prs_length,vars_ren,zv1,HNV.out]
 have HL2':=zh HL2;rw [HL2] at hv2;subst hv2;clear hb hat2 HL2 AL;obtain⟨w7,hw7⟩:∃ W,W=w6.alloc (.cells #[.int .i64 (rg:Nat),.slice c2 nv d2] 56):=⟨_,rfl⟩;have K7:Hid (Below w6.heap.size w6 w7):=by show Below _ _ _;rw [hw7];exact(zs9 _ _).alloc (zr4 _) _
 have A7:Hid (w7.heap[w6.heap.size]?=some (.cells #[.int .i64 (rg:Nat),.slice c2 nv d2] 56 (0,0))):=by show _=_;rw [hw7];exact zs2 w6 _
 have B7:Hid (Below w.heap.size w w7):=B6.out.trans (K7.out.mono B6.out.size);have A67:=zh ((K7.out.block ab4 (zq7.1 A6.out).1).trans A6.out)
 obtain⟨bb7,hbb⟩:∃ b,b=w6.heap.size:=⟨_,rfl⟩
 go_upto_region 8 with fail
 rw [← hw7,← hbb];rw [← hbb] at A7;have K47:=zh (K6.out.trans (zd K7.out));have K67:=zh (zd K7.out)
 clear hw7 hbb A4 A5 A6 K5 K6 K7;have a0:w7.cell? ⟨ab4,0,none⟩=some (.int .i64 (rg:Nat)):=by rw [zb _ _ 0 _ _ _ A67.out];rfl
 have a1:w7.cell? ⟨ab4,1,none⟩=some (.slice c1 nv d1):=by rw [zb _ _ 1 _ _ _ A67.out];rfl
 have b0:w7.cell? ⟨bb7,0,none⟩=some (.int .i64 (rg:Nat)):=by rw [zb _ _ 0 _ _ _ A7.out];rfl
 have b1:w7.cell? ⟨bb7,1,none⟩=some (.slice c2 nv d2):=by rw [zb _ _ 1 _ _ _ A7.out];rfl
 have e1:((rg:Int) != (rg:Int))=false:=by simp
 have e2:((nv:Int) != (nv:Int))=false:=by simp
 go_wp2_with fail
 go_loopw [8] (fun iv wr=>∃ i:Nat,i≤nv∧iv = .int .i64 i∧Below w7.heap.size w7 wr) (fun iv _=>nv - (intOf iv).toNat)
 case atStart=>exact⟨0,zv3 _,rfl,zs9 _ _⟩
 rename World=>V
 obtain⟨i,hi,rfl,hbv⟩:=hrel;have KI:=zh hi;have HBV:=zh hbv
 have a1:=zd hbv _ _ a1;have b1:=zd hbv _ _ b1
 clear hi hbv
 by_cases hlt:i<nv
 ·have hlz:(i:Int)<nv:=by omega
  have hi0:(0:Int)≤i:=by omega
  have HLT:=zh hlt;obtain⟨m1,hm1⟩:∃ m,(pairs (F0 ps e) (alloc (F0 ps e)).1)[i]?=some m:=⟨_,zq9 (by rw [prs_length,← HNV.out];exact hlt)⟩
  obtain⟨m2,hm2⟩:∃ m,(pairs ((F0 ps e).map (Nd.ren (rnk (metF ps e)))) (alloc (F0 ps e)).1)[i]?=some m:=⟨_,zq9 (by rw [HL2'.out];exact hlt)⟩
  have EQ:m1.2=m2.2:=by
   have h:=congrArg (fun l=>l[i]?) PE.out
   simp only [List.getElem?_map,hm1,hm2,Option.map_some,zt3] at h;exact h.symm
  obtain⟨g1,o1,rfl,y1⟩:=HAT4.out (by omega)
  obtain⟨g2,o2,rfl,y2⟩:=HAT2.out (by rw [HL2'.out];omega)
  have t1:=zd HBV.out _ _ (K47.out _ _ (y1 i m1 hm1).2);have t2:=zd HBV.out _ _ (K67.out _ _ (y2 i m2 hm2).2)
  rw [← EQ] at t2;obtain⟨r1,hr1⟩:∃ r,r=m1.2:=⟨_,rfl⟩;rw [← hr1] at t1 t2;have e3:(r1 != r1)=false:=by simp
  clear hlt hm1 hm2 EQ y1 y2 hr1
  go_wp2_with fail
  go_quiet (fail)
  go_wp2_with fail
  go_roundw
  case rel=>exact⟨i+1,HLT.out,by go_num,Below.drawn HBV.out _⟩
  case measure=>have:=HLT.out;simp [intOf];omega
 have hin:i=nv:=by have:=KI.out;omega
 subst hin;have hz:(i:Int)≤i:=Int.le_refl _;clear hlt
 go_wp2_with fail
 go_ret
 exact⟨rfl,B7.out.trans (HBV.out.mono B7.out.size)⟩
end
namespace Lx
open Go.ChangeShapes Go.WideShapes Go.ChangeAt Go.RowKit
def laid7:List (String×DataW Unit):=[("math/bits.deBruijn32tab",Rows.laid_math_bits_deBruijn32tab),("math/bits.deBruijn64tab",Rows.laid_math_bits_deBruijn64tab),("internal/strconv.uint64pow10",Rows.laid_internal_strconv_uint64pow10),("unicode/utf8.acceptRanges",Rows.laid_unicode_utf8_acceptRanges),("strconv.ErrRange",Rows.laid_strconv_ErrRange),("strconv.ErrSyntax",Rows.laid_strconv_ErrSyntax),("unicode/utf8.first",Rows.laid_unicode_utf8_first)]
theorem own:ownKnob Tryz.prog.godebug=none:=by kernel_rfl
theorem gRange:Tryz.prog.globalNamed "strconv.ErrRange" = some 2:=by kernel_rfl
theorem gSyntax:Tryz.prog.globalNamed "strconv.ErrSyntax" = some 1:=by kernel_rfl
theorem gTen:Tryz.prog.globalNamed "internal/strconv.uint64pow10" = some 5:=by kernel_rfl
theorem tRange:(Tryz.prog.globals[2]?).map (·.type)=some 236:=by kernel_rfl
theorem tSyntax:(Tryz.prog.globals[1]?).map (·.type)=some 236:=by kernel_rfl
theorem tTen:(Tryz.prog.globals[5]?).map (·.type)=some 282:=by kernel_rfl
theorem cells126:Tryz.prog.cellsOf 274=1:=by kernel_rfl
theorem cells9:Tryz.prog.cellsOf 9=1:=by kernel_rfl
theorem cells100:Tryz.prog.cellsOf 199=1:=by kernel_rfl
theorem cells131:Tryz.prog.cellsOf 282=20:=by kernel_rfl
theorem star : "*" ++ "errors.errorString" = "*errors.errorString" := by decide
theorem row124 (u:TypeId) (h:Tryz.prog.typeName? 3 u=some "*errors.errorString"):u=272 :=
 typeName_ptr_named (nm := "errors.errorString") (by rw [star];kernel_rfl) (by kernel_rfl) (by decide) u (by rw [star];exact h)
theorem env_of {W:World}(h:laidMetH Tryz.prog laid7 W) (hsh:W.ShapedOpen Tryz.prog):Env W:=by
 rw [MakeChecks.laidMetH_plain _ _ _ (by kernel_rfl)] at h
 have h3:=h.tail.tail;have h5:=h3.tail.tail
 have h6:=h5.tail;obtain⟨a2,s2,hv2,_⟩:=laid_sentinel h5 gRange tRange Tryz.underlying236 row124 Tryz.underlying272 Tryz.underlying274 rfl rfl Tryz.underlying9 cells126 cells9;obtain⟨a1,s1,hv1,_⟩:=laid_sentinel h6 gSyntax tSyntax Tryz.underlying236 row124 Tryz.underlying272 Tryz.underlying274 rfl rfl Tryz.underlying9 cells126 cells9;refine⟨Lib.tabIs_of_head gTen tTen Tryz.underlying282 Tryz.underlying199 cells100 cells131 h3,?_,?_,?_,?_⟩
 ·exact cell_of_shapedOpen_int (t:=3) (zero := #[.int .i64 0]) hsh (of_decide_eq_true (by kernel_rfl)) (by kernel_rfl) rfl (by kernel_rfl) (by kernel_rfl) Tryz.underlying3
 ·have:=World.var?_cell gSyntax hv1 0
  exact⟨_,_,by simpa using this⟩
 ·have:=World.var?_cell gRange hv2 0
  exact⟨_,_,by simpa using this⟩
 obtain⟨_,hk⟩:=hsh;obtain⟨o,o0,ho,_⟩:=hk 9 (of_decide_eq_true (by kernel_rfl)) (of_decide_eq_true (by kernel_rfl))
 exact(zq7.1 ho).1
section
variable {H:Type} {enc:TypeId×Value→H} {P:Program}
theorem post_of_below {f:Func}{s:ChangeSpec}{apart fresh handsOn again:Bool}{W W':World}{args:Array Value}{v:Value}{ds gs:List (DataW H)}{before pa pv:List MemPlace}
  (hW:DataW.Whole enc P f.params.toList s.vars apart W args.toList ds gs before)
  (hres:∀ (b:Nat) (sp:Nat→Bool) (hd:Bool),DataW.TrodAll enc P W' b sp hd f.resultTypes.toList (v.resultList f.resultTypes.size) (s.fn H (ds++gs)).results [])
  (hargs:∀ sp:Nat→Bool,(∀ p∈before,sp p.block=true)→DataW.TrodAll enc P W' 0 sp true f.params.toList args.toList (s.fn H (ds++gs)).args pa)
  (hvars:∀ sp:Nat→Bool,(∀ p∈before,sp p.block=true)→DataW.TrodVars enc P W' sp s.vars (s.fn H (ds++gs)).vars pv)
  (hps:before=pa++pv) (hb:Below W.heap.size W W')
  (hok:∀ (j:Nat) (t:TypeId) (r:Value),f.resultTypes[j]?=some t→(v.resultList f.resultTypes.size)[j]?=some r→Value.okWide P W' .any 0 t r) :
  s.post enc P f apart fresh handsOn again W args v W':=by
 have hlt:∀ p∈before,p.block<W.heap.size:=fun p hp=>hW.lt p hp
 have hold:∀ p∈before,(fun b=>decide (b<W.heap.size)) p.block=true:=fun p hp=>by simpa using hlt p hp
 refine⟨ds,gs,before,[],pa,pv,hW,hres _ _ _,hargs _ hold,hvars _ hold,World.keptBut_mono (fun p hp=>⟨hp,?_⟩) (hb.frame (· ∈ before)),fun _=>?_⟩
 ·rw [hps,List.mem_append] at hp
  exact Or.inr hp
 obtain⟨_,_,_,_,_,hz,hn⟩:=hW;refine⟨hok,_,_,([]++pa)++pv,⟨[]++pa,pv,trodAll_append (hargs _ (fun _ _=>rfl)) (hres _ _ _),hvars _ (fun _ _=>rfl),rfl,?_,?_⟩,?_⟩
 ·intro b off hp
  have hin:MemPlace.cell b off∈before:=by rw [hps];simpa using hp
  rw [hb.frozen (hlt _ hin)];exact hz b off hin
 ·intro ha
  have:=hn ha;rw [hps] at this;simpa using this
 intro p hp _;rw [hps];simpa using hp
theorem returns_laid {a:Assume}{C:Checked}{os:Os}{f:FuncId}{fn:Func}{s:ChangeSpec}{conds:List PathCond}{apart fresh handsOn again:Bool}{X:World→Array Value→Prop}
  (hX:∀ (w w':World) (args:Array Value),w.heap=w'.heap→X w args→X w' args)
  (own:ownKnob C.prog.godebug=none) (started:os.Started) (noInit:C.prog.inits.idxOf? f=none) (hfn:C.prog.funcs[f]?=some fn)
  (witness:∃ (w:World) (tape:Tape) (i:Input),w.os=os∧(w.forCall tape i).Shaped C.prog∧i.vars=[]∧Input.okWide C.prog (w.forCall tape i) .any w.heap.size f i ∧
   ((s.pre enc C.prog fn conds apart (w.forCall tape i).memory i.args∧X (w.forCall tape i).memory i.args)∧sizedMet enc C.prog fn (OpenSpec.ofChange s) apart (w.forCall tape i).memory i.args)∧a.holds C.prog (lone (Frame.enter C.prog f i.args .normal) [] (w.forCall tape i)))
  (contract:∀ (W:World) (base:Nat) (args:Array Value) (ds gs:List (DataW H)) (before:List MemPlace),
   (∀ (j:Nat) t v,fn.params[j]?=some t→args[j]?=some v→Value.okWide C.prog W .any base t v) →
   DataW.Whole enc C.prog fn.params.toList s.vars apart W args.toList ds gs before →
   (DataW.weightsEach C.prog (fn.params.toList++s.plain.varTypes C.prog) (ds++gs)).all (· ≤ reachBytes)=true→X W args→W.ShapedOpen C.prog →
   Calls C.prog f args W fun e W'=>∃ v,e = .returned v∧s.post enc C.prog fn apart fresh handsOn again W args v W') :
  ReturnsInHanded a C os f .any (fun w args=>(s.pre enc C.prog fn conds apart w args∧X w args)∧sizedMet enc C.prog fn (OpenSpec.ofChange s) apart w args) (s.post enc C.prog fn apart fresh handsOn again):=by
 refine returnsInHanded_of_calls own started noInit witness ?_;intro w tape i _ hsh _ hok hpre _;obtain⟨_,_,_,fn',hfn',_,_,_,_,hval⟩:=hok;have e:fn'=fn:=Option.some.inj (hfn'.symm.trans hfn);subst e;obtain⟨⟨⟨ds,gs,before,hw,hc⟩,hx⟩,hz⟩:=hpre;have hw':=DataW.Whole.of_heap (w':=w.forCall tape i) (by rfl) hw
 refine(contract (w.forCall tape i) w.heap.size i.args ds gs before hval hw' (hz.weights hw) (hX _ _ _ (by rfl) hx) hsh).mono fun e W' ⟨v,he,hp⟩=>?_
 subst he;exact ChangeSpec.post_blind hp
end
theorem fits7 (os:Os):(World.holding Tryz.prog os ⟨#[],#[],[]⟩).layFits Tryz.prog laid7 []=true:=by kernel_rfl
theorem ifaces7 (os:Os):(World.holding Tryz.prog os ⟨#[],#[],[]⟩).layIfaces Tryz.prog laid7 (World.laidAll Tryz.prog os laid7)=true:=by kernel_rfl
theorem start_met (os:Os) (args:Array Value):laidMetH Tryz.prog laid7 ((World.laidAll Tryz.prog os laid7).forCall (fun _ _=>0) ⟨#[],args,[]⟩).memory:=by
 rw [MakeChecks.laidMetH_plain _ _ _ (by kernel_rfl)]
 exact laidMet_laidAll _ (fits7 os) (ifaces7 os)
end Lx
section
open Go.ChangeShapes Go.WideShapes Go.ChangeAt Go.RowKit Go.Deep
theorem laidOut:laidOutB Tryz.prog=true:=by kernel_rfl
theorem addr_plain {W:World}{a:Addr}{v:Value}(h:W.cell? a=some v):a=⟨a.block,a.off,none⟩∧a.block<W.heap.size:=by
 unfold World.cell? at h
 split at h
 ·rename_i c t f hb
  split at h
  ·cases h
  rename_i hs;refine⟨?_,(zq7.1 hb).1⟩;obtain⟨b,o,s⟩:=a;cases s with
  | none=>rfl
  | some k=>exact absurd rfl hs
 cases h
end
end Go.Proofs.YtnkahlloahgifaaGreatDoor
