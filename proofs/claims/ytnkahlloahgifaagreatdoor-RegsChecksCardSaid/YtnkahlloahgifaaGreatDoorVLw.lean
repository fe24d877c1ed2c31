/- Part. -/
import Derived.Test.YtnkahlloahgifaaGreatDoorVLxE
import Derived.RangeFuncRecord
import Derived.MapKept
import Derived.Lib.AtoiAll
import Derived.Lib.ItoaNum
import Derived.Lib.Replace
import Derived.Lib.CountLaws
import Derived.Lib.ItoaLen
import Derived.Lib.SplitLaws
import Derived.Lib.AtoiErrMem
import Derived.RecoverIn
import Derived.RegionTactic
import Derived.RangeFuncBox
import Derived.RangeFuncIn
import Derived.Maps.AppendAt
import Derived.Lib.SlicesS
import Derived.StillTail
import Derived.Deep.RegionHeld
set_option maxHeartbeats 16000000
set_option maxRecDepth 100000
set_option linter.unusedSimpArgs false
set_option linter.unusedVariables false
namespace Go.Proofs.YtnkahlloahgifaaGreatDoor.Lx
open Go.RowKit
def tokV (k v:Int) (t:ByteArray) (p:Int):Value := .agg #[.int .i64 k,.int .i64 v,.string t,.int .i64 p]
def MPost (w:World) (s:ByteArray) (i:Nat) (k:Int) (n:Nat) (e:Ending) (w':World):Prop :=
 if 24<n then e=thrown i 2∧Below w.heap.size w w' else e = .returned (tokV k 0 (s.extract i (i+n)) i)∧Below w.heap.size w w'
theorem made_any {w:World}{b:Nat}{s:ByteArray}{i mb:Nat}{cv:Value}(h:Sc w b s i mb cv) (k:Int) (n:Nat) (hn:i+n≤s.size) :
  Calls Tryz.prog 154 #[.pointer (some ⟨b,0,none⟩),.int .i64 k,.int .i64 n] w (MPost w s i k n):=by
 obtain⟨c0,c1,lt,le,sz⟩:=h.at'
 have hnz:(i:Int)+(n:Int)≤(s.size:Int):=by omega
 have hsz:(s.size:Int)≤400000:=by omega
 by_cases h24:24<n
 ·have h24z:(24:Int)<(n:Int):=by omega
  have HN:=zh h24
  clear h24 h
  go_enter Tryz.func154,Tryz.ntmps154
  go_wp2_with fail
  refine⟨rfl,?_⟩
  unfold MPost
  rw [if_pos HN.out]
  exact⟨rfl,(zs9 _ _).alloc (zr4 _) _⟩
 have h24z:(n:Int)≤24:=by omega
 have HN:=zh h24
 have hsl:∀ m:World,(Instr.slice 9 (.string s) (some (.int .i64 i)) (some (.int .i64 ((i:Int)+(n:Int)))) none).run Tryz.prog m = .ok (.string (s.extract i (i+n))) m:=fun m=>by
  have:=run_slice_string (P:=Tryz.prog) m 9 s .i64 .i64 i ((i:Int)+(n:Int)) Tryz.underlying9 (by omega) (by omega) (by omega)
  rw [this]
  have e:((i:Int)+(n:Int)).toNat=i+n:=by omega
  rw [e]
  simp
 have hwr:IntKind.i64.wrap ((i:Int)+(n:Int))=(i:Int)+(n:Int):=wrap_in _ (by omega)
 clear h24 h
 go_enter Tryz.func154,Tryz.ntmps154
 go_wp2_with fail
 refine wp_region_still_tail 25 (by kernel_rfl) (by kernel_rfl) ?_
 simp only [List.take_succ_cons,List.take_zero,List.drop_succ_cons,List.drop_zero,World.drew_eq]
 iterate 25 still_step
 refine wpStill_nil ?_
 go_wp2_with fail
 go_returns
 unfold MPost
 rw [if_neg HN.out]
 exact⟨rfl,((zs9 _ _).alloc (zr4 _) _).drew⟩
def Wd (w:World) (mb:Nat):Prop:=∃ es clock,w.heap[mb]?=some (.map es clock)∧∀ (W:World) (t:ByteArray),W.heap[mb]?=some (.map es clock) →
 (Instr.lookup 116 (.map (some mb)) (.string t) true).run Tryz.prog W = .ok (.tuple #[.int .i64 (if LX.words.contains (bts t) then 5 else 0),.bool (LX.words.contains (bts t))]) W
def TPost (w:World) (s:ByteArray) (i:Nat):LX.TR→Ending→World→Prop
 | .tok k v n,e,w'=>e = .returned (tokV k v (s.extract i (i+n)) i)∧Below w.heap.size w w'
 | .bad er,e,w'=>e=thrown i er∧Below w.heap.size w w'
theorem nameLen_eq (s:ByteArray) (i n:Nat) (hn:n=LX.run LX.part ((bts s).drop i)) :
  LX.nameLen ((bts s).drop i)=if (bts s).getD (i+n) 0=39∧0<LX.run LX.digit ((bts s).drop (i+(n+1))) then n+1+LX.run LX.digit ((bts s).drop (i+(n+1))) else n:=by
 unfold LX.nameLen
 rw [← hn]
 simp only [List.drop_drop]
 cases h:(bts s).drop (i+n) with
 | nil =>
  have hl:(bts s).length≤i+n:=List.drop_eq_nil_iff.1 h
  have e:(bts s).getD (i+n) 0=0:=by rw [zt4,List.getElem?_eq_none hl];rfl
  rw [if_neg (by rw [e];simp)]
 | cons c t =>
  have hl:i+n<(bts s).length:=by
   rcases Nat.lt_or_ge (i+n) (bts s).length with h2 | h2
   ·exact h2
   rw [List.drop_of_length_le h2] at h;cases h
  rw [List.drop_eq_getElem_cons hl] at h
  simp only [List.cons.injEq] at h
  obtain⟨h1,h2⟩:=h
  have e:(bts s).getD (i+n) 0=c:=by rw [zt4,zq9 hl,← h1];rfl
  rw [e,show i+(n+1)=i+n+1 from by omega,h2]
theorem zt {fn:Func}{p:Tmp}{ty:TypeId}(h:fn.results = #[.cell p ty]) (tmps:Array Value) (P:Program) (w:World) :
  (results fn tmps).run P w=((asAddr (tmps.getD p undef)).run P w).andThen fun a w₁=>(loadVar ty a).run P w₁:=by
 simp only [results,h]
 simp [Sem.run_bind,Result.andThen]
theorem load39 {w:World}{b:Nat}{k v:Int}{t:ByteArray}{p:Int}(h:w.heap[b]?=some (.cells #[.int .i64 k,.int .i64 v,.string t,.int .i64 p] 154 (0,0))):(loadVar 154 ⟨b,0,none⟩).run Tryz.prog w = .ok (tokV k v t p) w:=by
 have h0:w.cell? ⟨b,0,none⟩=some (.int .i64 k):=by rw [zb _ _ 0 _ _ _ h];rfl
 have h1:w.cell? ⟨b,1,none⟩=some (.int .i64 v):=by rw [zb _ _ 1 _ _ _ h];rfl
 have h2:w.cell? ⟨b,2,none⟩=some (.string t):=by rw [zb _ _ 2 _ _ _ h];rfl
 have h3:w.cell? ⟨b,3,none⟩=some (.int .i64 p):=by rw [zb _ _ 3 _ _ _ h];rfl
 simp [loadVar,go_sem,h0,h1,h2,h3,tokV]
theorem four_set {w:World}{b:Nat}{x0 x1 x2 x3:Value}{T:TypeId}(h:w.heap[b]?=some (.cells #[x0,x1,x2,x3] T (0,0))) (u0 u1 u2 u3:Value) :
  ((((w.setCell ⟨b,0,none⟩ u0).setCell ⟨b,1,none⟩ u1).setCell ⟨b,2,none⟩ u2).setCell ⟨b,3,none⟩ u3).heap[b]?=some (.cells #[u0,u1,u2,u3] T (0,0)):=by
 have h1:=heap_setCell_same w b 0 _ _ u0 h
 have h2:=heap_setCell_same _ b 1 _ _ u1 h1
 have h3:=heap_setCell_same _ b 2 _ _ u2 h2
 have h4:=heap_setCell_same _ b 3 _ _ u3 h3
 exact h4
theorem below_drawn {B:Nat}{w w':World}(h:Below B w w') (m:Nat):Below B w (w'.drewN m):=⟨h.os,h.tape,h.output,h.size,h.block⟩
theorem zu {B m:Nat}{w w':World}(h:Below B (w.drewN m) w'):Below B w w':=⟨h.os,h.tape,h.output,h.size,h.block⟩
theorem name_any {w:World}{b:Nat}{s:ByteArray}{i mb:Nat}{cv:Value}(h:Sc w b s i mb cv) (hw:Wd w mb) (hmb:mb≠b) (k:Nat) (hk:k≤5) (hi:i<s.size) :
  Calls Tryz.prog 152 #[.pointer (some ⟨b,0,none⟩),.int .i64 k] w (TPost w s i (LX.named k ((bts s).drop i))):=by
 obtain⟨c0,c1,lt,le,sz⟩:=h.at'
 obtain⟨r,hr⟩:∃ r,r=LX.named k ((bts s).drop i):=⟨_,rfl⟩
 rw [← hr]
 obtain⟨n,hn⟩:∃ n,n=LX.run LX.part ((bts s).drop i):=⟨_,rfl⟩
 obtain⟨c,hc⟩:∃ c,c=(bts s).getD (i+n) 0:=⟨_,rfl⟩
 obtain⟨d,hd⟩:∃ d,d=LX.run LX.digit ((bts s).drop (i+(n+1))):=⟨_,rfl⟩
 have hnl:=nameLen_eq s i n hn
 rw [← hc,← hd] at hnl
 have hns:i+n≤s.size:=by
  have:=run_le LX.part ((bts s).drop i)
  rw [List.length_drop,ze] at this
  omega
 have hds:0<d→i+(n+1)+d≤s.size:=fun h0=>by
  have:=run_le LX.digit ((bts s).drop (i+(n+1)))
  rw [List.length_drop,ze,← hd] at this
  omega
 have ATW:Hid (∀ W:World,W.heap[b]?=w.heap[b]?→At W b s i):=fun W e=>⟨by rw [World.cell?_of_block (w:=w) e];exact c0,by rw [World.cell?_of_block (w:=w) e];exact c1,by
  rw [h.1] at e;exact(zq7.1 e).1,le,sz⟩
 have SCW:Hid (∀ W:World,W.heap[b]?=w.heap[b]?→Sc W b s i mb cv):=fun W e=>⟨e.trans h.1,h.2⟩
 have HW:=zh hw
 have HN:=zh hn
 have HC:=zh hc
 have HD:=zh hd
 have HNL:=zh hnl
 have HR:=zh hr
 have HNS:=zh hns
 have HDS:=zh hds
 have hnz:(i:Int)+(n:Int)≤400000:=by omega
 have hn0:(n:Int)≤400000:=by omega
 clear hw hn hc hd hnl hr hns hds c0 c1 le h
 go_enter Tryz.func152,Tryz.ntmps152
 go_wp2_with fail
 obtain⟨z,hz⟩:∃ z,z=w.heap.size:=⟨_,rfl⟩
 obtain⟨W0,hW0⟩:∃ W,W=w.alloc (.cells #[.int .i64 0,.int .i64 0,.string ⟨#[]⟩,.int .i64 0] 154):=⟨_,rfl⟩
 rw [← hW0,← hz]
 have B0:Hid (W0.heap[b]?=w.heap[b]?):=by rw [hW0];exact zt2 _ _ _ lt
 have B1:Hid (W0.heap[z]?=some (.cells #[.int .i64 0,.int .i64 0,.string ⟨#[]⟩,.int .i64 0] 154 (0,0))):=by rw [hW0,hz];exact zs2 w _
 have B2:Hid (Below w.heap.size w W0):=by rw [hW0];exact(zs9 _ _).alloc (zr4 _) _
 have B3:Hid (z<W0.heap.size):=(zq7.1 B1.out).1
 have B4:=zh hz
 clear hz hW0
 refine(run_part (ATW.out W0 B0.out) 0 (by decide)).mono ?_
 rintro e w1 ⟨rfl,q1,rfl⟩
 rw [Nat.add_zero,← HN.out]
 go_wp2_with fail
 refine(peek_any (ATW.out (W0.drewN q1) B0.out) n (by have:=HNS.out;omega)).mono ?_
 rintro e w2 ⟨rfl,q2,rfl⟩
 rw [← HC.out]
 by_cases hc39:c=39
 ·have hcz:(c:Int)=39:=by omega
  have hcb:((c:Int)==39)=true:=by simp [hcz]
  have HC3:=zh hc39
  clear hc39 hcz
  go_wp2_with fail
  have RD:=run_digit (ATW.out (W0.drewN (q1+q2)) B0.out) (n+1) (by have:=HNS.out;omega)
  rw [← HD.out,show ((n+1:Nat):Int)=(n:Int)+1 from by push_cast;rfl] at RD
  refine RD.mono ?_
  clear RD
  rintro e w3 ⟨rfl,q3,rfl⟩
  by_cases hd0:0<d
  ·have NL:Hid (LX.nameLen ((bts s).drop i)=n+1+d):=by show _=_;rw [HNL.out,if_pos ⟨HC3.out,hd0⟩]
   have NS:Hid (i+(n+1+d)≤s.size):=by have:=HDS.out hd0;show _≤_;omega
   have hdz:(0:Int)<(d:Int):=by omega
   have hdm:(n:Int)+(d:Int)≤400000:=by have:=NS.out;omega
   clear hd0
   go_wp2_with fail
   have MD:=made_any (SCW.out (W0.drewN (q1+q2+q3)) B0.out) k (n+1+d) NS.out
   rw [show ((n+1+d:Nat):Int)=(n:Int)+(1+(d:Int)) from by push_cast;omega] at MD
   refine MD.mono ?_
   clear MD
   intro e w' hm
   unfold MPost at hm
   by_cases h24:24<n+1+d
   ·rw [if_pos h24] at hm
    obtain⟨rfl,hb⟩:=hm
    unfold thrown
    go_wp2_with fail
    refine⟨rfl,?_⟩
    have er:r = .bad 2:=by rw [HR.out];unfold LX.named;rw [NL.out];unfold LX.made;rw [if_pos h24]
    rw [er]
    exact⟨rfl,B2.out.trans ((zu hb).mono B2.out.size)⟩
   rw [if_neg h24] at hm
   obtain⟨rfl,hb⟩:=hm
   unfold tokV
   have hb2:Below W0.heap.size W0 w':=zu hb
   have b1:w'.heap[z]?=some (.cells #[.int .i64 0,.int .i64 0,.string ⟨#[]⟩,.int .i64 0] 154 (0,0)):=(hb2.block z B3.out).trans B1.out
   have b2:w'.heap[b]?=w.heap[b]?:=(hb2.block b (zt5 lt B2.out.size)).trans B0.out
   have M2:w'.cell? ⟨b,2,none⟩=some (.map (some mb)):=by rw [zb w' b 2 _ _ _ (b2.trans (SCW.out w rfl).1)];rfl
   have y0:w'.cell? ⟨z,0,none⟩=some (.int .i64 0):=by rw [zb w' z 0 _ _ _ b1];rfl
   have y1:w'.cell? ⟨z,1,none⟩=some (.int .i64 0):=by rw [zb w' z 1 _ _ _ b1];rfl
   have y2:w'.cell? ⟨z,2,none⟩=some (.string ⟨#[]⟩):=by rw [zb w' z 2 _ _ _ b1];rfl
   have y3:w'.cell? ⟨z,3,none⟩=some (.int .i64 0):=by rw [zb w' z 3 _ _ _ b1];rfl
   have yf:∀ q,w'.frozen? ⟨z,q,none⟩=false:=fun q=>zs1 w' z q _ _ b1
   have yl:z<w'.heap.size:=(zq7.1 b1).1
   have bl:b<w'.heap.size:=zt5 lt (zr5 B2.out.size hb2.size)
   obtain⟨es,clock,hm1,hm2⟩:=HW.out
   have hml:mb<w.heap.size:=(zq7.1 hm1).1
   have hlk:∀ m,(Instr.lookup 116 (.map (some mb)) (.string (s.extract i (i+(n+1+d)))) true).run Tryz.prog ((w'.alloc (.cells #[.int .i64 k,.int .i64 0,.string (s.extract i (i+(n+1+d))),.int .i64 i] 154)).drewN m) =
     .ok (.tuple #[.int .i64 (if LX.words.contains (bts (s.extract i (i+(n+1+d)))) then 5 else 0),.bool (LX.words.contains (bts (s.extract i (i+(n+1+d)))))]) ((w'.alloc (.cells #[.int .i64 k,.int .i64 0,.string (s.extract i (i+(n+1+d))),.int .i64 i] 154)).drewN m):=fun m =>
    hm2 _ _ ((zt2 w' _ mb (zt5 hml (zr5 B2.out.size hb2.size))).trans ((hb2.block mb (zt5 hml B2.out.size)).trans ((B2.out.block mb hml).trans hm1)))
   obtain⟨tx,htx⟩:∃ t,t=s.extract i (i+(n+1+d)):=⟨_,rfl⟩
   rw [← htx] at hlk ⊢
   have X1:=zh hb2
   have X2:=zh b1
   have X3:=zh htx
   have X4:=zh h24
   clear hb2 b1 b2 hb hm1 hm2 hml htx h24
   cases hcw:LX.words.contains (bts tx) with
   | true =>
    rw [hcw] at hlk
    simp only [if_true] at hlk
    have X5:=zh hcw
    clear hcw
    go_wp2_with fail
    go_quiet (fail)
    go_wp2_with fail
    have wt:LX.words.contains (((bts s).drop i).take (n+1+d))=true:=by
     have e:bts tx=((bts s).drop i).take (n+1+d):=by rw [X3.out,bts_extract,Nat.add_sub_cancel_left]
     rw [← e];exact X5.out
    have er:r = .tok 5 0 (n+1+d):=by
     rw [HR.out];unfold LX.named;rw [NL.out];unfold LX.made;rw [if_neg X4.out]
     simp only [wt]
     rfl
    have zl:z<w'.heap.size:=yl
    have hv:(((w'.alloc (.cells #[.int .i64 k,.int .i64 0,.string tx,.int .i64 i] 154)).drewN nq).setCell ⟨w'.heap.size,0,none⟩ (.int .i64 5)).heap[z]?=some (.cells #[.int .i64 0,.int .i64 0,.string ⟨#[]⟩,.int .i64 0] 154 (0,0)):=by
     rw [zt1 _ _ _ _ (by show z≠w'.heap.size;omega)];exact(zt2 w' _ z zl).trans X2.out
    have hf:=four_set hv (.int .i64 5) (.int .i64 0) (.string tx) (.int .i64 i)
    have hbel:Below w.heap.size w (((w'.alloc (.cells #[.int .i64 k,.int .i64 0,.string tx,.int .i64 i] 154)).drewN nq).setCell ⟨w'.heap.size,0,none⟩ (.int .i64 5)):=by
     have h1:=below_drawn ((B2.out.trans (X1.out.mono B2.out.size)).alloc (zr5 B2.out.size X1.out.size) (.cells #[.int .i64 k,.int .i64 0,.string tx,.int .i64 i] 154)) nq
     exact h1.setCell (p:=⟨w'.heap.size,0,none⟩) (zr5 B2.out.size X1.out.size) _
    have hzb:w.heap.size≤z:=Nat.le_of_eq B4.out.symm
    refine bodyPost_ret (v:=tokV 5 0 tx i) (by rw [zt rfl];simp [asAddr,load39 hf]) rfl ?_
    have hfin:=(((hbel.setCell (p:=⟨z,0,none⟩) hzb (.int .i64 5)).setCell (p:=⟨z,1,none⟩) hzb (.int .i64 0)).setCell (p:=⟨z,2,none⟩) hzb (.string tx)).setCell (p:=⟨z,3,none⟩) hzb (.int .i64 i)
    rw [er]
    exact⟨by rw [X3.out];try rfl,hfin⟩
   | false =>
    rw [hcw] at hlk
    simp only [Bool.false_eq_true,if_false] at hlk
    have X5:=zh hcw
    clear hcw
    go_wp2_with fail
    go_quiet (fail)
    go_wp2_with fail
    have wt:LX.words.contains (((bts s).drop i).take (n+1+d))=false:=by
     have e:bts tx=((bts s).drop i).take (n+1+d):=by rw [X3.out,bts_extract,Nat.add_sub_cancel_left]
     rw [← e];exact X5.out
    have er:r = .tok k 0 (n+1+d):=by
     rw [HR.out];unfold LX.named;rw [NL.out];unfold LX.made;rw [if_neg X4.out]
     simp only [wt]
     rfl
    have zl:z<w'.heap.size:=yl
    have hv:((w'.alloc (.cells #[.int .i64 k,.int .i64 0,.string tx,.int .i64 i] 154)).drewN nq).heap[z]?=some (.cells #[.int .i64 0,.int .i64 0,.string ⟨#[]⟩,.int .i64 0] 154 (0,0)):=by
     exact(zt2 w' _ z zl).trans X2.out
    have hf:=four_set hv (.int .i64 k) (.int .i64 0) (.string tx) (.int .i64 i)
    have hbel:Below w.heap.size w ((w'.alloc (.cells #[.int .i64 k,.int .i64 0,.string tx,.int .i64 i] 154)).drewN nq):=by
     have h1:=below_drawn ((B2.out.trans (X1.out.mono B2.out.size)).alloc (zr5 B2.out.size X1.out.size) (.cells #[.int .i64 k,.int .i64 0,.string tx,.int .i64 i] 154)) nq
     exact h1
    have hzb:w.heap.size≤z:=Nat.le_of_eq B4.out.symm
    refine bodyPost_ret (v:=tokV k 0 tx i) (by rw [zt rfl];simp [asAddr,load39 hf]) rfl ?_
    have hfin:=(((hbel.setCell (p:=⟨z,0,none⟩) hzb (.int .i64 k)).setCell (p:=⟨z,1,none⟩) hzb (.int .i64 0)).setCell (p:=⟨z,2,none⟩) hzb (.string tx)).setCell (p:=⟨z,3,none⟩) hzb (.int .i64 i)
    rw [er]
    exact⟨by rw [X3.out];try rfl,hfin⟩
  have NL:Hid (LX.nameLen ((bts s).drop i)=n):=by show _=_;rw [HNL.out,if_neg fun h=>hd0 h.2]
  have NS:=HNS
  have hdz:¬ (0:Int)<(d:Int):=by omega
  have hdz2:(d:Int)=0:=by omega
  clear hd0
  go_wp2_with fail
  have MD:=made_any (SCW.out (W0.drewN (q1+q2+q3)) B0.out) k (n) NS.out
  refine MD.mono ?_
  clear MD
  intro e w' hm
  unfold MPost at hm
  by_cases h24:24<n
  ·rw [if_pos h24] at hm
   obtain⟨rfl,hb⟩:=hm
   unfold thrown
   go_wp2_with fail
   refine⟨rfl,?_⟩
   have er:r = .bad 2:=by rw [HR.out];unfold LX.named;rw [NL.out];unfold LX.made;rw [if_pos h24]
   rw [er]
   exact⟨rfl,B2.out.trans ((zu hb).mono B2.out.size)⟩
  rw [if_neg h24] at hm
  obtain⟨rfl,hb⟩:=hm
  unfold tokV
  have hb2:Below W0.heap.size W0 w':=zu hb
  have b1:w'.heap[z]?=some (.cells #[.int .i64 0,.int .i64 0,.string ⟨#[]⟩,.int .i64 0] 154 (0,0)):=(hb2.block z B3.out).trans B1.out
  have b2:w'.heap[b]?=w.heap[b]?:=(hb2.block b (zt5 lt B2.out.size)).trans B0.out
  have M2:w'.cell? ⟨b,2,none⟩=some (.map (some mb)):=by rw [zb w' b 2 _ _ _ (b2.trans (SCW.out w rfl).1)];rfl
  have y0:w'.cell? ⟨z,0,none⟩=some (.int .i64 0):=by rw [zb w' z 0 _ _ _ b1];rfl
  have y1:w'.cell? ⟨z,1,none⟩=some (.int .i64 0):=by rw [zb w' z 1 _ _ _ b1];rfl
  have y2:w'.cell? ⟨z,2,none⟩=some (.string ⟨#[]⟩):=by rw [zb w' z 2 _ _ _ b1];rfl
  have y3:w'.cell? ⟨z,3,none⟩=some (.int .i64 0):=by rw [zb w' z 3 _ _ _ b1];rfl
  have yf:∀ q,w'.frozen? ⟨z,q,none⟩=false:=fun q=>zs1 w' z q _ _ b1
  have yl:z<w'.heap.size:=(zq7.1 b1).1
  have bl:b<w'.heap.size:=zt5 lt (zr5 B2.out.size hb2.size)
  obtain⟨es,clock,hm1,hm2⟩:=HW.out
  have hml:mb<w.heap.size:=(zq7.1 hm1).1
  have hlk:∀ m,(Instr.lookup 116 (.map (some mb)) (.string (s.extract i (i+(n)))) true).run Tryz.prog ((w'.alloc (.cells #[.int .i64 k,.int .i64 0,.string (s.extract i (i+(n))),.int .i64 i] 154)).drewN m) =
    .ok (.tuple #[.int .i64 (if LX.words.contains (bts (s.extract i (i+(n)))) then 5 else 0),.bool (LX.words.contains (bts (s.extract i (i+(n)))))]) ((w'.alloc (.cells #[.int .i64 k,.int .i64 0,.string (s.extract i (i+(n))),.int .i64 i] 154)).drewN m):=fun m =>
   hm2 _ _ ((zt2 w' _ mb (zt5 hml (zr5 B2.out.size hb2.size))).trans ((hb2.block mb (zt5 hml B2.out.size)).trans ((B2.out.block mb hml).trans hm1)))
  obtain⟨tx,htx⟩:∃ t,t=s.extract i (i+(n)):=⟨_,rfl⟩
  rw [← htx] at hlk ⊢
  have X1:=zh hb2
  have X2:=zh b1
  have X3:=zh htx
  have X4:=zh h24
  clear hb2 b1 b2 hb hm1 hm2 hml htx h24
  cases hcw:LX.words.contains (bts tx) with
  | true =>
   rw [hcw] at hlk
   simp only [if_true] at hlk
   have X5:=zh hcw
   clear hcw
   go_wp2_with fail
   go_quiet (fail)
   go_wp2_with fail
   have wt:LX.words.contains (((bts s).drop i).take (n))=true:=by
    have e:bts tx=((bts s).drop i).take (n):=by rw [X3.out,bts_extract,Nat.add_sub_cancel_left]
    rw [← e];exact X5.out
   have er:r = .tok 5 0 (n):=by
    rw [HR.out];unfold LX.named;rw [NL.out];unfold LX.made;rw [if_neg X4.out]
    simp only [wt]
    rfl
   have zl:z<w'.heap.size:=yl
   have hv:(((w'.alloc (.cells #[.int .i64 k,.int .i64 0,.string tx,.int .i64 i] 154)).drewN nq).setCell ⟨w'.heap.size,0,none⟩ (.int .i64 5)).heap[z]?=some (.cells #[.int .i64 0,.int .i64 0,.string ⟨#[]⟩,.int .i64 0] 154 (0,0)):=by
    rw [zt1 _ _ _ _ (by show z≠w'.heap.size;omega)];exact(zt2 w' _ z zl).trans X2.out
   have hf:=four_set hv (.int .i64 5) (.int .i64 0) (.string tx) (.int .i64 i)
   have hbel:Below w.heap.size w (((w'.alloc (.cells #[.int .i64 k,.int .i64 0,.string tx,.int .i64 i] 154)).drewN nq).setCell ⟨w'.heap.size,0,none⟩ (.int .i64 5)):=by
    have h1:=below_drawn ((B2.out.trans (X1.out.mono B2.out.size)).alloc (zr5 B2.out.size X1.out.size) (.cells #[.int .i64 k,.int .i64 0,.string tx,.int .i64 i] 154)) nq
    exact h1.setCell (p:=⟨w'.heap.size,0,none⟩) (zr5 B2.out.size X1.out.size) _
   have hzb:w.heap.size≤z:=Nat.le_of_eq B4.out.symm
   refine bodyPost_ret (v:=tokV 5 0 tx i) (by rw [zt rfl];simp [asAddr,load39 hf]) rfl ?_
   have hfin:=(((hbel.setCell (p:=⟨z,0,none⟩) hzb (.int .i64 5)).setCell (p:=⟨z,1,none⟩) hzb (.int .i64 0)).setCell (p:=⟨z,2,none⟩) hzb (.string tx)).setCell (p:=⟨z,3,none⟩) hzb (.int .i64 i)
   rw [er]
   exact⟨by rw [X3.out];try rfl,hfin⟩
  | false =>
   rw [hcw] at hlk
   simp only [Bool.false_eq_true,if_false] at hlk
   have X5:=zh hcw
   clear hcw
   go_wp2_with fail
   go_quiet (fail)
   go_wp2_with fail
   have wt:LX.words.contains (((bts s).drop i).take (n))=false:=by
    have e:bts tx=((bts s).drop i).take (n):=by rw [X3.out,bts_extract,Nat.add_sub_cancel_left]
    rw [← e];exact X5.out
   have er:r = .tok k 0 (n):=by
    rw [HR.out];unfold LX.named;rw [NL.out];unfold LX.made;rw [if_neg X4.out]
    simp only [wt]
    rfl
   have zl:z<w'.heap.size:=yl
   have hv:((w'.alloc (.cells #[.int .i64 k,.int .i64 0,.string tx,.int .i64 i] 154)).drewN nq).heap[z]?=some (.cells #[.int .i64 0,.int .i64 0,.string ⟨#[]⟩,.int .i64 0] 154 (0,0)):=by
    exact(zt2 w' _ z zl).trans X2.out
   have hf:=four_set hv (.int .i64 k) (.int .i64 0) (.string tx) (.int .i64 i)
   have hbel:Below w.heap.size w ((w'.alloc (.cells #[.int .i64 k,.int .i64 0,.string tx,.int .i64 i] 154)).drewN nq):=by
    have h1:=below_drawn ((B2.out.trans (X1.out.mono B2.out.size)).alloc (zr5 B2.out.size X1.out.size) (.cells #[.int .i64 k,.int .i64 0,.string tx,.int .i64 i] 154)) nq
    exact h1
   have hzb:w.heap.size≤z:=Nat.le_of_eq B4.out.symm
   refine bodyPost_ret (v:=tokV k 0 tx i) (by rw [zt rfl];simp [asAddr,load39 hf]) rfl ?_
   have hfin:=(((hbel.setCell (p:=⟨z,0,none⟩) hzb (.int .i64 k)).setCell (p:=⟨z,1,none⟩) hzb (.int .i64 0)).setCell (p:=⟨z,2,none⟩) hzb (.string tx)).setCell (p:=⟨z,3,none⟩) hzb (.int .i64 i)
   rw [er]
   exact⟨by rw [X3.out];try rfl,hfin⟩
 have hcb:¬ (c:Int)=39:=by omega
 have NL:Hid (LX.nameLen ((bts s).drop i)=n):=by show _=_;rw [HNL.out,if_neg fun h=>hc39 h.1]
 have NS:=HNS
 clear hc39
 go_wp2_with fail
 have MD:=made_any (SCW.out (W0.drewN (q1+q2)) B0.out) k (n) NS.out
 refine MD.mono ?_
 clear MD
 intro e w' hm
 unfold MPost at hm
 by_cases h24:24<n
 ·rw [if_pos h24] at hm
  obtain⟨rfl,hb⟩:=hm
  unfold thrown
  go_wp2_with fail
  refine⟨rfl,?_⟩
  have er:r = .bad 2:=by rw [HR.out];unfold LX.named;rw [NL.out];unfold LX.made;rw [if_pos h24]
  rw [er]
  exact⟨rfl,B2.out.trans ((zu hb).mono B2.out.size)⟩
 rw [if_neg h24] at hm
 obtain⟨rfl,hb⟩:=hm
 unfold tokV
 have hb2:Below W0.heap.size W0 w':=zu hb
 have b1:w'.heap[z]?=some (.cells #[.int .i64 0,.int .i64 0,.string ⟨#[]⟩,.int .i64 0] 154 (0,0)):=(hb2.block z B3.out).trans B1.out
 have b2:w'.heap[b]?=w.heap[b]?:=(hb2.block b (zt5 lt B2.out.size)).trans B0.out
 have M2:w'.cell? ⟨b,2,none⟩=some (.map (some mb)):=by rw [zb w' b 2 _ _ _ (b2.trans (SCW.out w rfl).1)];rfl
 have y0:w'.cell? ⟨z,0,none⟩=some (.int .i64 0):=by rw [zb w' z 0 _ _ _ b1];rfl
 have y1:w'.cell? ⟨z,1,none⟩=some (.int .i64 0):=by rw [zb w' z 1 _ _ _ b1];rfl
 have y2:w'.cell? ⟨z,2,none⟩=some (.string ⟨#[]⟩):=by rw [zb w' z 2 _ _ _ b1];rfl
 have y3:w'.cell? ⟨z,3,none⟩=some (.int .i64 0):=by rw [zb w' z 3 _ _ _ b1];rfl
 have yf:∀ q,w'.frozen? ⟨z,q,none⟩=false:=fun q=>zs1 w' z q _ _ b1
 have yl:z<w'.heap.size:=(zq7.1 b1).1
 have bl:b<w'.heap.size:=zt5 lt (zr5 B2.out.size hb2.size)
 obtain⟨es,clock,hm1,hm2⟩:=HW.out
 have hml:mb<w.heap.size:=(zq7.1 hm1).1
 have hlk:∀ m,(Instr.lookup 116 (.map (some mb)) (.string (s.extract i (i+(n)))) true).run Tryz.prog ((w'.alloc (.cells #[.int .i64 k,.int .i64 0,.string (s.extract i (i+(n))),.int .i64 i] 154)).drewN m) =
   .ok (.tuple #[.int .i64 (if LX.words.contains (bts (s.extract i (i+(n)))) then 5 else 0),.bool (LX.words.contains (bts (s.extract i (i+(n)))))]) ((w'.alloc (.cells #[.int .i64 k,.int .i64 0,.string (s.extract i (i+(n))),.int .i64 i] 154)).drewN m):=fun m =>
  hm2 _ _ ((zt2 w' _ mb (zt5 hml (zr5 B2.out.size hb2.size))).trans ((hb2.block mb (zt5 hml B2.out.size)).trans ((B2.out.block mb hml).trans hm1)))
 obtain⟨tx,htx⟩:∃ t,t=s.extract i (i+(n)):=⟨_,rfl⟩
 rw [← htx] at hlk ⊢
 have X1:=zh hb2
 have X2:=zh b1
 have X3:=zh htx
 have X4:=zh h24
 clear hb2 b1 b2 hb hm1 hm2 hml htx h24
 cases hcw:LX.words.contains (bts tx) with
 | true =>
  rw [hcw] at hlk
  simp only [if_true] at hlk
  have X5:=zh hcw
  clear hcw
  go_wp2_with fail
  go_quiet (fail)
  go_wp2_with fail
  have wt:LX.words.contains (((bts s).drop i).take (n))=true:=by
   have e:bts tx=((bts s).drop i).take (n):=by rw [X3.out,bts_extract,Nat.add_sub_cancel_left]
   rw [← e];exact X5.out
  have er:r = .tok 5 0 (n):=by
   rw [HR.out];unfold LX.named;rw [NL.out];unfold LX.made;rw [if_neg X4.out]
   simp only [wt]
   rfl
  have zl:z<w'.heap.size:=yl
  have hv:(((w'.alloc (.cells #[.int .i64 k,.int .i64 0,.string tx,.int .i64 i] 154)).drewN nq).setCell ⟨w'.heap.size,0,none⟩ (.int .i64 5)).heap[z]?=some (.cells #[.int .i64 0,.int .i64 0,.string ⟨#[]⟩,.int .i64 0] 154 (0,0)):=by
   rw [zt1 _ _ _ _ (by show z≠w'.heap.size;omega)];exact(zt2 w' _ z zl).trans X2.out
  have hf:=four_set hv (.int .i64 5) (.int .i64 0) (.string tx) (.int .i64 i)
  have hbel:Below w.heap.size w (((w'.alloc (.cells #[.int .i64 k,.int .i64 0,.string tx,.int .i64 i] 154)).drewN nq).setCell ⟨w'.heap.size,0,none⟩ (.int .i64 5)):=by
   have h1:=below_drawn ((B2.out.trans (X1.out.mono B2.out.size)).alloc (zr5 B2.out.size X1.out.size) (.cells #[.int .i64 k,.int .i64 0,.string tx,.int .i64 i] 154)) nq
   exact h1.setCell (p:=⟨w'.heap.size,0,none⟩) (zr5 B2.out.size X1.out.size) _
  have hzb:w.heap.size≤z:=Nat.le_of_eq B4.out.symm
  refine bodyPost_ret (v:=tokV 5 0 tx i) (by rw [zt rfl];simp [asAddr,load39 hf]) rfl ?_
  have hfin:=(((hbel.setCell (p:=⟨z,0,none⟩) hzb (.int .i64 5)).setCell (p:=⟨z,1,none⟩) hzb (.int .i64 0)).setCell (p:=⟨z,2,none⟩) hzb (.string tx)).setCell (p:=⟨z,3,none⟩) hzb (.int .i64 i)
  rw [er]
  exact⟨by rw [X3.out];try rfl,hfin⟩
 | false =>
  rw [hcw] at hlk
  simp only [Bool.false_eq_true,if_false] at hlk
  have X5:=zh hcw
  clear hcw
  go_wp2_with fail
  go_quiet (fail)
  go_wp2_with fail
  have wt:LX.words.contains (((bts s).drop i).take (n))=false:=by
   have e:bts tx=((bts s).drop i).take (n):=by rw [X3.out,bts_extract,Nat.add_sub_cancel_left]
   rw [← e];exact X5.out
  have er:r = .tok k 0 (n):=by
   rw [HR.out];unfold LX.named;rw [NL.out];unfold LX.made;rw [if_neg X4.out]
   simp only [wt]
   rfl
  have zl:z<w'.heap.size:=yl
  have hv:((w'.alloc (.cells #[.int .i64 k,.int .i64 0,.string tx,.int .i64 i] 154)).drewN nq).heap[z]?=some (.cells #[.int .i64 0,.int .i64 0,.string ⟨#[]⟩,.int .i64 0] 154 (0,0)):=by
   exact(zt2 w' _ z zl).trans X2.out
  have hf:=four_set hv (.int .i64 k) (.int .i64 0) (.string tx) (.int .i64 i)
  have hbel:Below w.heap.size w ((w'.alloc (.cells #[.int .i64 k,.int .i64 0,.string tx,.int .i64 i] 154)).drewN nq):=by
   have h1:=below_drawn ((B2.out.trans (X1.out.mono B2.out.size)).alloc (zr5 B2.out.size X1.out.size) (.cells #[.int .i64 k,.int .i64 0,.string tx,.int .i64 i] 154)) nq
   exact h1
  have hzb:w.heap.size≤z:=Nat.le_of_eq B4.out.symm
  refine bodyPost_ret (v:=tokV k 0 tx i) (by rw [zt rfl];simp [asAddr,load39 hf]) rfl ?_
  have hfin:=(((hbel.setCell (p:=⟨z,0,none⟩) hzb (.int .i64 k)).setCell (p:=⟨z,1,none⟩) hzb (.int .i64 0)).setCell (p:=⟨z,2,none⟩) hzb (.string tx)).setCell (p:=⟨z,3,none⟩) hzb (.int .i64 i)
  rw [er]
  exact⟨by rw [X3.out];try rfl,hfin⟩
end Go.Proofs.YtnkahlloahgifaaGreatDoor.Lx
namespace Go.Proofs.YtnkahlloahgifaaGreatDoor.Lx
open Go.RowKit
def wordBs:List ByteArray:=[⟨#[97,110,100]⟩,⟨#[99,97,115,101]⟩,⟨#[100,97,116,97]⟩,⟨#[101,108,115,101]⟩,⟨#[101,110,100]⟩,⟨#[102,110]⟩,⟨#[102,117,110]⟩,⟨#[105,102]⟩,⟨#[105,110]⟩,⟨#[105,110,112,117,116]⟩,⟨#[108,101,116]⟩,⟨#[111,102]⟩,⟨#[111,117,116,112,117,116]⟩,⟨#[116,104,101,110]⟩,⟨#[118,97,108]⟩]
def entsFrom:List ByteArray→Nat→List MapEntry
 | [],_=>[]
 | s :: t,i=>{ key := .string s,val := .int .i64 5,born:=i } :: entsFrom t (i+1)
def wordEs (k:Nat):Array MapEntry:=(entsFrom (wordBs.take k) 0).toArray
theorem find_ents (t:ByteArray):∀ (l:List ByteArray) (i n:Nat),∃ j,Instr.findNow .string (.string t) (entsFrom l i) n=some (if l.contains t then some (j,.int .i64 5) else none)
 | [],i,n=>⟨0,rfl⟩
 | s :: l,i,n=>by
  by_cases h:t=s
  ·subst h
   refine⟨n,?_⟩
   have hb:(t==t)=true:=(Go.MapKept.bytes_beq t t).2 rfl
   simp only [entsFrom,Instr.findNow,Instr.sameNow,List.contains_cons,hb,Bool.true_or,if_true]
  obtain⟨j,hj⟩:=find_ents t l (i+1) (n+1)
  refine⟨j,?_⟩
  have hb:(t==s)=false:=by
   cases hq:(t==s) with
   | false=>rfl
   | true=>exact absurd ((Go.MapKept.bytes_beq t s).1 hq) h
  simp only [entsFrom,Instr.findNow,Instr.sameNow,hb,hj]
  rw [List.contains_cons,hb,Bool.false_or]
theorem check_string (W:World) (t:ByteArray) (b:Bool):(Instr.checkKey b 10000 9 (.string t)).run Tryz.prog W = .ok () W:=by
 unfold Instr.checkKey
 simp only [Sem.run_bind,run_underlying Tryz.underlying9,Result.andThen_ok,Sem.run_pure]
theorem find_words (W:World) (t:ByteArray) (l:List ByteArray):∃ j,(Instr.findKey 9 (.string t) (entsFrom l 0)).run Tryz.prog W = .ok (if l.contains t then some (j,.int .i64 5) else none) W:=by
 obtain⟨j,hj⟩:=find_ents t l 0 0
 refine⟨j,?_⟩
 simp [Instr.findKey,go_sem,hj]
theorem zero3 (W:World):(zeroValue 3).run Tryz.prog W = .ok (.int .i64 0) W:=by kernel_rfl
theorem look_words (W:World) (mb k:Nat) (t:ByteArray) (h:W.heap[mb]?=some (.map (wordEs k) k)) :
  (Instr.lookup 116 (.map (some mb)) (.string t) true).run Tryz.prog W = .ok (.tuple #[.int .i64 (if (wordBs.take k).contains t then 5 else 0),.bool ((wordBs.take k).contains t)]) W:=by
 obtain⟨j,hj⟩:=find_words W t (wordBs.take k)
 have hg:(getObj mb).run Tryz.prog W = .ok (.map (wordEs k) k) W:=by simp [getObj,Sem.run,h]
 have hc:=check_string W t (wordEs k).isEmpty
 have hz:=zero3 W
 have hl:(wordEs k).toList=entsFrom (wordBs.take k) 0:=rfl
 cases hcon:(wordBs.take k).contains t with
 | true =>
  rw [hcon] at hj
  simp [Instr.lookup,go_sem,hg,hc,hl,hj,Result.andThen]
 | false =>
  rw [hcon] at hj
  simp [Instr.lookup,go_sem,hg,hc,hl,hj,hz,Result.andThen]
theorem entsFrom_append (a:List ByteArray) (x:ByteArray) (i:Nat):entsFrom (a++[x]) i=entsFrom a i++[{ key := .string x,val := .int .i64 5,born:=i+a.length }]:=by
 induction a generalizing i with
 | nil=>rfl
 | cons s a ih =>
  simp only [List.cons_append,entsFrom,ih,List.length_cons]
  rw [show i+1+a.length=i+(a.length+1) from by omega]
theorem store_word (W:World) (mb k:Nat) (x:ByteArray) (h:W.heap[mb]?=some (.map (wordEs k) k)) (hk:k<15) (hx:wordBs[k]?=some x) :
  (Instr.mapUpdate 116 (.map (some mb)) (.string x) (.int .i64 5)).run Tryz.prog W = .ok () (W.putObj mb (.map (wordEs (k+1)) (k+1))):=by
 obtain⟨j,hj⟩:=find_words W x (wordBs.take k)
 have hn:(wordBs.take k).contains x=false:=by
  have h15:∀ i:Fin 15,(wordBs.take i.1).contains (wordBs.getD i.1 default)=false:=by decide +kernel
  have:=h15 ⟨k,hk⟩
  rw [zt4,hx] at this
  exact this
 rw [hn] at hj
 have hg:(getObj mb).run Tryz.prog W = .ok (.map (wordEs k) k) W:=by simp [getObj,Sem.run,h]
 have hc:=check_string W x false
 have hl:(wordEs k).toList=entsFrom (wordBs.take k) 0:=rfl
 have hs:(setObj mb (.map (wordEs (k+1)) (k+1))).run Tryz.prog W = .ok () (W.putObj mb (.map (wordEs (k+1)) (k+1))):=by simp [setObj,Sem.run,h,World.putObj]
 have hp:(wordEs k).push { key := .string x,val := .int .i64 5,born:=k }=wordEs (k+1):=by
  have ht:wordBs.take (k+1)=wordBs.take k++[x]:=by
   rw [List.take_add_one,hx];rfl
  unfold wordEs
  rw [ht,entsFrom_append,List.push_toArray]
  have hlen:(wordBs.take k).length=k:=by
   rw [List.length_take];exact Nat.min_eq_left (Nat.le_of_lt (by simpa [wordBs] using hk))
  rw [hlen,Nat.zero_add]
 simp [Instr.mapUpdate,go_sem,hg,hc,hl,hj,Result.andThen,hp,hs]
theorem word_at (W:World) (k:Nat) (x:ByteArray) (hx:wordBs[k]?=some x):(Instr.index 223 (.agg (wordBs.map Value.string).toArray) (.int .i64 k)).run Tryz.prog W = .ok (.string x) W:=by
 have hk:k<15:=by
  rcases Nat.lt_or_ge k 15 with h | h
  ·exact h
  rw [List.getElem?_eq_none (by simpa [wordBs] using h)] at hx;cases hx
 have e:x=wordBs.getD k default:=by rw [zt4,hx];rfl
 rw [e]
 clear e hx
 obtain h | h:k=0∨k≠0:=Decidable.em _
 ·subst h;refine Eq.trans ?_ rfl;kernel_rfl
 obtain h | h:k=1∨k≠1:=Decidable.em _
 ·subst h;refine Eq.trans ?_ rfl;kernel_rfl
 obtain h | h:k=2∨k≠2:=Decidable.em _
 ·subst h;refine Eq.trans ?_ rfl;kernel_rfl
 obtain h | h:k=3∨k≠3:=Decidable.em _
 ·subst h;refine Eq.trans ?_ rfl;kernel_rfl
 obtain h | h:k=4∨k≠4:=Decidable.em _
 ·subst h;refine Eq.trans ?_ rfl;kernel_rfl
 obtain h | h:k=5∨k≠5:=Decidable.em _
 ·subst h;refine Eq.trans ?_ rfl;kernel_rfl
 obtain h | h:k=6∨k≠6:=Decidable.em _
 ·subst h;refine Eq.trans ?_ rfl;kernel_rfl
 obtain h | h:k=7∨k≠7:=Decidable.em _
 ·subst h;refine Eq.trans ?_ rfl;kernel_rfl
 obtain h | h:k=8∨k≠8:=Decidable.em _
 ·subst h;refine Eq.trans ?_ rfl;kernel_rfl
 obtain h | h:k=9∨k≠9:=Decidable.em _
 ·subst h;refine Eq.trans ?_ rfl;kernel_rfl
 obtain h | h:k=10∨k≠10:=Decidable.em _
 ·subst h;refine Eq.trans ?_ rfl;kernel_rfl
 obtain h | h:k=11∨k≠11:=Decidable.em _
 ·subst h;refine Eq.trans ?_ rfl;kernel_rfl
 obtain h | h:k=12∨k≠12:=Decidable.em _
 ·subst h;refine Eq.trans ?_ rfl;kernel_rfl
 obtain h | h:k=13∨k≠13:=Decidable.em _
 ·subst h;refine Eq.trans ?_ rfl;kernel_rfl
 obtain h | h:k=14∨k≠14:=Decidable.em _
 ·subst h;refine Eq.trans ?_ rfl;kernel_rfl
 omega
end Go.Proofs.YtnkahlloahgifaaGreatDoor.Lx
namespace Go.Proofs.YtnkahlloahgifaaGreatDoor.Lx
open Go.RowKit
theorem index_not {a:UInt8}:∀ {l:List UInt8},a∉l→Lib.index l [a] = -1
 | [],_=>rfl
 | b :: l,h=>by
  have h1:¬ a=b:=fun e=>h (by rw [e];exact zr7)
  have h2:a∉l:=fun e=>h (zr8 _ e)
  unfold Lib.index
  rw [index_not h2,if_neg (by simp [List.isPrefixOf,h1])]
  rfl
theorem replace_not {a b:UInt8}{l:List UInt8}(h:a∉l):Lib.replace l [a] [b] 1=l:=by
 unfold Lib.replace
 split
 ·rfl
 generalize Lib.replaceNum l [a] 1=k
 cases k with
 | zero=>rfl
 | succ k=>unfold Lib.replaceK;rw [index_not h];rfl
theorem replace_head {a b:UInt8}(hab:a≠b) (l:List UInt8):Lib.replace (a :: l) [a] [b] 1=b :: l:=by
 have hi:Lib.index (a :: l) [a]=(0:Nat):=by
  unfold Lib.index
  rw [if_pos (by simp [List.isPrefixOf])]
  rfl
 have hc:=Lib.count_hit (sub:=[a]) (by simp) hi
 unfold Lib.replace
 rw [if_neg (by simpa using hab)]
 unfold Lib.replaceNum
 rw [if_neg (by omega)]
 show Lib.replaceK [a] [b] 1 (a :: l)=_
 rw [Lib.replaceK_hit [a] [b] 0 (a :: l) 0 hi]
 rfl
theorem dec_nat10:∀ (f u:Nat),1≤f→u<10 ^ f→(Lib.decDigits u).map UInt8.toNat=LX.nat10 f u
 | 0,_,h,_=>absurd h (by decide)
 | f+1,u,_,h=>by
  rw [Lib.decDigits,LX.nat10]
  by_cases h10:u<10
  ·rw [dif_pos h10,if_pos h10]
   simp only [List.map_cons,List.map_nil,UInt8.toNat_ofNat']
   rw [Nat.mod_eq_of_lt (by omega)]
  rw [dif_neg h10,if_neg h10,List.map_append]
  have hf:1≤f:=by
   rcases Nat.eq_zero_or_pos f with rfl | h0
   ·simp at h;omega
   exact h0
  rw [dec_nat10 f (u / 10) hf (by rw [Nat.pow_succ] at h;omega)]
  simp only [List.map_cons,List.map_nil,UInt8.toNat_ofNat']
  rw [Nat.mod_eq_of_lt (by omega)]
theorem dec_digit:∀ (u:Nat),∀ c∈Lib.decDigits u,48≤c.toNat∧c.toNat≤57:=fun u=>by
 induction u using Nat.strongRecOn with
 | ind u ih =>
  intro c hc
  rw [Lib.decDigits] at hc
  by_cases h10:u<10
  ·rw [dif_pos h10] at hc
   simp only [List.mem_singleton] at hc
   subst hc
   rw [UInt8.toNat_ofNat',Nat.mod_eq_of_lt (by omega)]
   omega
  rw [dif_neg h10,List.mem_append] at hc
  rcases hc with hc | hc
  ·exact ih (u / 10) (by omega) c hc
  simp only [List.mem_singleton] at hc
  subst hc
  rw [UInt8.toNat_ofNat',Nat.mod_eq_of_lt (by omega)]
  omega
theorem dec_ne (u:Nat):Lib.decDigits u≠[]:=by
 rw [Lib.decDigits]
 split<;>simp
theorem not_mem_dec {a:UInt8}(ha:¬ (48≤a.toNat∧a.toNat≤57)) (u:Nat):a∉Lib.decDigits u:=fun h=>ha (dec_digit u a h)
def digL (n:Int):List UInt8:=if n<0 then 126 :: Lib.decDigits n.natAbs else Lib.decDigits n.natAbs
theorem replace_itoa (n:Int):Lib.replace (Lib.itoa n) [45] [126] 1=digL n:=by
 unfold Lib.itoa digL
 by_cases h:n<0
 ·rw [if_pos h,if_pos h];exact replace_head (by decide) _
 rw [if_neg h,if_neg h,replace_not (not_mem_dec (by decide) _)]
 congr 1
 omega
theorem replace_digL (n:Int):Lib.replace (digL n) [126] [45] 1=Lib.itoa n:=by
 unfold Lib.itoa digL
 by_cases h:n<0
 ·rw [if_pos h,if_pos h];exact replace_head (by decide) _
 rw [if_neg h,if_neg h,replace_not (not_mem_dec (by decide) _)]
 congr 1
 omega
theorem digL_digs (n:Int) (h:n.natAbs<10 ^ 30):(digL n).map UInt8.toNat=LX.digs n:=by
 unfold digL LX.digs
 split
 ·rw [List.map_cons,dec_nat10 30 _ (by decide) h];rfl
 exact dec_nat10 30 _ (by decide) h
theorem parse_append (acc:Nat):∀ (l:List UInt8) (c:UInt8) (u:Nat),Lib.parseUint10 acc l = .ok u→48≤c.toNat∧c.toNat≤57→u*10+(c.toNat - 48)<18446744073709551616 →
  Lib.parseUint10 acc (l++[c]) = .ok (u*10+(c.toNat - 48)):=by
 intro l
 induction l generalizing acc with
 | nil =>
  intro c u h hc hu
  simp only [Lib.parseUint10] at h
  injection h with h
  subst h
  simp only [List.nil_append,Lib.parseUint10]
  rw [if_pos hc,if_neg (by omega),if_neg (by omega)]
 | cons x l ih =>
  intro c u h hc hu
  simp only [Lib.parseUint10,List.cons_append] at h ⊢
  split at h
  ·rename_i h1
   rw [if_pos h1]
   split at h
   ·cases h
   rename_i h2
   rw [if_neg h2]
   split at h
   ·cases h
   rename_i h3
   rw [if_neg h3]
   exact ih _ c u h hc hu
  cases h
theorem parse_dec:∀ (u:Nat),u<18446744073709551616→Lib.parseUint10 0 (Lib.decDigits u) = .ok u:=fun u=>by
 induction u using Nat.strongRecOn with
 | ind u ih =>
  intro hu
  rw [Lib.decDigits]
  by_cases h10:u<10
  ·rw [dif_pos h10]
   have e:(UInt8.ofNat (48+u)).toNat=48+u:=by rw [UInt8.toNat_ofNat',Nat.mod_eq_of_lt (by omega)]
   simp only [Lib.parseUint10,e]
   rw [if_pos (by omega),if_neg (by omega),if_neg (by omega)]
   congr 1
   omega
  rw [dif_neg h10]
  have e:(UInt8.ofNat (48+u % 10)).toNat=48+u % 10:=by rw [UInt8.toNat_ofNat',Nat.mod_eq_of_lt (by omega)]
  rw [parse_append 0 _ _ (u / 10) (ih (u / 10) (by omega) (by omega)) (by rw [e];omega) (by rw [e];omega),e]
  congr 1
  omega
theorem atoi_itoa (n:Int) (h0 : -9223372036854775808≤n) (h1:n≤9223372036854775807):Lib.atoiAll (Lib.itoa n) = .ok n:=by
 unfold Lib.itoa
 by_cases h:n<0
 ·rw [if_pos h]
  unfold Lib.atoiAll
  have hp:Lib.parseMag (Lib.decDigits n.natAbs) = .ok n.natAbs:=by
   unfold Lib.parseMag
   rw [if_neg (dec_ne _)]
   exact parse_dec _ (by omega)
  simp only [show ((45:UInt8).toNat=45)=True from by decide,or_true,if_true,hp,not_true,false_and,if_false,true_and]
  rw [if_neg (by omega)]
  congr 1
  omega
 rw [if_neg h]
 have hp:Lib.parseMag (Lib.decDigits n.toNat) = .ok n.toNat:=by
  unfold Lib.parseMag
  rw [if_neg (dec_ne _)]
  exact parse_dec _ (by omega)
 have hd:=dec_digit n.toNat
 unfold Lib.atoiAll
 generalize Lib.decDigits n.toNat=l at hp hd
 cases l with
 | nil=>unfold Lib.parseMag at hp;rw [if_pos rfl] at hp;cases hp
 | cons c r =>
  have hc:=hd c zr7
  have h45:¬ c.toNat=45:=by omega
  have h2:¬ 9223372036854775808≤n.toNat:=by omega
  have e:((n.toNat:Nat):Int)=n:=by omega
  have h43':¬ c.toNat=43:=by omega
  simp [h43',hp,h45,h2,e]
theorem mag_append (l:List Nat) (c:Nat):LX.mag (l++[c])=10*LX.mag l+(c - 48):=by
 unfold LX.mag
 rw [List.foldl_append]
 rfl
theorem mag_nat10:∀ (f u:Nat),1≤f→u<10 ^ f→LX.mag (LX.nat10 f u)=u
 | 0,_,h,_=>absurd h (by decide)
 | f+1,u,_,h=>by
  rw [LX.nat10]
  by_cases h10:u<10
  ·rw [if_pos h10];simp [LX.mag]
  rw [if_neg h10,mag_append]
  have hf:1≤f:=by
   rcases Nat.eq_zero_or_pos f with rfl | h0
   ·simp at h;omega
   exact h0
  rw [mag_nat10 f (u / 10) hf (by rw [Nat.pow_succ] at h;omega)]
  omega
theorem nat10_digit:∀ (f u:Nat),∀ c∈LX.nat10 f u,48≤c∧c≤57
 | 0,_,c,h=>by simp [LX.nat10] at h
 | f+1,u,c,h=>by
  rw [LX.nat10] at h
  by_cases h10:u<10
  ·rw [if_pos h10] at h
   simp only [List.mem_singleton] at h
   omega
  rw [if_neg h10,List.mem_append] at h
  rcases h with h | h
  ·exact nat10_digit f _ c h
  simp only [List.mem_singleton] at h
  omega
def numv (l:List Nat):Int:=match l with | 126 :: t => - (LX.mag t:Int) | _=>(LX.mag l:Int)
theorem num_numv (l:List Nat):LX.num l=if -9223372036854775808≤numv l∧numv l≤9223372036854775807∧LX.digs (numv l)=l then some (numv l) else none:=rfl
theorem numv_neg (t:List Nat):numv (126 :: t) = - (LX.mag t:Int):=rfl
theorem numv_pos {l:List Nat}(h:∀ c∈l,48≤c∧c≤57):numv l=(LX.mag l:Int):=by
 unfold numv
 split
 ·exact absurd (h 126 zr7) (by decide)
 rfl
theorem num_digs (n : Int) (h0 : -9223372036854775808 ≤ n) (h1 : n ≤ 9223372036854775807) : LX.num (LX.digs n) = some n := by
  have hn : n.natAbs < 10 ^ 30 := by have : (10 : Nat) ^ 30 = 1000000000000000000000000000000 := by decide
                                     omega
  have hm := mag_nat10 30 n.natAbs (by decide) hn
  have hv : numv (LX.digs n) = n := by
    unfold LX.digs
    by_cases h : n < 0
    · rw [if_pos h, numv_neg, hm]
      omega
    · rw [if_neg h, numv_pos (nat10_digit 30 n.natAbs), hm]
      omega
  rw [num_numv, hv, if_pos ⟨h0, h1, rfl⟩]
theorem num_some {l:List Nat}{v:Int}(h:LX.num l=some v) : -9223372036854775808≤v∧v≤9223372036854775807∧LX.digs v=l:=by
 rw [num_numv] at h
 by_cases hc : -9223372036854775808≤numv l∧numv l≤9223372036854775807∧LX.digs (numv l)=l
 ·rw [if_pos hc] at h
  injection h with h
  rw [h] at hc
  exact hc
 rw [if_neg hc] at h
 cases h
theorem bts_inj {s t:ByteArray}(h:bts s=bts t):s=t:=by
 have e:s.data.toList=t.data.toList:=List.map_inj_right (fun a b=>UInt8.toNat_inj.1) |>.1 h
 cases s with | mk a=>cases t with | mk b=>exact congrArg ByteArray.mk (Array.toList_inj.1 e)
def digS (n:Int):ByteArray:=⟨(digL n).toArray⟩
theorem bts_digS (n : Int) (h0 : -9223372036854775808 ≤ n) (h1 : n ≤ 9223372036854775807) : bts (digS n) = LX.digs n := by
  have hn : n.natAbs < 10 ^ 30 := by have : (10 : Nat) ^ 30 = 1000000000000000000000000000000 := by decide
                                     omega
  exact digL_digs n hn
theorem atoi_of_num {t:ByteArray}{v:Int}(h:LX.num (bts t)=some v):t=digS v∧Lib.atoiAll (Lib.replace t.data.toList [126] [45] 1) = .ok v:=by
 obtain⟨h0,h1,h2⟩:=num_some h
 have e:t=digS v:=bts_inj (by rw [bts_digS v h0 h1,h2])
 refine⟨e,?_⟩
 rw [e]
 show Lib.atoiAll (Lib.replace (digL v) [126] [45] 1)=_
 rw [replace_digL,atoi_itoa v h0 h1]
theorem ne_of_num {t:ByteArray}(h:LX.num (bts t)=none) (v:Int) (h0 : -9223372036854775808≤v) (h1:v≤9223372036854775807):digS v≠t:=fun e=>by
 rw [← e,bts_digS v h0 h1,num_digs v h0 h1] at h
 cases h
theorem atoi_range {l:List UInt8}{v:Int}(h:Lib.atoiAll l = .ok v) : -9223372036854775808≤v∧v≤9223372036854775807:=by
 unfold Lib.atoiAll at h
 cases l with
 | nil=>cases h
 | cons c r =>
  dsimp only at h
  split at h
  ·cases h
  ·cases h
  rename_i u hu
  split at h
  ·cases h
  split at h
  ·cases h
  injection h with h
  subst h
  split<;>constructor<;>omega
end Go.Proofs.YtnkahlloahgifaaGreatDoor.Lx
namespace Go.Proofs.YtnkahlloahgifaaGreatDoor.Lx
open Go.RowKit
def NPost (w:World) (s:ByteArray) (e:Ending) (w':World):Prop :=
 e = .returned (.pointer (some ⟨w.heap.size+1,0,none⟩))∧Sc w' (w.heap.size+1) s 0 w.heap.size (.slice none 0 0)∧Wd w' w.heap.size∧Below w.heap.size w w'∧w'.heap.size=w.heap.size+2
theorem words_bts:wordBs.map bts=LX.words:=by decide +kernel
theorem words_contains (t:ByteArray):(wordBs.take 15).contains t=LX.words.contains (bts t):=by
 rw [← words_bts,show wordBs.take 15=wordBs from rfl]
 generalize wordBs=l
 induction l with
 | nil=>rfl
 | cons a l ih =>
  rw [List.map_cons,List.contains_cons,List.contains_cons,ih]
  congr 1
  rw [Bool.eq_iff_iff,Go.MapKept.bytes_beq,beq_iff_eq]
  exact⟨fun h=>by rw [h],fun h=>bts_inj h⟩
theorem wd_of_words {w:World}{mb:Nat}(h:w.heap[mb]?=some (.map (wordEs 15) 15)):Wd w mb :=
 ⟨_,_,h,fun W t hW=>by
  have:=look_words W mb 15 t hW
  rw [words_contains] at this
  exact this⟩
structure NW (w wr:World) (s:ByteArray) (z k:Nat):Prop where
 map:wr.heap[z]?=some (.map (wordEs k) k)
 blk:wr.heap[z+1]?=some (.cells #[.string s,.int .i64 0,.map (some z),.slice none 0 0] 222 (0,0))
 below:Below z w wr
 size:wr.heap.size=z+2
theorem NW.store {w wr:World}{s:ByteArray}{z k:Nat}(h:NW w wr s z k) (hz:z=w.heap.size):NW w (wr.putObj z (.map (wordEs (k+1)) (k+1))) s z (k+1):=by
 have hlt:z<wr.heap.size:=(zq7.1 h.map).1
 refine⟨World.putObj_heap_same hlt,(World.putObj_heap_other (by omega)).trans h.blk,?_,by rw [World.putObj_size];exact h.size⟩
 exact⟨h.below.os,h.below.tape,h.below.output,by rw [World.putObj_size];exact h.below.size,fun k hk=>(World.putObj_heap_other (by omega)).trans (h.below.block k hk)⟩
theorem newScanner_any (w:World) (s:ByteArray) (hs:s.size≤400000):Calls Tryz.prog 137 #[.string s] w (NPost w s):=by
 have hmm := @run_makeMap Tryz.prog
 have HS:=zh hs
 clear hs
 go_enter Tryz.func137,Tryz.ntmps137
 go_wp2_with fail
 clear hmm
 obtain⟨A,hA⟩:∃ A,A=Value.agg #[Value.string { data := #[97,110,100] },Value.string { data := #[99,97,115,101] },Value.string { data := #[100,97,116,97] },Value.string { data := #[101,108,115,101] },Value.string { data := #[101,110,100] },Value.string { data := #[102,110] },Value.string { data := #[102,117,110] },Value.string { data := #[105,102] },Value.string { data := #[105,110] },Value.string { data := #[105,110,112,117,116] },Value.string { data := #[108,101,116] },Value.string { data := #[111,102] },Value.string { data := #[111,117,116,112,117,116] },Value.string { data := #[116,104,101,110] },Value.string { data := #[118,97,108] }]:=⟨_,rfl⟩
 rw [← hA]
 obtain⟨z,hz⟩:∃ z,z=w.heap.size:=⟨_,rfl⟩
 obtain⟨W0,hW0⟩:∃ W,W=(w.alloc (.map #[] 0)).alloc (.cells #[.string s,.int .i64 0,.map (some w.heap.size),.slice none 0 0] 222):=⟨_,rfl⟩
 rw [← hW0]
 have N0:Hid (NW w W0 s z 0):=by
  rw [hW0,hz]
  refine⟨?_,?_,((zs9 _ _).alloc (zr4 _) _).alloc (by simp) _,by simp⟩
  ·rw [zt2 _ _ _ (by simp)];exact zs2 w _
  have:=zs2 (w.alloc (.map #[] 0)) (.cells #[.string s,.int .i64 0,.map (some w.heap.size),.slice none 0 0] 222)
  rwa [World.size_alloc] at this
 rw [← hz]
 have HA:Hid (A=Value.agg (wordBs.map Value.string).toArray):=hA
 have HZ:=zh hz
 have HX:Hid (z=w.heap.size→∀ wr,NW w wr s z 15→NPost w s (.returned (.pointer (some ⟨z+1,0,none⟩))) wr):=by
  rintro rfl wr h
  exact⟨rfl,⟨h.blk,Nat.zero_le _,HS.out⟩,wd_of_words h.map,h.below,h.size⟩
 clear hA hz hW0
 go_loopw [12] (fun v wr=>∃ k:Nat,k≤15∧v = .int .i64 k∧NW w wr s z k) (fun v _=>15 - (intOf v).toNat)
 case atStart=>exact⟨0,by decide,rfl,N0.out⟩
 obtain⟨k,hk,rfl,hN⟩:=hrel
 by_cases hk15:k<15
 ·have hkz:(k:Int)<15:=by omega
  obtain⟨x,hx⟩:∃ x,wordBs[k]?=some x:=⟨_,zq9 (show k<wordBs.length from hk15)⟩
  have hi:(Instr.index 223 A (.int .i64 k)).run Tryz.prog wr = .ok (.string x) wr:=by rw [HA.out];exact word_at wr k x hx
  have hst:=store_word wr z k x hN.map hk15 hx
  have hc2:wr.cell? ⟨z+1,2,none⟩=some (.map (some z)):=by rw [zb _ _ 2 _ _ _ hN.blk];rfl
  have H1:=zh hN
  have H2:=zh hk15
  clear hN hk15 hx hk
  go_wp2_with fail
  go_roundw
  case rel=>exact⟨k+1,H2.out,by go_num,H1.out.store HZ.out⟩
  case measure=>have:=H2.out;simp [intOf];omega
 have hkz:(15:Int)≤(k:Int):=by omega
 have H1:Hid (NW w wr s z 15):=by
  obtain rfl:k=15:=by omega
  exact hN
 clear hN hk15 hk
 go_wp2_with fail
 go_ret
 exact HX.out HZ.out wr H1.out
end Go.Proofs.YtnkahlloahgifaaGreatDoor.Lx
namespace Go.Proofs.YtnkahlloahgifaaGreatDoor.Lx
open Go.RowKit
structure Env (w:World):Prop where
 tab:Lib.TabIs Tryz.prog w "internal/strconv.uint64pow10" .u64 Lib.pow10Tab
 max:∃ m,w.cell? ⟨0,0,none⟩=some (.int .i64 m)
 syn:∃ t p,w.cell? ⟨1,0,none⟩=some (.iface t p)
 rng:∃ t p,w.cell? ⟨2,0,none⟩=some (.iface t p)
 size:10≤w.heap.size
theorem Env.keep {w w':World}{B:Nat}(h:Env w) (hb:Below B w w') (hB:10≤B):Env w':=by
 obtain⟨g,hg,hg30⟩:∃ g,Tryz.prog.globalNamed "internal/strconv.uint64pow10" = some g∧g<10:=by
  have hk:((Tryz.prog.globalNamed "internal/strconv.uint64pow10").map fun g=>decide (g<10))=some true:=by kernel_rfl
  obtain⟨g,hg,hd⟩:=Option.map_eq_some_iff.1 hk
  exact⟨g,hg,of_decide_eq_true hd⟩
 exact⟨var?_below hb hg (by omega) h.tab,by rw [hb.cell (by show 0<B;omega)];exact h.max,by rw [hb.cell (by show 1<B;omega)];exact h.syn,by rw [hb.cell (by show 2<B;omega)];exact h.rng,zr5 h.size hb.size⟩
def NumPost (w:World) (t:ByteArray) (e:Ending) (w':World):Prop :=
 e = .returned (.tuple #[.int .i64 ((LX.num (bts t)).getD 0),.int .i64 (if (LX.num (bts t)).isSome then 0 else 13)])∧Below w.heap.size w w'
def NumLaw:Prop:=∀ (w:World) (t:ByteArray),Env w→t.size≤400000→Calls Tryz.prog 158 #[.string t] w (NumPost w t)
theorem number_eq (s:ByteArray) (i n d:Nat) (hd:d=n+LX.run LX.digit ((bts s).drop (i+n))) :
  LX.number ((bts s).drop i) n=match LX.num (((bts s).drop i).take d) with
   | none => .bad 13
   | some v=>if LX.part ((bts s).getD (i+d) 0)||(bts s).getD (i+d) 0==39 then .bad 13 else .tok 1 v d:=by
 unfold LX.number
 simp only [List.drop_drop]
 rw [← hd]
 cases LX.num (((bts s).drop i).take d) with
 | none=>rfl
 | some v =>
  simp only []
  cases h:(bts s).drop (i+d) with
  | nil =>
   have hl:(bts s).length≤i+d:=List.drop_eq_nil_iff.1 h
   have e:(bts s).getD (i+d) 0=0:=by rw [zt4,List.getElem?_eq_none hl];rfl
   rw [e]
   rfl
  | cons c t =>
   have hl:i+d<(bts s).length:=by
    rcases Nat.lt_or_ge (i+d) (bts s).length with h2 | h2
    ·exact h2
    rw [List.drop_of_length_le h2] at h;cases h
   rw [List.drop_eq_getElem_cons hl] at h
   simp only [List.cons.injEq] at h
   have e:(bts s).getD (i+d) 0=c:=by rw [zt4,zq9 hl,← h.1];rfl
   rw [e]
theorem number_any (NL:NumLaw) {w:World}{b:Nat}{s:ByteArray}{i mb:Nat}{cv:Value}(h:Sc w b s i mb cv) (henv:Env w) (hi:i<s.size) :
  Calls Tryz.prog 150 #[.pointer (some ⟨b,0,none⟩)] w (TPost w s i (LX.number ((bts s).drop i) (if (bts s).getD i 0=126 then 1 else 0))):=by
 obtain⟨c0,c1,lt,le,sz⟩:=h.at'
 obtain⟨c,hc⟩:∃ c,c=(bts s).getD i 0:=⟨_,rfl⟩
 rw [← hc]
 obtain⟨n,hn⟩:∃ n:Nat,n=if c=126 then 1 else 0:=⟨_,rfl⟩
 rw [← hn]
 obtain⟨r,hr⟩:∃ r,r=LX.number ((bts s).drop i) n:=⟨_,rfl⟩
 rw [← hr]
 obtain⟨d1,hd1⟩:∃ d1,d1=LX.run LX.digit ((bts s).drop (i+n)):=⟨_,rfl⟩
 obtain⟨x,hx⟩:∃ x,x=(bts s).getD (i+(n+d1)) 0:=⟨_,rfl⟩
 have hne:=number_eq s i n (n+d1) (by rw [hd1])
 rw [← hx] at hne
 have hn1:n≤1:=by rw [hn];split<;>omega
 have hds:i+n+d1≤s.size:=by
  have:=run_le LX.digit ((bts s).drop (i+n))
  rw [List.length_drop,ze,← hd1] at this
  omega
 have ATW:Hid (∀ W:World,W.heap[b]?=w.heap[b]?→At W b s i):=fun W e=>⟨by rw [World.cell?_of_block (w:=w) e];exact c0,by rw [World.cell?_of_block (w:=w) e];exact c1,by
  rw [h.1] at e;exact(zq7.1 e).1,le,sz⟩
 have HC:=zh hc
 have HN:=zh hn
 have HR:=zh (hr.trans hne)
 have HD:=zh hd1
 have HX:=zh hx
 have HE:=zh henv
 have HDS:=zh hds
 have H1:=zh hn1
 have HL:=zh NL
 have hiz:(i:Int)+(n:Int)+(d1:Int)≤400000:=by omega
 have hnd0:(n:Int)+(d1:Int)≤400000:=by omega
 have hsz:(i:Int)+(n:Int)+(d1:Int)≤(s.size:Int):=by omega
 have hnz1:(n:Int)≤1:=by omega
 have hsl:∀ m:World,(Instr.slice 9 (.string s) (some (.int .i64 i)) (some (.int .i64 ((i:Int)+(n:Int)+(d1:Int)))) none).run Tryz.prog m = .ok (.string (s.extract i (i+(n+d1)))) m:=fun m=>by
  have:=run_slice_string (P:=Tryz.prog) m 9 s .i64 .i64 i ((i:Int)+(n:Int)+(d1:Int)) Tryz.underlying9 (by omega) (by omega) (by omega)
  rw [this]
  have e:((i:Int)+(n:Int)+(d1:Int)).toNat=i+(n+d1):=by omega
  rw [e]
  simp
 have hw1:IntKind.i64.wrap ((i:Int)+(n:Int))=(i:Int)+(n:Int):=wrap_in _ (by omega)
 have hw2:IntKind.i64.wrap ((i:Int)+(n:Int)+(d1:Int))=(i:Int)+(n:Int)+(d1:Int):=wrap_in _ (by omega)
 have HSL:=zh hsl
 clear hc hr hd1 hx hne hds henv NL hn1 le h hsl c0 c1 hn
 go_enter Tryz.func150,Tryz.ntmps150
 go_wp2_with fail
 obtain⟨z,hz⟩:∃ z,z=w.heap.size:=⟨_,rfl⟩
 obtain⟨W0,hW0⟩:∃ W,W=w.alloc (.cells #[.int .i64 0,.int .i64 0,.string ⟨#[]⟩,.int .i64 0] 154):=⟨_,rfl⟩
 rw [← hW0,← hz]
 have B0:Hid (W0.heap[b]?=w.heap[b]?):=by rw [hW0];exact zt2 _ _ _ lt
 have B1:Hid (W0.heap[z]?=some (.cells #[.int .i64 0,.int .i64 0,.string ⟨#[]⟩,.int .i64 0] 154 (0,0))):=by rw [hW0,hz];exact zs2 w _
 have B2:Hid (Below w.heap.size w W0):=by rw [hW0];exact(zs9 _ _).alloc (zr4 _) _
 have B3:Hid (z<W0.heap.size):=(zq7.1 B1.out).1
 have B4:=zh hz
 clear hz hW0
 refine(peek_any (ATW.out W0 B0.out) 0 (by decide)).mono ?_
 rintro e w1 ⟨rfl,q1,rfl⟩
 rw [Nat.add_zero,← HC.out]
 by_cases hc126:c=126
 case' pos =>
  have hcz:((c:Int)==126)=true:=by simp;omega
  have hcz2:(c:Int)=126:=by omega
  have HN1:Hid (n=1):=by show n=1;rw [HN.out,if_pos hc126]
  clear hc126
  go_wp2_with fail
  rw [show (1:Int)=(n:Int) from by rw [HN1.out];rfl]
 case' neg =>
  have hcz2:¬ (c:Int)=126:=by omega
  have HN1:Hid (n=0):=by show n=0;rw [HN.out,if_neg hc126]
  clear hc126
  go_wp2_with fail
  rw [show (0:Int)=(n:Int) from by rw [HN1.out];rfl]
 all_goals
  refine(run_digit (ATW.out (W0.drewN q1) B0.out) n (by have:=H1.out;omega)).mono ?_
  rintro e w2 ⟨rfl,q2,rfl⟩
  rw [← HD.out]
  go_wp2_with fail
  have PK:=peek_any (ATW.out (W0.drewN (q1+q2)) B0.out) (n+d1) (by have:=H1.out;have:=HDS.out;omega)
  rw [← HX.out,show ((n+d1:Nat):Int)=(n:Int)+(d1:Int) from by push_cast;rfl] at PK
  refine PK.mono ?_
  clear PK
  rintro e w3 ⟨rfl,q3,rfl⟩
  have hsl:=HSL.out
  obtain⟨e0,e1,elt,-,-⟩:=ATW.out W0 B0.out
  go_wp2_with fail
  go_quiet (fail)
  clear hsl e0 e1 elt hw1 hw2
  go_wp2_with fail
  have NB:=HL.out (W0.drewN (q1+q2+q3+nq)) (s.extract i (i+(n+d1))) (HE.out.keep (below_drawn B2.out _) HE.out.size) (by rw [ByteArray.size_extract];have:=HDS.out;omega)
  refine NB.mono ?_
  clear NB
  rintro e w4 ⟨rfl,hb4⟩
  obtain⟨tx,htx⟩:∃ t,t=s.extract i (i+(n+d1)):=⟨_,rfl⟩
  rw [← htx]
  have HTX:=zh htx
  have hb2:Below W0.heap.size W0 w4:=zu hb4
  have b1:w4.heap[z]?=some (.cells #[.int .i64 0,.int .i64 0,.string ⟨#[]⟩,.int .i64 0] 154 (0,0)):=(hb2.block z B3.out).trans B1.out
  have b2:w4.heap[b]?=w.heap[b]?:=(hb2.block b (zt5 lt B2.out.size)).trans B0.out
  obtain⟨e0,e1,elt,-,-⟩:=ATW.out w4 b2
  have X1:Hid (Below w.heap.size w w4):=B2.out.trans (hb2.mono B2.out.size)
  have X2:=zh b1
  have HWT:Hid (bts tx=((bts s).drop i).take (n+d1)):=by show _=_;rw [htx,bts_extract,Nat.add_sub_cancel_left]
  have yl:z<w4.heap.size:=(zq7.1 b1).1
  have Y:Hid (∀ q,w4.frozen? ⟨z,q,none⟩=false):=fun q=>zs1 w4 z q _ _ b1
  have HRN:Hid (LX.num (((bts s).drop i).take (n+d1))=none→r = .bad 13):=fun h=>by rw [HR.out,h]
  have HRS:Hid (∀ v,LX.num (((bts s).drop i).take (n+d1))=some v→r=if LX.part x||x==39 then .bad 13 else .tok 1 v (n+d1)):=fun v h=>by rw [HR.out,h]
  clear htx hb4 hb2 b1 b2 HR
  cases hv:LX.num (bts tx) with
  | none =>
   have HV:=zh hv
   clear hv
   go_wp2_with fail
   refine⟨rfl,?_⟩
   rw [HRN.out (by rw [← HWT.out];exact HV.out)]
   exact⟨rfl,X1.out⟩
  | some v =>
   have HV:=zh hv
   clear hv
   go_wp2_with fail
   refine(part_any w4 x).mono ?_
   rintro e w5 ⟨rfl,rfl⟩
   cases hp:LX.part x with
   | true =>
    have HP:=zh hp
    clear hp
    go_wp2_with fail
    refine⟨rfl,?_⟩
    rw [HRS.out v (by rw [← HWT.out];exact HV.out),HP.out]
    exact⟨rfl,X1.out⟩
   | false =>
    have HP:=zh hp
    clear hp
    by_cases hx39:x=39
    ·have hxz:(x:Int)=39:=by omega
     have HX3:=zh hx39
     clear hx39
     go_wp2_with fail
     refine⟨rfl,?_⟩
     rw [HRS.out v (by rw [← HWT.out];exact HV.out),HP.out,HX3.out]
     exact⟨rfl,X1.out⟩
    have hxz:¬ (x:Int)=39:=by omega
    have HX3:=zh hx39
    clear hx39
    have yf:∀ q,w5.frozen? ⟨z,q,none⟩=false:=Y.out
    have y0:w5.cell? ⟨z,0,none⟩=some (.int .i64 0):=by rw [zb w5 z 0 _ _ _ X2.out];rfl
    have y1:w5.cell? ⟨z,1,none⟩=some (.int .i64 0):=by rw [zb w5 z 1 _ _ _ X2.out];rfl
    have y2:w5.cell? ⟨z,2,none⟩=some (.string ⟨#[]⟩):=by rw [zb w5 z 2 _ _ _ X2.out];rfl
    have y3:w5.cell? ⟨z,3,none⟩=some (.int .i64 0):=by rw [zb w5 z 3 _ _ _ X2.out];rfl
    go_wp2_with fail
    have hf:=four_set X2.out (.int .i64 1) (.int .i64 v) (.string tx) (.int .i64 i)
    have hzb:w.heap.size≤z:=Nat.le_of_eq B4.out.symm
    refine bodyPost_ret (v:=tokV 1 v tx i) (by rw [zt rfl];simp [asAddr,load39 hf]) rfl ?_
    have hfin:=(((X1.out.setCell (p:=⟨z,0,none⟩) hzb (.int .i64 1)).setCell (p:=⟨z,1,none⟩) hzb (.int .i64 v)).setCell (p:=⟨z,2,none⟩) hzb (.string tx)).setCell (p:=⟨z,3,none⟩) hzb (.int .i64 i)
    rw [HRS.out v (by rw [← HWT.out];exact HV.out),HP.out,if_neg (by simpa using HX3.out)]
    exact⟨by rw [HTX.out];try rfl,hfin⟩
end Go.Proofs.YtnkahlloahgifaaGreatDoor.Lx
namespace Go.Proofs.YtnkahlloahgifaaGreatDoor.Lx
open Go.RowKit
theorem token_eq (s:ByteArray) (i:Nat) (hi:i<s.size) :
  LX.token ((bts s).drop i)=if LX.digit ((bts s).getD i 0)||(bts s).getD i 0==126 then LX.number ((bts s).drop i) (if (bts s).getD i 0=126 then 1 else 0)
  else if LX.small ((bts s).getD i 0) then LX.named 2 ((bts s).drop i)
  else if LX.great ((bts s).getD i 0) then LX.named 3 ((bts s).drop i)
  else if (bts s).getD i 0=39∧LX.small ((bts s).getD (i+1) 0) then LX.made 4 (1+LX.run LX.part ((bts s).drop (i+1)))
  else if [61,62].isPrefixOf ((bts s).drop i)=true∨[45,62].isPrefixOf ((bts s).drop i)=true then .tok 6 0 2
  else if LX.signs.contains ((bts s).getD i 0) then .tok 6 0 1
  else .bad 11:=by
 have hl:i<(bts s).length:=by rw [ze];exact hi
 have e1:(bts s).getD i 0=(bts s)[i]:=by rw [zt4,zq9 hl];rfl
 have e2:LX.head0 ((bts s).drop (i+1))=(bts s).getD (i+1) 0:=by
  unfold LX.head0
  rw [List.headD_eq_head?_getD,List.head?_drop,zt4]
 rw [← e2,e1,List.drop_eq_getElem_cons hl]
 generalize (bts s)[i]=c
 generalize (bts s).drop (i+1)=t
 unfold LX.token
 have e3:((c=61∨c=45)∧LX.head0 t=62)=([61,62].isPrefixOf (c :: t)=true∨[45,62].isPrefixOf (c :: t)=true):=by
  cases t with
  | nil=>simp [List.isPrefixOf,LX.head0]
  | cons d t =>
   simp only [List.isPrefixOf,LX.head0,List.headD_cons,Bool.and_true,Bool.and_eq_true,beq_iff_eq,eq_iff_iff]
   constructor
   ·rintro ⟨h | h,k⟩
    ·exact .inl ⟨h.symm,k.symm⟩
    exact .inr ⟨h.symm,k.symm⟩
   rintro (⟨h,k⟩|⟨h,k⟩)
   ·exact⟨.inl h.symm,k.symm⟩
   exact⟨.inr h.symm,k.symm⟩
 simp only [e3]
def signB:ByteArray:=⟨#[40,41,44,59,58,124,61,60,43,45,42,47,37,95]⟩
theorem signs_eq (c:Nat) (hc:c<256):decide (0≤Lib.indexByte signB.data.toList ((c:Int)).toNat.toUInt8)=LX.signs.contains c:=by
 have h:∀ c:Fin 256,decide (0≤Lib.indexByte signB.data.toList ((c.1:Int)).toNat.toUInt8)=LX.signs.contains c.1:=by decide +kernel
 exact h ⟨c,hc⟩
theorem bts_lt (s:ByteArray) (i:Nat):(bts s).getD i 0<256:=by
 rw [zt4]
 rcases Nat.lt_or_ge i s.size with h | h
 ·rw [bts_get s h];exact(s[i]'h).toNat_lt
 rw [List.getElem?_eq_none (by rw [ze];exact h)];decide
theorem made_tpost {w:World}{s:ByteArray}{i k n:Nat}{e:Ending}{w':World}(h:MPost w s i k n e w'):TPost w s i (LX.made k n) e w':=by
 unfold MPost at h
 unfold LX.made
 by_cases hn:24<n
 ·rw [if_pos hn] at h ⊢;exact h
 rw [if_neg hn] at h ⊢;exact h
theorem token_any (NL:NumLaw) {w:World}{b:Nat}{s:ByteArray}{i mb:Nat}{cv:Value}(h:Sc w b s i mb cv) (henv:Env w) (hw:Wd w mb) (hmb:mb≠b) (hi:i<s.size) :
  Calls Tryz.prog 143 #[.pointer (some ⟨b,0,none⟩)] w (TPost w s i (LX.token ((bts s).drop i))):=by
 have hne:=token_eq s i hi
 obtain⟨c,hc⟩:∃ c,c=(bts s).getD i 0:=⟨_,rfl⟩
 obtain⟨d,hd⟩:∃ d,d=(bts s).getD (i+1) 0:=⟨_,rfl⟩
 obtain⟨r,hr⟩:∃ r,r=LX.token ((bts s).drop i):=⟨_,rfl⟩
 have c256:c<256:=by rw [hc];exact bts_lt s i
 rw [← hr] at hne ⊢
 rw [← hc,← hd] at hne
 obtain⟨c0,c1,lt,le,sz⟩:=h.at'
 have ATW:Hid (∀ W:World,W.heap[b]?=w.heap[b]?→At W b s i):=fun W e=>⟨by rw [World.cell?_of_block (w:=w) e];exact c0,by rw [World.cell?_of_block (w:=w) e];exact c1,by
  rw [h.1] at e;exact(zq7.1 e).1,le,sz⟩
 have SCW:Hid (∀ W:World,W.heap[b]?=w.heap[b]?→Sc W b s i mb cv):=fun W e=>⟨e.trans h.1,h.2⟩
 have HC:=zh hc
 have HD:=zh hd
 have HR:=zh hne
 have HE:=zh henv
 have HW:=zh hw
 have HB:=zh hmb
 have HI:=zh hi
 have HL:=zh NL
 have HCB:=zh c256
 clear hc hd hr hne henv hw hmb hi NL c256 le h c0 c1 sz
 go_enter Tryz.func143,Tryz.ntmps143
 go_wp2_with fail
 obtain⟨z,hz⟩:∃ z,z=w.heap.size:=⟨_,rfl⟩
 obtain⟨W0,hW0⟩:∃ W,W=w.alloc (.cells #[.int .i64 0,.int .i64 0,.string ⟨#[]⟩,.int .i64 0] 154):=⟨_,rfl⟩
 rw [← hW0,← hz]
 have B0:Hid (W0.heap[b]?=w.heap[b]?):=by rw [hW0];exact zt2 _ _ _ lt
 have B1:Hid (W0.heap[z]?=some (.cells #[.int .i64 0,.int .i64 0,.string ⟨#[]⟩,.int .i64 0] 154 (0,0))):=by rw [hW0,hz];exact zs2 w _
 have B2:Hid (Below w.heap.size w W0):=by rw [hW0];exact(zs9 _ _).alloc (zr4 _) _
 have B3:Hid (z<W0.heap.size):=(zq7.1 B1.out).1
 have B4:=zh hz
 have HEW:Hid (∀ q,Env (W0.drewN q)):=fun q=>HE.out.keep (below_drawn B2.out q) HE.out.size
 have HWW:Hid (∀ q,Wd (W0.drewN q) mb):=fun q=>by
  obtain⟨es,clock,h1,h2⟩:=HW.out
  exact⟨es,clock,(B2.out.block mb (zq7.1 h1).1).trans h1,h2⟩
 have END:Hid (∀ (W W':World) (q:Nat) (k v:Int) (t:ByteArray),Below W0.heap.size (W0.drewN q) W →
   W.heap[z]?=some (.cells #[.int .i64 0,.int .i64 0,.string ⟨#[]⟩,.int .i64 0] 154 (0,0))∧Below w.heap.size w ((((W.setCell ⟨z,0,none⟩ (.int .i64 k)).setCell ⟨z,1,none⟩ (.int .i64 v)).setCell ⟨z,2,none⟩ (.string t)).setCell ⟨z,3,none⟩ (.int .i64 i))):=fun W W' q k v t hb=>by
  have hb2:Below W0.heap.size W0 W:=zu hb
  have hzb:w.heap.size≤z:=Nat.le_of_eq B4.out.symm
  exact⟨(hb2.block z B3.out).trans B1.out,((((B2.out.trans (hb2.mono B2.out.size)).setCell (p:=⟨z,0,none⟩) hzb (.int .i64 k)).setCell (p:=⟨z,1,none⟩) hzb (.int .i64 v)).setCell (p:=⟨z,2,none⟩) hzb (.string t)).setCell (p:=⟨z,3,none⟩) hzb (.int .i64 i)⟩
 clear hz hW0
 refine(peek_any (ATW.out W0 B0.out) 0 (by decide)).mono ?_
 rintro e w1 ⟨rfl,q1,rfl⟩
 rw [Nat.add_zero,← HC.out]
 go_wp2_with fail
 refine(digit_any _ c).mono ?_
 rintro e w2 ⟨rfl,rfl⟩
 cases hdg:LX.digit c with
 | true =>
  have HDG:=zh hdg
  clear hdg
  go_wp2_with fail
  have NB:=number_any HL.out (SCW.out (W0.drewN q1) B0.out) (HEW.out q1) HI.out
  refine NB.mono ?_
  clear NB
  intro e w3 hp
  obtain⟨cr,hcr⟩:∃ cr,cr=r:=⟨_,rfl⟩
  have HP0:TPost (W0.drewN (q1)) s i cr e w3:=by
   rw [hcr,HR.out,HDG.out,Bool.true_or,if_pos rfl,HC.out]
   exact hp
  have HCR:=zh hcr
  clear hp hcr
  cases cr with
  | bad er =>
   obtain⟨rfl,hb⟩:=HP0
   unfold thrown
   have X1:=zh hb
   clear hb
   go_wp2_with fail
   refine⟨rfl,?_⟩
   rw [← HCR.out]
   exact⟨rfl,B2.out.trans ((zu X1.out).mono B2.out.size)⟩
  | tok k v n =>
   obtain⟨rfl,hb⟩:=HP0
   unfold tokV
   have X2:=END.out w3 w3 _ k v (s.extract i (i+n)) hb
   have X1:=zh hb
   have X3:=zh X2
   have yf:∀ q,w3.frozen? ⟨z,q,none⟩=false:=fun q=>zs1 w3 z q _ _ X2.1
   have y0:w3.cell? ⟨z,0,none⟩=some (.int .i64 0):=by rw [zb w3 z 0 _ _ _ X2.1];rfl
   have y1:w3.cell? ⟨z,1,none⟩=some (.int .i64 0):=by rw [zb w3 z 1 _ _ _ X2.1];rfl
   have y2:w3.cell? ⟨z,2,none⟩=some (.string ⟨#[]⟩):=by rw [zb w3 z 2 _ _ _ X2.1];rfl
   have y3:w3.cell? ⟨z,3,none⟩=some (.int .i64 0):=by rw [zb w3 z 3 _ _ _ X2.1];rfl
   clear X2 hb
   obtain⟨tx,htx⟩:∃ t,t=s.extract i (i+n):=⟨_,rfl⟩
   rw [← htx]
   have HTX:=zh htx
   clear htx
   go_wp2_with fail
   have hf:=four_set X3.out.1 (.int .i64 k) (.int .i64 v) (.string tx) (.int .i64 i)
   refine bodyPost_ret (v:=tokV k v tx i) (by rw [zt rfl];simp [asAddr,load39 hf]) rfl ?_
   rw [← HCR.out]
   have X4:=X3.out.2
   rw [← HTX.out] at X4
   exact⟨by rw [HTX.out];try rfl,X4⟩
 | false =>
  have HDG:=zh hdg
  clear hdg
  by_cases hc126:c=126
  ·have hz126:(c:Int)=126:=by omega
   have HC6:=zh hc126
   clear hc126
   go_wp2_with fail
   have NB:=number_any HL.out (SCW.out (W0.drewN q1) B0.out) (HEW.out q1) HI.out
   refine NB.mono ?_
   clear NB
   intro e w3 hp
   obtain⟨cr,hcr⟩:∃ cr,cr=r:=⟨_,rfl⟩
   have HP0:TPost (W0.drewN (q1)) s i cr e w3:=by
    rw [hcr,HR.out,HDG.out,HC6.out,show ((false||(126:Nat)==126)=true) from rfl,if_pos rfl,if_pos rfl]
    rw [← HC.out,HC6.out,if_pos rfl] at hp;exact hp
   have HCR:=zh hcr
   clear hp hcr
   cases cr with
   | bad er =>
    obtain⟨rfl,hb⟩:=HP0
    unfold thrown
    have X1:=zh hb
    clear hb
    go_wp2_with fail
    refine⟨rfl,?_⟩
    rw [← HCR.out]
    exact⟨rfl,B2.out.trans ((zu X1.out).mono B2.out.size)⟩
   | tok k v n =>
    obtain⟨rfl,hb⟩:=HP0
    unfold tokV
    have X2:=END.out w3 w3 _ k v (s.extract i (i+n)) hb
    have X1:=zh hb
    have X3:=zh X2
    have yf:∀ q,w3.frozen? ⟨z,q,none⟩=false:=fun q=>zs1 w3 z q _ _ X2.1
    have y0:w3.cell? ⟨z,0,none⟩=some (.int .i64 0):=by rw [zb w3 z 0 _ _ _ X2.1];rfl
    have y1:w3.cell? ⟨z,1,none⟩=some (.int .i64 0):=by rw [zb w3 z 1 _ _ _ X2.1];rfl
    have y2:w3.cell? ⟨z,2,none⟩=some (.string ⟨#[]⟩):=by rw [zb w3 z 2 _ _ _ X2.1];rfl
    have y3:w3.cell? ⟨z,3,none⟩=some (.int .i64 0):=by rw [zb w3 z 3 _ _ _ X2.1];rfl
    clear X2 hb
    obtain⟨tx,htx⟩:∃ t,t=s.extract i (i+n):=⟨_,rfl⟩
    rw [← htx]
    have HTX:=zh htx
    clear htx
    go_wp2_with fail
    have hf:=four_set X3.out.1 (.int .i64 k) (.int .i64 v) (.string tx) (.int .i64 i)
    refine bodyPost_ret (v:=tokV k v tx i) (by rw [zt rfl];simp [asAddr,load39 hf]) rfl ?_
    rw [← HCR.out]
    have X4:=X3.out.2
    rw [← HTX.out] at X4
    exact⟨by rw [HTX.out];try rfl,X4⟩
  have hz126:¬ (c:Int)=126:=by omega
  have HDN:Hid ((LX.digit c||c==126)=false):=by show _=_;rw [HDG.out,Bool.false_or];exact zt6 hc126
  clear hc126
  go_wp2_with fail
  refine(small_any _ c).mono ?_
  rintro e w2 ⟨rfl,rfl⟩
  cases hsm:LX.small c with
  | true =>
   have HSM:=zh hsm
   clear hsm
   go_wp2_with fail
   have NB:=name_any (SCW.out (W0.drewN q1) B0.out) (HWW.out q1) HB.out 2 (by decide) HI.out
   refine NB.mono ?_
   clear NB
   intro e w3 hp
   obtain⟨cr,hcr⟩:∃ cr,cr=r:=⟨_,rfl⟩
   have HP0:TPost (W0.drewN (q1)) s i cr e w3:=by
    rw [hcr,HR.out,HDN.out,HSM.out,if_neg Bool.false_ne_true,if_pos rfl]
    exact hp
   have HCR:=zh hcr
   clear hp hcr
   cases cr with
   | bad er =>
    obtain⟨rfl,hb⟩:=HP0
    unfold thrown
    have X1:=zh hb
    clear hb
    go_wp2_with fail
    refine⟨rfl,?_⟩
    rw [← HCR.out]
    exact⟨rfl,B2.out.trans ((zu X1.out).mono B2.out.size)⟩
   | tok k v n =>
    obtain⟨rfl,hb⟩:=HP0
    unfold tokV
    have X2:=END.out w3 w3 _ k v (s.extract i (i+n)) hb
    have X1:=zh hb
    have X3:=zh X2
    have yf:∀ q,w3.frozen? ⟨z,q,none⟩=false:=fun q=>zs1 w3 z q _ _ X2.1
    have y0:w3.cell? ⟨z,0,none⟩=some (.int .i64 0):=by rw [zb w3 z 0 _ _ _ X2.1];rfl
    have y1:w3.cell? ⟨z,1,none⟩=some (.int .i64 0):=by rw [zb w3 z 1 _ _ _ X2.1];rfl
    have y2:w3.cell? ⟨z,2,none⟩=some (.string ⟨#[]⟩):=by rw [zb w3 z 2 _ _ _ X2.1];rfl
    have y3:w3.cell? ⟨z,3,none⟩=some (.int .i64 0):=by rw [zb w3 z 3 _ _ _ X2.1];rfl
    clear X2 hb
    obtain⟨tx,htx⟩:∃ t,t=s.extract i (i+n):=⟨_,rfl⟩
    rw [← htx]
    have HTX:=zh htx
    clear htx
    go_wp2_with fail
    have hf:=four_set X3.out.1 (.int .i64 k) (.int .i64 v) (.string tx) (.int .i64 i)
    refine bodyPost_ret (v:=tokV k v tx i) (by rw [zt rfl];simp [asAddr,load39 hf]) rfl ?_
    rw [← HCR.out]
    have X4:=X3.out.2
    rw [← HTX.out] at X4
    exact⟨by rw [HTX.out];try rfl,X4⟩
  | false =>
   have HSM:=zh hsm
   clear hsm
   go_wp2_with fail
   refine(great_any _ c).mono ?_
   rintro e w2 ⟨rfl,rfl⟩
   cases hgr:LX.great c with
   | true =>
    have HGR:=zh hgr
    clear hgr
    go_wp2_with fail
    have NB:=name_any (SCW.out (W0.drewN q1) B0.out) (HWW.out q1) HB.out 3 (by decide) HI.out
    refine NB.mono ?_
    clear NB
    intro e w3 hp
    obtain⟨cr,hcr⟩:∃ cr,cr=r:=⟨_,rfl⟩
    have HP0:TPost (W0.drewN (q1)) s i cr e w3:=by
     rw [hcr,HR.out,HDN.out,HSM.out,HGR.out,if_neg Bool.false_ne_true,if_neg Bool.false_ne_true,if_pos rfl]
     exact hp
    have HCR:=zh hcr
    clear hp hcr
    cases cr with
    | bad er =>
     obtain⟨rfl,hb⟩:=HP0
     unfold thrown
     have X1:=zh hb
     clear hb
     go_wp2_with fail
     refine⟨rfl,?_⟩
     rw [← HCR.out]
     exact⟨rfl,B2.out.trans ((zu X1.out).mono B2.out.size)⟩
    | tok k v n =>
     obtain⟨rfl,hb⟩:=HP0
     unfold tokV
     have X2:=END.out w3 w3 _ k v (s.extract i (i+n)) hb
     have X1:=zh hb
     have X3:=zh X2
     have yf:∀ q,w3.frozen? ⟨z,q,none⟩=false:=fun q=>zs1 w3 z q _ _ X2.1
     have y0:w3.cell? ⟨z,0,none⟩=some (.int .i64 0):=by rw [zb w3 z 0 _ _ _ X2.1];rfl
     have y1:w3.cell? ⟨z,1,none⟩=some (.int .i64 0):=by rw [zb w3 z 1 _ _ _ X2.1];rfl
     have y2:w3.cell? ⟨z,2,none⟩=some (.string ⟨#[]⟩):=by rw [zb w3 z 2 _ _ _ X2.1];rfl
     have y3:w3.cell? ⟨z,3,none⟩=some (.int .i64 0):=by rw [zb w3 z 3 _ _ _ X2.1];rfl
     clear X2 hb
     obtain⟨tx,htx⟩:∃ t,t=s.extract i (i+n):=⟨_,rfl⟩
     rw [← htx]
     have HTX:=zh htx
     clear htx
     go_wp2_with fail
     have hf:=four_set X3.out.1 (.int .i64 k) (.int .i64 v) (.string tx) (.int .i64 i)
     refine bodyPost_ret (v:=tokV k v tx i) (by rw [zt rfl];simp [asAddr,load39 hf]) rfl ?_
     rw [← HCR.out]
     have X4:=X3.out.2
     rw [← HTX.out] at X4
     exact⟨by rw [HTX.out];try rfl,X4⟩
   | false =>
    have HGR:=zh hgr
    clear hgr
    have HR2:Hid (r=if c=39∧LX.small d then LX.made 4 (1+LX.run LX.part ((bts s).drop (i+1)))
      else if [61,62].isPrefixOf ((bts s).drop i)=true∨[45,62].isPrefixOf ((bts s).drop i)=true then .tok 6 0 2
      else if LX.signs.contains c then .tok 6 0 1
      else .bad 11):=by
     show _=_
     rw [HR.out,HDN.out,HSM.out,HGR.out,if_neg Bool.false_ne_true,if_neg Bool.false_ne_true,if_neg Bool.false_ne_true]
    by_cases hc39:c=39
    ·have hz39:(c:Int)=39:=by omega
     have HC9:=zh hc39
     clear hc39
     go_wp2_with fail
     refine(peek_any (ATW.out (W0.drewN q1) B0.out) 1 (by decide)).mono ?_
     rintro e w3 ⟨rfl,q2,rfl⟩
     rw [← HD.out]
     go_wp2_with fail
     refine(small_any _ d).mono ?_
     rintro e w3 ⟨rfl,rfl⟩
     cases hsd:LX.small d with
     | true =>
      have HSD:=zh hsd
      clear hsd
      go_wp2_with fail
      have RP:=run_part (ATW.out (W0.drewN (q1+q2)) B0.out) 1 (by decide)
      obtain⟨rp,hrp⟩:∃ rp,rp=LX.run LX.part ((bts s).drop (i+1)):=⟨_,rfl⟩
      have hle:i+(1+rp)≤s.size:=by
       have:=run_le LX.part ((bts s).drop (i+1))
       have:=HI.out
       rw [List.length_drop,ze,← hrp] at *
       omega
      have hsz:rp≤400000:=by have:=(SCW.out w rfl).2.2;omega
      rw [← hrp] at RP
      have HRP:=zh hrp
      have HLE:=zh hle
      clear hrp hle
      refine RP.mono ?_
      clear RP
      rintro e w3 ⟨rfl,q3,rfl⟩
      go_wp2_with fail
      have MD:=made_any (SCW.out (W0.drewN (q1+q2+q3)) B0.out) 4 (1+rp) HLE.out
      rw [show ((1+rp:Nat):Int)=1+(rp:Int) from by push_cast;rfl] at MD
      have NB:=MD
      refine NB.mono ?_
      clear NB
      intro e w3 hp
      obtain⟨cr,hcr⟩:∃ cr,cr=r:=⟨_,rfl⟩
      have HP0:TPost (W0.drewN (q1+q2+q3)) s i cr e w3:=by
       rw [hcr,HR2.out,HC9.out,if_pos ⟨rfl,HSD.out⟩,← HRP.out]
       exact made_tpost (k:=4) hp
      have HCR:=zh hcr
      clear hp hcr
      cases cr with
      | bad er =>
       obtain⟨rfl,hb⟩:=HP0
       unfold thrown
       have X1:=zh hb
       clear hb
       go_wp2_with fail
       refine⟨rfl,?_⟩
       rw [← HCR.out]
       exact⟨rfl,B2.out.trans ((zu X1.out).mono B2.out.size)⟩
      | tok k v n =>
       obtain⟨rfl,hb⟩:=HP0
       unfold tokV
       have X2:=END.out w3 w3 _ k v (s.extract i (i+n)) hb
       have X1:=zh hb
       have X3:=zh X2
       have yf:∀ q,w3.frozen? ⟨z,q,none⟩=false:=fun q=>zs1 w3 z q _ _ X2.1
       have y0:w3.cell? ⟨z,0,none⟩=some (.int .i64 0):=by rw [zb w3 z 0 _ _ _ X2.1];rfl
       have y1:w3.cell? ⟨z,1,none⟩=some (.int .i64 0):=by rw [zb w3 z 1 _ _ _ X2.1];rfl
       have y2:w3.cell? ⟨z,2,none⟩=some (.string ⟨#[]⟩):=by rw [zb w3 z 2 _ _ _ X2.1];rfl
       have y3:w3.cell? ⟨z,3,none⟩=some (.int .i64 0):=by rw [zb w3 z 3 _ _ _ X2.1];rfl
       clear X2 hb
       obtain⟨tx,htx⟩:∃ t,t=s.extract i (i+n):=⟨_,rfl⟩
       rw [← htx]
       have HTX:=zh htx
       clear htx
       go_wp2_with fail
       have hf:=four_set X3.out.1 (.int .i64 k) (.int .i64 v) (.string tx) (.int .i64 i)
       refine bodyPost_ret (v:=tokV k v tx i) (by rw [zt rfl];simp [asAddr,load39 hf]) rfl ?_
       rw [← HCR.out]
       have X4:=X3.out.2
       rw [← HTX.out] at X4
       exact⟨by rw [HTX.out];try rfl,X4⟩
     | false =>
      have HR3:Hid (r=if [61,62].isPrefixOf ((bts s).drop i)=true∨[45,62].isPrefixOf ((bts s).drop i)=true then .tok 6 0 2
           else if LX.signs.contains c then .tok 6 0 1
           else .bad 11):=by
       show _=_
       rw [HR2.out,if_neg (by rw [hsd];simp)]
      clear hsd
      go_wp2_with fail
      refine(starts_any (ATW.out (W0.drewN (q1+q2)) B0.out) ⟨#[61,62]⟩).mono ?_
      rintro e w3 ⟨rfl,q4,rfl⟩
      rw [show bts ⟨#[61,62]⟩=[61,62] from rfl]
      cases h61:[61,62].isPrefixOf ((bts s).drop i) with
      | true =>
       have H61:=zh h61
       have HLE:Hid (i+2≤s.size):=by
        have:=prefix2_length h61
        rw [List.length_drop,ze] at this
        show _≤_
        omega
       clear h61
       go_wp2_with fail
       have NB:=made_any (SCW.out (W0.drewN (q1+q2+q4)) B0.out) 6 2 HLE.out
       refine NB.mono ?_
       clear NB
       intro e w3 hp
       obtain⟨cr,hcr⟩:∃ cr,cr=r:=⟨_,rfl⟩
       have HP0:TPost (W0.drewN (q1+q2+q4)) s i cr e w3:=by
        rw [hcr,HR3.out,if_pos (.inl H61.out)]
        exact made_tpost (k:=6) (n:=2) hp
       have HCR:=zh hcr
       clear hp hcr
       cases cr with
       | bad er =>
        obtain⟨rfl,hb⟩:=HP0
        unfold thrown
        have X1:=zh hb
        clear hb
        go_wp2_with fail
        refine⟨rfl,?_⟩
        rw [← HCR.out]
        exact⟨rfl,B2.out.trans ((zu X1.out).mono B2.out.size)⟩
       | tok k v n =>
        obtain⟨rfl,hb⟩:=HP0
        unfold tokV
        have X2:=END.out w3 w3 _ k v (s.extract i (i+n)) hb
        have X1:=zh hb
        have X3:=zh X2
        have yf:∀ q,w3.frozen? ⟨z,q,none⟩=false:=fun q=>zs1 w3 z q _ _ X2.1
        have y0:w3.cell? ⟨z,0,none⟩=some (.int .i64 0):=by rw [zb w3 z 0 _ _ _ X2.1];rfl
        have y1:w3.cell? ⟨z,1,none⟩=some (.int .i64 0):=by rw [zb w3 z 1 _ _ _ X2.1];rfl
        have y2:w3.cell? ⟨z,2,none⟩=some (.string ⟨#[]⟩):=by rw [zb w3 z 2 _ _ _ X2.1];rfl
        have y3:w3.cell? ⟨z,3,none⟩=some (.int .i64 0):=by rw [zb w3 z 3 _ _ _ X2.1];rfl
        clear X2 hb
        obtain⟨tx,htx⟩:∃ t,t=s.extract i (i+n):=⟨_,rfl⟩
        rw [← htx]
        have HTX:=zh htx
        clear htx
        go_wp2_with fail
        have hf:=four_set X3.out.1 (.int .i64 k) (.int .i64 v) (.string tx) (.int .i64 i)
        refine bodyPost_ret (v:=tokV k v tx i) (by rw [zt rfl];simp [asAddr,load39 hf]) rfl ?_
        rw [← HCR.out]
        have X4:=X3.out.2
        rw [← HTX.out] at X4
        exact⟨by rw [HTX.out];try rfl,X4⟩
      | false =>
       have H61:=zh h61
       clear h61
       go_wp2_with fail
       refine(starts_any (ATW.out (W0.drewN (q1+q2+q4)) B0.out) ⟨#[45,62]⟩).mono ?_
       rintro e w3 ⟨rfl,q5,rfl⟩
       rw [show bts ⟨#[45,62]⟩=[45,62] from rfl]
       cases h45:[45,62].isPrefixOf ((bts s).drop i) with
       | true =>
        have H45:=zh h45
        have HLE:Hid (i+2≤s.size):=by
         have:=prefix2_length h45
         rw [List.length_drop,ze] at this
         show _≤_
         omega
        clear h45
        go_wp2_with fail
        have NB:=made_any (SCW.out (W0.drewN (q1+q2+q4+q5)) B0.out) 6 2 HLE.out
        refine NB.mono ?_
        clear NB
        intro e w3 hp
        obtain⟨cr,hcr⟩:∃ cr,cr=r:=⟨_,rfl⟩
        have HP0:TPost (W0.drewN (q1+q2+q4+q5)) s i cr e w3:=by
         rw [hcr,HR3.out,if_pos (.inr H45.out)]
         exact made_tpost (k:=6) (n:=2) hp
        have HCR:=zh hcr
        clear hp hcr
        cases cr with
        | bad er =>
         obtain⟨rfl,hb⟩:=HP0
         unfold thrown
         have X1:=zh hb
         clear hb
         go_wp2_with fail
         refine⟨rfl,?_⟩
         rw [← HCR.out]
         exact⟨rfl,B2.out.trans ((zu X1.out).mono B2.out.size)⟩
        | tok k v n =>
         obtain⟨rfl,hb⟩:=HP0
         unfold tokV
         have X2:=END.out w3 w3 _ k v (s.extract i (i+n)) hb
         have X1:=zh hb
         have X3:=zh X2
         have yf:∀ q,w3.frozen? ⟨z,q,none⟩=false:=fun q=>zs1 w3 z q _ _ X2.1
         have y0:w3.cell? ⟨z,0,none⟩=some (.int .i64 0):=by rw [zb w3 z 0 _ _ _ X2.1];rfl
         have y1:w3.cell? ⟨z,1,none⟩=some (.int .i64 0):=by rw [zb w3 z 1 _ _ _ X2.1];rfl
         have y2:w3.cell? ⟨z,2,none⟩=some (.string ⟨#[]⟩):=by rw [zb w3 z 2 _ _ _ X2.1];rfl
         have y3:w3.cell? ⟨z,3,none⟩=some (.int .i64 0):=by rw [zb w3 z 3 _ _ _ X2.1];rfl
         clear X2 hb
         obtain⟨tx,htx⟩:∃ t,t=s.extract i (i+n):=⟨_,rfl⟩
         rw [← htx]
         have HTX:=zh htx
         clear htx
         go_wp2_with fail
         have hf:=four_set X3.out.1 (.int .i64 k) (.int .i64 v) (.string tx) (.int .i64 i)
         refine bodyPost_ret (v:=tokV k v tx i) (by rw [zt rfl];simp [asAddr,load39 hf]) rfl ?_
         rw [← HCR.out]
         have X4:=X3.out.2
         rw [← HTX.out] at X4
         exact⟨by rw [HTX.out];try rfl,X4⟩
       | false =>
        have HR4:Hid (r=if LX.signs.contains c then .tok 6 0 1 else .bad 11):=by
         show _=_
         rw [HR3.out,if_neg (by rw [H61.out,h45];simp)]
        clear h45
        go_wp2_with fail
        have SB:=Tryz.strings_IndexByte signB c (W0.drewN (q1+q2+q4+q5))
        have hsg:=signs_eq c HCB.out
        rw [hz39] at SB hsg
        refine SB.mono ?_
        clear SB
        rintro e w3 ⟨rfl,rfl⟩
        obtain⟨x,hx⟩:∃ x,x=Lib.indexByte signB.data.toList (39:Int).toNat.toUInt8:=⟨_,rfl⟩
        rw [← hx] at hsg ⊢
        clear hx
        cases hct:LX.signs.contains c with
        | true =>
         rw [hct] at hsg
         have hx0:0≤x:=of_decide_eq_true hsg
         have HCT:=zh hct
         clear hct hsg
         go_wp2_with fail
         have NB:=made_any (SCW.out (W0.drewN (q1+q2+q4+q5)) B0.out) 6 1 HI.out
         refine NB.mono ?_
         clear NB
         intro e w3 hp
         obtain⟨cr,hcr⟩:∃ cr,cr=r:=⟨_,rfl⟩
         have HP0:TPost (W0.drewN (q1+q2+q4+q5)) s i cr e w3:=by
          rw [hcr,HR4.out,if_pos HCT.out]
          exact made_tpost (k:=6) (n:=1) hp
         have HCR:=zh hcr
         clear hp hcr
         cases cr with
         | bad er =>
          obtain⟨rfl,hb⟩:=HP0
          unfold thrown
          have X1:=zh hb
          clear hb
          go_wp2_with fail
          refine⟨rfl,?_⟩
          rw [← HCR.out]
          exact⟨rfl,B2.out.trans ((zu X1.out).mono B2.out.size)⟩
         | tok k v n =>
          obtain⟨rfl,hb⟩:=HP0
          unfold tokV
          have X2:=END.out w3 w3 _ k v (s.extract i (i+n)) hb
          have X1:=zh hb
          have X3:=zh X2
          have yf:∀ q,w3.frozen? ⟨z,q,none⟩=false:=fun q=>zs1 w3 z q _ _ X2.1
          have y0:w3.cell? ⟨z,0,none⟩=some (.int .i64 0):=by rw [zb w3 z 0 _ _ _ X2.1];rfl
          have y1:w3.cell? ⟨z,1,none⟩=some (.int .i64 0):=by rw [zb w3 z 1 _ _ _ X2.1];rfl
          have y2:w3.cell? ⟨z,2,none⟩=some (.string ⟨#[]⟩):=by rw [zb w3 z 2 _ _ _ X2.1];rfl
          have y3:w3.cell? ⟨z,3,none⟩=some (.int .i64 0):=by rw [zb w3 z 3 _ _ _ X2.1];rfl
          clear X2 hb
          obtain⟨tx,htx⟩:∃ t,t=s.extract i (i+n):=⟨_,rfl⟩
          rw [← htx]
          have HTX:=zh htx
          clear htx
          go_wp2_with fail
          have hf:=four_set X3.out.1 (.int .i64 k) (.int .i64 v) (.string tx) (.int .i64 i)
          refine bodyPost_ret (v:=tokV k v tx i) (by rw [zt rfl];simp [asAddr,load39 hf]) rfl ?_
          rw [← HCR.out]
          have X4:=X3.out.2
          rw [← HTX.out] at X4
          exact⟨by rw [HTX.out];try rfl,X4⟩
        | false =>
         rw [hct] at hsg
         have hx0:¬ 0≤x:=of_decide_eq_false hsg
         have HCT:=zh hct
         obtain⟨c0,c1,lt',-,-⟩:=ATW.out W0 B0.out
         clear hct hsg
         go_wp2_with fail
         refine⟨rfl,?_⟩
         rw [HR4.out,if_neg (by rw [HCT.out];exact Bool.false_ne_true)]
         exact⟨rfl,below_drawn B2.out _⟩
    have HR3:Hid (r=if [61,62].isPrefixOf ((bts s).drop i)=true∨[45,62].isPrefixOf ((bts s).drop i)=true then .tok 6 0 2
         else if LX.signs.contains c then .tok 6 0 1
         else .bad 11):=by
     show _=_
     rw [HR2.out,if_neg (by rintro ⟨h,-⟩;exact hc39 h)]
    have hz39:¬ (c:Int)=39:=by omega
    clear hc39
    go_wp2_with fail
    refine(starts_any (ATW.out (W0.drewN (q1)) B0.out) ⟨#[61,62]⟩).mono ?_
    rintro e w3 ⟨rfl,q4,rfl⟩
    rw [show bts ⟨#[61,62]⟩=[61,62] from rfl]
    cases h61:[61,62].isPrefixOf ((bts s).drop i) with
    | true =>
     have H61:=zh h61
     have HLE:Hid (i+2≤s.size):=by
      have:=prefix2_length h61
      rw [List.length_drop,ze] at this
      show _≤_
      omega
     clear h61
     go_wp2_with fail
     have NB:=made_any (SCW.out (W0.drewN (q1+q4)) B0.out) 6 2 HLE.out
     refine NB.mono ?_
     clear NB
     intro e w3 hp
     obtain⟨cr,hcr⟩:∃ cr,cr=r:=⟨_,rfl⟩
     have HP0:TPost (W0.drewN (q1+q4)) s i cr e w3:=by
      rw [hcr,HR3.out,if_pos (.inl H61.out)]
      exact made_tpost (k:=6) (n:=2) hp
     have HCR:=zh hcr
     clear hp hcr
     cases cr with
     | bad er =>
      obtain⟨rfl,hb⟩:=HP0
      unfold thrown
      have X1:=zh hb
      clear hb
      go_wp2_with fail
      refine⟨rfl,?_⟩
      rw [← HCR.out]
      exact⟨rfl,B2.out.trans ((zu X1.out).mono B2.out.size)⟩
     | tok k v n =>
      obtain⟨rfl,hb⟩:=HP0
      unfold tokV
      have X2:=END.out w3 w3 _ k v (s.extract i (i+n)) hb
      have X1:=zh hb
      have X3:=zh X2
      have yf:∀ q,w3.frozen? ⟨z,q,none⟩=false:=fun q=>zs1 w3 z q _ _ X2.1
      have y0:w3.cell? ⟨z,0,none⟩=some (.int .i64 0):=by rw [zb w3 z 0 _ _ _ X2.1];rfl
      have y1:w3.cell? ⟨z,1,none⟩=some (.int .i64 0):=by rw [zb w3 z 1 _ _ _ X2.1];rfl
      have y2:w3.cell? ⟨z,2,none⟩=some (.string ⟨#[]⟩):=by rw [zb w3 z 2 _ _ _ X2.1];rfl
      have y3:w3.cell? ⟨z,3,none⟩=some (.int .i64 0):=by rw [zb w3 z 3 _ _ _ X2.1];rfl
      clear X2 hb
      obtain⟨tx,htx⟩:∃ t,t=s.extract i (i+n):=⟨_,rfl⟩
      rw [← htx]
      have HTX:=zh htx
      clear htx
      go_wp2_with fail
      have hf:=four_set X3.out.1 (.int .i64 k) (.int .i64 v) (.string tx) (.int .i64 i)
      refine bodyPost_ret (v:=tokV k v tx i) (by rw [zt rfl];simp [asAddr,load39 hf]) rfl ?_
      rw [← HCR.out]
      have X4:=X3.out.2
      rw [← HTX.out] at X4
      exact⟨by rw [HTX.out];try rfl,X4⟩
    | false =>
     have H61:=zh h61
     clear h61
     go_wp2_with fail
     refine(starts_any (ATW.out (W0.drewN (q1+q4)) B0.out) ⟨#[45,62]⟩).mono ?_
     rintro e w3 ⟨rfl,q5,rfl⟩
     rw [show bts ⟨#[45,62]⟩=[45,62] from rfl]
     cases h45:[45,62].isPrefixOf ((bts s).drop i) with
     | true =>
      have H45:=zh h45
      have HLE:Hid (i+2≤s.size):=by
       have:=prefix2_length h45
       rw [List.length_drop,ze] at this
       show _≤_
       omega
      clear h45
      go_wp2_with fail
      have NB:=made_any (SCW.out (W0.drewN (q1+q4+q5)) B0.out) 6 2 HLE.out
      refine NB.mono ?_
      clear NB
      intro e w3 hp
      obtain⟨cr,hcr⟩:∃ cr,cr=r:=⟨_,rfl⟩
      have HP0:TPost (W0.drewN (q1+q4+q5)) s i cr e w3:=by
       rw [hcr,HR3.out,if_pos (.inr H45.out)]
       exact made_tpost (k:=6) (n:=2) hp
      have HCR:=zh hcr
      clear hp hcr
      cases cr with
      | bad er =>
       obtain⟨rfl,hb⟩:=HP0
       unfold thrown
       have X1:=zh hb
       clear hb
       go_wp2_with fail
       refine⟨rfl,?_⟩
       rw [← HCR.out]
       exact⟨rfl,B2.out.trans ((zu X1.out).mono B2.out.size)⟩
      | tok k v n =>
       obtain⟨rfl,hb⟩:=HP0
       unfold tokV
       have X2:=END.out w3 w3 _ k v (s.extract i (i+n)) hb
       have X1:=zh hb
       have X3:=zh X2
       have yf:∀ q,w3.frozen? ⟨z,q,none⟩=false:=fun q=>zs1 w3 z q _ _ X2.1
       have y0:w3.cell? ⟨z,0,none⟩=some (.int .i64 0):=by rw [zb w3 z 0 _ _ _ X2.1];rfl
       have y1:w3.cell? ⟨z,1,none⟩=some (.int .i64 0):=by rw [zb w3 z 1 _ _ _ X2.1];rfl
       have y2:w3.cell? ⟨z,2,none⟩=some (.string ⟨#[]⟩):=by rw [zb w3 z 2 _ _ _ X2.1];rfl
       have y3:w3.cell? ⟨z,3,none⟩=some (.int .i64 0):=by rw [zb w3 z 3 _ _ _ X2.1];rfl
       clear X2 hb
       obtain⟨tx,htx⟩:∃ t,t=s.extract i (i+n):=⟨_,rfl⟩
       rw [← htx]
       have HTX:=zh htx
       clear htx
       go_wp2_with fail
       have hf:=four_set X3.out.1 (.int .i64 k) (.int .i64 v) (.string tx) (.int .i64 i)
       refine bodyPost_ret (v:=tokV k v tx i) (by rw [zt rfl];simp [asAddr,load39 hf]) rfl ?_
       rw [← HCR.out]
       have X4:=X3.out.2
       rw [← HTX.out] at X4
       exact⟨by rw [HTX.out];try rfl,X4⟩
     | false =>
      have HR4:Hid (r=if LX.signs.contains c then .tok 6 0 1 else .bad 11):=by
       show _=_
       rw [HR3.out,if_neg (by rw [H61.out,h45];simp)]
      clear h45
      go_wp2_with fail
      have SB:=Tryz.strings_IndexByte signB c (W0.drewN (q1+q4+q5))
      have hsg:=signs_eq c HCB.out
      refine SB.mono ?_
      clear SB
      rintro e w3 ⟨rfl,rfl⟩
      obtain⟨x,hx⟩:∃ x,x=Lib.indexByte signB.data.toList ((c:Int):Int).toNat.toUInt8:=⟨_,rfl⟩
      rw [← hx] at hsg ⊢
      clear hx
      cases hct:LX.signs.contains c with
      | true =>
       rw [hct] at hsg
       have hx0:0≤x:=of_decide_eq_true hsg
       have HCT:=zh hct
       clear hct hsg
       go_wp2_with fail
       have NB:=made_any (SCW.out (W0.drewN (q1+q4+q5)) B0.out) 6 1 HI.out
       refine NB.mono ?_
       clear NB
       intro e w3 hp
       obtain⟨cr,hcr⟩:∃ cr,cr=r:=⟨_,rfl⟩
       have HP0:TPost (W0.drewN (q1+q4+q5)) s i cr e w3:=by
        rw [hcr,HR4.out,if_pos HCT.out]
        exact made_tpost (k:=6) (n:=1) hp
       have HCR:=zh hcr
       clear hp hcr
       cases cr with
       | bad er =>
        obtain⟨rfl,hb⟩:=HP0
        unfold thrown
        have X1:=zh hb
        clear hb
        go_wp2_with fail
        refine⟨rfl,?_⟩
        rw [← HCR.out]
        exact⟨rfl,B2.out.trans ((zu X1.out).mono B2.out.size)⟩
       | tok k v n =>
        obtain⟨rfl,hb⟩:=HP0
        unfold tokV
        have X2:=END.out w3 w3 _ k v (s.extract i (i+n)) hb
        have X1:=zh hb
        have X3:=zh X2
        have yf:∀ q,w3.frozen? ⟨z,q,none⟩=false:=fun q=>zs1 w3 z q _ _ X2.1
        have y0:w3.cell? ⟨z,0,none⟩=some (.int .i64 0):=by rw [zb w3 z 0 _ _ _ X2.1];rfl
        have y1:w3.cell? ⟨z,1,none⟩=some (.int .i64 0):=by rw [zb w3 z 1 _ _ _ X2.1];rfl
        have y2:w3.cell? ⟨z,2,none⟩=some (.string ⟨#[]⟩):=by rw [zb w3 z 2 _ _ _ X2.1];rfl
        have y3:w3.cell? ⟨z,3,none⟩=some (.int .i64 0):=by rw [zb w3 z 3 _ _ _ X2.1];rfl
        clear X2 hb
        obtain⟨tx,htx⟩:∃ t,t=s.extract i (i+n):=⟨_,rfl⟩
        rw [← htx]
        have HTX:=zh htx
        clear htx
        go_wp2_with fail
        have hf:=four_set X3.out.1 (.int .i64 k) (.int .i64 v) (.string tx) (.int .i64 i)
        refine bodyPost_ret (v:=tokV k v tx i) (by rw [zt rfl];simp [asAddr,load39 hf]) rfl ?_
        rw [← HCR.out]
        have X4:=X3.out.2
        rw [← HTX.out] at X4
        exact⟨by rw [HTX.out];try rfl,X4⟩
      | false =>
       rw [hct] at hsg
       have hx0:¬ 0≤x:=of_decide_eq_false hsg
       have HCT:=zh hct
       obtain⟨c0,c1,lt',-,-⟩:=ATW.out W0 B0.out
       clear hct hsg
       go_wp2_with fail
       refine⟨rfl,?_⟩
       rw [HR4.out,if_neg (by rw [HCT.out];exact Bool.false_ne_true)]
       exact⟨rfl,below_drawn B2.out _⟩
end Go.Proofs.YtnkahlloahgifaaGreatDoor.Lx
namespace Go.Proofs.YtnkahlloahgifaaGreatDoor.Lx
namespace LX
theorem run_le (p:Nat→Bool) (l:List Nat):run p l≤l.length:=by
 induction l with
 | nil=>exact Nat.le_refl _
 | cons c t ih =>
  rw [run]
  split
  ·simp only [List.length_cons];omega
  exact Nat.zero_le _
theorem num_nil:num []=none:=by decide
theorem made_ok {k n k' n':Nat}{v:Int}(h:made k n = .tok k' v n'):n'=n∧k'=k∧v=0∧n≤24:=by
 unfold made at h
 split at h
 ·cases h
 cases h;exact⟨rfl,rfl,rfl,by omega⟩
theorem nameLen_le (l:List Nat):nameLen l≤l.length:=by
 unfold nameLen
 have h1:=run_le part l
 simp only []
 split
 ·exact h1
 rename_i c t hc
 have h2:=run_le digit t
 have h3:(l.drop (run part l)).length=(c :: t).length:=by rw [hc]
 simp only [List.length_drop,List.length_cons] at h3
 split<;>omega
theorem nameLen_ge (l:List Nat):run part l≤nameLen l:=by
 unfold nameLen
 simp only []
 split
 ·exact Nat.le_refl _
 split<;>omega
theorem part_small {c:Nat}(h:small c=true):part c=true:=by simp [part,h]
theorem part_great {c:Nat}(h:great c=true):part c=true:=by simp [part,h]
theorem run_pos {p:Nat→Bool}{c:Nat}{t:List Nat}(h:p c=true):0<run p (c :: t):=by
 rw [run,if_pos h];omega
theorem number_ok {l:List Nat}{n k m:Nat}{v:Int}(h:number l n = .tok k v m):k=1∧m=n+run digit (l.drop n)∧num (l.take m)=some v:=by
 unfold number at h
 simp only [] at h
 split at h
 ·cases h
 rename_i v' hv
 split at h
 ·cases h;exact⟨rfl,rfl,hv⟩
 split at h
 ·cases h
 cases h;exact⟨rfl,rfl,hv⟩
theorem named_ok {l:List Nat}{k k' m:Nat}{v:Int}(h:named k l = .tok k' v m):m=nameLen l∧v=0∧m≤24∧k'=if words.contains (l.take m) then 5 else k:=by
 unfold named at h
 cases hm:made k (nameLen l) with
 | bad e=>rw [hm] at h;cases h
 | tok a b c =>
  rw [hm] at h
  obtain⟨rfl,rfl,rfl,h24⟩:=made_ok hm
  simp only [TR.tok.injEq] at h
  obtain⟨h1,h2,h3⟩:=h
  subst h3
  exact⟨rfl,h2.symm,h24,h1.symm⟩
theorem token_len {l:List Nat}{k m:Nat}{v:Int}(h:token l = .tok k v m):0<m∧m≤l.length:=by
 cases l with
 | nil=>cases h
 | cons c t =>
  unfold token at h
  simp only [] at h
  split at h
  ·obtain⟨_,hm,hv⟩:=number_ok h
   refine⟨?_,?_⟩
   ·rcases Nat.eq_zero_or_pos m with h0 | h0
    ·subst h0;rw [List.take_zero,num_nil] at hv;cases hv
    exact h0
   rw [hm]
   have:=run_le digit ((c :: t).drop (if c=126 then 1 else 0))
   rw [List.length_drop] at this
   split at this<;>simp_all<;>omega
  split at h
  ·rename_i hs
   obtain⟨rfl,_⟩:=named_ok h
   exact⟨Nat.lt_of_lt_of_le (run_pos (part_small hs)) (nameLen_ge _),nameLen_le _⟩
  split at h
  ·rename_i hs
   obtain⟨rfl,_⟩:=named_ok h
   exact⟨Nat.lt_of_lt_of_le (run_pos (part_great hs)) (nameLen_ge _),nameLen_le _⟩
  split at h
  ·obtain⟨rfl,_⟩:=made_ok h
   have:=run_le part t
   simp only [List.length_cons]
   exact⟨by omega,by omega⟩
  split at h
  ·rename_i hs
   cases h
   cases t with
   | nil=>simp [head0] at hs
   | cons d t=>simp
  split at h
  ·cases h;simp
  cases h
def Res.app (ts:List Tok) (cs:List (Nat×Nat)):Res→Res
 | .ok l c => .ok (ts++l) (cs++c)
 | .bad p e => .bad p e
theorem Res.app_app (a b:List Tok) (c d:List (Nat×Nat)) (r:Res):(r.app b d).app a c=r.app (a++b) (c++d):=by
 cases r<;>simp [Res.app]
theorem Res.app_nil (r:Res):r.app [] []=r:=by cases r<;>rfl
theorem Res.tok_app (t:Tok) (r:Res):r.tok t=r.app [t] []:=by cases r<;>rfl
theorem Res.cmt_app (c:Nat×Nat) (r:Res):r.cmt c=r.app [] [c]:=by cases r<;>rfl
theorem scanN_fuel:∀ (f g:Nat) (l:List Nat) (p:Nat),l.length≤f→l.length≤g→scanN f l p=scanN g l p
 | f,g,[],p,_,_=>by cases f<;>cases g<;>rfl
 | 0,g,c :: t,p,hf,_=>by simp at hf
 | f+1,0,c :: t,p,_,hg=>by simp at hg
 | f+1,g+1,c :: t,p,hf,hg=>by
  simp only [List.length_cons] at hf hg
  rw [scanN,scanN]
  split
  ·exact scanN_fuel f g t (p+1) (by omega) (by omega)
  split
  ·cases hc:cmt (c :: t) 0 0 with
   | fin n =>
    have h0:=cmt_fin hc
    simp only []
    rw [scanN_fuel f g ((c :: t).drop n) (p+n) (by simp only [List.length_drop,List.length_cons];omega) (by simp only [List.length_drop,List.length_cons];omega)]
   | deep n=>rfl
   | never=>rfl
  cases hc:token (c :: t) with
  | tok k v n =>
   have h0:=(token_len hc).1
   simp only []
   rw [scanN_fuel f g ((c :: t).drop n) (p+n) (by simp only [List.length_drop,List.length_cons];omega) (by simp only [List.length_drop,List.length_cons];omega)]
  | bad e=>rfl
def sc (T:List Nat) (j:Nat):Res:=scanN T.length (T.drop j) j
theorem scan_sc (T:List Nat):scan T=sc T 0:=rfl
theorem sc_end {T:List Nat}{j:Nat}(h:T.length≤j):sc T j = .ok [] []:=by
 unfold sc
 rw [List.drop_of_length_le h]
 cases T.length<;>rfl
theorem drop_get {T:List Nat}{j:Nat}(h:j<T.length):T.drop j=T.getD j 0 :: T.drop (j+1):=by
 rw [List.drop_eq_getElem_cons h,List.getD_eq_getElem?_getD,List.getElem?_eq_getElem h];rfl
theorem sc_step {T:List Nat}{j:Nat}(h:j<T.length):sc T j =
  if space (T.getD j 0) then sc T (j+1)
  else if opens (T.drop j) then
   match cmt (T.drop j) 0 0 with
   | .fin n=>(sc T (j+n)).app [] [(j,j+n)]
   | .deep n => .bad (j+n) 6
   | .never => .bad j 12
  else
   match token (T.drop j) with
   | .tok k v n=>(sc T (j+n)).app [⟨k,v,(T.drop j).take n,j⟩] []
   | .bad e => .bad j e:=by
 obtain⟨f,hf⟩:∃ f,T.length=f+1:=⟨T.length - 1,by omega⟩
 have hs:∀ n,0<n→scanN f ((T.drop j).drop n) (j+n)=sc T (j+n):=fun n hn=>by
  unfold sc
  rw [List.drop_drop]
  exact scanN_fuel _ _ _ _ (by rw [List.length_drop];omega) (by rw [List.length_drop];omega)
 have h1:scanN f (T.drop (j+1)) (j+1)=sc T (j+1):=by rw [← hs 1 (by omega),List.drop_drop]
 rw [← h1]
 conv=>lhs;unfold sc;rw [hf,drop_get h,scanN]
 rw [← drop_get h]
 split
 ·rfl
 split
 ·cases hc:cmt (T.drop j) 0 0 with
  | fin n=>simp only [];rw [Res.cmt_app,hs n (by have:=cmt_fin hc;omega)]
  | deep n=>rfl
  | never=>rfl
 cases hc:token (T.drop j) with
 | tok k v n=>simp only [];rw [Res.tok_app,hs n (token_len hc).1]
 | bad e=>rfl
theorem run_step {p:Nat→Bool}{T:List Nat}{j:Nat}(h:j<T.length):run p (T.drop j)=if p (T.getD j 0) then run p (T.drop (j+1))+1 else 0:=by
 rw [drop_get h,run]
theorem sc_spaces (T:List Nat):∀ (k j:Nat),run space (T.drop j)=k→sc T j=sc T (j+k)
 | 0,j,_=>rfl
 | k+1,j,hk=>by
  have hl:j<T.length:=by
   rcases Nat.lt_or_ge j T.length with h | h
   ·exact h
   rw [List.drop_of_length_le h] at hk;cases hk
  rw [run_step hl] at hk
  split at hk
  ·rename_i hs
   rw [sc_step hl,if_pos hs,sc_spaces T k (j+1) (by omega)]
   congr 1;omega
  cases hk
theorem run_stops (p:Nat→Bool) (T:List Nat):∀ (k j:Nat),run p (T.drop j)=k→j+k<T.length→p (T.getD (j+k) 0)=false
 | 0,j,hk,hl=>by
  rw [Nat.add_zero] at hl ⊢
  rw [run_step hl] at hk
  split at hk
  ·cases hk
  rename_i h;simpa using h
 | k+1,j,hk,hl=>by
  rw [run_step (by omega)] at hk
  split at hk
  ·have:=run_stops p T k (j+1) (by omega) (by omega)
   rw [show j+(k+1)=j+1+k from by omega];exact this
  cases hk
theorem cmt_le:∀ (l:List Nat) (d n m:Nat),cmt l d n = .fin m→m≤n+l.length
 | [],_,_,_,h=>by cases h
 | [_],_,_,_,h=>by cases h
 | a :: b :: t,d,n,m,h=>by
  rw [cmt] at h
  simp only [List.length_cons]
  split at h
  ·split at h
   ·cases h
   have:=cmt_le t _ _ _ h;omega
  split at h
  ·split at h
   ·cases h;omega
   have:=cmt_le t _ _ _ h;omega
  have:=cmt_le (b :: t) _ _ _ h
  simp only [List.length_cons] at this
  omega
theorem passN_abs (f : Nat) (T : List Nat) (j : Nat) : passN (f + 1) (T.drop j) j = if opens (T.drop (j + run space (T.drop j))) then
      match cmt (T.drop (j + run space (T.drop j))) 0 0 with
      | .fin n => (passN f (T.drop (j + run space (T.drop j) + n)) (j + run space (T.drop j) + n)).add [(j + run space (T.drop j), j + run space (T.drop j) + n)]
      | .deep n => .bad (j + run space (T.drop j) + n) 6
      | .never => .bad (j + run space (T.drop j)) 12
    else .to (j + run space (T.drop j)) [] := by
  rw [passN]
  simp only [List.drop_drop]
  by_cases h : opens (T.drop (j + run space (T.drop j))) = true
  · rw [if_pos h, if_pos h]
    cases cmt (T.drop (j + run space (T.drop j))) 0 0 <;> rfl
  · rw [if_neg h, if_neg h]
theorem opens_lt {T:List Nat}{j:Nat}(h:opens (T.drop j)=true):j<T.length∧space (T.getD j 0)=false:=by
 rcases Nat.lt_or_ge j T.length with hl | hl
 ·refine⟨hl,?_⟩
  rw [drop_get hl] at h
  generalize T.getD j 0=c at h
  by_cases e:c=40
  ·subst e;rfl
  exfalso
  unfold opens at h
  split at h
  ·rename_i heq;simp at heq;exact e heq.1
  cases h
 rw [List.drop_of_length_le hl] at h;cases h
theorem sc_pass (T:List Nat):∀ (f j:Nat),j≤T.length→T.length<f+j→(match passN f (T.drop j) j with
  | .bad q e=>sc T j = .bad q e
  | .to n cs=>sc T j=(sc T n).app [] cs∧j≤n∧n≤T.length∧cs.length+j≤n∧(n<T.length→space (T.getD n 0)=false∧opens (T.drop n)=false))
 | 0,j,hj,hf=>by omega
 | f+1,j,hj,hf=>by
  obtain⟨k,hk⟩:∃ k,k=run space (T.drop j):=⟨_,rfl⟩
  have hs:=sc_spaces T k j hk.symm
  have hkl:j+k≤T.length:=by
   have:=run_le space (T.drop j)
   rw [List.length_drop] at this
   omega
  rw [passN_abs,← hk,hs]
  cases ho:opens (T.drop (j+k)) with
  | false =>
   rw [if_neg (by decide)]
   exact⟨(Res.app_nil _).symm,by omega,hkl,by simp,fun hl=>⟨run_stops space T k j hk.symm hl,ho⟩⟩
  | true =>
   rw [if_pos rfl]
   obtain⟨hl,hsp⟩:=opens_lt ho
   have h1:=sc_step hl
   rw [hsp,if_neg (by decide),ho,if_pos rfl] at h1
   cases hc:cmt (T.drop (j+k)) 0 0 with
   | deep n=>rw [hc] at h1;exact h1
   | never=>rw [hc] at h1;exact h1
   | fin n =>
    rw [hc] at h1
    simp only [] at h1 ⊢
    have hn0:=cmt_fin hc
    have hn1:=cmt_le _ _ _ _ hc
    rw [List.length_drop] at hn1
    have ih:=sc_pass T f (j+k+n) (by omega) (by omega)
    rcases hp:passN f (T.drop (j+k+n)) (j+k+n) with ⟨m,cs⟩|⟨q,e⟩
    case bad =>
     rw [hp] at ih
     simp only [PR.add] at ih ⊢
     rw [h1,ih];rfl
    case «to» =>
     rw [hp] at ih
     simp only [PR.add] at ih ⊢
     obtain⟨i1,i2,i3,i4,i5⟩:=ih
     refine⟨?_,by omega,i3,by simp only [List.length_append,List.length_cons,List.length_nil];omega,i5⟩
     rw [h1,i1,Res.app_app]
     rfl
end LX
end Go.Proofs.YtnkahlloahgifaaGreatDoor.Lx
namespace Go.Proofs.YtnkahlloahgifaaGreatDoor.Lx
open Go.RowKit
structure Kt (n0:Nat) (w w':World):Prop where
 os:w'.os=w.os
 tape:w'.tape=w.tape
 output:w'.output=w.output
 size:w.heap.size≤w'.heap.size
 block:∀ k o,w.heap[k]?=some o→(k<n0∨((∀ c r,o ≠ .cells c 222 r)∧(∀ c r,o ≠ .cells c 228 r)))→w'.heap[k]?=some o
theorem Kt.refl (n0:Nat) (w:World):Kt n0 w w:=⟨rfl,rfl,rfl,zr4 _,fun _ _ h _=>h⟩
theorem Kt.trans {n0:Nat}{w w1 w2:World}(h:Kt n0 w w1) (k:Kt n0 w1 w2):Kt n0 w w2 :=
 ⟨k.os.trans h.os,k.tape.trans h.tape,k.output.trans h.output,zr5 h.size k.size,fun q o ho hq=>k.block q o (h.block q o ho hq) hq⟩
theorem Kt.drewN {n0:Nat}{w w':World}(h:Kt n0 w w') (m:Nat):Kt n0 w (w'.drewN m):=⟨h.os,h.tape,h.output,h.size,h.block⟩
theorem Kt.of_below {n0:Nat}{w w':World}(h:Below w.heap.size w w'):Kt n0 w w' :=
 ⟨h.os,h.tape,h.output,h.size,fun k o ho _=>(h.block k (zq7.1 ho).1).trans ho⟩
structure Kb (n0:Nat) (w w':World):Prop where
 os:w'.os=w.os
 tape:w'.tape=w.tape
 output:w'.output=w.output
 size:w.heap.size≤w'.heap.size
 block:∀ k o,w.heap[k]?=some o→(k<n0∨(∃ c,o = .cells c 222 (0,0))∨(∃ c,o = .cells c 228 (0,0))∨(∃ es cl,o = .map es cl)∨(∃ c,o = .cells c 200 (0,0)))→w'.heap[k]?=some o
theorem Kb.below {n0:Nat}{w w':World}(h:Kb n0 w w') (hn:n0≤w.heap.size):Below n0 w w' :=
 ⟨h.os,h.tape,h.output,h.size,fun k hk=>by
  have ho:w.heap[k]?=some w.heap[k]:=Array.getElem?_eq_getElem (by omega)
  rw [ho]
  exact h.block k _ ho (.inl hk)⟩
structure It (n0:Nat) (w:World) (b mb ib:Nat) (s:ByteArray) (i:Nat) (cv:Value) (cs:List (Nat×Nat)):Prop where
 sc:Sc w b s i mb cv
 cm:Cm w b cv cs
 hb:n0≤b
 hcv:∀ k,cv.ownBlock=some k→n0≤k
 wd:Wd w mb
 env:Env w
 hmb:mb≠b
 box:w.heap[ib]?=some (.cells #[.pointer (some ⟨b,0,none⟩)] 200 (0,0))
 n30:10≤n0
 n0w:n0≤w.heap.size
theorem Cm.blk {w:World}{b:Nat}{cv:Value}{cs:List (Nat×Nat)}(h:Cm w b cv cs) {k:Nat}(hk:cv.ownBlock=some k):∃ c,w.heap[k]?=some (.cells c 228 (0,0)):=by
 rcases h.row.2 with ⟨rfl,_⟩|⟨g,cap,cur,rfl,_,hg,_⟩
 ·simp [Value.ownBlock] at hk
 simp [Value.ownBlock] at hk;subst hk;exact⟨_,hg⟩
theorem Wd.keep {w w':World}{mb:Nat}(h:Wd w mb) (hk:∀ o,w.heap[mb]?=some o→(∃ es cl,o = .map es cl)→w'.heap[mb]?=some o):Wd w' mb:=by
 obtain⟨es,cl,h1,h2⟩:=h
 exact⟨es,cl,hk _ h1 ⟨_,_,rfl⟩,h2⟩
theorem Fr.kt {n0:Nat}{w w':World}{b mb i:Nat}{s:ByteArray}{cv cv':Value}{cs:List (Nat×Nat)}(h:Fr w w' b cv cv') (hs:Sc w b s i mb cv) (hc:Cm w b cv cs) (hb:n0≤b) (hcv:∀ k,cv.ownBlock=some k→n0≤k):Kt n0 w w':=by
 refine⟨h.os,h.tape,h.output,h.size,fun k o ho hk=>?_⟩
 refine(h.block k (zq7.1 ho).1 ?_ ?_).trans ho
 ·rintro rfl
  rcases hk with hk | ⟨hk,_⟩
  ·omega
  rw [hs.1] at ho
  simp only [zt3] at ho
  exact hk _ _ ho.symm
 intro hk2
 rcases hk with hk | ⟨_,hk⟩
 ·have:=hcv k hk2;omega
 obtain⟨c,hc2⟩:=hc.blk hk2
 rw [hc2] at ho
 simp only [zt3] at ho
 exact hk _ _ ho.symm
theorem Kt.below {n0:Nat}{w w':World}(h:Kt n0 w w') (hn:n0≤w.heap.size):Below n0 w w' :=
 ⟨h.os,h.tape,h.output,h.size,fun k hk=>by
  have ho:w.heap[k]?=some w.heap[k]:=Array.getElem?_eq_getElem (by omega)
  rw [ho]
  exact h.block k _ ho (.inl hk)⟩
theorem It.kt {n0:Nat}{w w':World}{b mb ib i i':Nat}{s:ByteArray}{cv cv':Value}{cs cs':List (Nat×Nat)}(h:It n0 w b mb ib s i cv cs) (k:Kt n0 w w') (hs:Sc w' b s i' mb cv') (hc:Cm w' b cv' cs') (hcv:∀ k,cv'.ownBlock=some k→n0≤k):It n0 w' b mb ib s i' cv' cs' :=
 ⟨hs,hc,h.hb,hcv,h.wd.keep (fun o ho he=>by obtain⟨es,cl,rfl⟩:=he;exact k.block mb _ ho (.inr ⟨nofun,nofun⟩)),
  h.env.keep (k.below h.n0w) h.n30,h.hmb,k.block ib _ h.box (.inr ⟨fun c r e=>by simp at e,fun c r e=>by simp at e⟩),h.n30,zr5 h.n0w k.size⟩
theorem It.fr {n0:Nat}{w w':World}{b mb ib i i':Nat}{s:ByteArray}{cv cv':Value}{cs cs':List (Nat×Nat)}(h:It n0 w b mb ib s i cv cs) (k:Fr w w' b cv cv') (hs:Sc w' b s i' mb cv') (hc:Cm w' b cv' cs'):It n0 w' b mb ib s i' cv' cs' :=
 h.kt (k.kt h.sc h.cm h.hb h.hcv) hs hc fun q hq=>by
  rcases k.own with e | ⟨p,e,hp⟩
  ·exact h.hcv q (e ▸ hq)
  rw [e] at hq;cases hq;exact zr5 h.n0w hp
theorem It.below {n0:Nat}{w w':World}{b mb ib i:Nat}{s:ByteArray}{cv:Value}{cs:List (Nat×Nat)}(h:It n0 w b mb ib s i cv cs) (k:Below w.heap.size w w'):It n0 w' b mb ib s i cv cs :=
 h.kt (Kt.of_below k) ⟨(k.block b (zq7.1 h.sc.1).1).trans h.sc.1,h.sc.2⟩ (h.cm.keep fun q hq _=>k.block q hq) h.hcv
theorem It.kb {n0:Nat}{w w':World}{b mb ib i:Nat}{s:ByteArray}{cv:Value}{cs:List (Nat×Nat)}(h:It n0 w b mb ib s i cv cs) (k:Kb n0 w w'):It n0 w' b mb ib s i cv cs :=
 ⟨⟨k.block b _ h.sc.1 (.inr (.inl ⟨_,rfl⟩)),h.sc.2⟩,h.cm.keep (fun q _ hq=>by obtain⟨c,hc⟩:=h.cm.blk hq;rw [hc];exact k.block q _ hc (.inr (.inr (.inl ⟨_,rfl⟩)))),h.hb,h.hcv,
  h.wd.keep fun o ho he=>k.block mb o ho (.inr (.inr (.inr (.inl he)))),h.env.keep (k.below h.n0w) h.n30,h.hmb,k.block ib _ h.box (.inr (.inr (.inr (.inr ⟨_,rfl⟩)))),h.n30,zr5 h.n0w k.size⟩
theorem It.drewN {n0:Nat}{w:World}{b mb ib i:Nat}{s:ByteArray}{cv:Value}{cs:List (Nat×Nat)}(h:It n0 w b mb ib s i cv cs) (m:Nat):It n0 (w.drewN m) b mb ib s i cv cs:=h.below (below_drawn (zs9 _ _) m)
theorem It.adv {n0:Nat}{w w':World}{b mb ib i j:Nat}{s:ByteArray}{cv:Value}{cs:List (Nat×Nat)}(h:It n0 w b mb ib s i cv cs) (k:Mv w w' b j) (hj:j≤s.size):It n0 w' b mb ib s j cv cs∧Kt n0 w w':=by
 have f:=k.fr cv
 refine⟨h.fr f (h.sc.mv k hj) (h.cm.keep fun p hp hb=>k.block p fun e=>h.cm.ne (by rw [hb,e])),f.kt h.sc h.cm h.hb h.hcv⟩
end Go.Proofs.YtnkahlloahgifaaGreatDoor.Lx
namespace Go.Proofs.YtnkahlloahgifaaGreatDoor.Lx
open Go.RowKit
theorem below_more (w:World) (os:Array Obj) (B:Nat) (hB:B≤w.heap.size):Below B w (Go.Sort.grow w os) :=
 ⟨rfl,rfl,rfl,by show w.heap.size≤(w.heap++os).size;rw [Array.size_append];omega,fun k hk=>by
  show (w.heap++os)[k]?=w.heap[k]?
  rw [Array.getElem?_append_left (zt5 hk hB)]⟩
theorem digits_any {w:World}(henv:Env w) (n:Int) (h0 : -9223372036854775808≤n) (h1:n≤9223372036854775807) :
  Calls Tryz.prog 163 #[.int .i64 n] w fun e w'=>e = .returned (.string (digS n))∧Below w.heap.size w w':=by
 obtain⟨m,hm⟩:=henv.max
 have IT:=Tryz.strconv_Itoa n h0 h1 w henv.tab
 have HM:=zh hm
 have HE:=zh henv
 have hl:=Lib.itoa_length_le n h0 h1
 have HL:Hid ((⟨(Lib.itoa n).toArray⟩:ByteArray).size≤21):=hl
 have HR:Hid ((⟨(Lib.replace (⟨(Lib.itoa n).toArray⟩:ByteArray).data.toList [45] [126] 1).toArray⟩:ByteArray)=digS n):=by
  show ByteArray.mk _=ByteArray.mk _
  rw [show (⟨(Lib.itoa n).toArray⟩:ByteArray).data.toList=Lib.itoa n from rfl,replace_itoa]
 clear hm henv h0 h1 hl
 obtain⟨tx,htx⟩:∃ t:ByteArray,t=⟨(Lib.itoa n).toArray⟩:=⟨_,rfl⟩
 rw [← htx] at IT HL HR
 clear htx
 go_enter Tryz.func163,Tryz.ntmps163
 go_wp2_with fail
 refine IT.mono ?_
 clear IT
 rintro e w1 ⟨rfl,k,os,rfl⟩
 have HB:Hid (Below w.heap.size w (Go.Sort.grow (w.drewN k) os)):=(below_drawn (zs9 w.heap.size w) k).trans (below_more (w.drewN k) os _ (zr4 _))
 go_wp2_with fail
 obtain⟨W,hW⟩:∃ W,W=Go.Sort.grow (w.drewN k) os:=⟨_,rfl⟩
 rw [← hW] at HB ⊢
 clear hW
 have RP:=Tryz.strings_Replace tx ⟨#[45]⟩ ⟨#[126]⟩ 1 m W (by have:=HL.out;omega) (by rw [HB.out.cell (by show 0<_;have:=HE.out.size;omega)];exact HM.out) (by decide) (by
  have hc:=Lib.countB_le (⟨#[45]⟩:ByteArray) (by decide) tx.size tx (zr4 _)
  have:=HL.out
  have e1:(⟨#[126]⟩:ByteArray).size=1:=rfl
  rw [e1]
  omega)
 rw [show (⟨#[45]⟩:ByteArray).data.toList=[45] from rfl,show (⟨#[126]⟩:ByteArray).data.toList=[126] from rfl,HR.out] at RP
 refine RP.mono ?_
 clear RP
 rintro e w2 ⟨rfl,hb⟩
 go_wp2_with fail
 go_ret
 exact⟨rfl,HB.out.trans (hb.mono HB.out.size)⟩
theorem index_in (a:UInt8):∀ l:List UInt8,Lib.index l [a] = -1∨(0≤Lib.index l [a]∧Lib.index l [a]<l.length)
 | [] => .inl rfl
 | b :: l=>by
  have ih:=index_in a l
  unfold Lib.index
  split
  ·exact .inr ⟨by decide,by simp only [List.length_cons];omega⟩
  split
  ·exact .inl rfl
  rename_i h
  rcases ih with ih | ih
  ·rw [ih] at h;exact absurd rfl h
  exact .inr ⟨by omega,by simp;omega⟩
theorem replaceK_length (a b:UInt8):∀ (k:Nat) (s:List UInt8),(Lib.replaceK [a] [b] k s).length=s.length
 | 0,_=>rfl
 | k+1,s=>by
  unfold Lib.replaceK
  split
  ·rfl
  rename_i h
  rcases index_in a s with ih | ih
  ·rw [ih] at h;exact absurd rfl h
  simp only [zr2,replaceK_length a b k,List.length_take,List.length_drop,List.length_singleton]
  omega
theorem replace_length (a b:UInt8) (s:List UInt8):(Lib.replace s [a] [b] 1).length=s.length:=by
 unfold Lib.replace
 split
 ·rfl
 exact replaceK_length a b _ s
theorem number_law:NumLaw:=by
 intro w t henv ht
 obtain⟨m,hm⟩:=henv.max
 have HM:=zh hm
 have HE:=zh henv
 have HT:=zh ht
 clear hm henv ht
 have RP:=Tryz.strings_Replace t ⟨#[126]⟩ ⟨#[45]⟩ 1 m w (by have:=HT.out;omega) HM.out (by decide) (by
  have hc:=Lib.countB_le (⟨#[126]⟩:ByteArray) (by decide) t.size t (zr4 _)
  have:=HT.out
  have e1:(⟨#[45]⟩:ByteArray).size=1:=rfl
  rw [e1]
  omega)
 rw [show (⟨#[45]⟩:ByteArray).data.toList=[45] from rfl,show (⟨#[126]⟩:ByteArray).data.toList=[126] from rfl] at RP
 obtain⟨x,hx⟩:∃ x,x=Lib.replace t.data.toList [126] [45] 1:=⟨_,rfl⟩
 have HX:=zh hx
 rw [← hx] at RP
 clear hx
 go_enter Tryz.func158,Tryz.ntmps158
 go_wp2_with fail
 refine RP.mono ?_
 clear RP
 rintro e w1 ⟨rfl,hb1⟩
 have HB1:=zh hb1
 have HE1:Hid (Env w1):=HE.out.keep hb1 HE.out.size
 have HXS:Hid ((⟨x.toArray⟩:ByteArray).size≤400000):=by
  show x.length≤_
  rw [HX.out,replace_length]
  exact HT.out
 clear hb1
 go_wp2_with fail
 have BAD:Hid (LX.num (bts t)=none→∀ w',Below w.heap.size w w'→NumPost w t (.returned (.tuple #[.int .i64 0,.int .i64 13])) w'):=fun h w' hb=>by
  unfold NumPost
  rw [h]
  exact⟨rfl,hb⟩
 cases hv:LX.num (bts t) with
 | some v =>
  obtain⟨e1,e2⟩:=atoi_of_num hv
  obtain⟨h0,h1,-⟩:=num_some hv
  have HV:=zh hv
  rw [← HX.out] at e2
  have AT:=Tryz.strconv_Atoi_ok ⟨x.toArray⟩ (by have:=HXS.out;omega) v e2 w1
  have D:=fun (W:World) (h:Env W)=>digits_any h v h0 h1
  have HD:=zh D
  have HT2:=zh e1
  clear hv e1 e2 D h0 h1
  refine AT.mono ?_
  clear AT
  rintro e w2 ⟨rfl,hw2⟩
  have HB2:Hid (Below w1.heap.size w1 w2):=by
   rcases hw2 with rfl | ⟨u,rfl⟩
   ·exact zs9 _ _
   exact Lib.bytesWorld_below _ _ _
  clear hw2
  go_wp2_with fail
  refine(HD.out w2 (HE1.out.keep HB2.out HE1.out.size)).mono ?_
  rintro e w3 ⟨rfl,hb3⟩
  rw [← HT2.out]
  have HB3:=zh hb3
  clear hb3
  go_wp2_with fail
  go_returns
  unfold NumPost
  rw [HV.out]
  exact⟨rfl,HB1.out.trans ((HB2.out.trans (HB3.out.mono HB2.out.size)).mono HB1.out.size)⟩
 | none =>
  have HV:=zh hv
  have NE:Hid (∀ v,-9223372036854775808≤v→v≤9223372036854775807→digS v≠t):=ne_of_num hv
  clear hv
  cases ha:Lib.atoiAll x with
  | ok v =>
   obtain⟨h0,h1⟩:=atoi_range ha
   have AT:=Tryz.strconv_Atoi_ok ⟨x.toArray⟩ (by have:=HXS.out;omega) v ha w1
   have D:=fun (W:World) (h:Env W)=>digits_any h v h0 h1
   have HD:=zh D
   have hne:((digS v).toList==t.toList)=false:=zt6 fun e=>NE.out v h0 h1 (by rw [ByteArray.toList_eq,ByteArray.toList_eq] at e;exact bts_inj (by unfold bts;rw [e]))
   clear ha D h0 h1
   refine AT.mono ?_
   clear AT
   rintro e w2 ⟨rfl,hw2⟩
   have HB2:Hid (Below w1.heap.size w1 w2):=by
    rcases hw2 with rfl | ⟨u,rfl⟩
    ·exact zs9 _ _
    exact Lib.bytesWorld_below _ _ _
   clear hw2
   go_wp2_with fail
   refine(HD.out w2 (HE1.out.keep HB2.out HE1.out.size)).mono ?_
   rintro e w3 ⟨rfl,hb3⟩
   have HB3:=zh hb3
   clear hb3
   go_wp2_with fail
   go_returns
   exact BAD.out HV.out _ (HB1.out.trans ((HB2.out.trans (HB3.out.mono HB2.out.size)).mono HB1.out.size))
  | range =>
   obtain⟨tp,p,hvar⟩:=HE1.out.rng
   have AT:=Tryz.strconv_Atoi_range ⟨x.toArray⟩ (by have:=HXS.out;omega) ha _ w1 hvar (.inr ⟨tp,p,rfl⟩)
   clear ha hvar
   refine AT.mono ?_
   clear AT
   rintro e w2 ⟨N,rfl,-,-,hb2⟩
   have HB2:=zh hb2
   clear hb2
   go_wp2_with fail
   go_returns
   exact BAD.out HV.out _ (HB1.out.trans ((HB2.out).mono HB1.out.size))
  | _ =>
   obtain⟨tp,p,hvar⟩:=HE1.out.syn
   have AT:=Tryz.strconv_Atoi_syntax ⟨x.toArray⟩ (by have:=HXS.out;omega) (by rw [ha]<;>rfl) _ w1 hvar (.inr ⟨tp,p,rfl⟩)
   clear ha hvar
   refine AT.mono ?_
   clear AT
   rintro e w2 ⟨N,rfl,-,-,hb2⟩
   have HB2:=zh hb2
   clear hb2
   go_wp2_with fail
   go_returns
   exact BAD.out HV.out _ (HB1.out.trans ((HB2.out).mono HB1.out.size))
end Go.Proofs.YtnkahlloahgifaaGreatDoor.Lx
namespace Go.Proofs.YtnkahlloahgifaaGreatDoor.Lx
open Go.RowKit
def APost (n0:Nat) (w:World) (b mb ib:Nat) (s:ByteArray) (j:Nat) (cs:List (Nat×Nat)) (e:Ending) (w':World):Prop :=
 (∃ p er:Nat,e=thrown p er∧LX.sc (bts s) j = .bad p er∧Kt n0 w w') ∨
 (∃ n cv' cs',e = .returned (.tuple #[])∧It n0 w' b mb ib s n cv' (cs++cs')∧Kt n0 w w'∧LX.sc (bts s) j=(LX.sc (bts s) n).app [] cs'∧j≤n∧n≤s.size∧(cs++cs').length≤n ∧
  (n<s.size→LX.space ((bts s).getD n 0)=false∧LX.opens ((bts s).drop n)=false))
theorem pass_it {n0:Nat}{w:World}{b mb ib j:Nat}{s:ByteArray}{cv:Value}{cs:List (Nat×Nat)}(h:It n0 w b mb ib s j cv cs) (hl:cs.length≤j) :
  Calls Tryz.prog 142 #[.pointer (some ⟨b,0,none⟩)] w (APost n0 w b mb ib s j cs):=by
 refine(pass_any h.sc h.cm hl).mono ?_
 have hj:j≤(bts s).length:=by rw [ze];exact h.sc.2.1
 have hp:=LX.sc_pass (bts s) (s.size+1) j hj (by rw [ze];omega)
 intro e w' hq
 rcases hr:LX.passN (s.size+1) ((bts s).drop j) j with ⟨n,cs'⟩|⟨p,er⟩
 case bad =>
  rw [hr] at hp hq
  obtain⟨rfl,cv',hf⟩:=hq
  exact .inl ⟨p,er,rfl,hp,hf.kt h.sc h.cm h.hb h.hcv⟩
 case «to» =>
  rw [hr] at hp hq
  obtain⟨rfl,cv',hs,hc,hf⟩:=hq
  obtain⟨h1,h2,h3,h4,h5⟩:=hp
  rw [ze] at h3 h5
  exact .inr ⟨n,cv',cs',rfl,h.fr hf hs hc,hf.kt h.sc h.cm h.hb h.hcv,h1,h2,h3,by rw [zr2];omega,h5⟩
def IPost (n0:Nat) (J:List LX.Tok→World→Prop) (b mb ib:Nat) (s:ByteArray) (e:Ending) (w':World):Prop :=
 match LX.scan (bts s) with
 | .ok ts cs=>e = .returned (.tuple #[])∧J ts w'∧∃ i cv,It n0 w' b mb ib s i cv cs
 | .bad p er=>e=thrown p er∧∃ ts,J ts w'
theorem toks_in {n0:Nat}{w:World}{b mb ib:Nat}{s:ByteArray}{cv:Value}(n l:Nat) (J:List LX.Tok→World→Prop)
  (hJ:∀ ts W W',J ts W→Kt n0 W W'→J ts W')
  (hY:∀ (ts:List LX.Tok) (k:Nat) (v:Int) (p:Nat) (tx:ByteArray) (W:World),J ts W→ts.length<s.size→YieldAt Fence.wide n Tryz.prog l #[tokV k v tx p] W fun e W'=>e = .returned (.bool true)∧J (ts++[⟨k,v,bts tx,p⟩]) W'∧Kb n0 W W')
  (h:It n0 w b mb ib s 0 cv []) (h0:J [] w) :
  Calls Tryz.prog 141 #[.func (.yield l) #[] #[],.pointer (some ⟨ib,0,none⟩)] w (IPost n0 J b mb ib s):=by
 have c0:w.cell? ⟨ib,0,none⟩=some (.pointer (some ⟨b,0,none⟩)):=by rw [zb _ _ 0 _ _ _ h.box];rfl
 have PA:=zh (pass_it h (zr4 _))
 have HJ:=zh hJ
 have HY:=zh hY
 have H0:=zh h0
 have HI:=zh h
 have HZ:=zh h.sc.2.2
 clear hJ hY h0 h
 go_enter Tryz.func141,Tryz.ntmps141
 go_wp2_with fail
 refine PA.out.mono ?_
 clear PA c0
 rintro e w1 (⟨p,er,rfl,hb,hk⟩|⟨n1,cv1,cs1,rfl,hi1,hk1,hs1,hj1,hn1,hc1,hp1⟩)
 ·unfold thrown
  have HB:=zh hb
  have HK:=zh hk
  clear hb hk
  go_wp2_with fail
  refine⟨rfl,?_⟩
  unfold IPost
  rw [LX.scan_sc,HB.out]
  exact⟨rfl,[],HJ.out _ _ _ H0.out HK.out⟩
 have K1:=zh hi1
 have K2:=zh hk1
 have K3:=zh hs1
 have K4:=zh (And.intro hn1 hc1)
 have K5:=zh hp1
 clear hi1 hk1 hs1 hj1 hn1 hc1 hp1
 go_wp2_with fail
 go_loopg [3] (s.size - n1) (fun gk v wr=>∃ (j:Nat) (ts:List LX.Tok) (cs:List (Nat×Nat)) (cv':Value),j≤s.size∧gk=s.size - j∧It n0 wr b mb ib s j cv' cs∧J ts wr∧ts.length≤j∧cs.length≤j ∧
  (j<s.size→LX.space ((bts s).getD j 0)=false∧LX.opens ((bts s).drop j)=false)∧LX.sc (bts s) 0=(LX.sc (bts s) j).app ts cs)
 case atStart=>exact⟨n1,[],cs1,cv1,K4.out.1,rfl,K1.out,HJ.out _ _ _ H0.out K2.out,Nat.zero_le _,K4.out.2,K5.out,K3.out⟩
 obtain⟨j,ts,cs,cv',hjs,hgk,hit,hJt,htl,hcl,hsp,hsc⟩:=hrel
 obtain⟨e0,e1,elt,ele,esz⟩:=hit.sc.at'
 have ef:∀ q,wr.frozen? ⟨b,q,none⟩=false:=fun q=>zs1 wr b q _ _ hit.sc.1
 have eb:wr.cell? ⟨ib,0,none⟩=some (.pointer (some ⟨b,0,none⟩)):=by rw [zb _ _ 0 _ _ _ hit.box];rfl
 have H1:=zh hit
 have H2:=zh hJt
 have H3:=zh (And.intro htl hcl)
 have H4:=zh hsp
 have H5:=zh hsc
 have H6:=zh hgk
 have hjz:(j:Int)≤400000:=by omega
 clear hit hJt htl hcl hsp hsc hgk ele esz
 by_cases hlt:j<s.size
 ·have hlz:(j:Int)<(s.size:Int):=by omega
  have HLT:=zh hlt
  clear hlt hjs
  go_wp2_with fail
  go_quiet (fail)
  go_wp2_with fail
  refine(token_any number_law (H1.out.drewN nq).sc (H1.out.drewN nq).env (H1.out.drewN nq).wd (H1.out.drewN nq).hmb HLT.out).mono ?_
  intro e w2 hq
  have hstep:=LX.sc_step (T:=bts s) (j:=j) (by rw [ze];exact HLT.out)
  rw [(H4.out HLT.out).1,if_neg (by decide),(H4.out HLT.out).2,if_neg (by decide)] at hstep
  rcases ht:LX.token ((bts s).drop j) with ⟨k,v,m⟩|⟨er⟩
  case bad =>
   rw [ht] at hq hstep
   obtain⟨rfl,hb⟩:=hq
   have G1:=zh hb
   have G2:=zh hstep
   clear hb hstep ht
   unfold thrown
   go_wp2_with fail
   refine⟨rfl,?_⟩
   unfold IPost
   rw [LX.scan_sc,H5.out,G2.out]
   exact⟨rfl,ts,HJ.out _ _ _ H2.out (Kt.of_below (zu G1.out))⟩
  rw [ht] at hq hstep
  obtain⟨rfl,hb⟩:=hq
  have hm:=LX.token_len ht
  rw [List.length_drop,ze] at hm
  have G1:=zh hb
  have G2:=zh hstep
  have G3:=zh hm
  have hmz:(j:Int)+(m:Int)≤400000:=by have:=HZ.out;omega
  obtain⟨tx,htx⟩:∃ t,t=s.extract j (j+m):=⟨_,rfl⟩
  rw [← htx]
  have htl:tx.size=m:=by rw [htx,ByteArray.size_extract];omega
  have G4:=zh htx
  have G5:=zh htl
  clear hb hstep ht hm htx htl e0 e1 elt ef eb
  unfold tokV
  go_wp2_with fail
  obtain⟨z,hz⟩:∃ z,z=w2.heap.size:=⟨_,rfl⟩
  obtain⟨V,hV⟩:∃ V,V=w2.alloc (.cells #[.int .i64 k,.int .i64 v,.string tx,.int .i64 j] 154):=⟨_,rfl⟩
  rw [← hV,← hz]
  have I2:=(H1.out.drewN nq).below G1.out
  have BV:Below w2.heap.size w2 V:=by rw [hV];exact(zs9 _ _).alloc (zr4 _) _
  have I3:=I2.below BV
  have KV:Hid (Kt n0 wr V):=(Kt.of_below (zu G1.out)).trans (Kt.of_below BV)
  have hVz:V.heap[z]?=some (.cells #[.int .i64 k,.int .i64 v,.string tx,.int .i64 j] 154 (0,0)):=by rw [hV,hz];exact zs2 w2 _
  have hne:z≠b:=by have:=(zq7.1 I2.sc.1).1;omega
  have v0:V.cell? ⟨b,0,none⟩=some (.string s):=I3.sc.at'.c0
  have v1:V.cell? ⟨b,1,none⟩=some (.int .i64 j):=I3.sc.at'.c1
  have vf:V.frozen? ⟨b,1,none⟩=false:=zs1 V b 1 _ _ I3.sc.1
  have vb:V.cell? ⟨ib,0,none⟩=some (.pointer (some ⟨b,0,none⟩)):=by rw [zb _ _ 0 _ _ _ I3.box];rfl
  have z2:V.cell? ⟨z,2,none⟩=some (.string tx):=by rw [zb _ _ 2 _ _ _ hVz];rfl
  have hwr:IntKind.i64.wrap ((j:Int)+(tx.size:Int))=(j:Int)+(tx.size:Int):=wrap_in _ (by rw [G5.out];omega)
  have J1:=zh I3
  have J2:=zh hVz
  have J3:=zh hne
  clear hz hV I2 BV I3 hVz hne
  refine wp_region_still_tail 12 (by kernel_rfl) (by kernel_rfl) ?_
  simp only [List.take_succ_cons,List.take_zero,List.drop_succ_cons,List.drop_zero,World.drew_eq]
  iterate 12 still_step
  refine wpStill_nil ?_
  go_upto_region 5 with (fail)
  clear v0 v1 vf vb z2 hwr
  obtain⟨U,hU⟩:∃ U,U=(V.setCell ⟨b,1,none⟩ (.int .i64 ((j:Int)+(tx.size:Int)))).drew:=⟨_,rfl⟩
  rw [← hU]
  have MU:Mv V U b ((j+m:Nat):Int):=by
   have e:((j+m:Nat):Int)=(j:Int)+(tx.size:Int):=by rw [G5.out];push_cast;rfl
   rw [hU,e]
   have M0:=Mv.of_set V b ((j:Int)+(tx.size:Int))
   exact⟨M0.os,M0.tape,M0.output,M0.size,M0.block,M0.cell⟩
  have A1:=J1.out.adv MU (by have:=G3.out;have:=HLT.out;omega)
  have hJU:J ts U:=HJ.out _ _ _ H2.out (KV.out.trans A1.2)
  have z2:U.heap[z]?=some (.cells #[.int .i64 k,.int .i64 v,.string tx,.int .i64 j] 154 (0,0)):=(MU.block z J3.out).trans J2.out
  have z0:U.cell? ⟨z,0,none⟩=some (.int .i64 k):=by rw [zb _ _ 0 _ _ _ z2];rfl
  have z1:U.cell? ⟨z,1,none⟩=some (.int .i64 v):=by rw [zb _ _ 1 _ _ _ z2];rfl
  have z2':U.cell? ⟨z,2,none⟩=some (.string tx):=by rw [zb _ _ 2 _ _ _ z2];rfl
  have z3:U.cell? ⟨z,3,none⟩=some (.int .i64 j):=by rw [zb _ _ 3 _ _ _ z2];rfl
  obtain⟨fn,tmps,assign,body,hy,hR⟩:=HY.out ts k v j tx U hJU (by have:=H3.out.1;have:=HLT.out;omega)
  unfold tokV at hy
  have A2:=zh A1.1
  have A3:=zh hR
  clear A1 hJU z2 hU MU hR
  refine(wpIn_wide (n:=n+1)).1 ?_
  gi_wp2
  refine A3.out.mono ?_
  rintro e U' ⟨rfl,hJ',hk'⟩
  have B1:=A2.out.kb hk'
  have B2:=zh hJ'
  have B3:=pass_it B1 (zr5 H3.out.2 (Nat.le_add_right _ _))
  have vb:U'.cell? ⟨ib,0,none⟩=some (.pointer (some ⟨b,0,none⟩)):=by rw [zb _ _ 0 _ _ _ B1.box];rfl
  have B4:=zh B3
  clear B1 hJ' B3 hk' z0 z1 z2' z3 hy
  gi_wp2
  go_wp2_with fail
  have hjm:j+m≤s.size:=by have:=G3.out;have:=HLT.out;omega
  have hbt:bts tx=((bts s).drop j).take m:=by rw [G4.out,bts_extract,Nat.add_sub_cancel_left]
  have C1:Hid (LX.sc (bts s) 0=(LX.sc (bts s) (j+m)).app (ts++[⟨k,v,bts tx,j⟩]) cs):=by
   show _=_
   rw [H5.out,G2.out,LX.Res.app_app,hbt,List.append_nil]
  have C2:=zh hjm
  clear hjm hbt
  refine B4.out.mono ?_
  clear B4 vb
  rintro e w3 (⟨p,er,rfl,hb,hk⟩|⟨n2,cv2,cs2,rfl,hi2,hk2,hs2,hj2,hn2,hc2,hp2⟩)
  ·unfold thrown
   have HB:=zh hb
   have HK:=zh hk
   clear hb hk
   go_wp2_with fail
   refine⟨rfl,?_⟩
   unfold IPost
   rw [LX.scan_sc,C1.out,HB.out]
   exact⟨rfl,_,HJ.out _ _ _ B2.out HK.out⟩
  have K1':=zh hi2
  have K2':=zh hk2
  have K3':Hid (LX.sc (bts s) 0=(LX.sc (bts s) n2).app (ts++[⟨k,v,bts tx,j⟩]) (cs++cs2)):=by
   show _=_
   rw [C1.out,hs2,LX.Res.app_app,List.append_nil]
  have K4':=zh (And.intro hn2 hc2)
  have K5':=zh hp2
  have K6':=zh hj2
  clear hi2 hk2 hs2 hj2 hn2 hc2 hp2
  go_wp2_with fail
  go_roundg (s.size - n2)
  case measure=>have:=H6.out;have:=HLT.out;have:=G3.out;have:=K6'.out;have:=K4'.out;omega
  exact⟨n2,_,_,cv2,K4'.out.1,rfl,K1'.out,HJ.out _ _ _ B2.out K2'.out,by have:=H3.out;have:=G3.out;have:=K6'.out;simp only [zr2,List.length_cons,List.length_nil];omega,K4'.out.2,K5'.out,K3'.out⟩
 have hlz:(s.size:Int)≤(j:Int):=by omega
 have HE:Hid (j=s.size):=by show _=_;omega
 clear hlt hjs
 go_wp2_with fail
 go_quiet (fail)
 go_wp2_with fail
 (try simp only [Exit.inBlock,Exit.then])
 refine bodyPost_end (results_none rfl _ _ _) rfl ?_
 unfold IPost
 rw [LX.scan_sc,H5.out,LX.sc_end (by rw [ze,HE.out];exact zr4 _)]
 simp only [LX.Res.app,List.append_nil]
 exact⟨trivial,HJ.out _ _ _ H2.out ((Kt.refl _ _).drewN _),j,cv',H1.out.drewN _⟩
end Go.Proofs.YtnkahlloahgifaaGreatDoor.Lx
namespace Go.Proofs.YtnkahlloahgifaaGreatDoor.Lx
open Go.RowKit
theorem tokens_any (w:World) (b:Nat):Calls Tryz.prog 139 #[.pointer (some ⟨b,0,none⟩)] w fun e w'=>e = .returned (.func (.func 141) #[] #[.pointer (some ⟨w.heap.size,0,none⟩)])∧w'=w.alloc (.cells #[.pointer (some ⟨b,0,none⟩)] 200):=by
 go_enter Tryz.func139,Tryz.ntmps139
 go_wp2
 go_ret
 exact⟨rfl,rfl⟩
theorem caught_idle (n lb wb:Nat) (w:World) :
  CallsDIn Fence.wide n Tryz.prog 138 #[.pointer (some ⟨lb,0,none⟩),.pointer (some ⟨wb,0,none⟩)] .returning w fun e u' w'=>e = .returned (.tuple #[])∧u' = .returning∧w'=w:=by
 refine callsDIn_of_wpSIn Tryz.func138 rfl (by trivial) fun c₀ cs hu=>?_
 apply wpSIn_seq
 apply wpSIn_region
 simp [wpOpsSIn,go_sem,recoverD,hu,Tryz.ntmps138,Exit.thenS]
 refine wpSIn_of_wpIn rfl (wpIn_wide.2 ?_)
 go_wp2
 cases c₀
 simp_all [bodyPostS,results,Tryz.results138]
structure Two (w w':World) (x y:Nat) (ox oy:Obj):Prop where
 os:w'.os=w.os
 tape:w'.tape=w.tape
 output:w'.output=w.output
 size:w.heap.size≤w'.heap.size
 hx:w'.heap[x]?=some ox
 hy:w'.heap[y]?=some oy
 block:∀ k,k<w.heap.size→k≠x→k≠y→w'.heap[k]?=w.heap[k]?
theorem caught_thrown (n lb wb:Nat) (w:World) (i e:Int) (v x y:Value) (hl:w.heap[lb]?=some (.cells #[v] 201 (0,0))) (hw:w.heap[wb]?=some (.cells #[x,y] 203 (0,0))) (hne:lb≠wb) :
  CallsDIn Fence.wide n Tryz.prog 138 #[.pointer (some ⟨lb,0,none⟩),.pointer (some ⟨wb,0,none⟩)] (.panicking [{ v := .iface 203 (.agg #[.int .i64 i,.int .i64 e]),recovered:=false }]) w
   fun r u' w'=>r = .returned (.tuple #[])∧u' = .panicking [{ v := .iface 203 (.agg #[.int .i64 i,.int .i64 e]),recovered:=true }] ∧
    Two w w' lb wb (.cells #[.slice none 0 0] 201 (0,0)) (.cells #[.int .i64 i,.int .i64 e] 203 (0,0)):=by
 have h0:w.cell? ⟨lb,0,none⟩=some v:=by rw [zb _ _ 0 _ _ _ hl];rfl
 have h1:w.cell? ⟨wb,0,none⟩=some x:=by rw [zb _ _ 0 _ _ _ hw];rfl
 have h2:w.cell? ⟨wb,1,none⟩=some y:=by rw [zb _ _ 1 _ _ _ hw];rfl
 have f0:w.frozen? ⟨lb,0,none⟩=false:=zs1 w lb 0 _ _ hl
 have f1:w.frozen? ⟨wb,0,none⟩=false:=zs1 w wb 0 _ _ hw
 have f2:w.frozen? ⟨wb,1,none⟩=false:=zs1 w wb 1 _ _ hw
 have HL:=zh hl
 have HW:=zh hw
 have HN:=zh hne
 have hta:∀ W:World,(Instr.typeAssert (.iface 203 (.agg #[.int .i64 i,.int .i64 e])) 20 203 true).run Tryz.prog W = .ok (.tuple #[.agg #[.int .i64 i,.int .i64 e],.bool true]) W:=fun W=>by kernel_rfl
 refine callsDIn_of_wpSIn Tryz.func138 rfl (by trivial) fun c₀ cs hu=>?_
 simp only [Tryz.ntmps138,List.size_toArray,List.length_cons,List.length_nil,Nat.reduceAdd,Nat.reduceSub,Array.replicate_succ,Array.replicate_zero,List.push_toArray,List.append_toArray,List.nil_append,List.cons_append]
 apply wpSIn_seq
 apply wpSIn_region
 simp [wpOpsSIn,go_sem,recoverD,hu,Exit.thenS]
 refine wpSIn_of_wpIn rfl (wpIn_wide.2 ?_)
 clear hl hw hne
 go_wp2
 obtain⟨z,hz⟩:∃ z,z=w.heap.size:=⟨_,rfl⟩
 obtain⟨V,hV⟩:∃ V,V=w.alloc (.cells #[.int .i64 i,.int .i64 e] 203):=⟨_,rfl⟩
 rw [← hV,← hz]
 have hlt:lb<w.heap.size∧wb<w.heap.size:=⟨(zq7.1 HL.out).1,(zq7.1 HW.out).1⟩
 have kb:∀ k,k<w.heap.size→V.heap[k]?=w.heap[k]?:=fun k hk=>by rw [hV];exact zt2 _ _ _ hk
 have vl:=(kb lb hlt.1).trans HL.out
 have vw:=(kb wb hlt.2).trans HW.out
 have vz:V.heap[z]?=some (.cells #[.int .i64 i,.int .i64 e] 203 (0,0)):=by rw [hV,hz];exact zs2 w _
 have nlz:lb≠z:=by omega
 have nwz:wb≠z:=by omega
 have c0:V.cell? ⟨lb,0,none⟩=some v:=by rw [zb _ _ 0 _ _ _ vl];rfl
 have c1:V.cell? ⟨wb,0,none⟩=some x:=by rw [zb _ _ 0 _ _ _ vw];rfl
 have c2:V.cell? ⟨wb,1,none⟩=some y:=by rw [zb _ _ 1 _ _ _ vw];rfl
 have g0:V.frozen? ⟨lb,0,none⟩=false:=zs1 V lb 0 _ _ vl
 have g1:V.frozen? ⟨wb,0,none⟩=false:=zs1 V wb 0 _ _ vw
 have g2:V.frozen? ⟨wb,1,none⟩=false:=zs1 V wb 1 _ _ vw
 have c3:V.cell? ⟨z,0,none⟩=some (.int .i64 i):=by rw [zb _ _ 0 _ _ _ vz];rfl
 have c4:V.cell? ⟨z,1,none⟩=some (.int .i64 e):=by rw [zb _ _ 1 _ _ _ vz];rfl
 have hne:=HN.out
 have END:Hid (Two w (((V.setCell ⟨lb,0,none⟩ (.slice none 0 0)).setCell ⟨wb,0,none⟩ (.int .i64 i)).setCell ⟨wb,1,none⟩ (.int .i64 e)) lb wb (.cells #[.slice none 0 0] 201 (0,0)) (.cells #[.int .i64 i,.int .i64 e] 203 (0,0))):=by
  have k1:∀ k,k≠lb→k≠wb→(((V.setCell ⟨lb,0,none⟩ (.slice none 0 0)).setCell ⟨wb,0,none⟩ (.int .i64 i)).setCell ⟨wb,1,none⟩ (.int .i64 e)).heap[k]?=V.heap[k]?:=fun k h1 h2=>by
   rw [zt1 _ _ _ k h2,zt1 _ _ _ k h2,zt1 _ _ _ k h1]
  refine⟨by rw [hV];rfl,by rw [hV];rfl,by rw [hV];rfl,by rw [hV];simp,?_,?_,fun k hk h1 h2=>(k1 k h1 h2).trans (kb k hk)⟩
  ·rw [zt1 _ _ _ lb HN.out,zt1 _ _ _ lb HN.out]
   exact heap_setCell_same _ lb 0 _ _ _ vl
  have h1:(V.setCell ⟨lb,0,none⟩ (.slice none 0 0)).heap[wb]?=some (.cells #[x,y] 203 (0,0)):=(zt1 _ _ _ wb (Ne.symm HN.out)).trans vw
  exact heap_setCell_same _ wb 1 _ _ _ (heap_setCell_same _ wb 0 _ _ (.int .i64 i) h1)
 clear hV hz hlt kb vl vw vz h0 h1 h2 f0 f1 f2
 go_region
 all_goals
  have E:=END.out
  exact⟨rfl,_,rfl,.tuple #[],results_none rfl _ _ _,rfl,rfl,⟨E.os,E.tape,E.output,E.size,E.hx,E.hy,E.block⟩⟩
end Go.Proofs.YtnkahlloahgifaaGreatDoor.Lx
namespace Go.Proofs.YtnkahlloahgifaaGreatDoor.Lx
open Go.RowKit
def ofB (l:List Nat):ByteArray:=⟨(l.map UInt8.ofNat).toArray⟩
theorem ofB_bts (t:ByteArray):ofB (bts t)=t:=by
 unfold ofB bts
 rw [List.map_map]
 have:(UInt8.ofNat ∘ UInt8.toNat)=id:=by funext x;simp
 rw [this,List.map_id]
def flatT:List LX.Tok→List Value
 | []=>[]
 | t :: r => .int .i64 t.kind :: .int .i64 t.num :: .string (ofB t.text) :: .int .i64 t.place :: flatT r
theorem flatT_append (a b:List LX.Tok):flatT (a++b)=flatT a++flatT b:=by
 induction a with
 | nil=>rfl
 | cons x r ih=>simp [flatT,ih]
theorem owns_keep {w w':World}{base e size n:Nat}{v:Value}{xs:List Value}(h:w.ownsRow base e size v n xs) (hk:∀ k,v.ownBlock=some k→w'.heap[k]?=w.heap[k]?):w'.ownsRow base e size v n xs:=by
 obtain⟨h1,h2⟩:=h
 rcases h2 with h2 | ⟨g,cap,cur,rfl,hb,hg,rest⟩
 ·exact⟨h1,.inl h2⟩
 exact⟨h1,.inr ⟨g,cap,cur,rfl,hb,(hk g rfl).trans hg,rest⟩⟩
theorem owns_blk {w:World}{base e size n:Nat}{v:Value}{xs:List Value}(h:w.ownsRow base e size v n xs) {k:Nat}(hk:v.ownBlock=some k):base≤k∧∃ c,w.heap[k]?=some (.cells c e (0,0)):=by
 rcases h.2 with ⟨rfl,_⟩|⟨g,cap,cur,rfl,hb,hg,_⟩
 ·simp [Value.ownBlock] at hk
 simp [Value.ownBlock] at hk;subst hk;exact⟨hb,_,hg⟩
structure Jt (w:World) (D l lb wb:Nat) (rcd:Loop) (ts:List LX.Tok) (W:World):Prop where
 blk:W.heap[D]?=some (.deferred (some []))
 loop:W.heap[l]?=some (.loop rcd)
 wrong:W.heap[wb]?=some (.cells #[.int .i64 0,.int .i64 0] 203 (0,0))
 row:∃ v,Boxed W lb 201 v∧W.ownsRow w.heap.size 154 4 v ts.length (flatT ts)
 below:Below w.heap.size w W
theorem Jt.kt {w W W':World}{D l lb wb:Nat}{rcd:Loop}{ts:List LX.Tok}(h:Jt w D l lb wb rcd ts W) (k:Kt w.heap.size W W'):Jt w D l lb wb rcd ts W':=by
 obtain⟨v,h1,h2⟩:=h.row
 refine⟨k.block _ _ h.blk (.inr ⟨nofun,nofun⟩),k.block _ _ h.loop (.inr ⟨nofun,nofun⟩),k.block _ _ h.wrong (.inr ⟨fun c r e=>?_,fun c r e=>?_⟩),⟨v,k.block _ _ h1 (.inr ⟨fun c r e=>?_,fun c r e=>?_⟩),owns_keep h2 fun q hq=>?_⟩,h.below.trans (k.below h.below.size)⟩
 ·simp at e
 ·simp at e
 ·simp at e
 ·simp at e
 obtain⟨_,c,hc⟩:=owns_blk h2 hq
 rw [hc]
 exact k.block _ _ hc (.inr ⟨fun c r e=>by simp at e,fun c r e=>by simp at e⟩)
theorem Jt.put {w W:World}{D l lb wb:Nat}{rcd:Loop}{ts:List LX.Tok}(h:Jt w D l lb wb rcd ts W) (r':Loop) (hl:w.heap.size≤l):Jt w D l lb wb r' ts (W.putObj l (.loop r'))∧Kb w.heap.size W (W.putObj l (.loop r')):=by
 have ho:∀ k o,W.heap[k]?=some o→(∀ r:Loop,o≠Obj.loop r)→(W.putObj l (.loop r')).heap[k]?=some o:=fun k o hk hr =>
  (World.putObj_heap_other fun e=>by subst e;rw [h.loop] at hk;simp only [zt3] at hk;exact hr _ hk.symm).trans hk
 obtain⟨v,h1,h2⟩:=h.row
 refine⟨⟨ho _ _ h.blk nofun,World.putObj_heap_same (zq7.1 h.loop).1,ho _ _ h.wrong nofun,⟨v,ho _ _ h1 nofun,owns_keep h2 fun q hq=>?_⟩,?_⟩,?_⟩
 ·obtain⟨_,c,hc⟩:=owns_blk h2 hq
  rw [hc]
  exact ho _ _ hc nofun
 ·exact h.below.trans ⟨rfl,rfl,rfl,by simp,fun k hk=>World.putObj_heap_other (by omega)⟩
 refine⟨rfl,rfl,rfl,by simp,fun k o hk ht=>?_⟩
 rcases ht with ht | ⟨c,rfl⟩|⟨c,rfl⟩|⟨es,cl,rfl⟩|⟨c,rfl⟩
 ·exact(World.putObj_heap_other (by omega)).trans hk
 ·exact ho _ _ hk nofun
 ·exact ho _ _ hk nofun
 ·exact ho _ _ hk nofun
 exact ho _ _ hk nofun
theorem Kb.trans {n0:Nat}{w w1 w2:World}(h:Kb n0 w w1) (k:Kb n0 w1 w2):Kb n0 w w2 :=
 ⟨k.os.trans h.os,k.tape.trans h.tape,k.output.trans h.output,zr5 h.size k.size,fun q o ho hq=>k.block q o (h.block q o ho hq) hq⟩
theorem Kb.of_below {n0:Nat}{w w':World}(h:Below w.heap.size w w'):Kb n0 w w' :=
 ⟨h.os,h.tape,h.output,h.size,fun k o ho _=>(h.block k (zq7.1 ho).1).trans ho⟩
theorem Jt.alloc {w W:World}{D l lb wb:Nat}{rcd:Loop}{ts:List LX.Tok}(h:Jt w D l lb wb rcd ts W) (o:Obj):Jt w D l lb wb rcd ts (W.alloc o)∧Kb w.heap.size W (W.alloc o):=by
 have hb:Below W.heap.size W (W.alloc o):=(zs9 _ _).alloc (zr4 _) _
 exact⟨h.kt (Kt.of_below hb),Kb.of_below hb⟩
theorem Jt.more {w W w1:World}{D l lb wb:Nat}{rcd:Loop}{ts:List LX.Tok}{v v':Value}{tmp:Obj}(h:Jt w D l lb wb rcd ts W) (t:LX.Tok) (hv:Boxed W lb 201 v) (hrow:W.ownsRow w.heap.size 154 4 v ts.length (flatT ts))
  (hlb:w.heap.size≤lb) (hown:w1.ownsRow w.heap.size 154 4 v' (ts.length+1) (flatT ts++[.int .i64 t.kind,.int .i64 t.num,.string (ofB t.text),.int .i64 t.place])) (hg:(W.alloc tmp).grownBy w1 v.ownBlock) :
  Boxed w1 lb 201 v∧Jt w D l lb wb rcd (ts++[t]) (w1.setCell ⟨lb,0,none⟩ v')∧Kb w.heap.size W (w1.setCell ⟨lb,0,none⟩ v'):=by
 obtain⟨b1,b2,b3,b4,b5⟩:=hv.appended (by decide) hrow h.below.size hlb hown hg
 have keep:∀ k o,W.heap[k]?=some o→(∀ c:Array Value,o≠Obj.cells c 154 (0,0))→(∀ c:Array Value,o≠Obj.cells c 201 (0,0))→(w1.setCell ⟨lb,0,none⟩ v').heap[k]?=some o:=fun k o hk h39 h35=>by
  have hlt:=(zq7.1 hk).1
  rw [zt1 _ _ _ k (fun e=>by
   have e:k=lb:=e
   subst e
   rw [show W.heap[k]?=_ from hv] at hk
   simp only [zt3] at hk
   exact h35 _ hk.symm)]
  refine(hg.block k (by simp;omega) fun e=>?_).trans ((zt2 W tmp k hlt).trans hk)
  obtain⟨_,c,hc⟩:=owns_blk hrow e.symm
  rw [hc] at hk
  simp only [zt3] at hk
  exact h39 _ hk.symm
 refine⟨b1,⟨keep _ _ h.blk nofun nofun,keep _ _ h.loop nofun nofun,keep _ _ h.wrong (fun c e=>by simp at e) (fun c e=>by simp at e),⟨v',b2,?_⟩,h.below.trans b5⟩,⟨b5.os,b5.tape,b5.output,b5.size,fun k o hk ht=>?_⟩⟩
 ·rw [zr2,flatT_append]
  exact b3
 rcases ht with ht | ⟨c,rfl⟩|⟨c,rfl⟩|⟨es,cl,rfl⟩|⟨c,rfl⟩
 ·exact(b5.block k ht).trans hk
 ·exact keep _ _ hk (fun c e=>by simp at e) (fun c e=>by simp at e)
 ·exact keep _ _ hk (fun c e=>by simp at e) (fun c e=>by simp at e)
 ·exact keep _ _ hk nofun nofun
 exact keep _ _ hk (fun c e=>by simp at e) (fun c e=>by simp at e)
end Go.Proofs.YtnkahlloahgifaaGreatDoor.Lx
namespace Go.Proofs.YtnkahlloahgifaaGreatDoor.Lx
open Go.RowKit
def recOf (fn:FuncId) (tmps:Array Value) (assign body:Code) (D:Nat) (st:LoopState):Loop:={ state:=st,pending:=none,fn,tmps,params := #[11],assign,body,defers:=D }
theorem loop_law {assign body:Code}{Q:Exit→Act→World→Prop}{a:Act}{w W2:World}{b mb ib lb:Nat}{s:ByteArray}
  (hg:a.eval (.tmp 10) = .func (.func 141) #[] #[.pointer (some ⟨ib,0,none⟩)])
  (hI:It w.heap.size W2 b mb ib s 0 (.slice none 0 0) [])
  (hw:W2.heap[lb+1]?=some (.cells #[.int .i64 0,.int .i64 0] 203 (0,0))) (hv:Boxed W2 lb 201 (.slice none 0 0)) (hB:Below w.heap.size w W2)
  (hround:∀ (rcd:Loop) (ts:List LX.Tok) (k:Nat) (v:Int) (p:Nat) (tx:ByteArray) (W:World),rcd.state = .ready→rcd.pending=none→Jt w W2.heap.size (W2.heap.size+1) lb (lb+1) rcd ts W→ts.length<s.size →
   assign.wpIn (Fence.wide.inRound (W2.heap.size+1)) 1 Tryz.prog (Exit.then (fun a₁ w₁=>∃ w₂,(Instr.beginRound (W2.heap.size+1)).run Tryz.prog w₁ = .ok () w₂ ∧
    body.wpIn (Fence.wide.inRound (W2.heap.size+1)) 1 Tryz.prog (roundPost Tryz.prog (W2.heap.size+1) fun e W'=>e = .returned (.bool true) ∧
     Jt w W2.heap.size (W2.heap.size+1) lb (lb+1) rcd (ts++[⟨k,v,bts tx,p⟩]) W'∧Kb w.heap.size W W') a₁ w₂) (fun _ _ _=>False))
    { tmps:=a.tmps.setIfInBounds 11 (tokV k v tx p),defers:=[] } W)
  (hdone:∀ (rcd:Loop) (W:World) (i:Nat) (cv:Value) (ts:List LX.Tok) (cs:List (Nat×Nat)),LX.scan (bts s) = .ok ts cs →
   Jt w W2.heap.size (W2.heap.size+1) lb (lb+1) rcd ts W→It w.heap.size W b mb ib s i cv cs →
   Q .normal { a with defers:={ target := .collected W2.heap.size,args := #[] } :: a.defers } W)
  (hthrown:∀ (rcd:Loop) (W:World) (p er:Nat) (ts:List LX.Tok),LX.scan (bts s) = .bad p er →
   Jt w W2.heap.size (W2.heap.size+1) lb (lb+1) rcd ts W →
   Q (.panic [{ v := .iface 203 (.agg #[.int .i64 p,.int .i64 er]),recovered:=false }]) { a with defers:={ target := .collected W2.heap.size,args := #[] } :: a.defers } W) :
  (Code.rangeFunc (.tmp 10) #[11] assign body).wp Tryz.prog Q a W2:=by
 refine(wpIn_wide (n:=2)).1 ?_
 refine wpIn_rangeFunc ?_
 intro fn hfn
 obtain⟨D,hD⟩:∃ D,D=W2.heap.size:=⟨_,rfl⟩
 obtain⟨l,hl⟩:∃ l,l=W2.heap.size+1:=⟨_,rfl⟩
 obtain⟨W3,hW3⟩:∃ W,W=(W2.alloc (.deferred (some []))).alloc (.loop (recOf fn a.tmps assign body W2.heap.size .ready)):=⟨_,rfl⟩
 have he:(Instr.enterLoop fn a.tmps #[11] assign body Fence.wide.round).run Tryz.prog W2 = .ok (l,[{ target := .collected D,args := #[] }]) W3:=by
  rw [hl,hD,hW3]
  exact run_enterLoop_outer fn a.tmps #[11] assign body
 have h3:Below W2.heap.size W2 W3:=by rw [hW3];exact((zs9 _ _).alloc (zr4 _) _).alloc (by simp) _
 have hD3:W3.heap[D]?=some (.deferred (some [])):=by
  rw [hW3,hD,zt2 _ _ _ (by simp)];exact World.alloc_heap_new W2 _
 have hl3:W3.heap[l]?=some (.loop (recOf fn a.tmps assign body W2.heap.size .ready)):=by
  rw [hW3,hl]
  have:=World.alloc_heap_new (W2.alloc (.deferred (some []))) (.loop (recOf fn a.tmps assign body W2.heap.size .ready))
  rw [World.size_alloc] at this
  exact this
 refine⟨l,[{ target := .collected D,args := #[] }],W3,{ target := .fn (.func 141) #[.pointer (some ⟨ib,0,none⟩)],args := #[.func (.yield l) #[] #[]] },W3,141,
  #[.func (.yield l) #[] #[]] ++ #[.pointer (some ⟨ib,0,none⟩)],W3,he,?_,?_,?_,(fun _=>by decide),?_⟩
 ·simp only [resolve,hg]
  simp [go_sem]
 ·intro f' _;exact trivial
 ·have eg:=enters_of Tryz.func141 (by kernel_rfl) rfl
  simp [invoke,go_sem,eg]
 subst hD
 subst hl
 have J0:Jt w W2.heap.size (W2.heap.size+1) lb (lb+1) (recOf fn a.tmps assign body W2.heap.size .ready) [] W3 :=
  ⟨hD3,hl3,(h3.block _ (zq7.1 hw).1).trans hw,⟨_,(h3.block _ (zq7.1 hv).1).trans hv,World.ownsRow_nil _ _ _ _⟩,hB.trans (h3.mono hB.size)⟩
 refine callsIn_wide.2 ((toks_in (n0:=w.heap.size) 1 (W2.heap.size+1) (Jt w W2.heap.size (W2.heap.size+1) lb (lb+1) (recOf fn a.tmps assign body W2.heap.size .ready)) (fun ts W W' h k=>h.kt k) ?_ (hI.below h3) J0).mono ?_)
 ·intro ts k v p tx W hJ hlen
  have hy:=run_yield (P:=Tryz.prog) (args := #[tokV k v tx p]) hJ.loop rfl
  have hf:((recOf fn a.tmps assign body W2.heap.size .ready).params.zip #[tokV k v tx p]).foldl (fun tmps (t,a)=>tmps.setIfInBounds t a) (recOf fn a.tmps assign body W2.heap.size .ready).tmps=a.tmps.setIfInBounds 11 (tokV k v tx p):=by
   simp [recOf]
  rw [hf] at hy
  exact⟨fn,_,assign,body,hy,roundIn_of_wpIn trivial (hround _ ts k v p tx W rfl rfl hJ hlen)⟩
 intro e W hp
 unfold IPost at hp
 cases hs:LX.scan (bts s) with
 | ok ts cs =>
  rw [hs] at hp
  obtain⟨rfl,hJ,i,cv,hit⟩:=hp
  have h2:=hJ.put (recOf fn a.tmps assign body W2.heap.size .exhausted) (by have:=hB.size;omega)
  refine⟨none,W.putObj (W2.heap.size+1) (.loop (recOf fn a.tmps assign body W2.heap.size .exhausted)),run_endLoop hJ.loop (by simp [recOf]),?_⟩
  exact hdone _ _ i cv ts cs hs h2.1 (hit.kb h2.2)
 | bad p er =>
  rw [hs] at hp
  obtain⟨rfl,ts,hJ⟩:=hp
  exact hthrown _ W p er ts hs hJ
end Go.Proofs.YtnkahlloahgifaaGreatDoor.Lx
namespace Go.Proofs.YtnkahlloahgifaaGreatDoor.Lx
open Go.RowKit
attribute [local go_sem] Oper.semAt_some
def SPost (w:World) (s:ByteArray) (e:Ending) (w':World):Prop :=
 match LX.scan (bts s) with
 | .ok ts cs=>∃ b mb i cv tv,e = .returned (.tuple #[.pointer (some ⟨b,0,none⟩),tv,.agg #[.int .i64 0,.int .i64 0]])∧Sc w' b s i mb cv∧Cm w' b cv cs∧w'.ownsRow w.heap.size 154 4 tv ts.length (flatT ts) ∧
   Below w.heap.size w w'∧w.heap.size≤b∧∀ k,cv.ownBlock=some k→w.heap.size≤k
 | .bad p er=>∃ b,e = .returned (.tuple #[.pointer (some ⟨b,0,none⟩),.slice none 0 0,.agg #[.int .i64 p,.int .i64 er]])∧Below w.heap.size w w'
theorem Tryz.info154:(Tryz.prog.info? 154).map (fun i=>(i.zero,i.size,i.bytes))=some (some (.agg #[.int .i64 0,.int .i64 0,.string ⟨#[]⟩,.int .i64 0]),4,40):=by kernel_rfl
theorem scanned_any {w:World}(henv:Env w) (s:ByteArray) (hs:s.size≤400000):Calls Tryz.prog 130 #[.string s] w (SPost w s):=by
 have HS:=zh hs
 have HE:=zh henv
 clear hs henv
 refine(callsIn_wide (n:=3)).1 (callsIn_of_wp_marks Tryz.func130 rfl trivial ?_ rfl)
 refine wpIn_wide.2 ?_
 simp only [Tryz.ntmps130,List.size_toArray,List.length_cons,List.length_nil,Nat.reduceAdd,Nat.reduceSub,Array.replicate_succ,Array.replicate_zero,List.push_toArray,List.append_toArray,List.nil_append,List.cons_append]
 go_wp2_with fail
 obtain⟨lb,hlb⟩:∃ z,z=w.heap.size:=⟨_,rfl⟩
 obtain⟨W0,hW0⟩:∃ W,W=(w.alloc (.cells #[.slice none 0 0] 201)).alloc (.cells #[.int .i64 0,.int .i64 0] 203):=⟨_,rfl⟩
 rw [← hW0,← hlb]
 have B0:Hid (Below w.heap.size w W0):=by rw [hW0];exact((zs9 _ _).alloc (zr4 _) _).alloc (by simp) _
 have Z0:Hid (W0.heap.size=lb+2):=by rw [hW0,hlb];show _=_;simp
 have L0:Hid (W0.heap[lb]?=some (.cells #[.slice none 0 0] 201 (0,0))):=by
  rw [hW0,hlb]
  show _=_
  rw [zt2 _ _ _ (by simp)];exact zs2 w _
 have R0:Hid (W0.heap[lb+1]?=some (.cells #[.int .i64 0,.int .i64 0] 203 (0,0))):=by
  rw [hW0,hlb]
  have:=zs2 (w.alloc (.cells #[.slice none 0 0] 201)) (.cells #[.int .i64 0,.int .i64 0] 203)
  rw [World.size_alloc] at this
  exact this
 have HL:=zh hlb
 clear hlb hW0
 refine(newScanner_any W0 s HS.out).mono ?_
 rintro e W1 ⟨rfl,hsc,hwd,hb1,hz1⟩
 obtain⟨b,hb⟩:∃ b,b=W0.heap.size+1:=⟨_,rfl⟩
 obtain⟨mb,hmb⟩:∃ m,m=W0.heap.size:=⟨_,rfl⟩
 rw [← hb]
 have hlb:w.heap.size=lb:=HL.out.symm
 have hz0:W0.heap.size=lb+2:=Z0.out
 obtain⟨ib,hib⟩:∃ i,i=W1.heap.size:=⟨_,rfl⟩
 obtain⟨W2,hW2⟩:∃ W,W=W1.alloc (.cells #[.pointer (some ⟨b,0,none⟩)] 200):=⟨_,rfl⟩
 have b12:Below W1.heap.size W1 W2:=by rw [hW2];exact(zs9 _ _).alloc (zr4 _) _
 have bb:Below w.heap.size w W2:=B0.out.trans ((hb1.mono (by omega)).trans (b12.mono (by omega)))
 have I2:Hid (It w.heap.size W2 b mb ib s 0 (.slice none 0 0) []):=by
  refine⟨?_,⟨World.ownsRow_nil _ _ _ _,by simp [Value.ownBlock]⟩,by omega,by simp [Value.ownBlock],?_,HE.out.keep bb HE.out.size,by omega,?_,HE.out.size,bb.size⟩
  ·rw [hmb,hb]
   exact⟨(b12.block _ (by omega)).trans hsc.1,hsc.2⟩
  ·rw [hmb]
   exact hwd.keep fun o ho _=>(b12.block _ (by omega)).trans ho
  rw [hW2,hib];exact zs2 W1 _
 have V2:Hid (Boxed W2 lb 201 (.slice none 0 0)):=(b12.block _ (by omega)).trans ((hb1.block _ (by omega)).trans L0.out)
 have R2:Hid (W2.heap[lb+1]?=some (.cells #[.int .i64 0,.int .i64 0] 203 (0,0))):=(b12.block _ (by omega)).trans ((hb1.block _ (by omega)).trans R0.out)
 have BB:=zh bb
 have HW2:=zh hW2
 have HIB:=zh hib
 clear hsc hwd hb1 hz1 hb hmb hlb hz0 hW2 hib b12 bb
 go_wp2_with fail
 refine(tokens_any W1 b).mono ?_
 rintro e W2' ⟨rfl,rfl⟩
 rw [← HW2.out,← HIB.out]
 go_wp2_with fail
 refine loop_law (w:=w) (lb:=lb) (ib:=ib) (b:=b) (mb:=mb) (s:=s) rfl I2.out R2.out V2.out BB.out ?round ?done ?thrown
 case round =>
  intro rcd ts k v p tx W hr1 hr2 hJ hlen
  unfold tokV
  simp only [zq4,zq6,zq5]
  have J0:=zh hJ
  have HR:=zh (And.intro hr1 hr2)
  have HT:Hid (ts.length<400000):=zt5 hlen HS.out
  have JA:=zh (J0.out.alloc (.cells #[.int .i64 k,.int .i64 v,.string tx,.int .i64 p] 154))
  have LN:Hid (w.heap.size≤W2.heap.size+1):=Nat.le_succ_of_le BB.out.size
  clear hJ hr1 hr2 hlen
  gi_wp2
  obtain⟨z,hz⟩:∃ z,z=W.heap.size:=⟨_,rfl⟩
  obtain⟨Wa,hWa⟩:∃ V,V=W.alloc (.cells #[.int .i64 k,.int .i64 v,.string tx,.int .i64 p] 154):=⟨_,rfl⟩
  have JA2:=JA.out
  have az:Wa.heap[z]?=some (.cells #[.int .i64 k,.int .i64 v,.string tx,.int .i64 p] 154 (0,0)):=by rw [hWa,hz];exact zs2 W _
  rw [← hWa] at JA2
  rw [← hWa,← hz]
  refine⟨_,run_beginRound JA2.1.loop HR.out.1,?_⟩
  obtain⟨JB1,JB2⟩:=JA2.1.put { rcd with state := .busy } LN.out
  obtain⟨Wb,hWb⟩:∃ V,V=Wa.putObj (W2.heap.size+1) (.loop { rcd with state := .busy }):=⟨_,rfl⟩
  rw [← hWb] at JB1 JB2
  rw [← hWb]
  have bz:Wb.heap[z]?=some (.cells #[.int .i64 k,.int .i64 v,.string tx,.int .i64 p] 154 (0,0)):=by
   rw [hWb,World.putObj_heap_other (fun e=>by rw [e,JA2.1.loop] at az;simp at az)];exact az
  have KB:Hid (Kb w.heap.size W Wb):=JA2.2.trans JB2
  have JB:=zh JB1
  obtain⟨sv,hsv,hrow⟩:=JB1.row
  have c0:=hsv.cell
  have cf:=hsv.frozen
  have z0:Wb.cell? ⟨z,0,none⟩=some (.int .i64 k):=by rw [zb _ _ 0 _ _ _ bz];rfl
  have z1:Wb.cell? ⟨z,1,none⟩=some (.int .i64 v):=by rw [zb _ _ 1 _ _ _ bz];rfl
  have z2:Wb.cell? ⟨z,2,none⟩=some (.string tx):=by rw [zb _ _ 2 _ _ _ bz];rfl
  have z3:Wb.cell? ⟨z,3,none⟩=some (.int .i64 p):=by rw [zb _ _ 3 _ _ _ bz];rfl
  have SV:=zh (And.intro hsv hrow)
  have HO:Hid ((Wb.alloc (.cells #[.int .i64 k,.int .i64 v,.string tx,.int .i64 p] 154)).ownsRow w.heap.size 154 4 sv ts.length (flatT ts)) :=
   owns_keep hrow fun q hq=>zt2 _ _ _ (by obtain⟨_,c,hc⟩:=owns_blk hrow hq;exact(zq7.1 hc).1)
  have HN:Hid (∀ j u,[Value.int .i64 k,.int .i64 v,.string tx,.int .i64 p][j]?=some u→(Wb.alloc (.cells #[.int .i64 k,.int .i64 v,.string tx,.int .i64 p] 154)).cell? ((⟨Wb.heap.size,0,none⟩:Addr).add j)=some u):=fun j u hu=>by
   rw [Addr.add_lit,zb _ _ _ _ _ _ (zs2 Wb _)]
   match j,hu with
   | 0,hu=>simpa using hu
   | 1,hu=>simpa using hu
   | 2,hu=>simpa using hu
   | 3,hu=>simpa using hu
   | j+4,hu=>simp at hu
  have HBs:Hid (w.heap.size≤Wb.heap.size):=JB1.below.size
  obtain⟨i0,hi0,hz0,hz1,hz2⟩:=info_parts Tryz.info154
  have I0:=zh (And.intro hi0 (And.intro hz0 (And.intro hz1 hz2)))
  clear JA2 az hWa hWb hz JB1 JB2 bz hsv hrow hi0 hz0 hz1 hz2
  gi_wp2_with (gi_at_builtin;refine wpListIn_append_own _ rfl _ _ 201 rfl w.heap.size 154 i0 _ 4 40 Tryz.underlying201 I0.out.1 I0.out.2.1 I0.out.2.2.1 I0.out.2.2.2 rfl (by decide) sv ts.length (flatT ts) rfl HO.out ⟨Wb.heap.size,0,none⟩ 1 1 _ rfl rfl HN.out ?c1 ?c2 ?c3 ?c4 ?c5)
  case c1=>intro u hu;simp at hu;rcases hu with rfl | rfl | rfl | rfl<;>rfl
  case c2=>have:=HT.out;unfold maxLen;omega
  case c3=>have:=HT.out;omega
  case c4=>have:=HBs.out;simp;omega
  case c5 =>
   intro v' w1 hown hg hnil
   obtain⟨M1,M2,M3⟩:=JB.out.more (t:=⟨k,v,bts tx,p⟩) SV.out.1 SV.out.2 (by have:=HL.out;omega) (by rw [ofB_bts];exact hown) hg
   obtain⟨g,cap,rfl⟩:=ownsRow_succ hown
   have d0:=M1.cell
   have df:=M1.frozen
   have N2:=zh M2
   have N3:=zh M3
   clear hown hg hnil M1 M2 M3 c0 cf z0 z1 z2 z3
   gi_wp2
   have h:=N2.out.put rcd LN.out
   have hr:=run_endRound (P:=Tryz.prog) none N2.out.loop
   have hq:({ state := .ready,pending:=none,fn:=rcd.fn,tmps:=rcd.tmps,params:=rcd.params,assign:=rcd.assign,body:=rcd.body,defers:=rcd.defers }:Loop)=rcd:=by
    have h1:=HR.out.1
    have h2:=HR.out.2
    cases rcd
    simp only at h1 h2
    subst h1
    subst h2
    rfl
   simp only [Option.isNone_none,if_true,hq] at hr
   exact⟨_,_,hr,rfl,h.1,KB.out.trans (N3.out.trans h.2)⟩
 case done =>
  intro rcd W i cv ts cs hscan hJ hI
  have HSC:=zh hscan
  have HI:=zh hI
  have HJ:=zh hJ
  obtain⟨sv,hsv,hrow⟩:=hJ.row
  obtain⟨sa,sc,hslice⟩:∃ a c,sv = .slice a ts.length c:=by
   rcases hrow.2 with ⟨rfl,h0⟩|⟨g,cap,cur,rfl,_⟩
   ·rw [h0];exact⟨_,_,rfl⟩
   exact⟨_,_,rfl⟩
  obtain⟨tn,htn⟩:∃ n,n=ts.length:=⟨_,rfl⟩
  rw [← htn] at hslice
  subst hslice
  have c0:=hsv.cell
  have cf:=hsv.frozen
  have d0:W.cell? ⟨lb+1,0,none⟩=some (.int .i64 0):=by rw [zb _ _ 0 _ _ _ hJ.wrong];rfl
  have d1:W.cell? ⟨lb+1,1,none⟩=some (.int .i64 0):=by rw [zb _ _ 1 _ _ _ hJ.wrong];rfl
  have df:∀ q,W.frozen? ⟨lb+1,q,none⟩=false:=fun q=>zs1 W (lb+1) q _ _ hJ.wrong
  have SV:=zh (And.intro hsv hrow)
  have TN:=zh htn
  clear hscan hI hJ hsv hrow htn
  go_wp2_with fail
  go_region
  go_wp2_with fail
  obtain⟨V,hV⟩:∃ V,V=(((W.setCell ⟨lb,0,none⟩ (.slice sa tn sc)).setCell ⟨lb+1,0,none⟩ (.int .i64 0)).setCell ⟨lb+1,1,none⟩ (.int .i64 0)).drew:=⟨_,rfl⟩
  rw [← hV]
  have same:∀ k:Nat,V.heap[k]?=W.heap[k]?:=fun k=>by
   rw [hV]
   show (((W.setCell ⟨lb,0,none⟩ (.slice sa tn sc)).setCell ⟨lb+1,0,none⟩ (.int .i64 0)).setCell ⟨lb+1,1,none⟩ (.int .i64 0)).heap[k]?=_
   by_cases h1:k=lb+1
   ·subst h1
    have e1:(W.setCell ⟨lb,0,none⟩ (.slice sa tn sc)).heap[lb+1]?=some (.cells #[.int .i64 0,.int .i64 0] 203 (0,0)):=(zt1 _ _ _ (lb+1) (by show lb+1≠lb;omega)).trans HJ.out.wrong
    rw [HJ.out.wrong]
    exact heap_setCell_same _ (lb+1) 1 _ _ _ (heap_setCell_same _ (lb+1) 0 _ _ (.int .i64 0) e1)
   rw [zt1 _ _ _ k h1,zt1 _ _ _ k h1]
   by_cases h2:k=lb
   ·subst h2
    rw [show W.heap[k]?=_ from SV.out.1]
    exact heap_setCell_same _ k 0 _ _ _ SV.out.1
   exact zt1 _ _ _ k h2
  have kv:Kb w.heap.size W V:=⟨by rw [hV];rfl,by rw [hV];rfl,by rw [hV];rfl,by rw [hV];simp,fun k o hk _=>(same k).trans hk⟩
  have hD:V.heap[W2.heap.size]?=some (.deferred (some [])):=(same _).trans HJ.out.blk
  obtain⟨U,hU⟩:∃ U,U=V.putObj W2.heap.size (.deferred none):=⟨_,rfl⟩
  have hother:∀ (k:Nat) (o:Obj),W.heap[k]?=some o→(∀ ds:Option (List Deferred),o≠Obj.deferred ds)→U.heap[k]?=some o:=fun k o hk hne=>by
   rw [hU]
   refine(World.putObj_heap_other fun e=>?_).trans ((same k).trans hk)
   subst e
   rw [HJ.out.blk] at hk
   simp only [zt3] at hk
   exact hne _ hk.symm
  have ku:Kb w.heap.size W U:=by
   refine kv.trans ⟨by rw [hU];rfl,by rw [hU];rfl,by rw [hU];rfl,by rw [hU];simp,fun k o hk hk2=>?_⟩
   rw [hU]
   refine(World.putObj_heap_other fun e=>?_).trans hk
   subst e
   rcases hk2 with hk2 | hk2
   ·have:=BB.out.size;omega
   rw [hD] at hk
   simp only [zt3] at hk
   subst hk
   rcases hk2 with ⟨c,e⟩|⟨c,e⟩|⟨es,cl,e⟩|⟨c,e⟩<;>cases e
  have u0:U.cell? ⟨lb,0,none⟩=some (.slice sa tn sc):=by rw [zb _ _ 0 _ _ _ (hother _ _ SV.out.1 nofun)];rfl
  have u1:U.cell? ⟨lb+1,0,none⟩=some (.int .i64 0):=by rw [zb _ _ 0 _ _ _ (hother _ _ HJ.out.wrong nofun)];rfl
  have u2:U.cell? ⟨lb+1,1,none⟩=some (.int .i64 0):=by rw [zb _ _ 1 _ _ _ (hother _ _ HJ.out.wrong nofun)];rfl
  have IU:=HI.out.kb ku
  refine⟨by simp,.inl ⟨_,_,rfl,run_takeDeferred hD,?_⟩⟩
  rw [← hU]
  refine⟨by simp,.inr ⟨fun _=>by decide,.func 138,#[.pointer (some ⟨lb,0,none⟩),.pointer (some ⟨lb+1,0,none⟩)],138,#[.pointer (some ⟨lb,0,none⟩),.pointer (some ⟨lb+1,0,none⟩)],rfl,?_,fun _ _=>trivial,?_⟩⟩
  ·have eg:=enters_of Tryz.func138 (by kernel_rfl) rfl
   simp [invoke,go_sem,eg]
  refine(caught_idle _ lb (lb+1) U).mono ?_
  rintro e u' w' ⟨rfl,rfl,rfl⟩
  refine⟨.tuple #[.pointer (some ⟨b,0,none⟩),.slice sa tn sc,.agg #[.int .i64 0,.int .i64 0]],?_,?_⟩
  ·simp [results,Tryz.results130,go_sem,u0,u1,u2]
  unfold SPost
  rw [HSC.out]
  refine⟨b,mb,i,cv,.slice sa tn sc,rfl,IU.sc,IU.cm,owns_keep SV.out.2 fun k hk=>?_,HJ.out.below.trans (ku.below HJ.out.below.size),IU.hb,IU.hcv⟩
  obtain⟨_,c,hc⟩:=owns_blk SV.out.2 hk
  rw [hc]
  exact hother _ _ hc nofun
 case thrown =>
  intro rcd W p er ts hscan hJ
  have HSC:=zh hscan
  have HJ:=zh hJ
  clear hscan hJ
  (try simp only [Exit.inBlock,Exit.then])
  obtain⟨U,hU⟩:∃ U,U=W.putObj W2.heap.size (.deferred none):=⟨_,rfl⟩
  have hother:∀ (k:Nat) (o:Obj),W.heap[k]?=some o→(∀ ds:Option (List Deferred),o≠Obj.deferred ds)→U.heap[k]?=some o:=fun k o hk hne=>by
   rw [hU]
   refine(World.putObj_heap_other fun e=>?_).trans hk
   subst e
   rw [HJ.out.blk] at hk
   simp only [zt3] at hk
   exact hne _ hk.symm
  have bu:Below w.heap.size w U:=HJ.out.below.trans ⟨by rw [hU];rfl,by rw [hU];rfl,by rw [hU];rfl,by rw [hU];simp,fun k hk=>by rw [hU];exact World.putObj_heap_other (by have:=BB.out.size;omega)⟩
  obtain⟨sv,hsv,hrow⟩:=HJ.out.row
  refine⟨by simp,.inl ⟨_,_,rfl,run_takeDeferred HJ.out.blk,?_⟩⟩
  rw [← hU]
  refine⟨by simp,.inr ⟨fun _=>by decide,.func 138,#[.pointer (some ⟨lb,0,none⟩),.pointer (some ⟨lb+1,0,none⟩)],138,#[.pointer (some ⟨lb,0,none⟩),.pointer (some ⟨lb+1,0,none⟩)],rfl,?_,fun _ _=>trivial,?_⟩⟩
  ·have eg:=enters_of Tryz.func138 (by kernel_rfl) rfl
   simp [invoke,go_sem,eg]
  refine(caught_thrown _ lb (lb+1) U p er sv _ _ (hother _ _ hsv nofun) (hother _ _ HJ.out.wrong nofun) (by omega)).mono ?_
  rintro e u' X ⟨rfl,rfl,h2⟩
  have u0:X.cell? ⟨lb,0,none⟩=some (.slice none 0 0):=by rw [zb _ _ 0 _ _ _ h2.hx];rfl
  have u1:X.cell? ⟨lb+1,0,none⟩=some (.int .i64 p):=by rw [zb _ _ 0 _ _ _ h2.hy];rfl
  have u2:X.cell? ⟨lb+1,1,none⟩=some (.int .i64 er):=by rw [zb _ _ 1 _ _ _ h2.hy];rfl
  refine⟨.tuple #[.pointer (some ⟨b,0,none⟩),.slice none 0 0,.agg #[.int .i64 p,.int .i64 er]],?_,?_⟩
  ·simp [results,Tryz.results130,go_sem,u0,u1,u2]
  unfold SPost
  rw [HSC.out]
  refine⟨b,rfl,bu.trans ⟨h2.os,h2.tape,h2.output,h2.size,fun k hk=>h2.block k (zt5 hk bu.size) ?_ ?_⟩⟩
  ·have:=HL.out;omega
  have:=HL.out;omega
end Go.Proofs.YtnkahlloahgifaaGreatDoor.Lx
namespace Go.Proofs.YtnkahlloahgifaaGreatDoor.Lx
namespace LX
def Res.toks:Res→List Tok
 | .ok l _=>l
 | .bad _ _=>[]
end LX
open Go.RowKit
theorem owns_slice {w:World}{base e size n:Nat}{v:Value}{xs:List Value}(h:w.ownsRow base e size v n xs):∃ a c,v = .slice a n c:=by
 rcases h.2 with ⟨rfl,h0⟩|⟨g,cap,cur,rfl,_⟩
 ·rw [h0];exact⟨_,_,rfl⟩
 exact⟨_,_,rfl⟩
end Go.Proofs.YtnkahlloahgifaaGreatDoor.Lx
namespace Go.Proofs.YtnkahlloahgifaaGreatDoor.Lx
namespace LX
def kindOf (l:List Nat):Nat:=if 24<l.length then 0 else match scan l with
 | .ok [t] _=>if t.text=l then t.kind else 0
 | _=>0
def Bt (ts:List Tok):Prop:=∀ t∈ts,∀ c∈t.text,c<256
theorem sc_bytes (T:List Nat) (hT:∀ c∈T,c<256):∀ (n j:Nat),T.length - j=n→∀ ts cs,sc T j = .ok ts cs→Bt ts:=by
 intro n
 induction n using Nat.strongRecOn with
 | ind n ih =>
  intro j hn ts cs h
  rcases Nat.lt_or_ge j T.length with hj | hj
  ·rw [sc_step hj] at h
   split at h
   ·exact ih _ (by omega) (j+1) rfl ts cs h
   split at h
   ·cases hc:cmt (T.drop j) 0 0 with
    | fin m =>
     rw [hc] at h
     simp only [] at h
     have h0:=cmt_fin hc
     cases hs:sc T (j+m) with
     | ok t2 c2 =>
      rw [hs] at h
      simp only [Res.app,Res.ok.injEq,List.nil_append] at h
      rw [← h.1]
      exact ih _ (by omega) (j+m) rfl t2 c2 hs
     | bad p e=>rw [hs] at h;cases h
    | deep m=>rw [hc] at h;cases h
    | never=>rw [hc] at h;cases h
   cases hc:token (T.drop j) with
   | tok k v m =>
    rw [hc] at h
    simp only [] at h
    have h0:=token_len hc
    cases hs:sc T (j+m) with
    | ok t2 c2 =>
     rw [hs] at h
     simp only [Res.app,Res.ok.injEq,List.cons_append,List.nil_append] at h
     rw [← h.1]
     intro t ht
     rcases List.mem_cons.1 ht with rfl | ht
     ·intro c hc
      exact hT c (List.mem_of_mem_drop (List.mem_of_mem_take hc))
     exact ih _ (by omega) (j+m) rfl t2 c2 hs t ht
    | bad p e=>rw [hs] at h;cases h
   | bad e=>rw [hc] at h;cases h
  rw [sc_end hj] at h
  cases h
  intro t ht
  cases ht
theorem token_bad {l:List Nat}{e:Nat}(h:token l = .bad e):e=2∨e=11∨e=13:=by
 have hm:∀ k n,made k n = .bad e→e=2:=fun k n h=>by
  unfold made at h
  split at h
  ·cases h;rfl
  cases h
 have hn:∀ k,named k l = .bad e→e=2:=fun k h=>by
  unfold named at h
  cases hq:made k (nameLen l) with
  | bad e2=>rw [hq] at h;cases h;exact hm _ _ hq
  | tok a b c=>rw [hq] at h;cases h
 cases l with
 | nil=>cases h;exact .inr (.inl rfl)
 | cons c t =>
  unfold token at h
  simp only [] at h
  split at h
  ·unfold number at h
   simp only [] at h
   split at h
   ·cases h;exact .inr (.inr rfl)
   split at h
   ·cases h
   split at h
   ·cases h;exact .inr (.inr rfl)
   cases h
  split at h
  ·exact .inl (hn _ h)
  split at h
  ·exact .inl (hn _ h)
  split at h
  ·exact .inl (hm _ _ h)
  split at h
  ·cases h
  split at h
  ·cases h
  cases h;exact .inr (.inl rfl)
theorem cmt_deep_lt:∀ (l:List Nat) (d n m:Nat),cmt l d n = .deep m→n≤m∧m<n+l.length
 | [],_,_,_,h=>by cases h
 | [_],_,_,_,h=>by cases h
 | a :: b :: t,d,n,m,h=>by
  rw [cmt] at h
  simp only [List.length_cons]
  split at h
  ·split at h
   ·cases h;omega
   have:=cmt_deep_lt t _ _ _ h;omega
  split at h
  ·split at h
   ·cases h
   have:=cmt_deep_lt t _ _ _ h;omega
  have:=cmt_deep_lt (b :: t) _ _ _ h
  simp only [List.length_cons] at this
  omega
theorem sc_bad (T:List Nat):∀ (n j:Nat),T.length - j=n→∀ p e,sc T j = .bad p e→(e=2∨e=6∨e=11∨e=12∨e=13)∧j≤p∧p<T.length:=by
 intro n
 induction n using Nat.strongRecOn with
 | ind n ih =>
  intro j hn p e h
  rcases Nat.lt_or_ge j T.length with hj | hj
  ·rw [sc_step hj] at h
   split at h
   ·have:=ih _ (by omega) (j+1) rfl p e h
    exact⟨this.1,by omega,this.2.2⟩
   split at h
   ·cases hc:cmt (T.drop j) 0 0 with
    | fin m =>
     rw [hc] at h
     simp only [] at h
     have h0:=cmt_fin hc
     cases hs:sc T (j+m) with
     | ok t2 c2=>rw [hs] at h;cases h
     | bad p2 e2 =>
      rw [hs] at h
      simp only [Res.app,Res.bad.injEq] at h
      obtain⟨rfl,rfl⟩:=h
      have:=ih _ (by omega) (j+m) rfl p2 e2 hs
      exact⟨this.1,by omega,this.2.2⟩
    | deep m =>
     rw [hc] at h
     simp only [Res.bad.injEq] at h
     obtain⟨rfl,rfl⟩:=h
     have:=cmt_deep_lt _ _ _ _ hc
     rw [List.length_drop] at this
     exact⟨.inr (.inl rfl),by omega,by omega⟩
    | never =>
     rw [hc] at h
     simp only [Res.bad.injEq] at h
     obtain⟨rfl,rfl⟩:=h
     exact⟨.inr (.inr (.inr (.inl rfl))),by omega,by omega⟩
   cases hc:token (T.drop j) with
   | tok k v m =>
    rw [hc] at h
    simp only [] at h
    have h0:=token_len hc
    cases hs:sc T (j+m) with
    | ok t2 c2=>rw [hs] at h;cases h
    | bad p2 e2 =>
     rw [hs] at h
     simp only [Res.app,Res.bad.injEq] at h
     obtain⟨rfl,rfl⟩:=h
     have:=ih _ (by omega) (j+m) rfl p2 e2 hs
     exact⟨this.1,by omega,this.2.2⟩
   | bad e2 =>
    rw [hc] at h
    simp only [Res.bad.injEq] at h
    obtain⟨rfl,rfl⟩:=h
    refine⟨?_,by omega,by omega⟩
    rcases token_bad hc with h | h | h
    ·exact .inl h
    ·exact .inr (.inr (.inl h))
    exact .inr (.inr (.inr (.inr h)))
  rw [sc_end hj] at h
  cases h
theorem scan_bad {T:List Nat}{p e:Nat}(h:scan T = .bad p e):(e=2∨e=6∨e=11∨e=12∨e=13)∧p<T.length :=
 ⟨(sc_bad T _ 0 rfl p e h).1,(sc_bad T _ 0 rfl p e h).2.2⟩
end LX
open Go.RowKit
theorem bts_small (s:ByteArray):∀ c∈bts s,c<256:=by
 intro c hc
 unfold bts at hc
 obtain⟨u,_,rfl⟩:=List.mem_map.1 hc
 exact u.toNat_lt
theorem bts_ofB {l:List Nat}(h:∀ c∈l,c<256):bts (ofB l)=l:=by
 unfold bts ofB
 simp only [List.map_map]
 conv=>rhs;rw [← List.map_id l]
 refine List.map_congr_left fun c hc=>?_
 simp only [Function.comp,id]
 rw [UInt8.toNat_ofNat']
 exact Nat.mod_eq_of_lt (h c hc)
theorem scan_bytes (s:ByteArray):LX.Bt (LX.scan (bts s)).toks:=by
 cases h:LX.scan (bts s) with
 | ok ts cs=>exact LX.sc_bytes (bts s) (bts_small s) _ 0 rfl ts cs h
 | bad p e=>intro t ht;cases ht
theorem owns_cells {w:World}{base e size n:Nat}{a:Option Addr}{c:Nat}{xs:List Value}(h:w.ownsRow base e size (.slice a n c) n xs) (hn:0<n) :
  ∃ g,a=some ⟨g,0,none⟩∧base≤g∧g<w.heap.size∧n≤c∧∀ j u,xs[j]?=some u→w.cell? ⟨g,j,none⟩=some u:=by
 rcases h.2 with ⟨hv,h0⟩|⟨g,cap,cur,hv,hb,hg,hnc,_,hcs,htake⟩
 ·omega
 simp only [Value.slice.injEq] at hv
 obtain⟨rfl,_,rfl⟩:=hv
 refine⟨g,rfl,hb,(Array.getElem?_eq_some_iff.1 hg).1,hnc,fun j u hu=>?_⟩
 have hj:j<n*size:=by rw [← h.1];exact(List.getElem?_eq_some_iff.1 hu).1
 rw [cell_of_row w g j cur e (0,0) hg,← Array.getElem?_toList]
 rw [← htake,List.getElem?_take,if_pos hj] at hu
 exact hu
def KPost (w:World) (s:ByteArray) (e:Ending) (w':World):Prop:=e = .returned (.int .i64 (LX.kindOf (bts s)))∧Below w.heap.size w w'
theorem kind_any {w:World}(henv:Env w) (s:ByteArray) (hmax:s.size≤9223372036854775807):Calls Tryz.prog 117 #[.string s] w (KPost w s):=by
 obtain⟨r,hr⟩:∃ r,r=LX.kindOf (bts s):=⟨_,rfl⟩
 unfold KPost
 rw [← hr]
 unfold LX.kindOf at hr
 rw [ze] at hr
 by_cases hs:24<s.size
 ·rw [if_pos hs] at hr
  subst hr
  have hz:(24:Int)<(s.size:Int):=by omega
  clear hs
  go_enter Tryz.func117,Tryz.ntmps117
  go_wp2_with fail
  go_ret
  exact⟨rfl,Below.refl _ _⟩
 rw [if_neg hs] at hr
 have hz:(s.size:Int)≤24:=by omega
 have SC:=Lib.hid (scanned_any henv s (by omega))
 have BY:=Lib.hid (scan_bytes s)
 have HR:=Lib.hid hr
 clear hs hr
 go_enter Tryz.func117,Tryz.ntmps117
 go_wp2_with fail
 refine SC.out.mono ?_
 intro e w1 hp
 unfold SPost at hp
 cases hq:LX.scan (bts s) with
 | bad p er =>
  rw [hq] at hp
  have h0:r=0:=by rw [HR.out,hq]
  subst h0
  obtain⟨b,rfl,hb⟩:=hp
  have HB:=Lib.hid hb
  clear hb
  have he:=(LX.scan_bad hq).1
  have e1:((er:Int) != 0)=true:=by simp;omega
  have e2:((er:Int)==0)=false:=by simp;omega
  clear he hq HR
  go_wp2_with fail
  go_ret
  exact⟨rfl,HB.out.trans ((Below.refl _ _).alloc HB.out.size _)⟩
 | ok ts cs =>
  rw [hq] at hp
  obtain⟨b,mb,i,cv,tv,rfl,_,_,hrow,hb,_,_⟩:=hp
  obtain⟨a,c,rfl⟩:=owns_slice hrow
  have HB:=Lib.hid hb
  clear hb
  match ts,hq,hrow with
  | [],hq,hrow =>
   have h0:r=0:=by rw [HR.out,hq]
   subst h0
   clear hq HR hrow
   go_wp2_with fail
   go_ret
   exact⟨rfl,HB.out.trans ((Below.refl _ _).alloc HB.out.size _)⟩
  | [t],hq,hrow =>
   have h0:r=if t.text=bts s then t.kind else 0:=by rw [HR.out,hq]
   have ht:bts (ofB t.text)=t.text:=by
    have h1:=BY.out
    rw [hq] at h1
    exact bts_ofB (h1 t (List.mem_singleton_self _))
   obtain⟨g,rfl,hbg,hlt,hcap,hcells⟩:=owns_cells hrow (Nat.succ_pos 0)
   obtain⟨V,hV⟩:∃ V,V=w1.alloc (.cells #[.int .i64 0,.int .i64 0] 203):=⟨_,rfl⟩
   have kb:∀ q,V.cell? ⟨g,q,none⟩=w1.cell? ⟨g,q,none⟩:=fun q=>by
    have:V.heap[g]?=w1.heap[g]?:=by rw [hV];exact Below.heap_alloc _ _ _ hlt
    rw [World.cell?_of_block this]
   have z0:V.cell? ⟨g,0,none⟩=some (.int .i64 t.kind):=(kb 0).trans (hcells 0 _ rfl)
   have z2:V.cell? ⟨g,2,none⟩=some (.string (ofB t.text)):=(kb 2).trans (hcells 2 _ rfl)
   have hc1:(1:Nat)≤c:=hcap
   have v0:V.cell? ⟨w1.heap.size,0,none⟩=some (.int .i64 0):=by rw [hV];simp
   have v1:V.cell? ⟨w1.heap.size,1,none⟩=some (.int .i64 0):=by rw [hV];simp
   have HV:=Lib.hid hV
   have BV:Hid (Below w.heap.size w V):=by rw [hV];exact HB.out.trans ((Below.refl _ _).alloc HB.out.size _)
   have HT:=Lib.hid ht
   have HC:=Lib.hid hcap
   have H0:=Lib.hid h0
   obtain⟨tx,htx⟩:∃ x,x=ofB t.text:=⟨_,rfl⟩
   rw [← htx] at z2
   have TX:=Lib.hid htx
   clear hq HR hrow hbg hcells kb hV ht h0 hcap htx
   go_upto_region 4 with (fail)
   rw [← HV.out]
   by_cases hsame:tx=s
   ·have hb:(tx.toList==s.toList)=true:=(Lib.bytes_beq_iff _ _).2 hsame
    have hr:r=t.kind:=by rw [H0.out,if_pos (by rw [← HT.out,← TX.out,hsame])]
    have HRR:=Lib.hid hr
    clear hsame hr
    go_wp2_with fail
    go_ret
    exact⟨by rw [HRR.out];rfl,BV.out⟩
   have hb:(tx.toList==s.toList)=false:=(Lib.bytes_beq_false_iff _ _).2 hsame
   have hr:r=0:=by rw [H0.out,if_neg (fun e=>hsame (by rw [TX.out];exact bts_inj (by rw [HT.out,e])))]
   have HRR:=Lib.hid hr
   clear hsame hr
   go_wp2_with fail
   go_ret
   exact⟨by rw [HRR.out];rfl,BV.out⟩
  | t :: u :: ts,hq,hrow =>
   have h0:r=0:=by rw [HR.out,hq]
   subst h0
   obtain⟨tn,htn⟩:∃ n,n=(t :: u :: ts).length:=⟨_,rfl⟩
   have h1:((tn:Int) != 1)=true:=by rw [htn];simp;omega
   have h2:((tn:Int)==1)=false:=by rw [htn];simp;omega
   rw [← htn]
   clear hq HR hrow htn
   go_wp2_with fail
   go_ret
   exact⟨rfl,HB.out.trans ((Below.refl _ _).alloc HB.out.size _)⟩
end Go.Proofs.YtnkahlloahgifaaGreatDoor.Lx
namespace Go.Proofs.YtnkahlloahgifaaGreatDoor.Lx
open Go.RowKit
structure Wg (w:World) where
 v:World
 ch:Below w.heap.size w v
def Wg.first (w:World):Wg w:=⟨w.drew,(zs9 _ _).drew⟩
theorem Wg.cell {w:World}(x:Wg w) {b o:Nat}{v:Value}(hb:b<w.heap.size) (h:w.cell? ⟨b,o,none⟩=some v):x.v.cell? ⟨b,o,none⟩=some v:=(x.ch.cell (p:=⟨b,o,none⟩) hb).trans h
theorem Wg.call {P:Program}{w:World}{f:FuncId}{args:Array Value}{v:Value}(h:∀ x:Wg w,Calls P f args x.v fun e w'=>e = .returned v∧Below x.v.heap.size x.v w') (x:Wg w) :
  Calls P f args x.v fun e w'=>e = .returned v∧∃ y:Wg w,w'=y.v:=by
 refine(h x).mono ?_
 rintro e w' ⟨rfl,hb⟩
 exact⟨rfl,⟨w',x.ch.trans (hb.mono x.ch.size)⟩,rfl⟩
theorem wp_region_below {P:Program}{id:Nat}{Q:Exit→Act→World→Prop}{a:Act}{w:World}{l:List Oper}(hm:P.follows .mixedOrders=true) (hB:Region.lexB .any l.toArray=true)
  (h:wpQuiet P l.toArray (fun w'=>∃ x:Wg w,w'=x.v) (fun a'=>∀ x:Wg w,Q .normal a' x.v) l a):(Code.region id l.toArray true).wp P Q a w:=by
 refine wp_region_quiet (C:=fun w'=>∃ x:Wg w,w'=x.v) hm hB ⟨Wg.first w,rfl⟩ ?_
 simp only [List.toList_toArray]
 have e:(fun a'=>∀ x:Wg w,Q .normal a' x.v)=fun a'=>∀ w',(∃ x:Wg w,w'=x.v)→Q .normal a' w':=by
  funext a'
  exact propext ⟨fun h w' ⟨x,e⟩=>e ▸ h x,fun h x=>h _ ⟨x,rfl⟩⟩
 rw [← e]
 exact h
end Go.Proofs.YtnkahlloahgifaaGreatDoor.Lx
namespace Go.Proofs.YtnkahlloahgifaaGreatDoor.Lx
open Go.RowKit
theorem isName_any {w:World}(henv:Env w) (s:ByteArray) (hmax:s.size≤9223372036854775807) :
  Calls Tryz.prog 108 #[.string s] w fun e w'=>e = .returned (.bool (LX.kindOf (bts s)==2))∧Below w.heap.size w w':=by
 have K:=Lib.hid (kind_any henv s hmax)
 obtain⟨r,hr⟩:∃ r,r=LX.kindOf (bts s):=⟨_,rfl⟩
 unfold KPost at K
 rw [← hr] at K ⊢
 have e1:((r:Int)==2)=(r==2):=by rw [Bool.eq_iff_iff,beq_iff_eq,beq_iff_eq];omega
 have HE:=Lib.hid e1
 clear hr henv e1
 go_enter Tryz.func108,Tryz.ntmps108
 go_wp2_with fail
 refine K.out.mono ?_
 rintro e w1 ⟨rfl,hb⟩
 have HB:=Lib.hid hb
 clear hb
 go_wp2_with fail
 go_ret
 exact⟨by rw [← HE.out];rfl,HB.out⟩
end Go.Proofs.YtnkahlloahgifaaGreatDoor.Lx
namespace Go.Proofs.YtnkahlloahgifaaGreatDoor
open Go.RowKit RG
def isNm (s:Nm):Bool:=Lx.LX.kindOf (Lx.bts s)==2
theorem nlaw:NLaw Lx.Env isNm where
 call:=fun W s he hs=>Lx.isName_any he s (by unfold maxLen at hs;omega)
 keep:=fun B W W' hB h hb=>Lx.Env.keep h hb hB
 size:=fun W h=>h.size
theorem sort_law:Go.Proofs.YtnkahlloahgifaaGreatDoor.SortLaw:=by
 intro blk cap zs w h1 h2 h3
 exact Tryz.slices_Sort_int blk 0 cap zs w h1 h2 h3
end Go.Proofs.YtnkahlloahgifaaGreatDoor
namespace Go.Proofs.YtnkahlloahgifaaGreatDoor
open Go.RowKit RG Go.Maps
theorem containsS_has (l:List Nm) (x:Nm):Lib.containsS l x=RG.has l x:=by
 rw [Bool.eq_iff_iff,zx,Lib.containsS_iff]
theorem contains_any {w:World}{v:Value}{ns:List Nm}(x:Nm) (h:StrsAt w v ns) (hl:ns.length≤1000000000):Calls Tryz.prog 59 #[v,.string x] w fun e w'=>e = .returned (.bool (RG.has ns x))∧w'=w:=by
 obtain⟨-,ad,c,rfl,hat⟩:=h
 by_cases h0:0<ns.length
 ·obtain⟨g,o,rfl,hat2⟩:=hat h0
  have:=Tryz.slices_Contains_string g o ns.length c ns x w (zr4 _) (by omega) (fun j hj=>by
   have h1:w.cell? ⟨g,o+j,none⟩=some (.string ns[j]):=hat2 j _ (strs_at (zq9 hj))
   rw [zt4,zq9 hj];exact h1)
  rw [List.take_length,containsS_has] at this
  exact this
 have e:ns=[]:=List.eq_nil_of_length_eq_zero (by omega)
 subst e
 exact Tryz.slices_Contains_string_empty ad c x w
def CfP (isName:Nm→Bool) (w:World) (ps:List Nm) (e:TE) (a b:Nm) (en:Ending) (w':World):Prop :=
 Below w.heap.size w w'∧((RG.Good isName ps e∧a∈vars (F0 ps e)∧b∈vars (F0 ps e)∧en = .returned (.tuple #[.bool (conflict (F0 ps e) a b),.int .i64 0])) ∨
  (RG.Good isName ps e∧(a∉vars (F0 ps e)∨b∉vars (F0 ps e))∧en = .returned (.tuple #[.bool false,.int .i64 3]))∨(¬ RG.Good isName ps e∧en = .returned (.tuple #[.bool false,.int .i64 160])))
theorem conflict_any {Env:World→Prop}{isName:Nm→Bool}{w:World}{v:Value}{ps:List Nm}{e:TE}(h:FnOk Env isName w v ps e) (a b:Nm) (ha:a.size≤maxLen) (hb:b.size≤maxLen):Calls Tryz.prog 21 #[v,.string a,.string b] w (CfP isName w ps e a b):=by
 have RD:=zh h.boxed
 have HAS:=zh ha
 have HBS:=zh hb
 obtain⟨cs,rfl⟩:=h.cells
 have B0:Hid (Below w.heap.size w (w.alloc (.cells cs 29))):=(zs9 _ _).alloc (zr4 _) _
 clear h ha hb
 go_enter Tryz.func21,Tryz.ntmps21
 go_wp2_with fail
 refine RD.out.mono ?_
 rintro en w1 ⟨hb,⟨hg,A,f,rfl,hfl⟩|⟨hng,rfl⟩⟩
 ·have HB:Hid (Below w.heap.size w w1):=B0.out.trans (hb.mono B0.out.size)
  have HG:=zh hg
  have HF:=zh hfl
  obtain⟨c,g,o,c1,hat⟩:=hfl.links
  have HAT:=zh hat
  have c4:w1.cell? ⟨f,4,none⟩=some (.map (some A.pl)):=(hfl.link hfl.fo.pos).f4
  have PM:=zh hfl.at'.pmap
  obtain⟨n,hn⟩:∃ n,n=(F0 ps e).length:=⟨_,rfl⟩
  rw [← hn] at c1
  have HN:=zh hn
  have hnz:(n:Int)≤20000:=by have:=hfl.len;omega
  clear hb hg hfl hat hn
  by_cases hA:a∈vars (F0 ps e)
  ·by_cases hB:b∈vars (F0 ps e)
   ·have ta:=zx.2 hA
    have tb:=zx.2 hB
    have HA:=zh hA
    have HB':=zh hB
    clear hA hB
    by_cases hab:a=b
    ·have dp:((place (F0 ps e) a:Int)==(place (F0 ps e) b:Int))=true:=by rw [hab];simp
     have E:Hid (conflict (F0 ps e) a b=false):=by show _=_;unfold conflict;rw [if_pos hab]
     clear hab
     go_wp2_with (at_lookup;first | (refine wpList_pis rfl _ (.tmp 26) rfl A.pl (vars (F0 ps e)) rfl PM.out a HAS.out rfl ?_;intro p hp;obtain rfl:=hp _ (place_at HA.out);rw [ta]) | (refine wpList_pis rfl _ (.tmp 35) rfl A.pl (vars (F0 ps e)) rfl PM.out b HBS.out rfl ?_;intro q hq;obtain rfl:=hq _ (place_at HB'.out);rw [tb]))
     go_ret2
     exact⟨HB.out,.inl ⟨HG.out,HA.out,HB'.out,by rw [E.out];rfl⟩⟩
    have dp:((place (F0 ps e) a:Int)==(place (F0 ps e) b:Int))=false:=by
     rw [beq_eq_false_iff_ne]
     intro h
     exact hab (place_inj HA.out HB'.out (by exact_mod_cast h))
    have E:Hid (conflict (F0 ps e) a b=(List.range (F0 ps e).length).any (clash (F0 ps e) a b)):=by show _=_;unfold conflict;rw [if_neg hab]
    clear hab
    go_wp2_with (at_lookup;first | (refine wpList_pis rfl _ (.tmp 26) rfl A.pl (vars (F0 ps e)) rfl PM.out a HAS.out rfl ?_;intro p hp;obtain rfl:=hp _ (place_at HA.out);rw [ta]) | (refine wpList_pis rfl _ (.tmp 35) rfl A.pl (vars (F0 ps e)) rfl PM.out b HBS.out rfl ?_;intro q hq;obtain rfl:=hq _ (place_at HB'.out);rw [tb]))
    go_loopw [53] (fun iv wr=>∃ k:Nat,k≤n∧iv = .int .i64 k∧Below w1.heap.size w1 wr∧∀ i,i<k→clash (F0 ps e) a b i=false) (fun iv _=>n - (intOf iv).toNat)
    case atStart=>exact⟨0,Nat.zero_le _,rfl,zs9 _ _,fun i hi=>absurd hi (Nat.not_lt_zero i)⟩
    obtain⟨k,hk,rfl,hb,hno⟩:=hrel
    have HK:=zh hk
    have HBW:=zh hb
    have HNO:=zh hno
    clear hk hb hno c1 c4
    by_cases hlt:k<n
    ·have hlz:(k:Int)<n:=by omega
     have HLT:=zh hlt
     have hci:=zd HBW.out _ _ (HAT.out k (by rw [← HN.out];exact hlt))
     have LK:=zh ((HF.out.link (i:=k) (by rw [← HN.out];exact hlt)).keep HBW.out)
     obtain⟨sv,hsv,hst⟩:=LK.out.l0
     have HST:=zh hst
     obtain⟨-,sa,sc,rfl,-⟩:=id hst
     obtain⟨bl,hbl⟩:∃ bl,bl=(nd (F0 ps e) k).binds:=⟨_,rfl⟩
     obtain⟨bn,hbn⟩:∃ bn,bn=bl.length:=⟨_,rfl⟩
     rw [← hbl,← hbn] at hsv
     rw [← hbl,← hbn] at HST
     have HBL:=zh (And.intro hbl hbn)
     have HLL:Hid (bl.length≤1000000000):=by have:=LK.out.nb;rw [← hbl] at this;show _≤_;omega
     have CA:Hid (∀ (x:Nm) (m:Nat),Calls Tryz.prog 59 #[.slice sa bn sc,.string x] (wr.drewN m) fun e w'=>e = .returned (.bool (RG.has bl x))∧w'=wr.drewN m):=fun x m=>contains_any x (StrsAt.kept HST.out (zd (zj _ _ _))) HLL.out
     clear hst hlt hbl hbn
     go_upto_region 13 with (fail)
     go_quiet ((go_at_call 59;exact Calls.quiet_of_same (CA.out _ _)))
     go_wp2_with fail
     refine(crossing_any (LK.out.keep (zj _ _ _))).mono ?_
     rintro en w2 ⟨b1,rfl,hb1,hs2,hb2⟩
     have HB2:Hid (Below w1.heap.size w1 w2):=(HBW.out.trans (zj _ _ _)).trans (hb2.mono HBW.out.size)
     obtain⟨qa,hqa⟩:∃ q,q=cross (F0 ps e) k a:=⟨_,rfl⟩
     obtain⟨qb,hqb⟩:∃ q,q=cross (F0 ps e) k b:=⟨_,rfl⟩
     obtain⟨ba,hba⟩:∃ q,q=RG.has bl a:=⟨_,rfl⟩
     obtain⟨bb,hbb⟩:∃ q,q=RG.has bl b:=⟨_,rfl⟩
     have wfp:∀ x∈vars (F0 ps e),(Lit.int .i64 (place (F0 ps e) x:Int)).wf=true:=fun x hx=>wf_nat (by have:=place_lt hx;have:=HF.out.few;omega)
     have ea:=imap_run hs2 (wfp a HA.out) 108 Tryz.underlying108
     have eb:=imap_run hs2 (wfp b HB'.out) 108 Tryz.underlying108
     rw [vset_at HF.out.fo.once HA.out,← hqa] at ea
     rw [vset_at HF.out.fo.once HB'.out,← hqb] at eb
     have CL:Hid (clash (F0 ps e) a b k=((ba&&(bb||qb))||(bb&&qa))):=by show _=_;unfold clash;rw [← HBL.out.1,hba,hbb,hqa,hqb]
     rw [← hba,← hbb]
     clear hb1 hs2 hb2 hqa hqb hba hbb wfp hsv hci
     cases ba<;>cases bb<;>cases qa<;>cases qb
     all_goals
      simp only [if_true,if_false,Bool.false_eq_true] at ea eb
      first
       | (have C0:Hid (clash (F0 ps e) a b k=false):=CL.out
          have NX:Hid (∀ i,i<k+1→clash (F0 ps e) a b i=false):=fun i hi=>by
           by_cases e2:i=k
           ·rw [e2];exact C0.out
           exact HNO.out i (by omega)
          go_wp2_with fail
          go_roundw
          case rel=>exact⟨k+1,HLT.out,by go_num,HB2.out,NX.out⟩
          case measure=>have:=HLT.out;simp [intOf];omega)
       | (have C1:Hid (clash (F0 ps e) a b k=true):=CL.out
          have E2:Hid (conflict (F0 ps e) a b=true):=by
           show _=_
           rw [E.out,List.any_eq_true]
           exact⟨k,List.mem_range.2 (by rw [← HN.out];exact HLT.out),C1.out⟩
          go_wp2_with fail
          go_ret2
          exact⟨HB.out.trans (HB2.out.mono HB.out.size),.inl ⟨HG.out,HA.out,HB'.out,by rw [E2.out];rfl⟩⟩)
    have hlz:(n:Int)≤k:=by omega
    have E2:Hid (conflict (F0 ps e) a b=false):=by
     show _=_
     rw [E.out,List.any_eq_false]
     intro i hi
     have h1:=List.mem_range.1 hi
     rw [HNO.out i (by have:=HN.out;omega)]
     decide
    clear hlt
    go_wp2_with fail
    go_ret2
    exact⟨HB.out.trans (HBW.out.mono HB.out.size),.inl ⟨HG.out,HA.out,HB'.out,by rw [E2.out];rfl⟩⟩
   have HA:=zh hA
   have ta:=zx.2 hA
   have tb:RG.has (vars (F0 ps e)) b=false:=by cases hq:RG.has (vars (F0 ps e)) b with | false=>rfl | true=>exact absurd (zx.1 hq) hB
   have NB:=zh hB
   clear hA hB
   go_wp2_with (at_lookup;first | (refine wpList_pis rfl _ (.tmp 26) rfl A.pl (vars (F0 ps e)) rfl PM.out a HAS.out rfl ?_;intro p hp;clear hp;rw [ta]) | (refine wpList_pis rfl _ (.tmp 35) rfl A.pl (vars (F0 ps e)) rfl PM.out b HBS.out rfl ?_;intro q hq;clear hq;rw [tb]))
   go_ret2
   exact⟨HB.out,.inr (.inl ⟨HG.out,.inr NB.out,rfl⟩)⟩
  have ta:RG.has (vars (F0 ps e)) a=false:=by cases hq:RG.has (vars (F0 ps e)) a with | false=>rfl | true=>exact absurd (zx.1 hq) hA
  have NA:=zh hA
  clear hA
  cases tb:RG.has (vars (F0 ps e)) b with
  | true =>
   go_wp2_with (at_lookup;first | (refine wpList_pis rfl _ (.tmp 26) rfl A.pl (vars (F0 ps e)) rfl PM.out a HAS.out rfl ?_;intro p hp;clear hp;rw [ta]) | (refine wpList_pis rfl _ (.tmp 35) rfl A.pl (vars (F0 ps e)) rfl PM.out b HBS.out rfl ?_;intro q hq;clear hq;rw [tb]))
   go_ret2
   exact⟨HB.out,.inr (.inl ⟨HG.out,.inl NA.out,rfl⟩)⟩
  | false =>
   go_wp2_with (at_lookup;first | (refine wpList_pis rfl _ (.tmp 26) rfl A.pl (vars (F0 ps e)) rfl PM.out a HAS.out rfl ?_;intro p hp;clear hp;rw [ta]) | (refine wpList_pis rfl _ (.tmp 35) rfl A.pl (vars (F0 ps e)) rfl PM.out b HBS.out rfl ?_;intro q hq;clear hq;rw [tb]))
   go_ret2
   exact⟨HB.out,.inr (.inl ⟨HG.out,.inl NA.out,rfl⟩)⟩
 have HB:Hid (Below w.heap.size w w1):=B0.out.trans (hb.mono B0.out.size)
 have HG:=zh hng
 clear hb hng
 go_wp2_with fail
 go_ret2
 exact⟨HB.out,.inr (.inr ⟨HG.out,rfl⟩)⟩
end Go.Proofs.YtnkahlloahgifaaGreatDoor
namespace Go.Proofs.YtnkahlloahgifaaGreatDoor
open Go
section
variable {P:Program} {ops:Array Oper} {Q:Exit→Act→World→Prop} {md:Region.Mode} {S:World→Prop}
def wpHL (P:Program) (md:Region.Mode) (ops:Array Oper) (Q:Exit→Act→World→Prop) (S:World→Prop) (n:Nat) (L:Array Bool→Act→World→Prop):Nat→Array Bool→Act→World→Prop
 | 0,listed,a,w=>L listed a w
 | f+1,listed,a,w=>Region.ready md ops listed≠[]∧∀ i∈Region.ready md ops listed,i<n∧wpOp P ops Q i (fun a' w'=>S w'∧wpHL P md ops Q S n L f (listed.setIfInBounds i true) a' w') a w
theorem wpAny_of_hl {n g:Nat}{L:Array Bool→Act→World→Prop}(hL:∀ listed a w,L listed a w→wpAny P md ops Q g listed a w) :
  ∀ (f:Nat) (listed:Array Bool) (a:Act) (w:World),wpHL P md ops Q S n L f listed a w→wpAny P md ops Q (f+g) listed a w
 | 0,listed,a,w,h=>by rw [Nat.zero_add];exact hL _ _ _ h
 | f+1,listed,a,w,h=>by
  rw [show f+1+g=(f+g)+1 by omega]
  exact⟨fun h0=>absurd h0 h.1,fun i hi=>wpOp_mono (fun a' w' h'=>wpAny_of_hl hL f _ a' w' h'.2) (h.2 i hi).2⟩
theorem wpHL_first {n i:Nat}{oi:Oper}{v:Value}{L:Array Bool→Act→World→Prop}(hi:ops[i]?=some oi) (hsel:∀ (j:Nat) (o:Oper) cs b,ops[j]?=some o→o.op ≠ .select cs b)
  (hs:Region.sinkB md ops n=true) (hc:Region.chainB md ops n=true) (hn:n<ops.size) (hin:i<n)
  (hQ:∀ c a w,Q (.panic c) (a.put oi.dst v) w→Q (.panic c) a w) (hdone:∀ listed a w,L listed a w→∀ j∈Region.ready md ops listed,n≤j) :
  ∀ (f:Nat) (listed:Array Bool) (a:Act) (w:World),HeadInv md ops n listed →
   (∀ j oj,ops[j]?=some oj→j≠i→listed.getD j true=false→(∀ e∈oj.after,Region.binds md e=true→e.on≠i)→oi.apart ops oj=true) →
   i∈Region.ready md ops listed→YieldsIf P ops S oi v a→S w →
   wpHL P md ops Q S n L f (listed.setIfInBounds i true) (a.put oi.dst v) w→wpHL P md ops Q S n L (f+1) listed a w:=by
 intro f
 induction f with
 | zero =>
  intro listed a w inv _ hr hy hS H
  have hun:=(mem_ready.1 hr).1
  refine⟨fun h=>(by rw [h] at hr;cases hr),fun j hj=>?_⟩
  have hjn:j<n:=by
   rcases Nat.lt_or_ge j n with h | h
   ·exact h
   exact absurd hj (tail_waits hs hc hn inv _ i rfl hin hun j h)
  refine⟨hjn,?_⟩
  by_cases hji:j=i
  ·subst hji;exact hy.wpOp hi hS ⟨hS,H⟩
  have:=hdone _ _ _ H j (ready_mono hj hji)
  omega
 | succ f ih =>
  intro listed a w inv hfree hr hy hS H
  have hun:=(mem_ready.1 hr).1
  refine⟨fun h=>(by rw [h] at hr;cases hr),fun j hj=>?_⟩
  have hjn:j<n:=by
   rcases Nat.lt_or_ge j n with h | h
   ·exact h
   exact absurd hj (tail_waits hs hc hn inv _ i rfl hin hun j h)
  refine⟨hjn,?_⟩
  by_cases hji:j=i
  ·subst hji;exact hy.wpOp hi hS ⟨hS,H⟩
  have h1:=(H.2 j (ready_mono hj hji)).2
  obtain⟨hjun,oj,hoj,hall⟩:=mem_ready.1 hj
  have hnot:∀ e∈oj.after,Region.binds md e=true→e.on≠i:=fun e he hb heq=>by
   have h1:=hall e he hb
   rw [heq,getD_both hun] at h1
   cases h1
  have h2:=wpOp_putIf hoj (hfree j oj hoj hji hjun hnot) (fun cs b=>hsel i oi cs b hi) (fun cs b=>hsel j oj cs b hoj) hQ hy h1
  have hfree':∀ k ok,ops[k]?=some ok→k≠i→(listed.setIfInBounds j true).getD k true=false →
    (∀ e∈ok.after,Region.binds md e=true→e.on≠i)→oi.apart ops ok=true:=fun k ok hk hki hkun hno=>by
   refine hfree k ok hk hki ?_ hno
   by_cases hjk:j=k
   ·subst hjk;exact hjun
   rw [getD_set_ne true hjk] at hkun;exact hkun
  refine wpOp_mono (fun a' w' h3=>⟨h3.2.1,ih (listed.setIfInBounds j true) a' w' (inv.set hj hjn) hfree' (ready_mono hr (Ne.symm hji)) h3.1 h3.2.1 ?_⟩) h2
  rw [Array.setIfInBounds_comm _ _ hji]
  exact h3.2.2
def nths (b:Bool):List Bool→Nat→List Nat
 | [],_=>[]
 | c :: fl,k=>if c=b then k :: nths b fl (k+1) else nths b fl (k+1)
def behind:List Bool→List Oper→List Oper
 | _ :: fl,_ :: l=>behind fl l
 | _,l=>l
def rds (fl:List Bool) (l:List Oper):List Oper:=match fl,l with
 | true :: fl,o :: l=>o :: rds fl l
 | false :: fl,_ :: l=>rds fl l
 | _,_=>[]
def efs (fl:List Bool) (l:List Oper):List Oper:=match fl,l with
 | true :: fl,_ :: l=>efs fl l
 | false :: fl,o :: l=>o :: efs fl l
 | _,_=>[]
theorem rds_at:∀ (fl:List Bool) (l:List Oper) (k:Nat) (ops:Array Oper),(∀ j,l[j]?=ops[k+j]?)→fl.length≤l.length→∀ (j i:Nat),(nths true fl k)[j]?=some i→(rds fl l)[j]?=ops[i]?
 | [],_,_,_,_,_,j,i,h=>by simp [nths] at h
 | _ :: _,[],_,_,_,hl,_,_,_=>by simp at hl
 | true :: fl,o :: l,k,ops,ho,hl,j,i,h=>by
  simp only [nths,if_true] at h
  match j,h with
  | 0,h=>simp at h;subst h;have:=ho 0;simpa [rds] using this
  | j+1,h =>
   simp only [List.getElem?_cons_succ] at h
   simp only [rds,List.getElem?_cons_succ]
   exact rds_at fl l (k+1) ops (fun q=>by have:=ho (q+1);simpa [Nat.add_assoc,Nat.add_comm 1 q] using this) (by simpa using hl) j i h
 | false :: fl,o :: l,k,ops,ho,hl,j,i,h=>by
  simp only [nths,Bool.false_eq_true,if_false] at h
  simp only [rds]
  exact rds_at fl l (k+1) ops (fun q=>by have:=ho (q+1);simpa [Nat.add_assoc,Nat.add_comm 1 q] using this) (by simpa using hl) j i h
theorem efs_at:∀ (fl:List Bool) (l:List Oper) (k:Nat) (ops:Array Oper),(∀ j,l[j]?=ops[k+j]?)→fl.length≤l.length→∀ (j i:Nat),(nths false fl k)[j]?=some i→(efs fl l)[j]?=ops[i]?
 | [],_,_,_,_,_,j,i,h=>by simp [nths] at h
 | _ :: _,[],_,_,_,hl,_,_,_=>by simp at hl
 | false :: fl,o :: l,k,ops,ho,hl,j,i,h=>by
  simp only [nths,if_true] at h
  match j,h with
  | 0,h=>simp at h;subst h;have:=ho 0;simpa [efs] using this
  | j+1,h =>
   simp only [List.getElem?_cons_succ] at h
   simp only [efs,List.getElem?_cons_succ]
   exact efs_at fl l (k+1) ops (fun q=>by have:=ho (q+1);simpa [Nat.add_assoc,Nat.add_comm 1 q] using this) (by simpa using hl) j i h
 | true :: fl,o :: l,k,ops,ho,hl,j,i,h=>by
  simp only [nths,Bool.true_eq_false,if_false] at h
  simp only [efs]
  exact efs_at fl l (k+1) ops (fun q=>by have:=ho (q+1);simpa [Nat.add_assoc,Nat.add_comm 1 q] using this) (by simpa using hl) j i h
theorem rds_length:∀ (fl:List Bool) (l:List Oper) (k:Nat),fl.length≤l.length→(rds fl l).length=(nths true fl k).length
 | [],l,k,_=>by cases l<;>rfl
 | _ :: _,[],_,h=>by simp at h
 | true :: fl,o :: l,k,h=>by simp only [rds,nths,if_true,List.length_cons];rw [rds_length fl l (k+1) (by simpa using h)]
 | false :: fl,o :: l,k,h=>by simp only [rds,nths,Bool.false_eq_true,if_false];exact rds_length fl l (k+1) (by simpa using h)
theorem efs_length:∀ (fl:List Bool) (l:List Oper) (k:Nat),fl.length≤l.length→(efs fl l).length=(nths false fl k).length
 | [],l,k,_=>by cases l<;>rfl
 | _ :: _,[],_,h=>by simp at h
 | false :: fl,o :: l,k,h=>by simp only [efs,nths,if_true,List.length_cons];rw [efs_length fl l (k+1) (by simpa using h)]
 | true :: fl,o :: l,k,h=>by simp only [efs,nths,Bool.true_eq_false,if_false];exact efs_length fl l (k+1) (by simpa using h)
theorem nths_sum (fl:List Bool):∀ k,(nths true fl k).length+(nths false fl k).length=fl.length:=by
 induction fl with
 | nil=>intro k;rfl
 | cons b fl ih=>intro k;cases b<;>simp only [nths,Bool.false_eq_true,Bool.true_eq_false,if_true,if_false,List.length_cons]<;>have:=ih (k+1)<;>omega
theorem behind_at:∀ (fl:List Bool) (l:List Oper),fl.length≤l.length→behind fl l=l.drop fl.length
 | [],l,_=>by cases l<;>rfl
 | _ :: _,[],h=>by simp at h
 | b :: fl,o :: l,h=>by simp only [behind,List.length_cons,List.drop_succ_cons];exact behind_at fl l (by simpa using h)
def effB (md:Region.Mode) (ops:Array Oper) (n g:Nat):List Nat→Array Bool→Bool
 | [],listed=>Region.seqB md ops g n listed
 | k :: r,listed=>decide (Region.ready md ops listed=[k])&&decide (k<n)&&effB md ops n g r (listed.setIfInBounds k true)
def ordB (md:Region.Mode) (ops:Array Oper) (n g:Nat) (es:List Nat):List Nat→Array Bool→Bool
 | [],listed=>effB md ops n g es listed
 | k :: r,listed=>(Region.ready md ops listed).contains k&&Region.free md ops listed k&&decide (k<n)&&ordB md ops n g es r (listed.setIfInBounds k true)
def partB (md:Region.Mode) (ops:Array Oper) (fl:List Bool):Bool :=
 Region.noSelect ops&&decide (fl.length<ops.size)&&Region.sinkB md ops fl.length&&Region.chainB md ops fl.length &&
  ordB md ops fl.length (ops.size - fl.length) (nths false fl 0) (nths true fl 0) (Array.replicate ops.size false)
def wpRd (P:Program) (ops:Array Oper) (S:World→Prop) (L:Act→Prop):List Oper→Act→Prop
 | [],a=>L a
 | o :: r,a=>∃ v,YieldsIf P ops S o v a∧wpRd P ops S L r (a.put o.dst v)
def wpEf (P:Program) (ops:Array Oper) (Q:Exit→Act→World→Prop) (S:World→Prop) (L:Act→World→Prop):List Oper→Act→World→Prop
 | [],a,w=>L a w
 | o :: r,a,w=>if Region.wanted o (yielded ops a.tmps)=true then Oper.wp P o a w (fun a' w'=>S w'∧wpEf P ops Q S L r a' w') Q else S w∧wpEf P ops Q S L r (a.put o.dst undef) w
theorem wpHL_of_ef {n g:Nat}{L:Act→World→Prop}:∀ (l:List Oper) (es:List Nat) (listed:Array Bool) (a:Act) (w:World),l.length=es.length→(∀ (j i:Nat),es[j]?=some i→l[j]?=ops[i]?) →
  effB md ops n g es listed=true→wpEf P ops Q S L l a w→wpHL P md ops Q S n (fun listed' a' w'=>Region.seqB md ops g n listed'=true∧L a' w') l.length listed a w
 | [],[],listed,a,w,_,_,hB,h=>⟨hB,h⟩
 | [],_ :: _,_,_,_,hl,_,_,_=>by simp at hl
 | _ :: _,[],_,_,_,hl,_,_,_=>by simp at hl
 | o :: l,k :: es,listed,a,w,hl,hat,hB,h=>by
  simp only [effB,Bool.and_eq_true,decide_eq_true_eq] at hB
  obtain⟨⟨hr,hk⟩,hB'⟩:=hB
  have h0:ops[k]?=some o:=by have:=hat 0 k rfl;simpa using this.symm
  refine⟨fun h1=>(by rw [hr] at h1;cases h1),fun i hi=>?_⟩
  rw [hr] at hi
  have hik:i=k:=by simpa using hi
  subst hik
  refine⟨hk,?_⟩
  have step:∀ a' w',(S w'∧wpEf P ops Q S L l a' w')→S w'∧wpHL P md ops Q S n (fun listed' a' w'=>Region.seqB md ops g n listed'=true∧L a' w') l.length (listed.setIfInBounds i true) a' w' :=
   fun a' w' h'=>⟨h'.1,wpHL_of_ef l es _ a' w' (by simpa using hl) (fun j q hq=>by have:=hat (j+1) q (by simpa using hq);simpa using this) hB' h'.2⟩
  refine wpOp_step h0 fun K' hK=>?_
  unfold wpEf at h
  split
  ·rename_i hw
   rw [if_pos hw] at h
   exact Oper.wp_mono (fun a' w' h'=>hK _ _ (step a' w' h')) h
  rename_i hw
  rw [if_neg hw] at h
  exact hK _ _ (step _ _ h)
theorem wpHL_of_rd {n g:Nat}{es:List Nat}{ef:List Oper}{L:Act→World→Prop}{w:World}(hsel:Region.noSelect ops=true) (hs:Region.sinkB md ops n=true) (hc:Region.chainB md ops n=true) (hn:n<ops.size)
  (hQ:∀ c a d v w,Q (.panic c) (Act.put a d v) w→Q (.panic c) a w) (hS:S w)
  (hel:ef.length=es.length) (heat:∀ (j i:Nat),es[j]?=some i→ef[j]?=ops[i]?) :
  ∀ (l:List Oper) (rs:List Nat) (listed:Array Bool) (a:Act),l.length=rs.length→(∀ (j i:Nat),rs[j]?=some i→l[j]?=ops[i]?)→HeadInv md ops n listed →
  ordB md ops n g es rs listed=true→wpRd P ops S (fun a'=>wpEf P ops Q S L ef a' w) l a →
  wpHL P md ops Q S n (fun listed' a' w'=>Region.seqB md ops g n listed'=true∧L a' w') (l.length+ef.length) listed a w
 | [],[],listed,a,_,_,inv,hB,h=>by
  simp only [List.length_nil,Nat.zero_add]
  exact wpHL_of_ef ef es listed a w hel heat hB h
 | [],_ :: _,_,_,hl,_,_,_,_=>by simp at hl
 | _ :: _,[],_,_,hl,_,_,_,_=>by simp at hl
 | o :: l,k :: rs,listed,a,hl,hat,inv,hB,h=>by
  simp only [ordB,Bool.and_eq_true,decide_eq_true_eq] at hB
  obtain⟨⟨⟨hr,hf⟩,hk⟩,hB'⟩:=hB
  have h0:ops[k]?=some o:=by have:=hat 0 k rfl;simpa using this.symm
  have hr':k∈Region.ready md ops listed:=by simpa using hr
  obtain⟨v,hy,h'⟩:=h
  have H:=wpHL_of_rd hsel hs hc hn hQ hS hel heat l rs (listed.setIfInBounds k true) (a.put o.dst v) (by simpa using hl) (fun j q hq=>by have:=hat (j+1) q (by simpa using hq);simpa using this) (inv.set hr' hk) hB' h'
  rw [show (o :: l).length+ef.length=(l.length+ef.length)+1 from by simp only [List.length_cons];omega]
  exact wpHL_first h0 (Region.noSelect_spec hsel) hs hc hn hk (fun c a' w'=>hQ c a' _ _ w') (fun listed' a' w' hL=>seqB_ready hL.1) (l.length+ef.length) listed a w inv (Region.free_spec h0 hf) hr' hy hS H
theorem wp_region_part {id : Nat} {a : Act} {w : World} {l : List Oper} (fl : List Bool) (hm : P.follows .mixedOrders = true) (hB : partB .any l.toArray fl = true)
    (hQ : ∀ c a d v w, Q (.panic c) (Act.put a d v) w → Q (.panic c) a w) (hS : S w.drew)
    (h : wpRd P l.toArray S (fun a' => wpEf P l.toArray Q S (fun a'' w'' => wpList P l.toArray Q (behind fl l) a'' w'') (efs fl l) a' w.drew) (rds fl l) a) : (Code.region id l.toArray true).wp P Q a w := by
  simp only [partB, Bool.and_eq_true, decide_eq_true_eq] at hB
  obtain ⟨⟨⟨⟨hsel, hn⟩, hs⟩, hc⟩, hord⟩ := hB
  have hfl : fl.length ≤ l.length := by have : fl.length < l.length := by simpa using hn
                                        omega
  have inv0 : HeadInv .any l.toArray fl.length (Array.replicate l.toArray.size false) :=
    ⟨by simp, fun j oj _ hl => (by rw [getD_replicate_false] at hl; cases hl), fun t _ ht => getD_in (by simpa using ht) (getD_replicate_false _ _)⟩
  have H := wpHL_of_rd (md := .any) (Q := Q) (L := fun a'' w'' => wpList P l.toArray Q (behind fl l) a'' w'') (g := l.toArray.size - fl.length) hsel hs hc hn hQ hS (efs_length fl l 0 hfl) (efs_at fl l 0 l.toArray (fun j => by simp) hfl)
    (rds fl l) (nths true fl 0) _ a (rds_length fl l 0 hfl) (rds_at fl l 0 l.toArray (fun j => by simp) hfl) inv0 hord h
  refine wp_region_any hm ?_
  have hdl : (behind fl l).length = l.toArray.size - fl.length := by rw [behind_at fl l hfl]; simp
  have := wpAny_of_hl (Q := Q) (g := l.toArray.size - fl.length) (fun listed a' w' hL => by
    have := wpAny_of_seq (md := .any) (Q' := Q) (behind fl l) fl.length listed a' w' (fun j => by rw [behind_at fl l hfl]; simp [List.getElem?_drop]) (by rw [hdl]; exact hL.1) hL.2
    rwa [hdl] at this) _ _ _ _ H
  rw [rds_length fl l 0 hfl, efs_length fl l 0 hfl, nths_sum, show fl.length + (l.toArray.size - fl.length) = l.toArray.size by omega] at this
  exact this
theorem wpRd_step {L:Act→Prop}{o:Oper}{r:List Oper}{a:Act}{v:Value}(hy:YieldsIf P ops S o v a) (h:wpRd P ops S L r (a.put o.dst v)):wpRd P ops S L (o :: r) a:=⟨v,hy,h⟩
theorem wpEf_step {L:Act→World→Prop}{o:Oper}{r:List Oper}{a:Act}{w:World}
  (h:∀ K':Act→World→Prop,Shut (∀ a w,S w→(S w→wpEf P ops Q S L r a w)→K' a w)→if Region.wanted o (yielded ops a.tmps)=true then Oper.wp P o a w K' Q else K' (a.put o.dst undef) w):wpEf P ops Q S L (o :: r) a w:=by
 have:=h (fun a' w'=>S w'∧wpEf P ops Q S L r a' w') (fun a w hS hW=>⟨hS,hW hS⟩)
 unfold wpEf
 exact this
theorem wpEf_nil {L:Act→World→Prop}{a:Act}{w:World}(h:L a w):wpEf P ops Q S L [] a w:=h
end
end Go.Proofs.YtnkahlloahgifaaGreatDoor
