/- Part. -/
import Derived.Test.YtnkahlloahgifaaGreatDoorVLxE
import Derived.StillTailTactics
import Derived.Test.YtnkahlloahgifaaGreatDoorVShelf
import Derived.RangeFuncRecord
import Derived.MapKept
import Derived.Lib.AtoiAll
import Derived.Lib.ItoaNum
import Derived.Lib.Replace
import Derived.Lib.CountLaws
import Derived.Outline
set_option linter.unusedSimpArgs false
set_option linter.unusedVariables false
namespace Go.Proofs.YtnkahlloahgifaaGreatDoor.Lx
open Go.RowKit
def tokV (k v:Int) (t:ByteArray) (p:Int):Value := .agg #[.int .i64 k,.int .i64 v,.string t,.int .i64 p]
def MPost (w:World) (s:ByteArray) (i:Nat) (k:Int) (n:Nat) (e:Ending) (w':World):Prop :=
 if 24<n then e=thrown i 2∧Below w.heap.size w w' else e = .returned (tokV k 0 (s.extract i (i+n)) i)∧Below w.heap.size w w'
set_option maxHeartbeats 1000000 in
set_option maxRecDepth 20000 in
theorem made_any {w:World}{b:Nat}{s:ByteArray}{i mb:Nat}{cv:Value}(h:Sc w b s i mb cv) (k:Int) (n:Nat) (hn:i+n≤s.size) :
  Calls Tryz.prog 154 #[.pointer (some ⟨b,0,none⟩),.int .i64 k,.int .i64 n] w (MPost w s i k n):=by
 obtain⟨c0,c1,lt,le,sz⟩:=h.at'
 have hnz:(i:Int)+(n:Int)≤(s.size:Int):=by omega
 have hsz:(s.size:Int)≤400000:=by omega
 by_cases h24:24<n
 ·have h24z:(24:Int)<(n:Int):=by omega
  have HN:=zh h24
  clear h24 h
  go_enter Tryz.func154,Tryz.ntmps154
  go_wp2_with fail
  refine⟨rfl,?_⟩
  unfold MPost
  rw [if_pos HN.out]
  exact⟨rfl,(Below.refl _ _).alloc (Nat.le_refl _) _⟩
 ·have h24z:(n:Int)≤24:=by omega
  have HN:=zh h24
  have hsl:∀ m:World,(Instr.slice 9 (.string s) (some (.int .i64 i)) (some (.int .i64 ((i:Int)+(n:Int)))) none).run Tryz.prog m = .ok (.string (s.extract i (i+n))) m:=fun m=>by
   have:=run_slice_string (P:=Tryz.prog) m 9 s .i64 .i64 i ((i:Int)+(n:Int)) Tryz.underlying9 (by omega) (by omega) (by omega)
   rw [this]
   have e:((i:Int)+(n:Int)).toNat=i+n:=by omega
   rw [e]
   simp
  have hwr:IntKind.i64.wrap ((i:Int)+(n:Int))=(i:Int)+(n:Int):=wrap_in _ (by omega)
  clear h24 h
  go_enter Tryz.func154,Tryz.ntmps154
  go_wp2_with fail
  refine wp_region_still_tail 25 (by kernel_rfl) (by kernel_rfl) ?_
  simp only [List.take_succ_cons,List.take_zero,List.drop_succ_cons,List.drop_zero,World.drew_eq]
  iterate 25 still_step
  refine wpStill_nil ?_
  go_wp2_with fail
  go_returns
  unfold MPost
  rw [if_neg HN.out]
  exact⟨rfl,((Below.refl _ _).alloc (Nat.le_refl _) _).drew⟩
def Wd (w:World) (mb:Nat):Prop:=∃ es clock,w.heap[mb]?=some (.map es clock)∧∀ (W:World) (t:ByteArray),W.heap[mb]?=some (.map es clock) →
 (Instr.lookup 116 (.map (some mb)) (.string t) true).run Tryz.prog W = .ok (.tuple #[.int .i64 (if LX.words.contains (bts t) then 5 else 0),.bool (LX.words.contains (bts t))]) W
def TPost (w:World) (s:ByteArray) (i:Nat):LX.TR→Ending→World→Prop
 | .tok k v n,e,w'=>e = .returned (tokV k v (s.extract i (i+n)) i)∧Below w.heap.size w w'
 | .bad er,e,w'=>e=thrown i er∧Below w.heap.size w w'
theorem nameLen_eq (s:ByteArray) (i n:Nat) (hn:n=LX.run LX.part ((bts s).drop i)) :
  LX.nameLen ((bts s).drop i)=if (bts s).getD (i+n) 0=39∧0<LX.run LX.digit ((bts s).drop (i+(n+1))) then n+1+LX.run LX.digit ((bts s).drop (i+(n+1))) else n:=by
 unfold LX.nameLen
 rw [← hn]
 simp only [List.drop_drop]
 cases h:(bts s).drop (i+n) with
 | nil =>
  have hl:(bts s).length≤i+n:=List.drop_eq_nil_iff.1 h
  have e:(bts s).getD (i+n) 0=0:=by rw [List.getD_eq_getElem?_getD,List.getElem?_eq_none hl];rfl
  rw [if_neg (by rw [e];simp)]
 | cons c t =>
  have hl:i+n<(bts s).length:=by
   rcases Nat.lt_or_ge (i+n) (bts s).length with h2 | h2
   ·exact h2
   ·rw [List.drop_of_length_le h2] at h;cases h
  rw [List.drop_eq_getElem_cons hl] at h
  simp only [List.cons.injEq] at h
  obtain⟨h1,h2⟩:=h
  have e:(bts s).getD (i+n) 0=c:=by rw [List.getD_eq_getElem?_getD,List.getElem?_eq_getElem hl,← h1];rfl
  rw [e,show i+(n+1)=i+n+1 from by omega,h2]
theorem results_one_cell {fn:Func}{p:Tmp}{ty:TypeId}(h:fn.results = #[.cell p ty]) (tmps:Array Value) (P:Program) (w:World) :
  (results fn tmps).run P w=((asAddr (tmps.getD p undef)).run P w).andThen fun a w₁=>(loadVar ty a).run P w₁:=by
 simp only [results,h]
 simp [Sem.run_bind,Result.andThen]
theorem load39 {w:World}{b:Nat}{k v:Int}{t:ByteArray}{p:Int}(h:w.heap[b]?=some (.cells #[.int .i64 k,.int .i64 v,.string t,.int .i64 p] 154 (0,0))):(loadVar 154 ⟨b,0,none⟩).run Tryz.prog w = .ok (tokV k v t p) w:=by
 have h0:w.cell? ⟨b,0,none⟩=some (.int .i64 k):=by rw [cell_of_row _ _ 0 _ _ _ h];rfl
 have h1:w.cell? ⟨b,1,none⟩=some (.int .i64 v):=by rw [cell_of_row _ _ 1 _ _ _ h];rfl
 have h2:w.cell? ⟨b,2,none⟩=some (.string t):=by rw [cell_of_row _ _ 2 _ _ _ h];rfl
 have h3:w.cell? ⟨b,3,none⟩=some (.int .i64 p):=by rw [cell_of_row _ _ 3 _ _ _ h];rfl
 simp [loadVar,go_sem,h0,h1,h2,h3,tokV]
theorem four_set {w:World}{b:Nat}{x0 x1 x2 x3:Value}{T:TypeId}(h:w.heap[b]?=some (.cells #[x0,x1,x2,x3] T (0,0))) (u0 u1 u2 u3:Value) :
  ((((w.setCell ⟨b,0,none⟩ u0).setCell ⟨b,1,none⟩ u1).setCell ⟨b,2,none⟩ u2).setCell ⟨b,3,none⟩ u3).heap[b]?=some (.cells #[u0,u1,u2,u3] T (0,0)):=by
 have h1:=heap_setCell_same w b 0 _ _ u0 h
 have h2:=heap_setCell_same _ b 1 _ _ u1 h1
 have h3:=heap_setCell_same _ b 2 _ _ u2 h2
 have h4:=heap_setCell_same _ b 3 _ _ u3 h3
 exact h4
theorem below_drawn {B:Nat}{w w':World}(h:Below B w w') (m:Nat):Below B w (w'.drewN m):=⟨h.os,h.tape,h.output,h.size,h.block⟩
theorem below_of_drew {B m:Nat}{w w':World}(h:Below B (w.drewN m) w'):Below B w w':=⟨h.os,h.tape,h.output,h.size,h.block⟩
set_option maxHeartbeats 2000000 in
set_option maxRecDepth 20000 in
theorem name_any {w:World}{b:Nat}{s:ByteArray}{i mb:Nat}{cv:Value}(h:Sc w b s i mb cv) (hw:Wd w mb) (hmb:mb≠b) (k:Nat) (hk:k≤5) (hi:i<s.size) :
  Calls Tryz.prog 152 #[.pointer (some ⟨b,0,none⟩),.int .i64 k] w (TPost w s i (LX.named k ((bts s).drop i))):=by
 obtain⟨c0,c1,lt,le,sz⟩:=h.at'
 obtain⟨r,hr⟩:∃ r,r=LX.named k ((bts s).drop i):=⟨_,rfl⟩
 rw [← hr]
 obtain⟨n,hn⟩:∃ n,n=LX.run LX.part ((bts s).drop i):=⟨_,rfl⟩
 obtain⟨c,hc⟩:∃ c,c=(bts s).getD (i+n) 0:=⟨_,rfl⟩
 obtain⟨d,hd⟩:∃ d,d=LX.run LX.digit ((bts s).drop (i+(n+1))):=⟨_,rfl⟩
 have hnl:=nameLen_eq s i n hn
 rw [← hc,← hd] at hnl
 have hns:i+n≤s.size:=by
  have:=run_le LX.part ((bts s).drop i)
  rw [List.length_drop,bts_length] at this
  omega
 have hds:0<d→i+(n+1)+d≤s.size:=fun h0=>by
  have:=run_le LX.digit ((bts s).drop (i+(n+1)))
  rw [List.length_drop,bts_length,← hd] at this
  omega
 have ATW:Hid (∀ W:World,W.heap[b]?=w.heap[b]?→At W b s i):=fun W e=>⟨by rw [World.cell?_of_block (w:=w) e];exact c0,by rw [World.cell?_of_block (w:=w) e];exact c1,by
  rw [h.1] at e;exact(Array.getElem?_eq_some_iff.1 e).1,le,sz⟩
 have SCW:Hid (∀ W:World,W.heap[b]?=w.heap[b]?→Sc W b s i mb cv):=fun W e=>⟨e.trans h.1,h.2⟩
 have HW:=zh hw
 have HN:=zh hn
 have HC:=zh hc
 have HD:=zh hd
 have HNL:=zh hnl
 have HR:=zh hr
 have HNS:=zh hns
 have HDS:=zh hds
 have hnz:(i:Int)+(n:Int)≤400000:=by omega
 have hn0:(n:Int)≤400000:=by omega
 clear hw hn hc hd hnl hr hns hds c0 c1 le h
 go_enter Tryz.func152,Tryz.ntmps152
 go_wp2_with fail
 obtain⟨z,hz⟩:∃ z,z=w.heap.size:=⟨_,rfl⟩
 obtain⟨W0,hW0⟩:∃ W,W=w.alloc (.cells #[.int .i64 0,.int .i64 0,.string ⟨#[]⟩,.int .i64 0] 154):=⟨_,rfl⟩
 rw [← hW0,← hz]
 have B0:Hid (W0.heap[b]?=w.heap[b]?):=by rw [hW0];exact Below.heap_alloc _ _ _ lt
 have B1:Hid (W0.heap[z]?=some (.cells #[.int .i64 0,.int .i64 0,.string ⟨#[]⟩,.int .i64 0] 154 (0,0))):=by rw [hW0,hz];exact heap_alloc_new w _
 have B2:Hid (Below w.heap.size w W0):=by rw [hW0];exact(Below.refl _ _).alloc (Nat.le_refl _) _
 have B3:Hid (z<W0.heap.size):=(Array.getElem?_eq_some_iff.1 B1.out).1
 have B4:=zh hz
 clear hz hW0
 refine(run_part (ATW.out W0 B0.out) 0 (by decide)).mono ?_
 rintro e w1 ⟨rfl,q1,rfl⟩
 rw [Nat.add_zero,← HN.out]
 go_wp2_with fail
 refine(peek_any (ATW.out (W0.drewN q1) B0.out) n (by have:=HNS.out;omega)).mono ?_
 rintro e w2 ⟨rfl,q2,rfl⟩
 rw [← HC.out]
 by_cases hc39:c=39
 ·have hcz:(c:Int)=39:=by omega
  have hcb:((c:Int)==39)=true:=by simp [hcz]
  have HC3:=zh hc39
  clear hc39 hcz
  go_wp2_with fail
  have RD:=run_digit (ATW.out (W0.drewN (q1+q2)) B0.out) (n+1) (by have:=HNS.out;omega)
  rw [← HD.out,show ((n+1:Nat):Int)=(n:Int)+1 from by push_cast;rfl] at RD
  refine RD.mono ?_
  clear RD
  rintro e w3 ⟨rfl,q3,rfl⟩
  by_cases hd0:0<d
  ·have NL:Hid (LX.nameLen ((bts s).drop i)=n+1+d):=by show _=_;rw [HNL.out,if_pos ⟨HC3.out,hd0⟩]
   have NS:Hid (i+(n+1+d)≤s.size):=by have:=HDS.out hd0;show _≤_;omega
   have hdz:(0:Int)<(d:Int):=by omega
   have hdm:(n:Int)+(d:Int)≤400000:=by have:=NS.out;omega
   clear hd0
   go_wp2_with fail
   have MD:=made_any (SCW.out (W0.drewN (q1+q2+q3)) B0.out) k (n+1+d) NS.out
   rw [show ((n+1+d:Nat):Int)=(n:Int)+(1+(d:Int)) from by push_cast;omega] at MD
   refine MD.mono ?_
   clear MD
   intro e w' hm
   unfold MPost at hm
   by_cases h24:24<n+1+d
   ·rw [if_pos h24] at hm
    obtain⟨rfl,hb⟩:=hm
    unfold thrown
    go_wp2_with fail
    refine⟨rfl,?_⟩
    have er:r = .bad 2:=by rw [HR.out];unfold LX.named;rw [NL.out];unfold LX.made;rw [if_pos h24]
    rw [er]
    exact⟨rfl,B2.out.trans ((below_of_drew hb).mono B2.out.size)⟩
   ·rw [if_neg h24] at hm
    obtain⟨rfl,hb⟩:=hm
    unfold tokV
    have hb2:Below W0.heap.size W0 w':=below_of_drew hb
    have b1:w'.heap[z]?=some (.cells #[.int .i64 0,.int .i64 0,.string ⟨#[]⟩,.int .i64 0] 154 (0,0)):=(hb2.block z B3.out).trans B1.out
    have b2:w'.heap[b]?=w.heap[b]?:=(hb2.block b (Nat.lt_of_lt_of_le lt B2.out.size)).trans B0.out
    have M2:w'.cell? ⟨b,2,none⟩=some (.map (some mb)):=by rw [cell_of_row w' b 2 _ _ _ (b2.trans (SCW.out w rfl).1)];rfl
    have y0:w'.cell? ⟨z,0,none⟩=some (.int .i64 0):=by rw [cell_of_row w' z 0 _ _ _ b1];rfl
    have y1:w'.cell? ⟨z,1,none⟩=some (.int .i64 0):=by rw [cell_of_row w' z 1 _ _ _ b1];rfl
    have y2:w'.cell? ⟨z,2,none⟩=some (.string ⟨#[]⟩):=by rw [cell_of_row w' z 2 _ _ _ b1];rfl
    have y3:w'.cell? ⟨z,3,none⟩=some (.int .i64 0):=by rw [cell_of_row w' z 3 _ _ _ b1];rfl
    have yf:∀ q,w'.frozen? ⟨z,q,none⟩=false:=fun q=>frozen_of_row w' z q _ _ b1
    have yl:z<w'.heap.size:=(Array.getElem?_eq_some_iff.1 b1).1
    have bl:b<w'.heap.size:=Nat.lt_of_lt_of_le lt (Nat.le_trans B2.out.size hb2.size)
    obtain⟨es,clock,hm1,hm2⟩:=HW.out
    have hml:mb<w.heap.size:=(Array.getElem?_eq_some_iff.1 hm1).1
    have hlk:∀ m,(Instr.lookup 116 (.map (some mb)) (.string (s.extract i (i+(n+1+d)))) true).run Tryz.prog ((w'.alloc (.cells #[.int .i64 k,.int .i64 0,.string (s.extract i (i+(n+1+d))),.int .i64 i] 154)).drewN m) =
      .ok (.tuple #[.int .i64 (if LX.words.contains (bts (s.extract i (i+(n+1+d)))) then 5 else 0),.bool (LX.words.contains (bts (s.extract i (i+(n+1+d)))))]) ((w'.alloc (.cells #[.int .i64 k,.int .i64 0,.string (s.extract i (i+(n+1+d))),.int .i64 i] 154)).drewN m):=fun m =>
     hm2 _ _ ((Below.heap_alloc w' _ mb (Nat.lt_of_lt_of_le hml (Nat.le_trans B2.out.size hb2.size))).trans ((hb2.block mb (Nat.lt_of_lt_of_le hml B2.out.size)).trans ((B2.out.block mb hml).trans hm1)))
    obtain⟨tx,htx⟩:∃ t,t=s.extract i (i+(n+1+d)):=⟨_,rfl⟩
    rw [← htx] at hlk ⊢
    have X1:=zh hb2
    have X2:=zh b1
    have X3:=zh htx
    have X4:=zh h24
    clear hb2 b1 b2 hb hm1 hm2 hml htx h24
    cases hcw:LX.words.contains (bts tx) with
    | true =>
     rw [hcw] at hlk
     simp only [if_true] at hlk
     have X5:=zh hcw
     clear hcw
     go_wp2_with fail
     go_quiet (fail)
     go_wp2_with fail
     have wt:LX.words.contains (((bts s).drop i).take (n+1+d))=true:=by
      have e:bts tx=((bts s).drop i).take (n+1+d):=by rw [X3.out,bts_extract,Nat.add_sub_cancel_left]
      rw [← e];exact X5.out
     have er:r = .tok 5 0 (n+1+d):=by
      rw [HR.out];unfold LX.named;rw [NL.out];unfold LX.made;rw [if_neg X4.out]
      simp only [wt]
      rfl
     have zl:z<w'.heap.size:=yl
     have hv:(((w'.alloc (.cells #[.int .i64 k,.int .i64 0,.string tx,.int .i64 i] 154)).drewN nq).setCell ⟨w'.heap.size,0,none⟩ (.int .i64 5)).heap[z]?=some (.cells #[.int .i64 0,.int .i64 0,.string ⟨#[]⟩,.int .i64 0] 154 (0,0)):=by
      rw [Below.heap_setCell _ _ _ _ (by show z≠w'.heap.size;omega)];exact(Below.heap_alloc w' _ z zl).trans X2.out
     have hf:=four_set hv (.int .i64 5) (.int .i64 0) (.string tx) (.int .i64 i)
     have hbel:Below w.heap.size w (((w'.alloc (.cells #[.int .i64 k,.int .i64 0,.string tx,.int .i64 i] 154)).drewN nq).setCell ⟨w'.heap.size,0,none⟩ (.int .i64 5)):=by
      have h1:=below_drawn ((B2.out.trans (X1.out.mono B2.out.size)).alloc (Nat.le_trans B2.out.size X1.out.size) (.cells #[.int .i64 k,.int .i64 0,.string tx,.int .i64 i] 154)) nq
      exact h1.setCell (p:=⟨w'.heap.size,0,none⟩) (Nat.le_trans B2.out.size X1.out.size) _
     have hzb:w.heap.size≤z:=Nat.le_of_eq B4.out.symm
     refine bodyPost_ret (v:=tokV 5 0 tx i) (by rw [results_one_cell rfl];simp [asAddr,load39 hf]) rfl ?_
     have hfin:=(((hbel.setCell (p:=⟨z,0,none⟩) hzb (.int .i64 5)).setCell (p:=⟨z,1,none⟩) hzb (.int .i64 0)).setCell (p:=⟨z,2,none⟩) hzb (.string tx)).setCell (p:=⟨z,3,none⟩) hzb (.int .i64 i)
     rw [er]
     exact⟨by rw [X3.out];try rfl,hfin⟩
    | false =>
     rw [hcw] at hlk
     simp only [Bool.false_eq_true,if_false] at hlk
     have X5:=zh hcw
     clear hcw
     go_wp2_with fail
     go_quiet (fail)
     go_wp2_with fail
     have wt:LX.words.contains (((bts s).drop i).take (n+1+d))=false:=by
      have e:bts tx=((bts s).drop i).take (n+1+d):=by rw [X3.out,bts_extract,Nat.add_sub_cancel_left]
      rw [← e];exact X5.out
     have er:r = .tok k 0 (n+1+d):=by
      rw [HR.out];unfold LX.named;rw [NL.out];unfold LX.made;rw [if_neg X4.out]
      simp only [wt]
      rfl
     have zl:z<w'.heap.size:=yl
     have hv:((w'.alloc (.cells #[.int .i64 k,.int .i64 0,.string tx,.int .i64 i] 154)).drewN nq).heap[z]?=some (.cells #[.int .i64 0,.int .i64 0,.string ⟨#[]⟩,.int .i64 0] 154 (0,0)):=by
      exact(Below.heap_alloc w' _ z zl).trans X2.out
     have hf:=four_set hv (.int .i64 k) (.int .i64 0) (.string tx) (.int .i64 i)
     have hbel:Below w.heap.size w ((w'.alloc (.cells #[.int .i64 k,.int .i64 0,.string tx,.int .i64 i] 154)).drewN nq):=by
      have h1:=below_drawn ((B2.out.trans (X1.out.mono B2.out.size)).alloc (Nat.le_trans B2.out.size X1.out.size) (.cells #[.int .i64 k,.int .i64 0,.string tx,.int .i64 i] 154)) nq
      exact h1
     have hzb:w.heap.size≤z:=Nat.le_of_eq B4.out.symm
     refine bodyPost_ret (v:=tokV k 0 tx i) (by rw [results_one_cell rfl];simp [asAddr,load39 hf]) rfl ?_
     have hfin:=(((hbel.setCell (p:=⟨z,0,none⟩) hzb (.int .i64 k)).setCell (p:=⟨z,1,none⟩) hzb (.int .i64 0)).setCell (p:=⟨z,2,none⟩) hzb (.string tx)).setCell (p:=⟨z,3,none⟩) hzb (.int .i64 i)
     rw [er]
     exact⟨by rw [X3.out];try rfl,hfin⟩
  ·have NL:Hid (LX.nameLen ((bts s).drop i)=n):=by show _=_;rw [HNL.out,if_neg fun h=>hd0 h.2]
   have NS:=HNS
   have hdz:¬ (0:Int)<(d:Int):=by omega
   have hdz2:(d:Int)=0:=by omega
   clear hd0
   go_wp2_with fail
   have MD:=made_any (SCW.out (W0.drewN (q1+q2+q3)) B0.out) k (n) NS.out
   refine MD.mono ?_
   clear MD
   intro e w' hm
   unfold MPost at hm
   by_cases h24:24<n
   ·rw [if_pos h24] at hm
    obtain⟨rfl,hb⟩:=hm
    unfold thrown
    go_wp2_with fail
    refine⟨rfl,?_⟩
    have er:r = .bad 2:=by rw [HR.out];unfold LX.named;rw [NL.out];unfold LX.made;rw [if_pos h24]
    rw [er]
    exact⟨rfl,B2.out.trans ((below_of_drew hb).mono B2.out.size)⟩
   ·rw [if_neg h24] at hm
    obtain⟨rfl,hb⟩:=hm
    unfold tokV
    have hb2:Below W0.heap.size W0 w':=below_of_drew hb
    have b1:w'.heap[z]?=some (.cells #[.int .i64 0,.int .i64 0,.string ⟨#[]⟩,.int .i64 0] 154 (0,0)):=(hb2.block z B3.out).trans B1.out
    have b2:w'.heap[b]?=w.heap[b]?:=(hb2.block b (Nat.lt_of_lt_of_le lt B2.out.size)).trans B0.out
    have M2:w'.cell? ⟨b,2,none⟩=some (.map (some mb)):=by rw [cell_of_row w' b 2 _ _ _ (b2.trans (SCW.out w rfl).1)];rfl
    have y0:w'.cell? ⟨z,0,none⟩=some (.int .i64 0):=by rw [cell_of_row w' z 0 _ _ _ b1];rfl
    have y1:w'.cell? ⟨z,1,none⟩=some (.int .i64 0):=by rw [cell_of_row w' z 1 _ _ _ b1];rfl
    have y2:w'.cell? ⟨z,2,none⟩=some (.string ⟨#[]⟩):=by rw [cell_of_row w' z 2 _ _ _ b1];rfl
    have y3:w'.cell? ⟨z,3,none⟩=some (.int .i64 0):=by rw [cell_of_row w' z 3 _ _ _ b1];rfl
    have yf:∀ q,w'.frozen? ⟨z,q,none⟩=false:=fun q=>frozen_of_row w' z q _ _ b1
    have yl:z<w'.heap.size:=(Array.getElem?_eq_some_iff.1 b1).1
    have bl:b<w'.heap.size:=Nat.lt_of_lt_of_le lt (Nat.le_trans B2.out.size hb2.size)
    obtain⟨es,clock,hm1,hm2⟩:=HW.out
    have hml:mb<w.heap.size:=(Array.getElem?_eq_some_iff.1 hm1).1
    have hlk:∀ m,(Instr.lookup 116 (.map (some mb)) (.string (s.extract i (i+(n)))) true).run Tryz.prog ((w'.alloc (.cells #[.int .i64 k,.int .i64 0,.string (s.extract i (i+(n))),.int .i64 i] 154)).drewN m) =
      .ok (.tuple #[.int .i64 (if LX.words.contains (bts (s.extract i (i+(n)))) then 5 else 0),.bool (LX.words.contains (bts (s.extract i (i+(n)))))]) ((w'.alloc (.cells #[.int .i64 k,.int .i64 0,.string (s.extract i (i+(n))),.int .i64 i] 154)).drewN m):=fun m =>
     hm2 _ _ ((Below.heap_alloc w' _ mb (Nat.lt_of_lt_of_le hml (Nat.le_trans B2.out.size hb2.size))).trans ((hb2.block mb (Nat.lt_of_lt_of_le hml B2.out.size)).trans ((B2.out.block mb hml).trans hm1)))
    obtain⟨tx,htx⟩:∃ t,t=s.extract i (i+(n)):=⟨_,rfl⟩
    rw [← htx] at hlk ⊢
    have X1:=zh hb2
    have X2:=zh b1
    have X3:=zh htx
    have X4:=zh h24
    clear hb2 b1 b2 hb hm1 hm2 hml htx h24
    cases hcw:LX.words.contains (bts tx) with
    | true =>
     rw [hcw] at hlk
     simp only [if_true] at hlk
     have X5:=zh hcw
     clear hcw
     go_wp2_with fail
     go_quiet (fail)
     go_wp2_with fail
     have wt:LX.words.contains (((bts s).drop i).take (n))=true:=by
      have e:bts tx=((bts s).drop i).take (n):=by rw [X3.out,bts_extract,Nat.add_sub_cancel_left]
      rw [← e];exact X5.out
     have er:r = .tok 5 0 (n):=by
      rw [HR.out];unfold LX.named;rw [NL.out];unfold LX.made;rw [if_neg X4.out]
      simp only [wt]
      rfl
     have zl:z<w'.heap.size:=yl
     have hv:(((w'.alloc (.cells #[.int .i64 k,.int .i64 0,.string tx,.int .i64 i] 154)).drewN nq).setCell ⟨w'.heap.size,0,none⟩ (.int .i64 5)).heap[z]?=some (.cells #[.int .i64 0,.int .i64 0,.string ⟨#[]⟩,.int .i64 0] 154 (0,0)):=by
      rw [Below.heap_setCell _ _ _ _ (by show z≠w'.heap.size;omega)];exact(Below.heap_alloc w' _ z zl).trans X2.out
     have hf:=four_set hv (.int .i64 5) (.int .i64 0) (.string tx) (.int .i64 i)
     have hbel:Below w.heap.size w (((w'.alloc (.cells #[.int .i64 k,.int .i64 0,.string tx,.int .i64 i] 154)).drewN nq).setCell ⟨w'.heap.size,0,none⟩ (.int .i64 5)):=by
      have h1:=below_drawn ((B2.out.trans (X1.out.mono B2.out.size)).alloc (Nat.le_trans B2.out.size X1.out.size) (.cells #[.int .i64 k,.int .i64 0,.string tx,.int .i64 i] 154)) nq
      exact h1.setCell (p:=⟨w'.heap.size,0,none⟩) (Nat.le_trans B2.out.size X1.out.size) _
     have hzb:w.heap.size≤z:=Nat.le_of_eq B4.out.symm
     refine bodyPost_ret (v:=tokV 5 0 tx i) (by rw [results_one_cell rfl];simp [asAddr,load39 hf]) rfl ?_
     have hfin:=(((hbel.setCell (p:=⟨z,0,none⟩) hzb (.int .i64 5)).setCell (p:=⟨z,1,none⟩) hzb (.int .i64 0)).setCell (p:=⟨z,2,none⟩) hzb (.string tx)).setCell (p:=⟨z,3,none⟩) hzb (.int .i64 i)
     rw [er]
     exact⟨by rw [X3.out];try rfl,hfin⟩
    | false =>
     rw [hcw] at hlk
     simp only [Bool.false_eq_true,if_false] at hlk
     have X5:=zh hcw
     clear hcw
     go_wp2_with fail
     go_quiet (fail)
     go_wp2_with fail
     have wt:LX.words.contains (((bts s).drop i).take (n))=false:=by
      have e:bts tx=((bts s).drop i).take (n):=by rw [X3.out,bts_extract,Nat.add_sub_cancel_left]
      rw [← e];exact X5.out
     have er:r = .tok k 0 (n):=by
      rw [HR.out];unfold LX.named;rw [NL.out];unfold LX.made;rw [if_neg X4.out]
      simp only [wt]
      rfl
     have zl:z<w'.heap.size:=yl
     have hv:((w'.alloc (.cells #[.int .i64 k,.int .i64 0,.string tx,.int .i64 i] 154)).drewN nq).heap[z]?=some (.cells #[.int .i64 0,.int .i64 0,.string ⟨#[]⟩,.int .i64 0] 154 (0,0)):=by
      exact(Below.heap_alloc w' _ z zl).trans X2.out
     have hf:=four_set hv (.int .i64 k) (.int .i64 0) (.string tx) (.int .i64 i)
     have hbel:Below w.heap.size w ((w'.alloc (.cells #[.int .i64 k,.int .i64 0,.string tx,.int .i64 i] 154)).drewN nq):=by
      have h1:=below_drawn ((B2.out.trans (X1.out.mono B2.out.size)).alloc (Nat.le_trans B2.out.size X1.out.size) (.cells #[.int .i64 k,.int .i64 0,.string tx,.int .i64 i] 154)) nq
      exact h1
     have hzb:w.heap.size≤z:=Nat.le_of_eq B4.out.symm
     refine bodyPost_ret (v:=tokV k 0 tx i) (by rw [results_one_cell rfl];simp [asAddr,load39 hf]) rfl ?_
     have hfin:=(((hbel.setCell (p:=⟨z,0,none⟩) hzb (.int .i64 k)).setCell (p:=⟨z,1,none⟩) hzb (.int .i64 0)).setCell (p:=⟨z,2,none⟩) hzb (.string tx)).setCell (p:=⟨z,3,none⟩) hzb (.int .i64 i)
     rw [er]
     exact⟨by rw [X3.out];try rfl,hfin⟩
 ·have hcb:¬ (c:Int)=39:=by omega
  have NL:Hid (LX.nameLen ((bts s).drop i)=n):=by show _=_;rw [HNL.out,if_neg fun h=>hc39 h.1]
  have NS:=HNS
  clear hc39
  go_wp2_with fail
  have MD:=made_any (SCW.out (W0.drewN (q1+q2)) B0.out) k (n) NS.out
  refine MD.mono ?_
  clear MD
  intro e w' hm
  unfold MPost at hm
  by_cases h24:24<n
  ·rw [if_pos h24] at hm
   obtain⟨rfl,hb⟩:=hm
   unfold thrown
   go_wp2_with fail
   refine⟨rfl,?_⟩
   have er:r = .bad 2:=by rw [HR.out];unfold LX.named;rw [NL.out];unfold LX.made;rw [if_pos h24]
   rw [er]
   exact⟨rfl,B2.out.trans ((below_of_drew hb).mono B2.out.size)⟩
  ·rw [if_neg h24] at hm
   obtain⟨rfl,hb⟩:=hm
   unfold tokV
   have hb2:Below W0.heap.size W0 w':=below_of_drew hb
   have b1:w'.heap[z]?=some (.cells #[.int .i64 0,.int .i64 0,.string ⟨#[]⟩,.int .i64 0] 154 (0,0)):=(hb2.block z B3.out).trans B1.out
   have b2:w'.heap[b]?=w.heap[b]?:=(hb2.block b (Nat.lt_of_lt_of_le lt B2.out.size)).trans B0.out
   have M2:w'.cell? ⟨b,2,none⟩=some (.map (some mb)):=by rw [cell_of_row w' b 2 _ _ _ (b2.trans (SCW.out w rfl).1)];rfl
   have y0:w'.cell? ⟨z,0,none⟩=some (.int .i64 0):=by rw [cell_of_row w' z 0 _ _ _ b1];rfl
   have y1:w'.cell? ⟨z,1,none⟩=some (.int .i64 0):=by rw [cell_of_row w' z 1 _ _ _ b1];rfl
   have y2:w'.cell? ⟨z,2,none⟩=some (.string ⟨#[]⟩):=by rw [cell_of_row w' z 2 _ _ _ b1];rfl
   have y3:w'.cell? ⟨z,3,none⟩=some (.int .i64 0):=by rw [cell_of_row w' z 3 _ _ _ b1];rfl
   have yf:∀ q,w'.frozen? ⟨z,q,none⟩=false:=fun q=>frozen_of_row w' z q _ _ b1
   have yl:z<w'.heap.size:=(Array.getElem?_eq_some_iff.1 b1).1
   have bl:b<w'.heap.size:=Nat.lt_of_lt_of_le lt (Nat.le_trans B2.out.size hb2.size)
   obtain⟨es,clock,hm1,hm2⟩:=HW.out
   have hml:mb<w.heap.size:=(Array.getElem?_eq_some_iff.1 hm1).1
   have hlk:∀ m,(Instr.lookup 116 (.map (some mb)) (.string (s.extract i (i+(n)))) true).run Tryz.prog ((w'.alloc (.cells #[.int .i64 k,.int .i64 0,.string (s.extract i (i+(n))),.int .i64 i] 154)).drewN m) =
     .ok (.tuple #[.int .i64 (if LX.words.contains (bts (s.extract i (i+(n)))) then 5 else 0),.bool (LX.words.contains (bts (s.extract i (i+(n)))))]) ((w'.alloc (.cells #[.int .i64 k,.int .i64 0,.string (s.extract i (i+(n))),.int .i64 i] 154)).drewN m):=fun m =>
    hm2 _ _ ((Below.heap_alloc w' _ mb (Nat.lt_of_lt_of_le hml (Nat.le_trans B2.out.size hb2.size))).trans ((hb2.block mb (Nat.lt_of_lt_of_le hml B2.out.size)).trans ((B2.out.block mb hml).trans hm1)))
   obtain⟨tx,htx⟩:∃ t,t=s.extract i (i+(n)):=⟨_,rfl⟩
   rw [← htx] at hlk ⊢
   have X1:=zh hb2
   have X2:=zh b1
   have X3:=zh htx
   have X4:=zh h24
   clear hb2 b1 b2 hb hm1 hm2 hml htx h24
   cases hcw:LX.words.contains (bts tx) with
   | true =>
    rw [hcw] at hlk
    simp only [if_true] at hlk
    have X5:=zh hcw
    clear hcw
    go_wp2_with fail
    go_quiet (fail)
    go_wp2_with fail
    have wt:LX.words.contains (((bts s).drop i).take (n))=true:=by
     have e:bts tx=((bts s).drop i).take (n):=by rw [X3.out,bts_extract,Nat.add_sub_cancel_left]
     rw [← e];exact X5.out
    have er:r = .tok 5 0 (n):=by
     rw [HR.out];unfold LX.named;rw [NL.out];unfold LX.made;rw [if_neg X4.out]
     simp only [wt]
     rfl
    have zl:z<w'.heap.size:=yl
    have hv:(((w'.alloc (.cells #[.int .i64 k,.int .i64 0,.string tx,.int .i64 i] 154)).drewN nq).setCell ⟨w'.heap.size,0,none⟩ (.int .i64 5)).heap[z]?=some (.cells #[.int .i64 0,.int .i64 0,.string ⟨#[]⟩,.int .i64 0] 154 (0,0)):=by
     rw [Below.heap_setCell _ _ _ _ (by show z≠w'.heap.size;omega)];exact(Below.heap_alloc w' _ z zl).trans X2.out
    have hf:=four_set hv (.int .i64 5) (.int .i64 0) (.string tx) (.int .i64 i)
    have hbel:Below w.heap.size w (((w'.alloc (.cells #[.int .i64 k,.int .i64 0,.string tx,.int .i64 i] 154)).drewN nq).setCell ⟨w'.heap.size,0,none⟩ (.int .i64 5)):=by
     have h1:=below_drawn ((B2.out.trans (X1.out.mono B2.out.size)).alloc (Nat.le_trans B2.out.size X1.out.size) (.cells #[.int .i64 k,.int .i64 0,.string tx,.int .i64 i] 154)) nq
     exact h1.setCell (p:=⟨w'.heap.size,0,none⟩) (Nat.le_trans B2.out.size X1.out.size) _
    have hzb:w.heap.size≤z:=Nat.le_of_eq B4.out.symm
    refine bodyPost_ret (v:=tokV 5 0 tx i) (by rw [results_one_cell rfl];simp [asAddr,load39 hf]) rfl ?_
    have hfin:=(((hbel.setCell (p:=⟨z,0,none⟩) hzb (.int .i64 5)).setCell (p:=⟨z,1,none⟩) hzb (.int .i64 0)).setCell (p:=⟨z,2,none⟩) hzb (.string tx)).setCell (p:=⟨z,3,none⟩) hzb (.int .i64 i)
    rw [er]
    exact⟨by rw [X3.out];try rfl,hfin⟩
   | false =>
    rw [hcw] at hlk
    simp only [Bool.false_eq_true,if_false] at hlk
    have X5:=zh hcw
    clear hcw
    go_wp2_with fail
    go_quiet (fail)
    go_wp2_with fail
    have wt:LX.words.contains (((bts s).drop i).take (n))=false:=by
     have e:bts tx=((bts s).drop i).take (n):=by rw [X3.out,bts_extract,Nat.add_sub_cancel_left]
     rw [← e];exact X5.out
    have er:r = .tok k 0 (n):=by
     rw [HR.out];unfold LX.named;rw [NL.out];unfold LX.made;rw [if_neg X4.out]
     simp only [wt]
     rfl
    have zl:z<w'.heap.size:=yl
    have hv:((w'.alloc (.cells #[.int .i64 k,.int .i64 0,.string tx,.int .i64 i] 154)).drewN nq).heap[z]?=some (.cells #[.int .i64 0,.int .i64 0,.string ⟨#[]⟩,.int .i64 0] 154 (0,0)):=by
     exact(Below.heap_alloc w' _ z zl).trans X2.out
    have hf:=four_set hv (.int .i64 k) (.int .i64 0) (.string tx) (.int .i64 i)
    have hbel:Below w.heap.size w ((w'.alloc (.cells #[.int .i64 k,.int .i64 0,.string tx,.int .i64 i] 154)).drewN nq):=by
     have h1:=below_drawn ((B2.out.trans (X1.out.mono B2.out.size)).alloc (Nat.le_trans B2.out.size X1.out.size) (.cells #[.int .i64 k,.int .i64 0,.string tx,.int .i64 i] 154)) nq
     exact h1
    have hzb:w.heap.size≤z:=Nat.le_of_eq B4.out.symm
    refine bodyPost_ret (v:=tokV k 0 tx i) (by rw [results_one_cell rfl];simp [asAddr,load39 hf]) rfl ?_
    have hfin:=(((hbel.setCell (p:=⟨z,0,none⟩) hzb (.int .i64 k)).setCell (p:=⟨z,1,none⟩) hzb (.int .i64 0)).setCell (p:=⟨z,2,none⟩) hzb (.string tx)).setCell (p:=⟨z,3,none⟩) hzb (.int .i64 i)
    rw [er]
    exact⟨by rw [X3.out];try rfl,hfin⟩
end Go.Proofs.YtnkahlloahgifaaGreatDoor.Lx

namespace Go.Proofs.YtnkahlloahgifaaGreatDoor.Lx
open Go.RowKit
def wordBs:List ByteArray:=[⟨#[97,110,100]⟩,⟨#[99,97,115,101]⟩,⟨#[100,97,116,97]⟩,⟨#[101,108,115,101]⟩,⟨#[101,110,100]⟩,⟨#[102,110]⟩,⟨#[102,117,110]⟩,⟨#[105,102]⟩,⟨#[105,110]⟩,⟨#[105,110,112,117,116]⟩,⟨#[108,101,116]⟩,⟨#[111,102]⟩,⟨#[111,117,116,112,117,116]⟩,⟨#[116,104,101,110]⟩,⟨#[118,97,108]⟩]
def entsFrom:List ByteArray→Nat→List MapEntry
 | [],_=>[]
 | s :: t,i=>{ key := .string s,val := .int .i64 5,born:=i } :: entsFrom t (i+1)
def wordEs (k:Nat):Array MapEntry:=(entsFrom (wordBs.take k) 0).toArray
theorem find_ents (t:ByteArray):∀ (l:List ByteArray) (i n:Nat),∃ j,Instr.findNow .string (.string t) (entsFrom l i) n=some (if l.contains t then some (j,.int .i64 5) else none)
 | [],i,n=>⟨0,rfl⟩
 | s :: l,i,n=>by
  by_cases h:t=s
  ·subst h
   refine⟨n,?_⟩
   have hb:(t==t)=true:=(Go.MapKept.bytes_beq t t).2 rfl
   simp only [entsFrom,Instr.findNow,Instr.sameNow,List.contains_cons,hb,Bool.true_or,if_true]
  ·obtain⟨j,hj⟩:=find_ents t l (i+1) (n+1)
   refine⟨j,?_⟩
   have hb:(t==s)=false:=by
    cases hq:(t==s) with
    | false=>rfl
    | true=>exact absurd ((Go.MapKept.bytes_beq t s).1 hq) h
   simp only [entsFrom,Instr.findNow,Instr.sameNow,hb,hj]
   rw [List.contains_cons,hb,Bool.false_or]
theorem check_string (W:World) (t:ByteArray) (b:Bool):(Instr.checkKey b 10000 9 (.string t)).run Tryz.prog W = .ok () W:=by
 unfold Instr.checkKey
 simp only [Sem.run_bind,run_underlying Tryz.underlying9,Result.andThen_ok,Sem.run_pure]
theorem find_words (W:World) (t:ByteArray) (l:List ByteArray):∃ j,(Instr.findKey 9 (.string t) (entsFrom l 0)).run Tryz.prog W = .ok (if l.contains t then some (j,.int .i64 5) else none) W:=by
 obtain⟨j,hj⟩:=find_ents t l 0 0
 refine⟨j,?_⟩
 simp [Instr.findKey,go_sem,hj]
theorem zero3 (W:World):(zeroValue 3).run Tryz.prog W = .ok (.int .i64 0) W:=by kernel_rfl
theorem look_words (W:World) (mb k:Nat) (t:ByteArray) (h:W.heap[mb]?=some (.map (wordEs k) k)) :
  (Instr.lookup 116 (.map (some mb)) (.string t) true).run Tryz.prog W = .ok (.tuple #[.int .i64 (if (wordBs.take k).contains t then 5 else 0),.bool ((wordBs.take k).contains t)]) W:=by
 obtain⟨j,hj⟩:=find_words W t (wordBs.take k)
 have hg:(getObj mb).run Tryz.prog W = .ok (.map (wordEs k) k) W:=by simp [getObj,Sem.run,h]
 have hc:=check_string W t (wordEs k).isEmpty
 have hz:=zero3 W
 have hl:(wordEs k).toList=entsFrom (wordBs.take k) 0:=rfl
 cases hcon:(wordBs.take k).contains t with
 | true =>
  rw [hcon] at hj
  simp [Instr.lookup,go_sem,hg,hc,hl,hj,Result.andThen]
 | false =>
  rw [hcon] at hj
  simp [Instr.lookup,go_sem,hg,hc,hl,hj,hz,Result.andThen]
theorem entsFrom_append (a:List ByteArray) (x:ByteArray) (i:Nat):entsFrom (a++[x]) i=entsFrom a i++[{ key := .string x,val := .int .i64 5,born:=i+a.length }]:=by
 induction a generalizing i with
 | nil=>rfl
 | cons s a ih =>
  simp only [List.cons_append,entsFrom,ih,List.length_cons]
  rw [show i+1+a.length=i+(a.length+1) from by omega]
theorem store_word (W:World) (mb k:Nat) (x:ByteArray) (h:W.heap[mb]?=some (.map (wordEs k) k)) (hk:k<15) (hx:wordBs[k]?=some x) :
  (Instr.mapUpdate 116 (.map (some mb)) (.string x) (.int .i64 5)).run Tryz.prog W = .ok () (W.putObj mb (.map (wordEs (k+1)) (k+1))):=by
 obtain⟨j,hj⟩:=find_words W x (wordBs.take k)
 have hn:(wordBs.take k).contains x=false:=by
  have h15:∀ i:Fin 15,(wordBs.take i.1).contains (wordBs.getD i.1 default)=false:=by decide +kernel
  have:=h15 ⟨k,hk⟩
  rw [List.getD_eq_getElem?_getD,hx] at this
  exact this
 rw [hn] at hj
 have hg:(getObj mb).run Tryz.prog W = .ok (.map (wordEs k) k) W:=by simp [getObj,Sem.run,h]
 have hc:=check_string W x false
 have hl:(wordEs k).toList=entsFrom (wordBs.take k) 0:=rfl
 have hs:(setObj mb (.map (wordEs (k+1)) (k+1))).run Tryz.prog W = .ok () (W.putObj mb (.map (wordEs (k+1)) (k+1))):=by simp [setObj,Sem.run,h,World.putObj]
 have hp:(wordEs k).push { key := .string x,val := .int .i64 5,born:=k }=wordEs (k+1):=by
  have ht:wordBs.take (k+1)=wordBs.take k++[x]:=by
   rw [List.take_add_one,hx];rfl
  unfold wordEs
  rw [ht,entsFrom_append,List.push_toArray]
  have hlen:(wordBs.take k).length=k:=by
   rw [List.length_take];exact Nat.min_eq_left (Nat.le_of_lt (by simpa [wordBs] using hk))
  rw [hlen,Nat.zero_add]
 simp [Instr.mapUpdate,go_sem,hg,hc,hl,hj,Result.andThen,hp,hs]
theorem word_at (W:World) (k:Nat) (x:ByteArray) (hx:wordBs[k]?=some x):(Instr.index 223 (.agg (wordBs.map Value.string).toArray) (.int .i64 k)).run Tryz.prog W = .ok (.string x) W:=by
 have hk:k<15:=by
  rcases Nat.lt_or_ge k 15 with h | h
  ·exact h
  ·rw [List.getElem?_eq_none (by simpa [wordBs] using h)] at hx;cases hx
 have e:x=wordBs.getD k default:=by rw [List.getD_eq_getElem?_getD,hx];rfl
 rw [e]
 clear e hx
 obtain h | h:k=0∨k≠0:=Decidable.em _
 ·subst h;refine Eq.trans ?_ rfl;kernel_rfl
 obtain h | h:k=1∨k≠1:=Decidable.em _
 ·subst h;refine Eq.trans ?_ rfl;kernel_rfl
 obtain h | h:k=2∨k≠2:=Decidable.em _
 ·subst h;refine Eq.trans ?_ rfl;kernel_rfl
 obtain h | h:k=3∨k≠3:=Decidable.em _
 ·subst h;refine Eq.trans ?_ rfl;kernel_rfl
 obtain h | h:k=4∨k≠4:=Decidable.em _
 ·subst h;refine Eq.trans ?_ rfl;kernel_rfl
 obtain h | h:k=5∨k≠5:=Decidable.em _
 ·subst h;refine Eq.trans ?_ rfl;kernel_rfl
 obtain h | h:k=6∨k≠6:=Decidable.em _
 ·subst h;refine Eq.trans ?_ rfl;kernel_rfl
 obtain h | h:k=7∨k≠7:=Decidable.em _
 ·subst h;refine Eq.trans ?_ rfl;kernel_rfl
 obtain h | h:k=8∨k≠8:=Decidable.em _
 ·subst h;refine Eq.trans ?_ rfl;kernel_rfl
 obtain h | h:k=9∨k≠9:=Decidable.em _
 ·subst h;refine Eq.trans ?_ rfl;kernel_rfl
 obtain h | h:k=10∨k≠10:=Decidable.em _
 ·subst h;refine Eq.trans ?_ rfl;kernel_rfl
 obtain h | h:k=11∨k≠11:=Decidable.em _
 ·subst h;refine Eq.trans ?_ rfl;kernel_rfl
 obtain h | h:k=12∨k≠12:=Decidable.em _
 ·subst h;refine Eq.trans ?_ rfl;kernel_rfl
 obtain h | h:k=13∨k≠13:=Decidable.em _
 ·subst h;refine Eq.trans ?_ rfl;kernel_rfl
 obtain h | h:k=14∨k≠14:=Decidable.em _
 ·subst h;refine Eq.trans ?_ rfl;kernel_rfl
 omega
end Go.Proofs.YtnkahlloahgifaaGreatDoor.Lx

namespace Go.Proofs.YtnkahlloahgifaaGreatDoor.Lx
open Go.RowKit
theorem index_not {a:UInt8}:∀ {l:List UInt8},a∉l→Lib.index l [a] = -1
 | [],_=>rfl
 | b :: l,h=>by
  have h1:¬ a=b:=fun e=>h (by rw [e];exact List.mem_cons_self)
  have h2:a∉l:=fun e=>h (List.mem_cons_of_mem _ e)
  unfold Lib.index
  rw [index_not h2,if_neg (by simp [List.isPrefixOf,h1])]
  rfl
theorem replace_not {a b:UInt8}{l:List UInt8}(h:a∉l):Lib.replace l [a] [b] 1=l:=by
 unfold Lib.replace
 split
 ·rfl
 ·generalize Lib.replaceNum l [a] 1=k
  cases k with
  | zero=>rfl
  | succ k=>unfold Lib.replaceK;rw [index_not h];rfl
theorem replace_head {a b:UInt8}(hab:a≠b) (l:List UInt8):Lib.replace (a :: l) [a] [b] 1=b :: l:=by
 have hi:Lib.index (a :: l) [a]=(0:Nat):=by
  unfold Lib.index
  rw [if_pos (by simp [List.isPrefixOf])]
  rfl
 have hc:=Lib.count_hit (sub:=[a]) (by simp) hi
 unfold Lib.replace
 rw [if_neg (by simpa using hab)]
 unfold Lib.replaceNum
 rw [if_neg (by omega)]
 show Lib.replaceK [a] [b] 1 (a :: l)=_
 rw [Lib.replaceK_hit [a] [b] 0 (a :: l) 0 hi]
 rfl
theorem dec_nat10:∀ (f u:Nat),1≤f→u<10 ^ f→(Lib.decDigits u).map UInt8.toNat=LX.nat10 f u
 | 0,_,h,_=>absurd h (by decide)
 | f+1,u,_,h=>by
  rw [Lib.decDigits,LX.nat10]
  by_cases h10:u<10
  ·rw [dif_pos h10,if_pos h10]
   simp only [List.map_cons,List.map_nil,UInt8.toNat_ofNat']
   rw [Nat.mod_eq_of_lt (by omega)]
  ·rw [dif_neg h10,if_neg h10,List.map_append]
   have hf:1≤f:=by
    rcases Nat.eq_zero_or_pos f with rfl | h0
    ·simp at h;omega
    ·exact h0
   rw [dec_nat10 f (u / 10) hf (by rw [Nat.pow_succ] at h;omega)]
   simp only [List.map_cons,List.map_nil,UInt8.toNat_ofNat']
   rw [Nat.mod_eq_of_lt (by omega)]
theorem dec_digit:∀ (u:Nat),∀ c∈Lib.decDigits u,48≤c.toNat∧c.toNat≤57:=fun u=>by
 induction u using Nat.strongRecOn with
 | ind u ih =>
  intro c hc
  rw [Lib.decDigits] at hc
  by_cases h10:u<10
  ·rw [dif_pos h10] at hc
   simp only [List.mem_singleton] at hc
   subst hc
   rw [UInt8.toNat_ofNat',Nat.mod_eq_of_lt (by omega)]
   omega
  ·rw [dif_neg h10,List.mem_append] at hc
   rcases hc with hc | hc
   ·exact ih (u / 10) (by omega) c hc
   ·simp only [List.mem_singleton] at hc
    subst hc
    rw [UInt8.toNat_ofNat',Nat.mod_eq_of_lt (by omega)]
    omega
theorem dec_ne (u:Nat):Lib.decDigits u≠[]:=by
 rw [Lib.decDigits]
 split<;>simp
theorem not_mem_dec {a:UInt8}(ha:¬ (48≤a.toNat∧a.toNat≤57)) (u:Nat):a∉Lib.decDigits u:=fun h=>ha (dec_digit u a h)
def digL (n:Int):List UInt8:=if n<0 then 126 :: Lib.decDigits n.natAbs else Lib.decDigits n.natAbs
theorem replace_itoa (n:Int):Lib.replace (Lib.itoa n) [45] [126] 1=digL n:=by
 unfold Lib.itoa digL
 by_cases h:n<0
 ·rw [if_pos h,if_pos h];exact replace_head (by decide) _
 ·rw [if_neg h,if_neg h,replace_not (not_mem_dec (by decide) _)]
  congr 1
  omega
theorem replace_digL (n:Int):Lib.replace (digL n) [126] [45] 1=Lib.itoa n:=by
 unfold Lib.itoa digL
 by_cases h:n<0
 ·rw [if_pos h,if_pos h];exact replace_head (by decide) _
 ·rw [if_neg h,if_neg h,replace_not (not_mem_dec (by decide) _)]
  congr 1
  omega
theorem digL_digs (n:Int) (h:n.natAbs<10 ^ 30):(digL n).map UInt8.toNat=LX.digs n:=by
 unfold digL LX.digs
 split
 ·rw [List.map_cons,dec_nat10 30 _ (by decide) h];rfl
 ·exact dec_nat10 30 _ (by decide) h
theorem parse_append (acc:Nat):∀ (l:List UInt8) (c:UInt8) (u:Nat),Lib.parseUint10 acc l = .ok u→48≤c.toNat∧c.toNat≤57→u*10+(c.toNat - 48)<18446744073709551616 →
  Lib.parseUint10 acc (l++[c]) = .ok (u*10+(c.toNat - 48)):=by
 intro l
 induction l generalizing acc with
 | nil =>
  intro c u h hc hu
  simp only [Lib.parseUint10] at h
  injection h with h
  subst h
  simp only [List.nil_append,Lib.parseUint10]
  rw [if_pos hc,if_neg (by omega),if_neg (by omega)]
 | cons x l ih =>
  intro c u h hc hu
  simp only [Lib.parseUint10,List.cons_append] at h ⊢
  split at h
  ·rename_i h1
   rw [if_pos h1]
   split at h
   ·cases h
   ·rename_i h2
    rw [if_neg h2]
    split at h
    ·cases h
    ·rename_i h3
     rw [if_neg h3]
     exact ih _ c u h hc hu
  ·cases h
theorem parse_dec:∀ (u:Nat),u<18446744073709551616→Lib.parseUint10 0 (Lib.decDigits u) = .ok u:=fun u=>by
 induction u using Nat.strongRecOn with
 | ind u ih =>
  intro hu
  rw [Lib.decDigits]
  by_cases h10:u<10
  ·rw [dif_pos h10]
   have e:(UInt8.ofNat (48+u)).toNat=48+u:=by rw [UInt8.toNat_ofNat',Nat.mod_eq_of_lt (by omega)]
   simp only [Lib.parseUint10,e]
   rw [if_pos (by omega),if_neg (by omega),if_neg (by omega)]
   congr 1
   omega
  ·rw [dif_neg h10]
   have e:(UInt8.ofNat (48+u % 10)).toNat=48+u % 10:=by rw [UInt8.toNat_ofNat',Nat.mod_eq_of_lt (by omega)]
   rw [parse_append 0 _ _ (u / 10) (ih (u / 10) (by omega) (by omega)) (by rw [e];omega) (by rw [e];omega),e]
   congr 1
   omega
theorem atoi_itoa (n:Int) (h0 : -9223372036854775808≤n) (h1:n≤9223372036854775807):Lib.atoiAll (Lib.itoa n) = .ok n:=by
 unfold Lib.itoa
 by_cases h:n<0
 ·rw [if_pos h]
  unfold Lib.atoiAll
  have hp:Lib.parseMag (Lib.decDigits n.natAbs) = .ok n.natAbs:=by
   unfold Lib.parseMag
   rw [if_neg (dec_ne _)]
   exact parse_dec _ (by omega)
  simp only [show ((45:UInt8).toNat=45)=True from by decide,or_true,if_true,hp,not_true,false_and,if_false,true_and]
  rw [if_neg (by omega)]
  congr 1
  omega
 ·rw [if_neg h]
  have hp:Lib.parseMag (Lib.decDigits n.toNat) = .ok n.toNat:=by
   unfold Lib.parseMag
   rw [if_neg (dec_ne _)]
   exact parse_dec _ (by omega)
  have hd:=dec_digit n.toNat
  unfold Lib.atoiAll
  generalize Lib.decDigits n.toNat=l at hp hd
  cases l with
  | nil=>unfold Lib.parseMag at hp;rw [if_pos rfl] at hp;cases hp
  | cons c r =>
   have hc:=hd c List.mem_cons_self
   have h45:¬ c.toNat=45:=by omega
   have h2:¬ 9223372036854775808≤n.toNat:=by omega
   have e:((n.toNat:Nat):Int)=n:=by omega
   have h43':¬ c.toNat=43:=by omega
   simp [h43',hp,h45,h2,e]
theorem mag_append (l:List Nat) (c:Nat):LX.mag (l++[c])=10*LX.mag l+(c - 48):=by
 unfold LX.mag
 rw [List.foldl_append]
 rfl
theorem mag_nat10:∀ (f u:Nat),1≤f→u<10 ^ f→LX.mag (LX.nat10 f u)=u
 | 0,_,h,_=>absurd h (by decide)
 | f+1,u,_,h=>by
  rw [LX.nat10]
  by_cases h10:u<10
  ·rw [if_pos h10];simp [LX.mag]
  ·rw [if_neg h10,mag_append]
   have hf:1≤f:=by
    rcases Nat.eq_zero_or_pos f with rfl | h0
    ·simp at h;omega
    ·exact h0
   rw [mag_nat10 f (u / 10) hf (by rw [Nat.pow_succ] at h;omega)]
   omega
theorem nat10_digit:∀ (f u:Nat),∀ c∈LX.nat10 f u,48≤c∧c≤57
 | 0,_,c,h=>by simp [LX.nat10] at h
 | f+1,u,c,h=>by
  rw [LX.nat10] at h
  by_cases h10:u<10
  ·rw [if_pos h10] at h
   simp only [List.mem_singleton] at h
   omega
  ·rw [if_neg h10,List.mem_append] at h
   rcases h with h | h
   ·exact nat10_digit f _ c h
   ·simp only [List.mem_singleton] at h
    omega
def numv (l:List Nat):Int:=match l with | 126 :: t => - (LX.mag t:Int) | _=>(LX.mag l:Int)
theorem num_numv (l:List Nat):LX.num l=if -9223372036854775808≤numv l∧numv l≤9223372036854775807∧LX.digs (numv l)=l then some (numv l) else none:=rfl
theorem numv_neg (t:List Nat):numv (126 :: t) = - (LX.mag t:Int):=rfl
theorem numv_pos {l:List Nat}(h:∀ c∈l,48≤c∧c≤57):numv l=(LX.mag l:Int):=by
 unfold numv
 split
 ·exact absurd (h 126 List.mem_cons_self) (by decide)
 ·rfl
theorem num_digs (n : Int) (h0 : -9223372036854775808 ≤ n) (h1 : n ≤ 9223372036854775807) : LX.num (LX.digs n) = some n := by
  have hn : n.natAbs < 10 ^ 30 := by have : (10 : Nat) ^ 30 = 1000000000000000000000000000000 := by decide
                                     omega
  have hm := mag_nat10 30 n.natAbs (by decide) hn
  have hv : numv (LX.digs n) = n := by
    unfold LX.digs
    by_cases h : n < 0
    · rw [if_pos h, numv_neg, hm]
      omega
    · rw [if_neg h, numv_pos (nat10_digit 30 n.natAbs), hm]
      omega
  rw [num_numv, hv, if_pos ⟨h0, h1, rfl⟩]
theorem num_some {l:List Nat}{v:Int}(h:LX.num l=some v) : -9223372036854775808≤v∧v≤9223372036854775807∧LX.digs v=l:=by
 rw [num_numv] at h
 by_cases hc : -9223372036854775808≤numv l∧numv l≤9223372036854775807∧LX.digs (numv l)=l
 ·rw [if_pos hc] at h
  injection h with h
  rw [h] at hc
  exact hc
 ·rw [if_neg hc] at h
  cases h
theorem bts_inj {s t:ByteArray}(h:bts s=bts t):s=t:=by
 have e:s.data.toList=t.data.toList:=List.map_inj_right (fun a b=>UInt8.toNat_inj.1) |>.1 h
 cases s with | mk a=>cases t with | mk b=>exact congrArg ByteArray.mk (Array.toList_inj.1 e)
def digS (n:Int):ByteArray:=⟨(digL n).toArray⟩
theorem bts_digS (n : Int) (h0 : -9223372036854775808 ≤ n) (h1 : n ≤ 9223372036854775807) : bts (digS n) = LX.digs n := by
  have hn : n.natAbs < 10 ^ 30 := by have : (10 : Nat) ^ 30 = 1000000000000000000000000000000 := by decide
                                     omega
  exact digL_digs n hn
theorem atoi_of_num {t:ByteArray}{v:Int}(h:LX.num (bts t)=some v):t=digS v∧Lib.atoiAll (Lib.replace t.data.toList [126] [45] 1) = .ok v:=by
 obtain⟨h0,h1,h2⟩:=num_some h
 have e:t=digS v:=bts_inj (by rw [bts_digS v h0 h1,h2])
 refine⟨e,?_⟩
 rw [e]
 show Lib.atoiAll (Lib.replace (digL v) [126] [45] 1)=_
 rw [replace_digL,atoi_itoa v h0 h1]
theorem ne_of_num {t:ByteArray}(h:LX.num (bts t)=none) (v:Int) (h0 : -9223372036854775808≤v) (h1:v≤9223372036854775807):digS v≠t:=fun e=>by
 rw [← e,bts_digS v h0 h1,num_digs v h0 h1] at h
 cases h
theorem atoi_range {l:List UInt8}{v:Int}(h:Lib.atoiAll l = .ok v) : -9223372036854775808≤v∧v≤9223372036854775807:=by
 unfold Lib.atoiAll at h
 cases l with
 | nil=>cases h
 | cons c r =>
  dsimp only at h
  split at h
  ·cases h
  ·cases h
  ·rename_i u hu
   split at h
   ·cases h
   ·split at h
    ·cases h
    ·injection h with h
     subst h
     split<;>constructor<;>omega
end Go.Proofs.YtnkahlloahgifaaGreatDoor.Lx

namespace Go.Proofs.YtnkahlloahgifaaGreatDoor.Lx
open Go.RowKit
def NPost (w:World) (s:ByteArray) (e:Ending) (w':World):Prop :=
 e = .returned (.pointer (some ⟨w.heap.size+1,0,none⟩))∧Sc w' (w.heap.size+1) s 0 w.heap.size (.slice none 0 0)∧Wd w' w.heap.size∧Below w.heap.size w w'∧w'.heap.size=w.heap.size+2
theorem words_bts:wordBs.map bts=LX.words:=by decide +kernel
theorem words_contains (t:ByteArray):(wordBs.take 15).contains t=LX.words.contains (bts t):=by
 rw [← words_bts,show wordBs.take 15=wordBs from rfl]
 generalize wordBs=l
 induction l with
 | nil=>rfl
 | cons a l ih =>
  rw [List.map_cons,List.contains_cons,List.contains_cons,ih]
  congr 1
  rw [Bool.eq_iff_iff,Go.MapKept.bytes_beq,beq_iff_eq]
  exact⟨fun h=>by rw [h],fun h=>bts_inj h⟩
theorem wd_of_words {w:World}{mb:Nat}(h:w.heap[mb]?=some (.map (wordEs 15) 15)):Wd w mb :=
 ⟨_,_,h,fun W t hW=>by
  have:=look_words W mb 15 t hW
  rw [words_contains] at this
  exact this⟩
structure NW (w wr:World) (s:ByteArray) (z k:Nat):Prop where
 map:wr.heap[z]?=some (.map (wordEs k) k)
 blk:wr.heap[z+1]?=some (.cells #[.string s,.int .i64 0,.map (some z),.slice none 0 0] 222 (0,0))
 below:Below z w wr
 size:wr.heap.size=z+2
theorem NW.store {w wr:World}{s:ByteArray}{z k:Nat}(h:NW w wr s z k) (hz:z=w.heap.size):NW w (wr.putObj z (.map (wordEs (k+1)) (k+1))) s z (k+1):=by
 have hlt:z<wr.heap.size:=(Array.getElem?_eq_some_iff.1 h.map).1
 refine⟨World.putObj_heap_same hlt,(World.putObj_heap_other (by omega)).trans h.blk,?_,by rw [World.putObj_size];exact h.size⟩
 exact⟨h.below.os,h.below.tape,h.below.output,by rw [World.putObj_size];exact h.below.size,fun k hk=>(World.putObj_heap_other (by omega)).trans (h.below.block k hk)⟩
set_option maxHeartbeats 800000 in
set_option maxRecDepth 20000 in
theorem newScanner_any (w:World) (s:ByteArray) (hs:s.size≤400000):Calls Tryz.prog 137 #[.string s] w (NPost w s):=by
 have hmm := @run_makeMap Tryz.prog
 have HS:=zh hs
 clear hs
 go_enter Tryz.func137,Tryz.ntmps137
 go_wp2_with fail
 clear hmm
 obtain⟨A,hA⟩:∃ A,A=Value.agg #[Value.string { data := #[97,110,100] },Value.string { data := #[99,97,115,101] },Value.string { data := #[100,97,116,97] },Value.string { data := #[101,108,115,101] },Value.string { data := #[101,110,100] },Value.string { data := #[102,110] },Value.string { data := #[102,117,110] },Value.string { data := #[105,102] },Value.string { data := #[105,110] },Value.string { data := #[105,110,112,117,116] },Value.string { data := #[108,101,116] },Value.string { data := #[111,102] },Value.string { data := #[111,117,116,112,117,116] },Value.string { data := #[116,104,101,110] },Value.string { data := #[118,97,108] }]:=⟨_,rfl⟩
 rw [← hA]
 obtain⟨z,hz⟩:∃ z,z=w.heap.size:=⟨_,rfl⟩
 obtain⟨W0,hW0⟩:∃ W,W=(w.alloc (.map #[] 0)).alloc (.cells #[.string s,.int .i64 0,.map (some w.heap.size),.slice none 0 0] 222):=⟨_,rfl⟩
 rw [← hW0]
 have N0:Hid (NW w W0 s z 0):=by
  rw [hW0,hz]
  refine⟨?_,?_,((Below.refl _ _).alloc (Nat.le_refl _) _).alloc (by simp) _,by simp⟩
  ·rw [Below.heap_alloc _ _ _ (by simp)];exact heap_alloc_new w _
  ·have:=heap_alloc_new (w.alloc (.map #[] 0)) (.cells #[.string s,.int .i64 0,.map (some w.heap.size),.slice none 0 0] 222)
   rwa [World.size_alloc] at this
 rw [← hz]
 have HA:Hid (A=Value.agg (wordBs.map Value.string).toArray):=hA
 have HZ:=zh hz
 have HX:Hid (z=w.heap.size→∀ wr,NW w wr s z 15→NPost w s (.returned (.pointer (some ⟨z+1,0,none⟩))) wr):=by
  rintro rfl wr h
  exact⟨rfl,⟨h.blk,Nat.zero_le _,HS.out⟩,wd_of_words h.map,h.below,h.size⟩
 clear hA hz hW0
 go_loopw [12] (fun v wr=>∃ k:Nat,k≤15∧v = .int .i64 k∧NW w wr s z k) (fun v _=>15 - (intOf v).toNat)
 case atStart=>exact⟨0,by decide,rfl,N0.out⟩
 case round =>
  obtain⟨k,hk,rfl,hN⟩:=hrel
  by_cases hk15:k<15
  ·have hkz:(k:Int)<15:=by omega
   obtain⟨x,hx⟩:∃ x,wordBs[k]?=some x:=⟨_,List.getElem?_eq_getElem (show k<wordBs.length from hk15)⟩
   have hi:(Instr.index 223 A (.int .i64 k)).run Tryz.prog wr = .ok (.string x) wr:=by rw [HA.out];exact word_at wr k x hx
   have hst:=store_word wr z k x hN.map hk15 hx
   have hc2:wr.cell? ⟨z+1,2,none⟩=some (.map (some z)):=by rw [cell_of_row _ _ 2 _ _ _ hN.blk];rfl
   have H1:=zh hN
   have H2:=zh hk15
   clear hN hk15 hx hk
   go_wp2_with fail
   go_roundw
   case rel=>exact⟨k+1,H2.out,by go_num,H1.out.store HZ.out⟩
   case measure=>have:=H2.out;simp [intOf];omega
  ·have hkz:(15:Int)≤(k:Int):=by omega
   have H1:Hid (NW w wr s z 15):=by
    obtain rfl:k=15:=by omega
    exact hN
   clear hN hk15 hk
   go_wp2_with fail
   go_ret
   exact HX.out HZ.out wr H1.out
end Go.Proofs.YtnkahlloahgifaaGreatDoor.Lx

namespace Go.Proofs.YtnkahlloahgifaaGreatDoor.Lx
open Go.RowKit
structure Env (w:World):Prop where
 tab:Lib.TabIs Tryz.prog w "internal/strconv.uint64pow10" .u64 Lib.pow10Tab
 max:∃ m,w.cell? ⟨0,0,none⟩=some (.int .i64 m)
 syn:∃ t p,w.cell? ⟨1,0,none⟩=some (.iface t p)
 rng:∃ t p,w.cell? ⟨2,0,none⟩=some (.iface t p)
 size:10≤w.heap.size
theorem Env.keep {w w':World}{B:Nat}(h:Env w) (hb:Below B w w') (hB:10≤B):Env w':=by
 obtain⟨g,hg,hg30⟩:∃ g,Tryz.prog.globalNamed "internal/strconv.uint64pow10" = some g∧g<10:=by
  have hk:((Tryz.prog.globalNamed "internal/strconv.uint64pow10").map fun g=>decide (g<10))=some true:=by kernel_rfl
  obtain⟨g,hg,hd⟩:=Option.map_eq_some_iff.1 hk
  exact⟨g,hg,of_decide_eq_true hd⟩
 exact⟨var?_below hb hg (by omega) h.tab,by rw [hb.cell (by show 0<B;omega)];exact h.max,by rw [hb.cell (by show 1<B;omega)];exact h.syn,by rw [hb.cell (by show 2<B;omega)];exact h.rng,Nat.le_trans h.size hb.size⟩
def NumPost (w:World) (t:ByteArray) (e:Ending) (w':World):Prop :=
 e = .returned (.tuple #[.int .i64 ((LX.num (bts t)).getD 0),.int .i64 (if (LX.num (bts t)).isSome then 0 else 13)])∧Below w.heap.size w w'
def NumLaw:Prop:=∀ (w:World) (t:ByteArray),Env w→t.size≤400000→Calls Tryz.prog 158 #[.string t] w (NumPost w t)
theorem number_eq (s:ByteArray) (i n d:Nat) (hd:d=n+LX.run LX.digit ((bts s).drop (i+n))) :
  LX.number ((bts s).drop i) n=match LX.num (((bts s).drop i).take d) with
   | none => .bad 13
   | some v=>if LX.part ((bts s).getD (i+d) 0)||(bts s).getD (i+d) 0==39 then .bad 13 else .tok 1 v d:=by
 unfold LX.number
 simp only [List.drop_drop]
 rw [← hd]
 cases LX.num (((bts s).drop i).take d) with
 | none=>rfl
 | some v =>
  simp only []
  cases h:(bts s).drop (i+d) with
  | nil =>
   have hl:(bts s).length≤i+d:=List.drop_eq_nil_iff.1 h
   have e:(bts s).getD (i+d) 0=0:=by rw [List.getD_eq_getElem?_getD,List.getElem?_eq_none hl];rfl
   rw [e]
   rfl
  | cons c t =>
   have hl:i+d<(bts s).length:=by
    rcases Nat.lt_or_ge (i+d) (bts s).length with h2 | h2
    ·exact h2
    ·rw [List.drop_of_length_le h2] at h;cases h
   rw [List.drop_eq_getElem_cons hl] at h
   simp only [List.cons.injEq] at h
   have e:(bts s).getD (i+d) 0=c:=by rw [List.getD_eq_getElem?_getD,List.getElem?_eq_getElem hl,← h.1];rfl
   rw [e]
set_option maxHeartbeats 800000 in
set_option maxRecDepth 20000 in
theorem number_any (NL:NumLaw) {w:World}{b:Nat}{s:ByteArray}{i mb:Nat}{cv:Value}(h:Sc w b s i mb cv) (henv:Env w) (hi:i<s.size) :
  Calls Tryz.prog 150 #[.pointer (some ⟨b,0,none⟩)] w (TPost w s i (LX.number ((bts s).drop i) (if (bts s).getD i 0=126 then 1 else 0))):=by
 obtain⟨c0,c1,lt,le,sz⟩:=h.at'
 obtain⟨c,hc⟩:∃ c,c=(bts s).getD i 0:=⟨_,rfl⟩
 rw [← hc]
 obtain⟨n,hn⟩:∃ n:Nat,n=if c=126 then 1 else 0:=⟨_,rfl⟩
 rw [← hn]
 obtain⟨r,hr⟩:∃ r,r=LX.number ((bts s).drop i) n:=⟨_,rfl⟩
 rw [← hr]
 obtain⟨d1,hd1⟩:∃ d1,d1=LX.run LX.digit ((bts s).drop (i+n)):=⟨_,rfl⟩
 obtain⟨x,hx⟩:∃ x,x=(bts s).getD (i+(n+d1)) 0:=⟨_,rfl⟩
 have hne:=number_eq s i n (n+d1) (by rw [hd1])
 rw [← hx] at hne
 have hn1:n≤1:=by rw [hn];split<;>omega
 have hds:i+n+d1≤s.size:=by
  have:=run_le LX.digit ((bts s).drop (i+n))
  rw [List.length_drop,bts_length,← hd1] at this
  omega
 have ATW:Hid (∀ W:World,W.heap[b]?=w.heap[b]?→At W b s i):=fun W e=>⟨by rw [World.cell?_of_block (w:=w) e];exact c0,by rw [World.cell?_of_block (w:=w) e];exact c1,by
  rw [h.1] at e;exact(Array.getElem?_eq_some_iff.1 e).1,le,sz⟩
 have HC:=zh hc
 have HN:=zh hn
 have HR:=zh (hr.trans hne)
 have HD:=zh hd1
 have HX:=zh hx
 have HE:=zh henv
 have HDS:=zh hds
 have H1:=zh hn1
 have HL:=zh NL
 have hiz:(i:Int)+(n:Int)+(d1:Int)≤400000:=by omega
 have hnd0:(n:Int)+(d1:Int)≤400000:=by omega
 have hsz:(i:Int)+(n:Int)+(d1:Int)≤(s.size:Int):=by omega
 have hnz1:(n:Int)≤1:=by omega
 have hsl:∀ m:World,(Instr.slice 9 (.string s) (some (.int .i64 i)) (some (.int .i64 ((i:Int)+(n:Int)+(d1:Int)))) none).run Tryz.prog m = .ok (.string (s.extract i (i+(n+d1)))) m:=fun m=>by
  have:=run_slice_string (P:=Tryz.prog) m 9 s .i64 .i64 i ((i:Int)+(n:Int)+(d1:Int)) Tryz.underlying9 (by omega) (by omega) (by omega)
  rw [this]
  have e:((i:Int)+(n:Int)+(d1:Int)).toNat=i+(n+d1):=by omega
  rw [e]
  simp
 have hw1:IntKind.i64.wrap ((i:Int)+(n:Int))=(i:Int)+(n:Int):=wrap_in _ (by omega)
 have hw2:IntKind.i64.wrap ((i:Int)+(n:Int)+(d1:Int))=(i:Int)+(n:Int)+(d1:Int):=wrap_in _ (by omega)
 have HSL:=zh hsl
 clear hc hr hd1 hx hne hds henv NL hn1 le h hsl c0 c1 hn
 go_enter Tryz.func150,Tryz.ntmps150
 go_wp2_with fail
 obtain⟨z,hz⟩:∃ z,z=w.heap.size:=⟨_,rfl⟩
 obtain⟨W0,hW0⟩:∃ W,W=w.alloc (.cells #[.int .i64 0,.int .i64 0,.string ⟨#[]⟩,.int .i64 0] 154):=⟨_,rfl⟩
 rw [← hW0,← hz]
 have B0:Hid (W0.heap[b]?=w.heap[b]?):=by rw [hW0];exact Below.heap_alloc _ _ _ lt
 have B1:Hid (W0.heap[z]?=some (.cells #[.int .i64 0,.int .i64 0,.string ⟨#[]⟩,.int .i64 0] 154 (0,0))):=by rw [hW0,hz];exact heap_alloc_new w _
 have B2:Hid (Below w.heap.size w W0):=by rw [hW0];exact(Below.refl _ _).alloc (Nat.le_refl _) _
 have B3:Hid (z<W0.heap.size):=(Array.getElem?_eq_some_iff.1 B1.out).1
 have B4:=zh hz
 clear hz hW0
 refine(peek_any (ATW.out W0 B0.out) 0 (by decide)).mono ?_
 rintro e w1 ⟨rfl,q1,rfl⟩
 rw [Nat.add_zero,← HC.out]
 by_cases hc126:c=126
 case' pos =>
  have hcz:((c:Int)==126)=true:=by simp;omega
  have hcz2:(c:Int)=126:=by omega
  have HN1:Hid (n=1):=by show n=1;rw [HN.out,if_pos hc126]
  clear hc126
  go_wp2_with fail
  rw [show (1:Int)=(n:Int) from by rw [HN1.out];rfl]
 case' neg =>
  have hcz2:¬ (c:Int)=126:=by omega
  have HN1:Hid (n=0):=by show n=0;rw [HN.out,if_neg hc126]
  clear hc126
  go_wp2_with fail
  rw [show (0:Int)=(n:Int) from by rw [HN1.out];rfl]
 all_goals
  refine(run_digit (ATW.out (W0.drewN q1) B0.out) n (by have:=H1.out;omega)).mono ?_
  rintro e w2 ⟨rfl,q2,rfl⟩
  rw [← HD.out]
  go_wp2_with fail
  have PK:=peek_any (ATW.out (W0.drewN (q1+q2)) B0.out) (n+d1) (by have:=H1.out;have:=HDS.out;omega)
  rw [← HX.out,show ((n+d1:Nat):Int)=(n:Int)+(d1:Int) from by push_cast;rfl] at PK
  refine PK.mono ?_
  clear PK
  rintro e w3 ⟨rfl,q3,rfl⟩
  have hsl:=HSL.out
  obtain⟨e0,e1,elt,-,-⟩:=ATW.out W0 B0.out
  go_wp2_with fail
  go_quiet (fail)
  clear hsl e0 e1 elt hw1 hw2
  go_wp2_with fail
  have NB:=HL.out (W0.drewN (q1+q2+q3+nq)) (s.extract i (i+(n+d1))) (HE.out.keep (below_drawn B2.out _) HE.out.size) (by rw [ByteArray.size_extract];have:=HDS.out;omega)
  refine NB.mono ?_
  clear NB
  rintro e w4 ⟨rfl,hb4⟩
  obtain⟨tx,htx⟩:∃ t,t=s.extract i (i+(n+d1)):=⟨_,rfl⟩
  rw [← htx]
  have HTX:=zh htx
  have hb2:Below W0.heap.size W0 w4:=below_of_drew hb4
  have b1:w4.heap[z]?=some (.cells #[.int .i64 0,.int .i64 0,.string ⟨#[]⟩,.int .i64 0] 154 (0,0)):=(hb2.block z B3.out).trans B1.out
  have b2:w4.heap[b]?=w.heap[b]?:=(hb2.block b (Nat.lt_of_lt_of_le lt B2.out.size)).trans B0.out
  obtain⟨e0,e1,elt,-,-⟩:=ATW.out w4 b2
  have X1:Hid (Below w.heap.size w w4):=B2.out.trans (hb2.mono B2.out.size)
  have X2:=zh b1
  have HWT:Hid (bts tx=((bts s).drop i).take (n+d1)):=by show _=_;rw [htx,bts_extract,Nat.add_sub_cancel_left]
  have yl:z<w4.heap.size:=(Array.getElem?_eq_some_iff.1 b1).1
  have Y:Hid (∀ q,w4.frozen? ⟨z,q,none⟩=false):=fun q=>frozen_of_row w4 z q _ _ b1
  have HRN:Hid (LX.num (((bts s).drop i).take (n+d1))=none→r = .bad 13):=fun h=>by rw [HR.out,h]
  have HRS:Hid (∀ v,LX.num (((bts s).drop i).take (n+d1))=some v→r=if LX.part x||x==39 then .bad 13 else .tok 1 v (n+d1)):=fun v h=>by rw [HR.out,h]
  clear htx hb4 hb2 b1 b2 HR
  cases hv:LX.num (bts tx) with
  | none =>
   have HV:=zh hv
   clear hv
   go_wp2_with fail
   refine⟨rfl,?_⟩
   rw [HRN.out (by rw [← HWT.out];exact HV.out)]
   exact⟨rfl,X1.out⟩
  | some v =>
   have HV:=zh hv
   clear hv
   go_wp2_with fail
   refine(part_any w4 x).mono ?_
   rintro e w5 ⟨rfl,rfl⟩
   cases hp:LX.part x with
   | true =>
    have HP:=zh hp
    clear hp
    go_wp2_with fail
    refine⟨rfl,?_⟩
    rw [HRS.out v (by rw [← HWT.out];exact HV.out),HP.out]
    exact⟨rfl,X1.out⟩
   | false =>
    have HP:=zh hp
    clear hp
    by_cases hx39:x=39
    ·have hxz:(x:Int)=39:=by omega
     have HX3:=zh hx39
     clear hx39
     go_wp2_with fail
     refine⟨rfl,?_⟩
     rw [HRS.out v (by rw [← HWT.out];exact HV.out),HP.out,HX3.out]
     exact⟨rfl,X1.out⟩
    ·have hxz:¬ (x:Int)=39:=by omega
     have HX3:=zh hx39
     clear hx39
     have yf:∀ q,w5.frozen? ⟨z,q,none⟩=false:=Y.out
     have y0:w5.cell? ⟨z,0,none⟩=some (.int .i64 0):=by rw [cell_of_row w5 z 0 _ _ _ X2.out];rfl
     have y1:w5.cell? ⟨z,1,none⟩=some (.int .i64 0):=by rw [cell_of_row w5 z 1 _ _ _ X2.out];rfl
     have y2:w5.cell? ⟨z,2,none⟩=some (.string ⟨#[]⟩):=by rw [cell_of_row w5 z 2 _ _ _ X2.out];rfl
     have y3:w5.cell? ⟨z,3,none⟩=some (.int .i64 0):=by rw [cell_of_row w5 z 3 _ _ _ X2.out];rfl
     go_wp2_with fail
     have hf:=four_set X2.out (.int .i64 1) (.int .i64 v) (.string tx) (.int .i64 i)
     have hzb:w.heap.size≤z:=Nat.le_of_eq B4.out.symm
     refine bodyPost_ret (v:=tokV 1 v tx i) (by rw [results_one_cell rfl];simp [asAddr,load39 hf]) rfl ?_
     have hfin:=(((X1.out.setCell (p:=⟨z,0,none⟩) hzb (.int .i64 1)).setCell (p:=⟨z,1,none⟩) hzb (.int .i64 v)).setCell (p:=⟨z,2,none⟩) hzb (.string tx)).setCell (p:=⟨z,3,none⟩) hzb (.int .i64 i)
     rw [HRS.out v (by rw [← HWT.out];exact HV.out),HP.out,if_neg (by simpa using HX3.out)]
     exact⟨by rw [HTX.out];try rfl,hfin⟩
end Go.Proofs.YtnkahlloahgifaaGreatDoor.Lx
