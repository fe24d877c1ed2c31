/- Part. -/
import Derived.Test.YtnkahlloahgifaaGreatDoorVB
import Derived.Test.YtnkahlloahgifaaGreatDoorVLxG
import Derived.Lib.ItoaLen
import Derived.Lib.SplitLaws
import Derived.Lib.AtoiErrMem
import Derived.RangeFuncSeq
import Derived.OwnWalkIn
import Derived.TacticsInMore
import Derived.LoopNIn
import Derived.LoopIn
import Derived.BigFrameIn
import Derived.Outline
import Derived.RangeFuncLeaves
import Derived.RangeFuncRecord
import Derived.RecoverIn
import Derived.RegionTactic
import Derived.RangeFuncBox
import Derived.RangeFuncIn
import Derived.Shelf.Abstract
import Derived.Maps.AppendAt
import Derived.Lib.SlicesS
import Derived.Test.YtnkahlloahgifaaGreatDoorVCb
import Derived.Test.YtnkahlloahgifaaGreatDoorVDa
import Derived.Deep.Cut
import Derived.Test.YtnkahlloahgifaaGreatDoorVFb
set_option maxHeartbeats 16000000
set_option maxRecDepth 100000
set_option linter.unusedSimpArgs false
set_option linter.unusedVariables false
namespace Go.Proofs.YtnkahlloahgifaaGreatDoor.Lx
open Go.RowKit
theorem token_eq (s:ByteArray) (i:Nat) (hi:i<s.size) :
  LX.token ((bts s).drop i)=if LX.digit ((bts s).getD i 0)||(bts s).getD i 0==126 then LX.number ((bts s).drop i) (if (bts s).getD i 0=126 then 1 else 0)
  else if LX.small ((bts s).getD i 0) then LX.named 2 ((bts s).drop i)
  else if LX.great ((bts s).getD i 0) then LX.named 3 ((bts s).drop i)
  else if (bts s).getD i 0=39∧LX.small ((bts s).getD (i+1) 0) then LX.made 4 (1+LX.run LX.part ((bts s).drop (i+1)))
  else if [61,62].isPrefixOf ((bts s).drop i)=true∨[45,62].isPrefixOf ((bts s).drop i)=true then .tok 6 0 2
  else if LX.signs.contains ((bts s).getD i 0) then .tok 6 0 1
  else .bad 11:=by
 have hl:i<(bts s).length:=by rw [ze];exact hi
 have e1:(bts s).getD i 0=(bts s)[i]:=by rw [zt4,zq9 hl];rfl
 have e2:LX.head0 ((bts s).drop (i+1))=(bts s).getD (i+1) 0:=by
  unfold LX.head0
  rw [List.headD_eq_head?_getD,List.head?_drop,zt4]
 rw [← e2,e1,List.drop_eq_getElem_cons hl]
 generalize (bts s)[i]=c
 generalize (bts s).drop (i+1)=t
 unfold LX.token
 have e3:((c=61∨c=45)∧LX.head0 t=62)=([61,62].isPrefixOf (c :: t)=true∨[45,62].isPrefixOf (c :: t)=true):=by
  cases t with
  | nil=>simp [List.isPrefixOf,LX.head0]
  | cons d t =>
   simp only [List.isPrefixOf,LX.head0,List.headD_cons,Bool.and_true,Bool.and_eq_true,beq_iff_eq,eq_iff_iff]
   constructor
   ·rintro ⟨h | h,k⟩
    ·exact .inl ⟨h.symm,k.symm⟩
    exact .inr ⟨h.symm,k.symm⟩
   rintro (⟨h,k⟩|⟨h,k⟩)
   ·exact⟨.inl h.symm,k.symm⟩
   exact⟨.inr h.symm,k.symm⟩
 simp only [e3]
def signB:ByteArray:=⟨#[40,41,44,59,58,124,61,60,43,45,42,47,37,95]⟩
theorem signs_eq (c:Nat) (hc:c<256):decide (0≤Lib.indexByte signB.data.toList ((c:Int)).toNat.toUInt8)=LX.signs.contains c:=by
 have h:∀ c:Fin 256,decide (0≤Lib.indexByte signB.data.toList ((c.1:Int)).toNat.toUInt8)=LX.signs.contains c.1:=by decide +kernel
 exact h ⟨c,hc⟩
theorem bts_lt (s:ByteArray) (i:Nat):(bts s).getD i 0<256:=by
 rw [zt4]
 rcases Nat.lt_or_ge i s.size with h | h
 ·rw [bts_get s h];exact(s[i]'h).toNat_lt
 rw [List.getElem?_eq_none (by rw [ze];exact h)];decide
theorem made_tpost {w:World}{s:ByteArray}{i k n:Nat}{e:Ending}{w':World}(h:MPost w s i k n e w'):TPost w s i (LX.made k n) e w':=by
 unfold MPost at h
 unfold LX.made
 by_cases hn:24<n
 ·rw [if_pos hn] at h ⊢;exact h
 rw [if_neg hn] at h ⊢;exact h
theorem token_any (NL:NumLaw) {w:World}{b:Nat}{s:ByteArray}{i mb:Nat}{cv:Value}(h:Sc w b s i mb cv) (henv:Env w) (hw:Wd w mb) (hmb:mb≠b) (hi:i<s.size) :
  Calls Tryz.prog 143 #[.pointer (some ⟨b,0,none⟩)] w (TPost w s i (LX.token ((bts s).drop i))):=by
 have hne:=token_eq s i hi
 obtain⟨c,hc⟩:∃ c,c=(bts s).getD i 0:=⟨_,rfl⟩
 obtain⟨d,hd⟩:∃ d,d=(bts s).getD (i+1) 0:=⟨_,rfl⟩
 obtain⟨r,hr⟩:∃ r,r=LX.token ((bts s).drop i):=⟨_,rfl⟩
 have c256:c<256:=by rw [hc];exact bts_lt s i
 rw [← hr] at hne ⊢
 rw [← hc,← hd] at hne
 obtain⟨c0,c1,lt,le,sz⟩:=h.at'
 have ATW:Hid (∀ W:World,W.heap[b]?=w.heap[b]?→At W b s i):=fun W e=>⟨by rw [World.cell?_of_block (w:=w) e];exact c0,by rw [World.cell?_of_block (w:=w) e];exact c1,by
  rw [h.1] at e;exact(zq7.1 e).1,le,sz⟩
 have SCW:Hid (∀ W:World,W.heap[b]?=w.heap[b]?→Sc W b s i mb cv):=fun W e=>⟨e.trans h.1,h.2⟩
 have HC:=zh hc
 have HD:=zh hd
 have HR:=zh hne
 have HE:=zh henv
 have HW:=zh hw
 have HB:=zh hmb
 have HI:=zh hi
 have HL:=zh NL
 have HCB:=zh c256
 clear hc hd hr hne henv hw hmb hi NL c256 le h c0 c1 sz
 go_enter Tryz.func143,Tryz.ntmps143
 go_wp2_with fail
 obtain⟨z,hz⟩:∃ z,z=w.heap.size:=⟨_,rfl⟩
 obtain⟨W0,hW0⟩:∃ W,W=w.alloc (.cells #[.int .i64 0,.int .i64 0,.string ⟨#[]⟩,.int .i64 0] 154):=⟨_,rfl⟩
 rw [← hW0,← hz]
 have B0:Hid (W0.heap[b]?=w.heap[b]?):=by rw [hW0];exact zt2 _ _ _ lt
 have B1:Hid (W0.heap[z]?=some (.cells #[.int .i64 0,.int .i64 0,.string ⟨#[]⟩,.int .i64 0] 154 (0,0))):=by rw [hW0,hz];exact zs2 w _
 have B2:Hid (Below w.heap.size w W0):=by rw [hW0];exact(zs9 _ _).alloc (zr4 _) _
 have B3:Hid (z<W0.heap.size):=(zq7.1 B1.out).1
 have B4:=zh hz
 have HEW:Hid (∀ q,Env (W0.drewN q)):=fun q=>HE.out.keep (below_drawn B2.out q) HE.out.size
 have HWW:Hid (∀ q,Wd (W0.drewN q) mb):=fun q=>by
  obtain⟨es,clock,h1,h2⟩:=HW.out
  exact⟨es,clock,(B2.out.block mb (zq7.1 h1).1).trans h1,h2⟩
 have END:Hid (∀ (W W':World) (q:Nat) (k v:Int) (t:ByteArray),Below W0.heap.size (W0.drewN q) W →
   W.heap[z]?=some (.cells #[.int .i64 0,.int .i64 0,.string ⟨#[]⟩,.int .i64 0] 154 (0,0))∧Below w.heap.size w ((((W.setCell ⟨z,0,none⟩ (.int .i64 k)).setCell ⟨z,1,none⟩ (.int .i64 v)).setCell ⟨z,2,none⟩ (.string t)).setCell ⟨z,3,none⟩ (.int .i64 i))):=fun W W' q k v t hb=>by
  have hb2:Below W0.heap.size W0 W:=zu hb
  have hzb:w.heap.size≤z:=Nat.le_of_eq B4.out.symm
  exact⟨(hb2.block z B3.out).trans B1.out,((((B2.out.trans (hb2.mono B2.out.size)).setCell (p:=⟨z,0,none⟩) hzb (.int .i64 k)).setCell (p:=⟨z,1,none⟩) hzb (.int .i64 v)).setCell (p:=⟨z,2,none⟩) hzb (.string t)).setCell (p:=⟨z,3,none⟩) hzb (.int .i64 i)⟩
 clear hz hW0
 refine(peek_any (ATW.out W0 B0.out) 0 (by decide)).mono ?_
 rintro e w1 ⟨rfl,q1,rfl⟩
 rw [Nat.add_zero,← HC.out]
 go_wp2_with fail
 refine(digit_any _ c).mono ?_
 rintro e w2 ⟨rfl,rfl⟩
 cases hdg:LX.digit c with
 | true =>
  have HDG:=zh hdg
  clear hdg
  go_wp2_with fail
  have NB:=number_any HL.out (SCW.out (W0.drewN q1) B0.out) (HEW.out q1) HI.out
  refine NB.mono ?_
  clear NB
  intro e w3 hp
  obtain⟨cr,hcr⟩:∃ cr,cr=r:=⟨_,rfl⟩
  have HP0:TPost (W0.drewN (q1)) s i cr e w3:=by
   rw [hcr,HR.out,HDG.out,Bool.true_or,if_pos rfl,HC.out]
   exact hp
  have HCR:=zh hcr
  clear hp hcr
  cases cr with
  | bad er =>
   obtain⟨rfl,hb⟩:=HP0
   unfold thrown
   have X1:=zh hb
   clear hb
   go_wp2_with fail
   refine⟨rfl,?_⟩
   rw [← HCR.out]
   exact⟨rfl,B2.out.trans ((zu X1.out).mono B2.out.size)⟩
  | tok k v n =>
   obtain⟨rfl,hb⟩:=HP0
   unfold tokV
   have X2:=END.out w3 w3 _ k v (s.extract i (i+n)) hb
   have X1:=zh hb
   have X3:=zh X2
   have yf:∀ q,w3.frozen? ⟨z,q,none⟩=false:=fun q=>zs1 w3 z q _ _ X2.1
   have y0:w3.cell? ⟨z,0,none⟩=some (.int .i64 0):=by rw [zb w3 z 0 _ _ _ X2.1];rfl
   have y1:w3.cell? ⟨z,1,none⟩=some (.int .i64 0):=by rw [zb w3 z 1 _ _ _ X2.1];rfl
   have y2:w3.cell? ⟨z,2,none⟩=some (.string ⟨#[]⟩):=by rw [zb w3 z 2 _ _ _ X2.1];rfl
   have y3:w3.cell? ⟨z,3,none⟩=some (.int .i64 0):=by rw [zb w3 z 3 _ _ _ X2.1];rfl
   clear X2 hb
   obtain⟨tx,htx⟩:∃ t,t=s.extract i (i+n):=⟨_,rfl⟩
   rw [← htx]
   have HTX:=zh htx
   clear htx
   go_wp2_with fail
   have hf:=four_set X3.out.1 (.int .i64 k) (.int .i64 v) (.string tx) (.int .i64 i)
   refine bodyPost_ret (v:=tokV k v tx i) (by rw [zt rfl];simp [asAddr,load39 hf]) rfl ?_
   rw [← HCR.out]
   have X4:=X3.out.2
   rw [← HTX.out] at X4
   exact⟨by rw [HTX.out];try rfl,X4⟩
 | false =>
  have HDG:=zh hdg
  clear hdg
  by_cases hc126:c=126
  ·have hz126:(c:Int)=126:=by omega
   have HC6:=zh hc126
   clear hc126
   go_wp2_with fail
   have NB:=number_any HL.out (SCW.out (W0.drewN q1) B0.out) (HEW.out q1) HI.out
   refine NB.mono ?_
   clear NB
   intro e w3 hp
   obtain⟨cr,hcr⟩:∃ cr,cr=r:=⟨_,rfl⟩
   have HP0:TPost (W0.drewN (q1)) s i cr e w3:=by
    rw [hcr,HR.out,HDG.out,HC6.out,show ((false||(126:Nat)==126)=true) from rfl,if_pos rfl,if_pos rfl]
    rw [← HC.out,HC6.out,if_pos rfl] at hp;exact hp
   have HCR:=zh hcr
   clear hp hcr
   cases cr with
   | bad er =>
    obtain⟨rfl,hb⟩:=HP0
    unfold thrown
    have X1:=zh hb
    clear hb
    go_wp2_with fail
    refine⟨rfl,?_⟩
    rw [← HCR.out]
    exact⟨rfl,B2.out.trans ((zu X1.out).mono B2.out.size)⟩
   | tok k v n =>
    obtain⟨rfl,hb⟩:=HP0
    unfold tokV
    have X2:=END.out w3 w3 _ k v (s.extract i (i+n)) hb
    have X1:=zh hb
    have X3:=zh X2
    have yf:∀ q,w3.frozen? ⟨z,q,none⟩=false:=fun q=>zs1 w3 z q _ _ X2.1
    have y0:w3.cell? ⟨z,0,none⟩=some (.int .i64 0):=by rw [zb w3 z 0 _ _ _ X2.1];rfl
    have y1:w3.cell? ⟨z,1,none⟩=some (.int .i64 0):=by rw [zb w3 z 1 _ _ _ X2.1];rfl
    have y2:w3.cell? ⟨z,2,none⟩=some (.string ⟨#[]⟩):=by rw [zb w3 z 2 _ _ _ X2.1];rfl
    have y3:w3.cell? ⟨z,3,none⟩=some (.int .i64 0):=by rw [zb w3 z 3 _ _ _ X2.1];rfl
    clear X2 hb
    obtain⟨tx,htx⟩:∃ t,t=s.extract i (i+n):=⟨_,rfl⟩
    rw [← htx]
    have HTX:=zh htx
    clear htx
    go_wp2_with fail
    have hf:=four_set X3.out.1 (.int .i64 k) (.int .i64 v) (.string tx) (.int .i64 i)
    refine bodyPost_ret (v:=tokV k v tx i) (by rw [zt rfl];simp [asAddr,load39 hf]) rfl ?_
    rw [← HCR.out]
    have X4:=X3.out.2
    rw [← HTX.out] at X4
    exact⟨by rw [HTX.out];try rfl,X4⟩
  have hz126:¬ (c:Int)=126:=by omega
  have HDN:Hid ((LX.digit c||c==126)=false):=by show _=_;rw [HDG.out,Bool.false_or];exact zt6 hc126
  clear hc126
  go_wp2_with fail
  refine(small_any _ c).mono ?_
  rintro e w2 ⟨rfl,rfl⟩
  cases hsm:LX.small c with
  | true =>
   have HSM:=zh hsm
   clear hsm
   go_wp2_with fail
   have NB:=name_any (SCW.out (W0.drewN q1) B0.out) (HWW.out q1) HB.out 2 (by decide) HI.out
   refine NB.mono ?_
   clear NB
   intro e w3 hp
   obtain⟨cr,hcr⟩:∃ cr,cr=r:=⟨_,rfl⟩
   have HP0:TPost (W0.drewN (q1)) s i cr e w3:=by
    rw [hcr,HR.out,HDN.out,HSM.out,if_neg Bool.false_ne_true,if_pos rfl]
    exact hp
   have HCR:=zh hcr
   clear hp hcr
   cases cr with
   | bad er =>
    obtain⟨rfl,hb⟩:=HP0
    unfold thrown
    have X1:=zh hb
    clear hb
    go_wp2_with fail
    refine⟨rfl,?_⟩
    rw [← HCR.out]
    exact⟨rfl,B2.out.trans ((zu X1.out).mono B2.out.size)⟩
   | tok k v n =>
    obtain⟨rfl,hb⟩:=HP0
    unfold tokV
    have X2:=END.out w3 w3 _ k v (s.extract i (i+n)) hb
    have X1:=zh hb
    have X3:=zh X2
    have yf:∀ q,w3.frozen? ⟨z,q,none⟩=false:=fun q=>zs1 w3 z q _ _ X2.1
    have y0:w3.cell? ⟨z,0,none⟩=some (.int .i64 0):=by rw [zb w3 z 0 _ _ _ X2.1];rfl
    have y1:w3.cell? ⟨z,1,none⟩=some (.int .i64 0):=by rw [zb w3 z 1 _ _ _ X2.1];rfl
    have y2:w3.cell? ⟨z,2,none⟩=some (.string ⟨#[]⟩):=by rw [zb w3 z 2 _ _ _ X2.1];rfl
    have y3:w3.cell? ⟨z,3,none⟩=some (.int .i64 0):=by rw [zb w3 z 3 _ _ _ X2.1];rfl
    clear X2 hb
    obtain⟨tx,htx⟩:∃ t,t=s.extract i (i+n):=⟨_,rfl⟩
    rw [← htx]
    have HTX:=zh htx
    clear htx
    go_wp2_with fail
    have hf:=four_set X3.out.1 (.int .i64 k) (.int .i64 v) (.string tx) (.int .i64 i)
    refine bodyPost_ret (v:=tokV k v tx i) (by rw [zt rfl];simp [asAddr,load39 hf]) rfl ?_
    rw [← HCR.out]
    have X4:=X3.out.2
    rw [← HTX.out] at X4
    exact⟨by rw [HTX.out];try rfl,X4⟩
  | false =>
   have HSM:=zh hsm
   clear hsm
   go_wp2_with fail
   refine(great_any _ c).mono ?_
   rintro e w2 ⟨rfl,rfl⟩
   cases hgr:LX.great c with
   | true =>
    have HGR:=zh hgr
    clear hgr
    go_wp2_with fail
    have NB:=name_any (SCW.out (W0.drewN q1) B0.out) (HWW.out q1) HB.out 3 (by decide) HI.out
    refine NB.mono ?_
    clear NB
    intro e w3 hp
    obtain⟨cr,hcr⟩:∃ cr,cr=r:=⟨_,rfl⟩
    have HP0:TPost (W0.drewN (q1)) s i cr e w3:=by
     rw [hcr,HR.out,HDN.out,HSM.out,HGR.out,if_neg Bool.false_ne_true,if_neg Bool.false_ne_true,if_pos rfl]
     exact hp
    have HCR:=zh hcr
    clear hp hcr
    cases cr with
    | bad er =>
     obtain⟨rfl,hb⟩:=HP0
     unfold thrown
     have X1:=zh hb
     clear hb
     go_wp2_with fail
     refine⟨rfl,?_⟩
     rw [← HCR.out]
     exact⟨rfl,B2.out.trans ((zu X1.out).mono B2.out.size)⟩
    | tok k v n =>
     obtain⟨rfl,hb⟩:=HP0
     unfold tokV
     have X2:=END.out w3 w3 _ k v (s.extract i (i+n)) hb
     have X1:=zh hb
     have X3:=zh X2
     have yf:∀ q,w3.frozen? ⟨z,q,none⟩=false:=fun q=>zs1 w3 z q _ _ X2.1
     have y0:w3.cell? ⟨z,0,none⟩=some (.int .i64 0):=by rw [zb w3 z 0 _ _ _ X2.1];rfl
     have y1:w3.cell? ⟨z,1,none⟩=some (.int .i64 0):=by rw [zb w3 z 1 _ _ _ X2.1];rfl
     have y2:w3.cell? ⟨z,2,none⟩=some (.string ⟨#[]⟩):=by rw [zb w3 z 2 _ _ _ X2.1];rfl
     have y3:w3.cell? ⟨z,3,none⟩=some (.int .i64 0):=by rw [zb w3 z 3 _ _ _ X2.1];rfl
     clear X2 hb
     obtain⟨tx,htx⟩:∃ t,t=s.extract i (i+n):=⟨_,rfl⟩
     rw [← htx]
     have HTX:=zh htx
     clear htx
     go_wp2_with fail
     have hf:=four_set X3.out.1 (.int .i64 k) (.int .i64 v) (.string tx) (.int .i64 i)
     refine bodyPost_ret (v:=tokV k v tx i) (by rw [zt rfl];simp [asAddr,load39 hf]) rfl ?_
     rw [← HCR.out]
     have X4:=X3.out.2
     rw [← HTX.out] at X4
     exact⟨by rw [HTX.out];try rfl,X4⟩
   | false =>
    have HGR:=zh hgr
    clear hgr
    have HR2:Hid (r=if c=39∧LX.small d then LX.made 4 (1+LX.run LX.part ((bts s).drop (i+1)))
      else if [61,62].isPrefixOf ((bts s).drop i)=true∨[45,62].isPrefixOf ((bts s).drop i)=true then .tok 6 0 2
      else if LX.signs.contains c then .tok 6 0 1
      else .bad 11):=by
     show _=_
     rw [HR.out,HDN.out,HSM.out,HGR.out,if_neg Bool.false_ne_true,if_neg Bool.false_ne_true,if_neg Bool.false_ne_true]
    by_cases hc39:c=39
    ·have hz39:(c:Int)=39:=by omega
     have HC9:=zh hc39
     clear hc39
     go_wp2_with fail
     refine(peek_any (ATW.out (W0.drewN q1) B0.out) 1 (by decide)).mono ?_
     rintro e w3 ⟨rfl,q2,rfl⟩
     rw [← HD.out]
     go_wp2_with fail
     refine(small_any _ d).mono ?_
     rintro e w3 ⟨rfl,rfl⟩
     cases hsd:LX.small d with
     | true =>
      have HSD:=zh hsd
      clear hsd
      go_wp2_with fail
      have RP:=run_part (ATW.out (W0.drewN (q1+q2)) B0.out) 1 (by decide)
      obtain⟨rp,hrp⟩:∃ rp,rp=LX.run LX.part ((bts s).drop (i+1)):=⟨_,rfl⟩
      have hle:i+(1+rp)≤s.size:=by
       have:=run_le LX.part ((bts s).drop (i+1))
       have:=HI.out
       rw [List.length_drop,ze,← hrp] at *
       omega
      have hsz:rp≤400000:=by have:=(SCW.out w rfl).2.2;omega
      rw [← hrp] at RP
      have HRP:=zh hrp
      have HLE:=zh hle
      clear hrp hle
      refine RP.mono ?_
      clear RP
      rintro e w3 ⟨rfl,q3,rfl⟩
      go_wp2_with fail
      have MD:=made_any (SCW.out (W0.drewN (q1+q2+q3)) B0.out) 4 (1+rp) HLE.out
      rw [show ((1+rp:Nat):Int)=1+(rp:Int) from by push_cast;rfl] at MD
      have NB:=MD
      refine NB.mono ?_
      clear NB
      intro e w3 hp
      obtain⟨cr,hcr⟩:∃ cr,cr=r:=⟨_,rfl⟩
      have HP0:TPost (W0.drewN (q1+q2+q3)) s i cr e w3:=by
       rw [hcr,HR2.out,HC9.out,if_pos ⟨rfl,HSD.out⟩,← HRP.out]
       exact made_tpost (k:=4) hp
      have HCR:=zh hcr
      clear hp hcr
      cases cr with
      | bad er =>
       obtain⟨rfl,hb⟩:=HP0
       unfold thrown
       have X1:=zh hb
       clear hb
       go_wp2_with fail
       refine⟨rfl,?_⟩
       rw [← HCR.out]
       exact⟨rfl,B2.out.trans ((zu X1.out).mono B2.out.size)⟩
      | tok k v n =>
       obtain⟨rfl,hb⟩:=HP0
       unfold tokV
       have X2:=END.out w3 w3 _ k v (s.extract i (i+n)) hb
       have X1:=zh hb
       have X3:=zh X2
       have yf:∀ q,w3.frozen? ⟨z,q,none⟩=false:=fun q=>zs1 w3 z q _ _ X2.1
       have y0:w3.cell? ⟨z,0,none⟩=some (.int .i64 0):=by rw [zb w3 z 0 _ _ _ X2.1];rfl
       have y1:w3.cell? ⟨z,1,none⟩=some (.int .i64 0):=by rw [zb w3 z 1 _ _ _ X2.1];rfl
       have y2:w3.cell? ⟨z,2,none⟩=some (.string ⟨#[]⟩):=by rw [zb w3 z 2 _ _ _ X2.1];rfl
       have y3:w3.cell? ⟨z,3,none⟩=some (.int .i64 0):=by rw [zb w3 z 3 _ _ _ X2.1];rfl
       clear X2 hb
       obtain⟨tx,htx⟩:∃ t,t=s.extract i (i+n):=⟨_,rfl⟩
       rw [← htx]
       have HTX:=zh htx
       clear htx
       go_wp2_with fail
       have hf:=four_set X3.out.1 (.int .i64 k) (.int .i64 v) (.string tx) (.int .i64 i)
       refine bodyPost_ret (v:=tokV k v tx i) (by rw [zt rfl];simp [asAddr,load39 hf]) rfl ?_
       rw [← HCR.out]
       have X4:=X3.out.2
       rw [← HTX.out] at X4
       exact⟨by rw [HTX.out];try rfl,X4⟩
     | false =>
      have HR3:Hid (r=if [61,62].isPrefixOf ((bts s).drop i)=true∨[45,62].isPrefixOf ((bts s).drop i)=true then .tok 6 0 2
           else if LX.signs.contains c then .tok 6 0 1
           else .bad 11):=by
       show _=_
       rw [HR2.out,if_neg (by rw [hsd];simp)]
      clear hsd
      go_wp2_with fail
      refine(starts_any (ATW.out (W0.drewN (q1+q2)) B0.out) ⟨#[61,62]⟩).mono ?_
      rintro e w3 ⟨rfl,q4,rfl⟩
      rw [show bts ⟨#[61,62]⟩=[61,62] from rfl]
      cases h61:[61,62].isPrefixOf ((bts s).drop i) with
      | true =>
       have H61:=zh h61
       have HLE:Hid (i+2≤s.size):=by
        have:=prefix2_length h61
        rw [List.length_drop,ze] at this
        show _≤_
        omega
       clear h61
       go_wp2_with fail
       have NB:=made_any (SCW.out (W0.drewN (q1+q2+q4)) B0.out) 6 2 HLE.out
       refine NB.mono ?_
       clear NB
       intro e w3 hp
       obtain⟨cr,hcr⟩:∃ cr,cr=r:=⟨_,rfl⟩
       have HP0:TPost (W0.drewN (q1+q2+q4)) s i cr e w3:=by
        rw [hcr,HR3.out,if_pos (.inl H61.out)]
        exact made_tpost (k:=6) (n:=2) hp
       have HCR:=zh hcr
       clear hp hcr
       cases cr with
       | bad er =>
        obtain⟨rfl,hb⟩:=HP0
        unfold thrown
        have X1:=zh hb
        clear hb
        go_wp2_with fail
        refine⟨rfl,?_⟩
        rw [← HCR.out]
        exact⟨rfl,B2.out.trans ((zu X1.out).mono B2.out.size)⟩
       | tok k v n =>
        obtain⟨rfl,hb⟩:=HP0
        unfold tokV
        have X2:=END.out w3 w3 _ k v (s.extract i (i+n)) hb
        have X1:=zh hb
        have X3:=zh X2
        have yf:∀ q,w3.frozen? ⟨z,q,none⟩=false:=fun q=>zs1 w3 z q _ _ X2.1
        have y0:w3.cell? ⟨z,0,none⟩=some (.int .i64 0):=by rw [zb w3 z 0 _ _ _ X2.1];rfl
        have y1:w3.cell? ⟨z,1,none⟩=some (.int .i64 0):=by rw [zb w3 z 1 _ _ _ X2.1];rfl
        have y2:w3.cell? ⟨z,2,none⟩=some (.string ⟨#[]⟩):=by rw [zb w3 z 2 _ _ _ X2.1];rfl
        have y3:w3.cell? ⟨z,3,none⟩=some (.int .i64 0):=by rw [zb w3 z 3 _ _ _ X2.1];rfl
        clear X2 hb
        obtain⟨tx,htx⟩:∃ t,t=s.extract i (i+n):=⟨_,rfl⟩
        rw [← htx]
        have HTX:=zh htx
        clear htx
        go_wp2_with fail
        have hf:=four_set X3.out.1 (.int .i64 k) (.int .i64 v) (.string tx) (.int .i64 i)
        refine bodyPost_ret (v:=tokV k v tx i) (by rw [zt rfl];simp [asAddr,load39 hf]) rfl ?_
        rw [← HCR.out]
        have X4:=X3.out.2
        rw [← HTX.out] at X4
        exact⟨by rw [HTX.out];try rfl,X4⟩
      | false =>
       have H61:=zh h61
       clear h61
       go_wp2_with fail
       refine(starts_any (ATW.out (W0.drewN (q1+q2+q4)) B0.out) ⟨#[45,62]⟩).mono ?_
       rintro e w3 ⟨rfl,q5,rfl⟩
       rw [show bts ⟨#[45,62]⟩=[45,62] from rfl]
       cases h45:[45,62].isPrefixOf ((bts s).drop i) with
       | true =>
        have H45:=zh h45
        have HLE:Hid (i+2≤s.size):=by
         have:=prefix2_length h45
         rw [List.length_drop,ze] at this
         show _≤_
         omega
        clear h45
        go_wp2_with fail
        have NB:=made_any (SCW.out (W0.drewN (q1+q2+q4+q5)) B0.out) 6 2 HLE.out
        refine NB.mono ?_
        clear NB
        intro e w3 hp
        obtain⟨cr,hcr⟩:∃ cr,cr=r:=⟨_,rfl⟩
        have HP0:TPost (W0.drewN (q1+q2+q4+q5)) s i cr e w3:=by
         rw [hcr,HR3.out,if_pos (.inr H45.out)]
         exact made_tpost (k:=6) (n:=2) hp
        have HCR:=zh hcr
        clear hp hcr
        cases cr with
        | bad er =>
         obtain⟨rfl,hb⟩:=HP0
         unfold thrown
         have X1:=zh hb
         clear hb
         go_wp2_with fail
         refine⟨rfl,?_⟩
         rw [← HCR.out]
         exact⟨rfl,B2.out.trans ((zu X1.out).mono B2.out.size)⟩
        | tok k v n =>
         obtain⟨rfl,hb⟩:=HP0
         unfold tokV
         have X2:=END.out w3 w3 _ k v (s.extract i (i+n)) hb
         have X1:=zh hb
         have X3:=zh X2
         have yf:∀ q,w3.frozen? ⟨z,q,none⟩=false:=fun q=>zs1 w3 z q _ _ X2.1
         have y0:w3.cell? ⟨z,0,none⟩=some (.int .i64 0):=by rw [zb w3 z 0 _ _ _ X2.1];rfl
         have y1:w3.cell? ⟨z,1,none⟩=some (.int .i64 0):=by rw [zb w3 z 1 _ _ _ X2.1];rfl
         have y2:w3.cell? ⟨z,2,none⟩=some (.string ⟨#[]⟩):=by rw [zb w3 z 2 _ _ _ X2.1];rfl
         have y3:w3.cell? ⟨z,3,none⟩=some (.int .i64 0):=by rw [zb w3 z 3 _ _ _ X2.1];rfl
         clear X2 hb
         obtain⟨tx,htx⟩:∃ t,t=s.extract i (i+n):=⟨_,rfl⟩
         rw [← htx]
         have HTX:=zh htx
         clear htx
         go_wp2_with fail
         have hf:=four_set X3.out.1 (.int .i64 k) (.int .i64 v) (.string tx) (.int .i64 i)
         refine bodyPost_ret (v:=tokV k v tx i) (by rw [zt rfl];simp [asAddr,load39 hf]) rfl ?_
         rw [← HCR.out]
         have X4:=X3.out.2
         rw [← HTX.out] at X4
         exact⟨by rw [HTX.out];try rfl,X4⟩
       | false =>
        have HR4:Hid (r=if LX.signs.contains c then .tok 6 0 1 else .bad 11):=by
         show _=_
         rw [HR3.out,if_neg (by rw [H61.out,h45];simp)]
        clear h45
        go_wp2_with fail
        have SB:=Tryz.strings_IndexByte signB c (W0.drewN (q1+q2+q4+q5))
        have hsg:=signs_eq c HCB.out
        rw [hz39] at SB hsg
        refine SB.mono ?_
        clear SB
        rintro e w3 ⟨rfl,rfl⟩
        obtain⟨x,hx⟩:∃ x,x=Lib.indexByte signB.data.toList (39:Int).toNat.toUInt8:=⟨_,rfl⟩
        rw [← hx] at hsg ⊢
        clear hx
        cases hct:LX.signs.contains c with
        | true =>
         rw [hct] at hsg
         have hx0:0≤x:=of_decide_eq_true hsg
         have HCT:=zh hct
         clear hct hsg
         go_wp2_with fail
         have NB:=made_any (SCW.out (W0.drewN (q1+q2+q4+q5)) B0.out) 6 1 HI.out
         refine NB.mono ?_
         clear NB
         intro e w3 hp
         obtain⟨cr,hcr⟩:∃ cr,cr=r:=⟨_,rfl⟩
         have HP0:TPost (W0.drewN (q1+q2+q4+q5)) s i cr e w3:=by
          rw [hcr,HR4.out,if_pos HCT.out]
          exact made_tpost (k:=6) (n:=1) hp
         have HCR:=zh hcr
         clear hp hcr
         cases cr with
         | bad er =>
          obtain⟨rfl,hb⟩:=HP0
          unfold thrown
          have X1:=zh hb
          clear hb
          go_wp2_with fail
          refine⟨rfl,?_⟩
          rw [← HCR.out]
          exact⟨rfl,B2.out.trans ((zu X1.out).mono B2.out.size)⟩
         | tok k v n =>
          obtain⟨rfl,hb⟩:=HP0
          unfold tokV
          have X2:=END.out w3 w3 _ k v (s.extract i (i+n)) hb
          have X1:=zh hb
          have X3:=zh X2
          have yf:∀ q,w3.frozen? ⟨z,q,none⟩=false:=fun q=>zs1 w3 z q _ _ X2.1
          have y0:w3.cell? ⟨z,0,none⟩=some (.int .i64 0):=by rw [zb w3 z 0 _ _ _ X2.1];rfl
          have y1:w3.cell? ⟨z,1,none⟩=some (.int .i64 0):=by rw [zb w3 z 1 _ _ _ X2.1];rfl
          have y2:w3.cell? ⟨z,2,none⟩=some (.string ⟨#[]⟩):=by rw [zb w3 z 2 _ _ _ X2.1];rfl
          have y3:w3.cell? ⟨z,3,none⟩=some (.int .i64 0):=by rw [zb w3 z 3 _ _ _ X2.1];rfl
          clear X2 hb
          obtain⟨tx,htx⟩:∃ t,t=s.extract i (i+n):=⟨_,rfl⟩
          rw [← htx]
          have HTX:=zh htx
          clear htx
          go_wp2_with fail
          have hf:=four_set X3.out.1 (.int .i64 k) (.int .i64 v) (.string tx) (.int .i64 i)
          refine bodyPost_ret (v:=tokV k v tx i) (by rw [zt rfl];simp [asAddr,load39 hf]) rfl ?_
          rw [← HCR.out]
          have X4:=X3.out.2
          rw [← HTX.out] at X4
          exact⟨by rw [HTX.out];try rfl,X4⟩
        | false =>
         rw [hct] at hsg
         have hx0:¬ 0≤x:=of_decide_eq_false hsg
         have HCT:=zh hct
         obtain⟨c0,c1,lt',-,-⟩:=ATW.out W0 B0.out
         clear hct hsg
         go_wp2_with fail
         refine⟨rfl,?_⟩
         rw [HR4.out,if_neg (by rw [HCT.out];exact Bool.false_ne_true)]
         exact⟨rfl,below_drawn B2.out _⟩
    have HR3:Hid (r=if [61,62].isPrefixOf ((bts s).drop i)=true∨[45,62].isPrefixOf ((bts s).drop i)=true then .tok 6 0 2
         else if LX.signs.contains c then .tok 6 0 1
         else .bad 11):=by
     show _=_
     rw [HR2.out,if_neg (by rintro ⟨h,-⟩;exact hc39 h)]
    have hz39:¬ (c:Int)=39:=by omega
    clear hc39
    go_wp2_with fail
    refine(starts_any (ATW.out (W0.drewN (q1)) B0.out) ⟨#[61,62]⟩).mono ?_
    rintro e w3 ⟨rfl,q4,rfl⟩
    rw [show bts ⟨#[61,62]⟩=[61,62] from rfl]
    cases h61:[61,62].isPrefixOf ((bts s).drop i) with
    | true =>
     have H61:=zh h61
     have HLE:Hid (i+2≤s.size):=by
      have:=prefix2_length h61
      rw [List.length_drop,ze] at this
      show _≤_
      omega
     clear h61
     go_wp2_with fail
     have NB:=made_any (SCW.out (W0.drewN (q1+q4)) B0.out) 6 2 HLE.out
     refine NB.mono ?_
     clear NB
     intro e w3 hp
     obtain⟨cr,hcr⟩:∃ cr,cr=r:=⟨_,rfl⟩
     have HP0:TPost (W0.drewN (q1+q4)) s i cr e w3:=by
      rw [hcr,HR3.out,if_pos (.inl H61.out)]
      exact made_tpost (k:=6) (n:=2) hp
     have HCR:=zh hcr
     clear hp hcr
     cases cr with
     | bad er =>
      obtain⟨rfl,hb⟩:=HP0
      unfold thrown
      have X1:=zh hb
      clear hb
      go_wp2_with fail
      refine⟨rfl,?_⟩
      rw [← HCR.out]
      exact⟨rfl,B2.out.trans ((zu X1.out).mono B2.out.size)⟩
     | tok k v n =>
      obtain⟨rfl,hb⟩:=HP0
      unfold tokV
      have X2:=END.out w3 w3 _ k v (s.extract i (i+n)) hb
      have X1:=zh hb
      have X3:=zh X2
      have yf:∀ q,w3.frozen? ⟨z,q,none⟩=false:=fun q=>zs1 w3 z q _ _ X2.1
      have y0:w3.cell? ⟨z,0,none⟩=some (.int .i64 0):=by rw [zb w3 z 0 _ _ _ X2.1];rfl
      have y1:w3.cell? ⟨z,1,none⟩=some (.int .i64 0):=by rw [zb w3 z 1 _ _ _ X2.1];rfl
      have y2:w3.cell? ⟨z,2,none⟩=some (.string ⟨#[]⟩):=by rw [zb w3 z 2 _ _ _ X2.1];rfl
      have y3:w3.cell? ⟨z,3,none⟩=some (.int .i64 0):=by rw [zb w3 z 3 _ _ _ X2.1];rfl
      clear X2 hb
      obtain⟨tx,htx⟩:∃ t,t=s.extract i (i+n):=⟨_,rfl⟩
      rw [← htx]
      have HTX:=zh htx
      clear htx
      go_wp2_with fail
      have hf:=four_set X3.out.1 (.int .i64 k) (.int .i64 v) (.string tx) (.int .i64 i)
      refine bodyPost_ret (v:=tokV k v tx i) (by rw [zt rfl];simp [asAddr,load39 hf]) rfl ?_
      rw [← HCR.out]
      have X4:=X3.out.2
      rw [← HTX.out] at X4
      exact⟨by rw [HTX.out];try rfl,X4⟩
    | false =>
     have H61:=zh h61
     clear h61
     go_wp2_with fail
     refine(starts_any (ATW.out (W0.drewN (q1+q4)) B0.out) ⟨#[45,62]⟩).mono ?_
     rintro e w3 ⟨rfl,q5,rfl⟩
     rw [show bts ⟨#[45,62]⟩=[45,62] from rfl]
     cases h45:[45,62].isPrefixOf ((bts s).drop i) with
     | true =>
      have H45:=zh h45
      have HLE:Hid (i+2≤s.size):=by
       have:=prefix2_length h45
       rw [List.length_drop,ze] at this
       show _≤_
       omega
      clear h45
      go_wp2_with fail
      have NB:=made_any (SCW.out (W0.drewN (q1+q4+q5)) B0.out) 6 2 HLE.out
      refine NB.mono ?_
      clear NB
      intro e w3 hp
      obtain⟨cr,hcr⟩:∃ cr,cr=r:=⟨_,rfl⟩
      have HP0:TPost (W0.drewN (q1+q4+q5)) s i cr e w3:=by
       rw [hcr,HR3.out,if_pos (.inr H45.out)]
       exact made_tpost (k:=6) (n:=2) hp
      have HCR:=zh hcr
      clear hp hcr
      cases cr with
      | bad er =>
       obtain⟨rfl,hb⟩:=HP0
       unfold thrown
       have X1:=zh hb
       clear hb
       go_wp2_with fail
       refine⟨rfl,?_⟩
       rw [← HCR.out]
       exact⟨rfl,B2.out.trans ((zu X1.out).mono B2.out.size)⟩
      | tok k v n =>
       obtain⟨rfl,hb⟩:=HP0
       unfold tokV
       have X2:=END.out w3 w3 _ k v (s.extract i (i+n)) hb
       have X1:=zh hb
       have X3:=zh X2
       have yf:∀ q,w3.frozen? ⟨z,q,none⟩=false:=fun q=>zs1 w3 z q _ _ X2.1
       have y0:w3.cell? ⟨z,0,none⟩=some (.int .i64 0):=by rw [zb w3 z 0 _ _ _ X2.1];rfl
       have y1:w3.cell? ⟨z,1,none⟩=some (.int .i64 0):=by rw [zb w3 z 1 _ _ _ X2.1];rfl
       have y2:w3.cell? ⟨z,2,none⟩=some (.string ⟨#[]⟩):=by rw [zb w3 z 2 _ _ _ X2.1];rfl
       have y3:w3.cell? ⟨z,3,none⟩=some (.int .i64 0):=by rw [zb w3 z 3 _ _ _ X2.1];rfl
       clear X2 hb
       obtain⟨tx,htx⟩:∃ t,t=s.extract i (i+n):=⟨_,rfl⟩
       rw [← htx]
       have HTX:=zh htx
       clear htx
       go_wp2_with fail
       have hf:=four_set X3.out.1 (.int .i64 k) (.int .i64 v) (.string tx) (.int .i64 i)
       refine bodyPost_ret (v:=tokV k v tx i) (by rw [zt rfl];simp [asAddr,load39 hf]) rfl ?_
       rw [← HCR.out]
       have X4:=X3.out.2
       rw [← HTX.out] at X4
       exact⟨by rw [HTX.out];try rfl,X4⟩
     | false =>
      have HR4:Hid (r=if LX.signs.contains c then .tok 6 0 1 else .bad 11):=by
       show _=_
       rw [HR3.out,if_neg (by rw [H61.out,h45];simp)]
      clear h45
      go_wp2_with fail
      have SB:=Tryz.strings_IndexByte signB c (W0.drewN (q1+q4+q5))
      have hsg:=signs_eq c HCB.out
      refine SB.mono ?_
      clear SB
      rintro e w3 ⟨rfl,rfl⟩
      obtain⟨x,hx⟩:∃ x,x=Lib.indexByte signB.data.toList ((c:Int):Int).toNat.toUInt8:=⟨_,rfl⟩
      rw [← hx] at hsg ⊢
      clear hx
      cases hct:LX.signs.contains c with
      | true =>
       rw [hct] at hsg
       have hx0:0≤x:=of_decide_eq_true hsg
       have HCT:=zh hct
       clear hct hsg
       go_wp2_with fail
       have NB:=made_any (SCW.out (W0.drewN (q1+q4+q5)) B0.out) 6 1 HI.out
       refine NB.mono ?_
       clear NB
       intro e w3 hp
       obtain⟨cr,hcr⟩:∃ cr,cr=r:=⟨_,rfl⟩
       have HP0:TPost (W0.drewN (q1+q4+q5)) s i cr e w3:=by
        rw [hcr,HR4.out,if_pos HCT.out]
        exact made_tpost (k:=6) (n:=1) hp
       have HCR:=zh hcr
       clear hp hcr
       cases cr with
       | bad er =>
        obtain⟨rfl,hb⟩:=HP0
        unfold thrown
        have X1:=zh hb
        clear hb
        go_wp2_with fail
        refine⟨rfl,?_⟩
        rw [← HCR.out]
        exact⟨rfl,B2.out.trans ((zu X1.out).mono B2.out.size)⟩
       | tok k v n =>
        obtain⟨rfl,hb⟩:=HP0
        unfold tokV
        have X2:=END.out w3 w3 _ k v (s.extract i (i+n)) hb
        have X1:=zh hb
        have X3:=zh X2
        have yf:∀ q,w3.frozen? ⟨z,q,none⟩=false:=fun q=>zs1 w3 z q _ _ X2.1
        have y0:w3.cell? ⟨z,0,none⟩=some (.int .i64 0):=by rw [zb w3 z 0 _ _ _ X2.1];rfl
        have y1:w3.cell? ⟨z,1,none⟩=some (.int .i64 0):=by rw [zb w3 z 1 _ _ _ X2.1];rfl
        have y2:w3.cell? ⟨z,2,none⟩=some (.string ⟨#[]⟩):=by rw [zb w3 z 2 _ _ _ X2.1];rfl
        have y3:w3.cell? ⟨z,3,none⟩=some (.int .i64 0):=by rw [zb w3 z 3 _ _ _ X2.1];rfl
        clear X2 hb
        obtain⟨tx,htx⟩:∃ t,t=s.extract i (i+n):=⟨_,rfl⟩
        rw [← htx]
        have HTX:=zh htx
        clear htx
        go_wp2_with fail
        have hf:=four_set X3.out.1 (.int .i64 k) (.int .i64 v) (.string tx) (.int .i64 i)
        refine bodyPost_ret (v:=tokV k v tx i) (by rw [zt rfl];simp [asAddr,load39 hf]) rfl ?_
        rw [← HCR.out]
        have X4:=X3.out.2
        rw [← HTX.out] at X4
        exact⟨by rw [HTX.out];try rfl,X4⟩
      | false =>
       rw [hct] at hsg
       have hx0:¬ 0≤x:=of_decide_eq_false hsg
       have HCT:=zh hct
       obtain⟨c0,c1,lt',-,-⟩:=ATW.out W0 B0.out
       clear hct hsg
       go_wp2_with fail
       refine⟨rfl,?_⟩
       rw [HR4.out,if_neg (by rw [HCT.out];exact Bool.false_ne_true)]
       exact⟨rfl,below_drawn B2.out _⟩
end Go.Proofs.YtnkahlloahgifaaGreatDoor.Lx

namespace Go.Proofs.YtnkahlloahgifaaGreatDoor.Lx
namespace LX
theorem run_le (p:Nat→Bool) (l:List Nat):run p l≤l.length:=by
 induction l with
 | nil=>exact Nat.le_refl _
 | cons c t ih =>
  rw [run]
  split
  ·simp only [List.length_cons];omega
  exact Nat.zero_le _
theorem num_nil:num []=none:=by decide
theorem made_ok {k n k' n':Nat}{v:Int}(h:made k n = .tok k' v n'):n'=n∧k'=k∧v=0∧n≤24:=by
 unfold made at h
 split at h
 ·cases h
 cases h;exact⟨rfl,rfl,rfl,by omega⟩
theorem nameLen_le (l:List Nat):nameLen l≤l.length:=by
 unfold nameLen
 have h1:=run_le part l
 simp only []
 split
 ·exact h1
 rename_i c t hc
 have h2:=run_le digit t
 have h3:(l.drop (run part l)).length=(c :: t).length:=by rw [hc]
 simp only [List.length_drop,List.length_cons] at h3
 split<;>omega
theorem nameLen_ge (l:List Nat):run part l≤nameLen l:=by
 unfold nameLen
 simp only []
 split
 ·exact Nat.le_refl _
 split<;>omega
theorem part_small {c:Nat}(h:small c=true):part c=true:=by simp [part,h]
theorem part_great {c:Nat}(h:great c=true):part c=true:=by simp [part,h]
theorem run_pos {p:Nat→Bool}{c:Nat}{t:List Nat}(h:p c=true):0<run p (c :: t):=by
 rw [run,if_pos h];omega
theorem number_ok {l:List Nat}{n k m:Nat}{v:Int}(h:number l n = .tok k v m):k=1∧m=n+run digit (l.drop n)∧num (l.take m)=some v:=by
 unfold number at h
 simp only [] at h
 split at h
 ·cases h
 rename_i v' hv
 split at h
 ·cases h;exact⟨rfl,rfl,hv⟩
 split at h
 ·cases h
 cases h;exact⟨rfl,rfl,hv⟩
theorem named_ok {l:List Nat}{k k' m:Nat}{v:Int}(h:named k l = .tok k' v m):m=nameLen l∧v=0∧m≤24∧k'=if words.contains (l.take m) then 5 else k:=by
 unfold named at h
 cases hm:made k (nameLen l) with
 | bad e=>rw [hm] at h;cases h
 | tok a b c =>
  rw [hm] at h
  obtain⟨rfl,rfl,rfl,h24⟩:=made_ok hm
  simp only [TR.tok.injEq] at h
  obtain⟨h1,h2,h3⟩:=h
  subst h3
  exact⟨rfl,h2.symm,h24,h1.symm⟩
theorem token_len {l:List Nat}{k m:Nat}{v:Int}(h:token l = .tok k v m):0<m∧m≤l.length:=by
 cases l with
 | nil=>cases h
 | cons c t =>
  unfold token at h
  simp only [] at h
  split at h
  ·obtain⟨_,hm,hv⟩:=number_ok h
   refine⟨?_,?_⟩
   ·rcases Nat.eq_zero_or_pos m with h0 | h0
    ·subst h0;rw [List.take_zero,num_nil] at hv;cases hv
    exact h0
   rw [hm]
   have:=run_le digit ((c :: t).drop (if c=126 then 1 else 0))
   rw [List.length_drop] at this
   split at this<;>simp_all<;>omega
  split at h
  ·rename_i hs
   obtain⟨rfl,_⟩:=named_ok h
   exact⟨Nat.lt_of_lt_of_le (run_pos (part_small hs)) (nameLen_ge _),nameLen_le _⟩
  split at h
  ·rename_i hs
   obtain⟨rfl,_⟩:=named_ok h
   exact⟨Nat.lt_of_lt_of_le (run_pos (part_great hs)) (nameLen_ge _),nameLen_le _⟩
  split at h
  ·obtain⟨rfl,_⟩:=made_ok h
   have:=run_le part t
   simp only [List.length_cons]
   exact⟨by omega,by omega⟩
  split at h
  ·rename_i hs
   cases h
   cases t with
   | nil=>simp [head0] at hs
   | cons d t=>simp
  split at h
  ·cases h;simp
  cases h
def Res.app (ts:List Tok) (cs:List (Nat×Nat)):Res→Res
 | .ok l c => .ok (ts++l) (cs++c)
 | .bad p e => .bad p e
theorem Res.app_app (a b:List Tok) (c d:List (Nat×Nat)) (r:Res):(r.app b d).app a c=r.app (a++b) (c++d):=by
 cases r<;>simp [Res.app]
theorem Res.app_nil (r:Res):r.app [] []=r:=by cases r<;>rfl
theorem Res.tok_app (t:Tok) (r:Res):r.tok t=r.app [t] []:=by cases r<;>rfl
theorem Res.cmt_app (c:Nat×Nat) (r:Res):r.cmt c=r.app [] [c]:=by cases r<;>rfl
theorem scanN_fuel:∀ (f g:Nat) (l:List Nat) (p:Nat),l.length≤f→l.length≤g→scanN f l p=scanN g l p
 | f,g,[],p,_,_=>by cases f<;>cases g<;>rfl
 | 0,g,c :: t,p,hf,_=>by simp at hf
 | f+1,0,c :: t,p,_,hg=>by simp at hg
 | f+1,g+1,c :: t,p,hf,hg=>by
  simp only [List.length_cons] at hf hg
  rw [scanN,scanN]
  split
  ·exact scanN_fuel f g t (p+1) (by omega) (by omega)
  split
  ·cases hc:cmt (c :: t) 0 0 with
   | fin n =>
    have h0:=cmt_fin hc
    simp only []
    rw [scanN_fuel f g ((c :: t).drop n) (p+n) (by simp only [List.length_drop,List.length_cons];omega) (by simp only [List.length_drop,List.length_cons];omega)]
   | deep n=>rfl
   | never=>rfl
  cases hc:token (c :: t) with
  | tok k v n =>
   have h0:=(token_len hc).1
   simp only []
   rw [scanN_fuel f g ((c :: t).drop n) (p+n) (by simp only [List.length_drop,List.length_cons];omega) (by simp only [List.length_drop,List.length_cons];omega)]
  | bad e=>rfl
def sc (T:List Nat) (j:Nat):Res:=scanN T.length (T.drop j) j
theorem scan_sc (T:List Nat):scan T=sc T 0:=rfl
theorem sc_end {T:List Nat}{j:Nat}(h:T.length≤j):sc T j = .ok [] []:=by
 unfold sc
 rw [List.drop_of_length_le h]
 cases T.length<;>rfl
theorem drop_get {T:List Nat}{j:Nat}(h:j<T.length):T.drop j=T.getD j 0 :: T.drop (j+1):=by
 rw [List.drop_eq_getElem_cons h,List.getD_eq_getElem?_getD,List.getElem?_eq_getElem h];rfl
theorem sc_step {T:List Nat}{j:Nat}(h:j<T.length):sc T j =
  if space (T.getD j 0) then sc T (j+1)
  else if opens (T.drop j) then
   match cmt (T.drop j) 0 0 with
   | .fin n=>(sc T (j+n)).app [] [(j,j+n)]
   | .deep n => .bad (j+n) 6
   | .never => .bad j 12
  else
   match token (T.drop j) with
   | .tok k v n=>(sc T (j+n)).app [⟨k,v,(T.drop j).take n,j⟩] []
   | .bad e => .bad j e:=by
 obtain⟨f,hf⟩:∃ f,T.length=f+1:=⟨T.length - 1,by omega⟩
 have hs:∀ n,0<n→scanN f ((T.drop j).drop n) (j+n)=sc T (j+n):=fun n hn=>by
  unfold sc
  rw [List.drop_drop]
  exact scanN_fuel _ _ _ _ (by rw [List.length_drop];omega) (by rw [List.length_drop];omega)
 have h1:scanN f (T.drop (j+1)) (j+1)=sc T (j+1):=by rw [← hs 1 (by omega),List.drop_drop]
 rw [← h1]
 conv=>lhs;unfold sc;rw [hf,drop_get h,scanN]
 rw [← drop_get h]
 split
 ·rfl
 split
 ·cases hc:cmt (T.drop j) 0 0 with
  | fin n=>simp only [];rw [Res.cmt_app,hs n (by have:=cmt_fin hc;omega)]
  | deep n=>rfl
  | never=>rfl
 cases hc:token (T.drop j) with
 | tok k v n=>simp only [];rw [Res.tok_app,hs n (token_len hc).1]
 | bad e=>rfl
theorem run_step {p:Nat→Bool}{T:List Nat}{j:Nat}(h:j<T.length):run p (T.drop j)=if p (T.getD j 0) then run p (T.drop (j+1))+1 else 0:=by
 rw [drop_get h,run]
theorem sc_spaces (T:List Nat):∀ (k j:Nat),run space (T.drop j)=k→sc T j=sc T (j+k)
 | 0,j,_=>rfl
 | k+1,j,hk=>by
  have hl:j<T.length:=by
   rcases Nat.lt_or_ge j T.length with h | h
   ·exact h
   rw [List.drop_of_length_le h] at hk;cases hk
  rw [run_step hl] at hk
  split at hk
  ·rename_i hs
   rw [sc_step hl,if_pos hs,sc_spaces T k (j+1) (by omega)]
   congr 1;omega
  cases hk
theorem run_stops (p:Nat→Bool) (T:List Nat):∀ (k j:Nat),run p (T.drop j)=k→j+k<T.length→p (T.getD (j+k) 0)=false
 | 0,j,hk,hl=>by
  rw [Nat.add_zero] at hl ⊢
  rw [run_step hl] at hk
  split at hk
  ·cases hk
  rename_i h;simpa using h
 | k+1,j,hk,hl=>by
  rw [run_step (by omega)] at hk
  split at hk
  ·have:=run_stops p T k (j+1) (by omega) (by omega)
   rw [show j+(k+1)=j+1+k from by omega];exact this
  cases hk
theorem cmt_le:∀ (l:List Nat) (d n m:Nat),cmt l d n = .fin m→m≤n+l.length
 | [],_,_,_,h=>by cases h
 | [_],_,_,_,h=>by cases h
 | a :: b :: t,d,n,m,h=>by
  rw [cmt] at h
  simp only [List.length_cons]
  split at h
  ·split at h
   ·cases h
   have:=cmt_le t _ _ _ h;omega
  split at h
  ·split at h
   ·cases h;omega
   have:=cmt_le t _ _ _ h;omega
  have:=cmt_le (b :: t) _ _ _ h
  simp only [List.length_cons] at this
  omega
theorem passN_abs (f : Nat) (T : List Nat) (j : Nat) : passN (f + 1) (T.drop j) j = if opens (T.drop (j + run space (T.drop j))) then
      match cmt (T.drop (j + run space (T.drop j))) 0 0 with
      | .fin n => (passN f (T.drop (j + run space (T.drop j) + n)) (j + run space (T.drop j) + n)).add [(j + run space (T.drop j), j + run space (T.drop j) + n)]
      | .deep n => .bad (j + run space (T.drop j) + n) 6
      | .never => .bad (j + run space (T.drop j)) 12
    else .to (j + run space (T.drop j)) [] := by
  rw [passN]
  simp only [List.drop_drop]
  by_cases h : opens (T.drop (j + run space (T.drop j))) = true
  · rw [if_pos h, if_pos h]
    cases cmt (T.drop (j + run space (T.drop j))) 0 0 <;> rfl
  · rw [if_neg h, if_neg h]
theorem opens_lt {T:List Nat}{j:Nat}(h:opens (T.drop j)=true):j<T.length∧space (T.getD j 0)=false:=by
 rcases Nat.lt_or_ge j T.length with hl | hl
 ·refine⟨hl,?_⟩
  rw [drop_get hl] at h
  generalize T.getD j 0=c at h
  by_cases e:c=40
  ·subst e;rfl
  exfalso
  unfold opens at h
  split at h
  ·rename_i heq;simp at heq;exact e heq.1
  cases h
 rw [List.drop_of_length_le hl] at h;cases h
theorem sc_pass (T:List Nat):∀ (f j:Nat),j≤T.length→T.length<f+j→(match passN f (T.drop j) j with
  | .bad q e=>sc T j = .bad q e
  | .to n cs=>sc T j=(sc T n).app [] cs∧j≤n∧n≤T.length∧cs.length+j≤n∧(n<T.length→space (T.getD n 0)=false∧opens (T.drop n)=false))
 | 0,j,hj,hf=>by omega
 | f+1,j,hj,hf=>by
  obtain⟨k,hk⟩:∃ k,k=run space (T.drop j):=⟨_,rfl⟩
  have hs:=sc_spaces T k j hk.symm
  have hkl:j+k≤T.length:=by
   have:=run_le space (T.drop j)
   rw [List.length_drop] at this
   omega
  rw [passN_abs,← hk,hs]
  cases ho:opens (T.drop (j+k)) with
  | false =>
   rw [if_neg (by decide)]
   exact⟨(Res.app_nil _).symm,by omega,hkl,by simp,fun hl=>⟨run_stops space T k j hk.symm hl,ho⟩⟩
  | true =>
   rw [if_pos rfl]
   obtain⟨hl,hsp⟩:=opens_lt ho
   have h1:=sc_step hl
   rw [hsp,if_neg (by decide),ho,if_pos rfl] at h1
   cases hc:cmt (T.drop (j+k)) 0 0 with
   | deep n=>rw [hc] at h1;exact h1
   | never=>rw [hc] at h1;exact h1
   | fin n =>
    rw [hc] at h1
    simp only [] at h1 ⊢
    have hn0:=cmt_fin hc
    have hn1:=cmt_le _ _ _ _ hc
    rw [List.length_drop] at hn1
    have ih:=sc_pass T f (j+k+n) (by omega) (by omega)
    rcases hp:passN f (T.drop (j+k+n)) (j+k+n) with ⟨m,cs⟩|⟨q,e⟩
    case bad =>
     rw [hp] at ih
     simp only [PR.add] at ih ⊢
     rw [h1,ih];rfl
    case «to» =>
     rw [hp] at ih
     simp only [PR.add] at ih ⊢
     obtain⟨i1,i2,i3,i4,i5⟩:=ih
     refine⟨?_,by omega,i3,by simp only [List.length_append,List.length_cons,List.length_nil];omega,i5⟩
     rw [h1,i1,Res.app_app]
     rfl
end LX
end Go.Proofs.YtnkahlloahgifaaGreatDoor.Lx

namespace Go.Proofs.YtnkahlloahgifaaGreatDoor.Lx
open Go.RowKit
structure Kt (n0:Nat) (w w':World):Prop where
 os:w'.os=w.os
 tape:w'.tape=w.tape
 output:w'.output=w.output
 size:w.heap.size≤w'.heap.size
 block:∀ k o,w.heap[k]?=some o→(k<n0∨((∀ c r,o ≠ .cells c 222 r)∧(∀ c r,o ≠ .cells c 228 r)))→w'.heap[k]?=some o
theorem Kt.refl (n0:Nat) (w:World):Kt n0 w w:=⟨rfl,rfl,rfl,zr4 _,fun _ _ h _=>h⟩
theorem Kt.trans {n0:Nat}{w w1 w2:World}(h:Kt n0 w w1) (k:Kt n0 w1 w2):Kt n0 w w2 :=
 ⟨k.os.trans h.os,k.tape.trans h.tape,k.output.trans h.output,zr5 h.size k.size,fun q o ho hq=>k.block q o (h.block q o ho hq) hq⟩
theorem Kt.drewN {n0:Nat}{w w':World}(h:Kt n0 w w') (m:Nat):Kt n0 w (w'.drewN m):=⟨h.os,h.tape,h.output,h.size,h.block⟩
theorem Kt.of_below {n0:Nat}{w w':World}(h:Below w.heap.size w w'):Kt n0 w w' :=
 ⟨h.os,h.tape,h.output,h.size,fun k o ho _=>(h.block k (zq7.1 ho).1).trans ho⟩
structure Kb (n0:Nat) (w w':World):Prop where
 os:w'.os=w.os
 tape:w'.tape=w.tape
 output:w'.output=w.output
 size:w.heap.size≤w'.heap.size
 block:∀ k o,w.heap[k]?=some o→(k<n0∨(∃ c,o = .cells c 222 (0,0))∨(∃ c,o = .cells c 228 (0,0))∨(∃ es cl,o = .map es cl)∨(∃ c,o = .cells c 200 (0,0)))→w'.heap[k]?=some o
theorem Kb.below {n0:Nat}{w w':World}(h:Kb n0 w w') (hn:n0≤w.heap.size):Below n0 w w' :=
 ⟨h.os,h.tape,h.output,h.size,fun k hk=>by
  have ho:w.heap[k]?=some w.heap[k]:=Array.getElem?_eq_getElem (by omega)
  rw [ho]
  exact h.block k _ ho (.inl hk)⟩
structure It (n0:Nat) (w:World) (b mb ib:Nat) (s:ByteArray) (i:Nat) (cv:Value) (cs:List (Nat×Nat)):Prop where
 sc:Sc w b s i mb cv
 cm:Cm w b cv cs
 hb:n0≤b
 hcv:∀ k,cv.ownBlock=some k→n0≤k
 wd:Wd w mb
 env:Env w
 hmb:mb≠b
 box:w.heap[ib]?=some (.cells #[.pointer (some ⟨b,0,none⟩)] 200 (0,0))
 n30:10≤n0
 n0w:n0≤w.heap.size
theorem Cm.blk {w:World}{b:Nat}{cv:Value}{cs:List (Nat×Nat)}(h:Cm w b cv cs) {k:Nat}(hk:cv.ownBlock=some k):∃ c,w.heap[k]?=some (.cells c 228 (0,0)):=by
 rcases h.row.2 with ⟨rfl,_⟩|⟨g,cap,cur,rfl,_,hg,_⟩
 ·simp [Value.ownBlock] at hk
 simp [Value.ownBlock] at hk;subst hk;exact⟨_,hg⟩
theorem Wd.keep {w w':World}{mb:Nat}(h:Wd w mb) (hk:∀ o,w.heap[mb]?=some o→(∃ es cl,o = .map es cl)→w'.heap[mb]?=some o):Wd w' mb:=by
 obtain⟨es,cl,h1,h2⟩:=h
 exact⟨es,cl,hk _ h1 ⟨_,_,rfl⟩,h2⟩
theorem Fr.kt {n0:Nat}{w w':World}{b mb i:Nat}{s:ByteArray}{cv cv':Value}{cs:List (Nat×Nat)}(h:Fr w w' b cv cv') (hs:Sc w b s i mb cv) (hc:Cm w b cv cs) (hb:n0≤b) (hcv:∀ k,cv.ownBlock=some k→n0≤k):Kt n0 w w':=by
 refine⟨h.os,h.tape,h.output,h.size,fun k o ho hk=>?_⟩
 refine(h.block k (zq7.1 ho).1 ?_ ?_).trans ho
 ·rintro rfl
  rcases hk with hk | ⟨hk,_⟩
  ·omega
  rw [hs.1] at ho
  simp only [zt3] at ho
  exact hk _ _ ho.symm
 intro hk2
 rcases hk with hk | ⟨_,hk⟩
 ·have:=hcv k hk2;omega
 obtain⟨c,hc2⟩:=hc.blk hk2
 rw [hc2] at ho
 simp only [zt3] at ho
 exact hk _ _ ho.symm
theorem Kt.below {n0:Nat}{w w':World}(h:Kt n0 w w') (hn:n0≤w.heap.size):Below n0 w w' :=
 ⟨h.os,h.tape,h.output,h.size,fun k hk=>by
  have ho:w.heap[k]?=some w.heap[k]:=Array.getElem?_eq_getElem (by omega)
  rw [ho]
  exact h.block k _ ho (.inl hk)⟩
theorem It.kt {n0:Nat}{w w':World}{b mb ib i i':Nat}{s:ByteArray}{cv cv':Value}{cs cs':List (Nat×Nat)}(h:It n0 w b mb ib s i cv cs) (k:Kt n0 w w') (hs:Sc w' b s i' mb cv') (hc:Cm w' b cv' cs') (hcv:∀ k,cv'.ownBlock=some k→n0≤k):It n0 w' b mb ib s i' cv' cs' :=
 ⟨hs,hc,h.hb,hcv,h.wd.keep (fun o ho he=>by obtain⟨es,cl,rfl⟩:=he;exact k.block mb _ ho (.inr ⟨nofun,nofun⟩)),
  h.env.keep (k.below h.n0w) h.n30,h.hmb,k.block ib _ h.box (.inr ⟨fun c r e=>by simp at e,fun c r e=>by simp at e⟩),h.n30,zr5 h.n0w k.size⟩
theorem It.fr {n0:Nat}{w w':World}{b mb ib i i':Nat}{s:ByteArray}{cv cv':Value}{cs cs':List (Nat×Nat)}(h:It n0 w b mb ib s i cv cs) (k:Fr w w' b cv cv') (hs:Sc w' b s i' mb cv') (hc:Cm w' b cv' cs'):It n0 w' b mb ib s i' cv' cs' :=
 h.kt (k.kt h.sc h.cm h.hb h.hcv) hs hc fun q hq=>by
  rcases k.own with e | ⟨p,e,hp⟩
  ·exact h.hcv q (e ▸ hq)
  rw [e] at hq;cases hq;exact zr5 h.n0w hp
theorem It.below {n0:Nat}{w w':World}{b mb ib i:Nat}{s:ByteArray}{cv:Value}{cs:List (Nat×Nat)}(h:It n0 w b mb ib s i cv cs) (k:Below w.heap.size w w'):It n0 w' b mb ib s i cv cs :=
 h.kt (Kt.of_below k) ⟨(k.block b (zq7.1 h.sc.1).1).trans h.sc.1,h.sc.2⟩ (h.cm.keep fun q hq _=>k.block q hq) h.hcv
theorem It.kb {n0:Nat}{w w':World}{b mb ib i:Nat}{s:ByteArray}{cv:Value}{cs:List (Nat×Nat)}(h:It n0 w b mb ib s i cv cs) (k:Kb n0 w w'):It n0 w' b mb ib s i cv cs :=
 ⟨⟨k.block b _ h.sc.1 (.inr (.inl ⟨_,rfl⟩)),h.sc.2⟩,h.cm.keep (fun q _ hq=>by obtain⟨c,hc⟩:=h.cm.blk hq;rw [hc];exact k.block q _ hc (.inr (.inr (.inl ⟨_,rfl⟩)))),h.hb,h.hcv,
  h.wd.keep fun o ho he=>k.block mb o ho (.inr (.inr (.inr (.inl he)))),h.env.keep (k.below h.n0w) h.n30,h.hmb,k.block ib _ h.box (.inr (.inr (.inr (.inr ⟨_,rfl⟩)))),h.n30,zr5 h.n0w k.size⟩
theorem It.drewN {n0:Nat}{w:World}{b mb ib i:Nat}{s:ByteArray}{cv:Value}{cs:List (Nat×Nat)}(h:It n0 w b mb ib s i cv cs) (m:Nat):It n0 (w.drewN m) b mb ib s i cv cs:=h.below (below_drawn (zs9 _ _) m)
theorem It.adv {n0:Nat}{w w':World}{b mb ib i j:Nat}{s:ByteArray}{cv:Value}{cs:List (Nat×Nat)}(h:It n0 w b mb ib s i cv cs) (k:Mv w w' b j) (hj:j≤s.size):It n0 w' b mb ib s j cv cs∧Kt n0 w w':=by
 have f:=k.fr cv
 refine⟨h.fr f (h.sc.mv k hj) (h.cm.keep fun p hp hb=>k.block p fun e=>h.cm.ne (by rw [hb,e])),f.kt h.sc h.cm h.hb h.hcv⟩
end Go.Proofs.YtnkahlloahgifaaGreatDoor.Lx

namespace Go.Proofs.YtnkahlloahgifaaGreatDoor.Lx
open Go.RowKit
theorem below_more (w:World) (os:Array Obj) (B:Nat) (hB:B≤w.heap.size):Below B w (Go.Sort.grow w os) :=
 ⟨rfl,rfl,rfl,by show w.heap.size≤(w.heap++os).size;rw [Array.size_append];omega,fun k hk=>by
  show (w.heap++os)[k]?=w.heap[k]?
  rw [Array.getElem?_append_left (zt5 hk hB)]⟩
theorem digits_any {w:World}(henv:Env w) (n:Int) (h0 : -9223372036854775808≤n) (h1:n≤9223372036854775807) :
  Calls Tryz.prog 163 #[.int .i64 n] w fun e w'=>e = .returned (.string (digS n))∧Below w.heap.size w w':=by
 obtain⟨m,hm⟩:=henv.max
 have IT:=Tryz.strconv_Itoa n h0 h1 w henv.tab
 have HM:=zh hm
 have HE:=zh henv
 have hl:=Lib.itoa_length_le n h0 h1
 have HL:Hid ((⟨(Lib.itoa n).toArray⟩:ByteArray).size≤21):=hl
 have HR:Hid ((⟨(Lib.replace (⟨(Lib.itoa n).toArray⟩:ByteArray).data.toList [45] [126] 1).toArray⟩:ByteArray)=digS n):=by
  show ByteArray.mk _=ByteArray.mk _
  rw [show (⟨(Lib.itoa n).toArray⟩:ByteArray).data.toList=Lib.itoa n from rfl,replace_itoa]
 clear hm henv h0 h1 hl
 obtain⟨tx,htx⟩:∃ t:ByteArray,t=⟨(Lib.itoa n).toArray⟩:=⟨_,rfl⟩
 rw [← htx] at IT HL HR
 clear htx
 go_enter Tryz.func163,Tryz.ntmps163
 go_wp2_with fail
 refine IT.mono ?_
 clear IT
 rintro e w1 ⟨rfl,k,os,rfl⟩
 have HB:Hid (Below w.heap.size w (Go.Sort.grow (w.drewN k) os)):=(below_drawn (zs9 w.heap.size w) k).trans (below_more (w.drewN k) os _ (zr4 _))
 go_wp2_with fail
 obtain⟨W,hW⟩:∃ W,W=Go.Sort.grow (w.drewN k) os:=⟨_,rfl⟩
 rw [← hW] at HB ⊢
 clear hW
 have RP:=Tryz.strings_Replace tx ⟨#[45]⟩ ⟨#[126]⟩ 1 m W (by have:=HL.out;omega) (by rw [HB.out.cell (by show 0<_;have:=HE.out.size;omega)];exact HM.out) (by decide) (by
  have hc:=Lib.countB_le (⟨#[45]⟩:ByteArray) (by decide) tx.size tx (zr4 _)
  have:=HL.out
  have e1:(⟨#[126]⟩:ByteArray).size=1:=rfl
  rw [e1]
  omega)
 rw [show (⟨#[45]⟩:ByteArray).data.toList=[45] from rfl,show (⟨#[126]⟩:ByteArray).data.toList=[126] from rfl,HR.out] at RP
 refine RP.mono ?_
 clear RP
 rintro e w2 ⟨rfl,hb⟩
 go_wp2_with fail
 go_ret
 exact⟨rfl,HB.out.trans (hb.mono HB.out.size)⟩
theorem index_in (a:UInt8):∀ l:List UInt8,Lib.index l [a] = -1∨(0≤Lib.index l [a]∧Lib.index l [a]<l.length)
 | [] => .inl rfl
 | b :: l=>by
  have ih:=index_in a l
  unfold Lib.index
  split
  ·exact .inr ⟨by decide,by simp only [List.length_cons];omega⟩
  split
  ·exact .inl rfl
  rename_i h
  rcases ih with ih | ih
  ·rw [ih] at h;exact absurd rfl h
  exact .inr ⟨by omega,by simp;omega⟩
theorem replaceK_length (a b:UInt8):∀ (k:Nat) (s:List UInt8),(Lib.replaceK [a] [b] k s).length=s.length
 | 0,_=>rfl
 | k+1,s=>by
  unfold Lib.replaceK
  split
  ·rfl
  rename_i h
  rcases index_in a s with ih | ih
  ·rw [ih] at h;exact absurd rfl h
  simp only [zr2,replaceK_length a b k,List.length_take,List.length_drop,List.length_singleton]
  omega
theorem replace_length (a b:UInt8) (s:List UInt8):(Lib.replace s [a] [b] 1).length=s.length:=by
 unfold Lib.replace
 split
 ·rfl
 exact replaceK_length a b _ s
theorem number_law:NumLaw:=by
 intro w t henv ht
 obtain⟨m,hm⟩:=henv.max
 have HM:=zh hm
 have HE:=zh henv
 have HT:=zh ht
 clear hm henv ht
 have RP:=Tryz.strings_Replace t ⟨#[126]⟩ ⟨#[45]⟩ 1 m w (by have:=HT.out;omega) HM.out (by decide) (by
  have hc:=Lib.countB_le (⟨#[126]⟩:ByteArray) (by decide) t.size t (zr4 _)
  have:=HT.out
  have e1:(⟨#[45]⟩:ByteArray).size=1:=rfl
  rw [e1]
  omega)
 rw [show (⟨#[45]⟩:ByteArray).data.toList=[45] from rfl,show (⟨#[126]⟩:ByteArray).data.toList=[126] from rfl] at RP
 obtain⟨x,hx⟩:∃ x,x=Lib.replace t.data.toList [126] [45] 1:=⟨_,rfl⟩
 have HX:=zh hx
 rw [← hx] at RP
 clear hx
 go_enter Tryz.func158,Tryz.ntmps158
 go_wp2_with fail
 refine RP.mono ?_
 clear RP
 rintro e w1 ⟨rfl,hb1⟩
 have HB1:=zh hb1
 have HE1:Hid (Env w1):=HE.out.keep hb1 HE.out.size
 have HXS:Hid ((⟨x.toArray⟩:ByteArray).size≤400000):=by
  show x.length≤_
  rw [HX.out,replace_length]
  exact HT.out
 clear hb1
 go_wp2_with fail
 have BAD:Hid (LX.num (bts t)=none→∀ w',Below w.heap.size w w'→NumPost w t (.returned (.tuple #[.int .i64 0,.int .i64 13])) w'):=fun h w' hb=>by
  unfold NumPost
  rw [h]
  exact⟨rfl,hb⟩
 cases hv:LX.num (bts t) with
 | some v =>
  obtain⟨e1,e2⟩:=atoi_of_num hv
  obtain⟨h0,h1,-⟩:=num_some hv
  have HV:=zh hv
  rw [← HX.out] at e2
  have AT:=Tryz.strconv_Atoi_ok ⟨x.toArray⟩ (by have:=HXS.out;omega) v e2 w1
  have D:=fun (W:World) (h:Env W)=>digits_any h v h0 h1
  have HD:=zh D
  have HT2:=zh e1
  clear hv e1 e2 D h0 h1
  refine AT.mono ?_
  clear AT
  rintro e w2 ⟨rfl,hw2⟩
  have HB2:Hid (Below w1.heap.size w1 w2):=by
   rcases hw2 with rfl | ⟨u,rfl⟩
   ·exact zs9 _ _
   exact Lib.bytesWorld_below _ _ _
  clear hw2
  go_wp2_with fail
  refine(HD.out w2 (HE1.out.keep HB2.out HE1.out.size)).mono ?_
  rintro e w3 ⟨rfl,hb3⟩
  rw [← HT2.out]
  have HB3:=zh hb3
  clear hb3
  go_wp2_with fail
  go_returns
  unfold NumPost
  rw [HV.out]
  exact⟨rfl,HB1.out.trans ((HB2.out.trans (HB3.out.mono HB2.out.size)).mono HB1.out.size)⟩
 | none =>
  have HV:=zh hv
  have NE:Hid (∀ v,-9223372036854775808≤v→v≤9223372036854775807→digS v≠t):=ne_of_num hv
  clear hv
  cases ha:Lib.atoiAll x with
  | ok v =>
   obtain⟨h0,h1⟩:=atoi_range ha
   have AT:=Tryz.strconv_Atoi_ok ⟨x.toArray⟩ (by have:=HXS.out;omega) v ha w1
   have D:=fun (W:World) (h:Env W)=>digits_any h v h0 h1
   have HD:=zh D
   have hne:((digS v).toList==t.toList)=false:=zt6 fun e=>NE.out v h0 h1 (by rw [ByteArray.toList_eq,ByteArray.toList_eq] at e;exact bts_inj (by unfold bts;rw [e]))
   clear ha D h0 h1
   refine AT.mono ?_
   clear AT
   rintro e w2 ⟨rfl,hw2⟩
   have HB2:Hid (Below w1.heap.size w1 w2):=by
    rcases hw2 with rfl | ⟨u,rfl⟩
    ·exact zs9 _ _
    exact Lib.bytesWorld_below _ _ _
   clear hw2
   go_wp2_with fail
   refine(HD.out w2 (HE1.out.keep HB2.out HE1.out.size)).mono ?_
   rintro e w3 ⟨rfl,hb3⟩
   have HB3:=zh hb3
   clear hb3
   go_wp2_with fail
   go_returns
   exact BAD.out HV.out _ (HB1.out.trans ((HB2.out.trans (HB3.out.mono HB2.out.size)).mono HB1.out.size))
  | range =>
   obtain⟨tp,p,hvar⟩:=HE1.out.rng
   have AT:=Tryz.strconv_Atoi_range ⟨x.toArray⟩ (by have:=HXS.out;omega) ha _ w1 hvar (.inr ⟨tp,p,rfl⟩)
   clear ha hvar
   refine AT.mono ?_
   clear AT
   rintro e w2 ⟨N,rfl,-,-,hb2⟩
   have HB2:=zh hb2
   clear hb2
   go_wp2_with fail
   go_returns
   exact BAD.out HV.out _ (HB1.out.trans ((HB2.out).mono HB1.out.size))
  | _ =>
   obtain⟨tp,p,hvar⟩:=HE1.out.syn
   have AT:=Tryz.strconv_Atoi_syntax ⟨x.toArray⟩ (by have:=HXS.out;omega) (by rw [ha]<;>rfl) _ w1 hvar (.inr ⟨tp,p,rfl⟩)
   clear ha hvar
   refine AT.mono ?_
   clear AT
   rintro e w2 ⟨N,rfl,-,-,hb2⟩
   have HB2:=zh hb2
   clear hb2
   go_wp2_with fail
   go_returns
   exact BAD.out HV.out _ (HB1.out.trans ((HB2.out).mono HB1.out.size))
end Go.Proofs.YtnkahlloahgifaaGreatDoor.Lx

namespace Go.Proofs.YtnkahlloahgifaaGreatDoor.Lx
open Go.RowKit
def APost (n0:Nat) (w:World) (b mb ib:Nat) (s:ByteArray) (j:Nat) (cs:List (Nat×Nat)) (e:Ending) (w':World):Prop :=
 (∃ p er:Nat,e=thrown p er∧LX.sc (bts s) j = .bad p er∧Kt n0 w w') ∨
 (∃ n cv' cs',e = .returned (.tuple #[])∧It n0 w' b mb ib s n cv' (cs++cs')∧Kt n0 w w'∧LX.sc (bts s) j=(LX.sc (bts s) n).app [] cs'∧j≤n∧n≤s.size∧(cs++cs').length≤n ∧
  (n<s.size→LX.space ((bts s).getD n 0)=false∧LX.opens ((bts s).drop n)=false))
theorem pass_it {n0:Nat}{w:World}{b mb ib j:Nat}{s:ByteArray}{cv:Value}{cs:List (Nat×Nat)}(h:It n0 w b mb ib s j cv cs) (hl:cs.length≤j) :
  Calls Tryz.prog 142 #[.pointer (some ⟨b,0,none⟩)] w (APost n0 w b mb ib s j cs):=by
 refine(pass_any h.sc h.cm hl).mono ?_
 have hj:j≤(bts s).length:=by rw [ze];exact h.sc.2.1
 have hp:=LX.sc_pass (bts s) (s.size+1) j hj (by rw [ze];omega)
 intro e w' hq
 rcases hr:LX.passN (s.size+1) ((bts s).drop j) j with ⟨n,cs'⟩|⟨p,er⟩
 case bad =>
  rw [hr] at hp hq
  obtain⟨rfl,cv',hf⟩:=hq
  exact .inl ⟨p,er,rfl,hp,hf.kt h.sc h.cm h.hb h.hcv⟩
 case «to» =>
  rw [hr] at hp hq
  obtain⟨rfl,cv',hs,hc,hf⟩:=hq
  obtain⟨h1,h2,h3,h4,h5⟩:=hp
  rw [ze] at h3 h5
  exact .inr ⟨n,cv',cs',rfl,h.fr hf hs hc,hf.kt h.sc h.cm h.hb h.hcv,h1,h2,h3,by rw [zr2];omega,h5⟩
def IPost (n0:Nat) (J:List LX.Tok→World→Prop) (b mb ib:Nat) (s:ByteArray) (e:Ending) (w':World):Prop :=
 match LX.scan (bts s) with
 | .ok ts cs=>e = .returned (.tuple #[])∧J ts w'∧∃ i cv,It n0 w' b mb ib s i cv cs
 | .bad p er=>e=thrown p er∧∃ ts,J ts w'
theorem toks_in {n0:Nat}{w:World}{b mb ib:Nat}{s:ByteArray}{cv:Value}(n l:Nat) (J:List LX.Tok→World→Prop)
  (hJ:∀ ts W W',J ts W→Kt n0 W W'→J ts W')
  (hY:∀ (ts:List LX.Tok) (k:Nat) (v:Int) (p:Nat) (tx:ByteArray) (W:World),J ts W→ts.length<s.size→YieldAt Fence.wide n Tryz.prog l #[tokV k v tx p] W fun e W'=>e = .returned (.bool true)∧J (ts++[⟨k,v,bts tx,p⟩]) W'∧Kb n0 W W')
  (h:It n0 w b mb ib s 0 cv []) (h0:J [] w) :
  Calls Tryz.prog 141 #[.func (.yield l) #[] #[],.pointer (some ⟨ib,0,none⟩)] w (IPost n0 J b mb ib s):=by
 have c0:w.cell? ⟨ib,0,none⟩=some (.pointer (some ⟨b,0,none⟩)):=by rw [zb _ _ 0 _ _ _ h.box];rfl
 have PA:=zh (pass_it h (zr4 _))
 have HJ:=zh hJ
 have HY:=zh hY
 have H0:=zh h0
 have HI:=zh h
 have HZ:=zh h.sc.2.2
 clear hJ hY h0 h
 go_enter Tryz.func141,Tryz.ntmps141
 go_wp2_with fail
 refine PA.out.mono ?_
 clear PA c0
 rintro e w1 (⟨p,er,rfl,hb,hk⟩|⟨n1,cv1,cs1,rfl,hi1,hk1,hs1,hj1,hn1,hc1,hp1⟩)
 ·unfold thrown
  have HB:=zh hb
  have HK:=zh hk
  clear hb hk
  go_wp2_with fail
  refine⟨rfl,?_⟩
  unfold IPost
  rw [LX.scan_sc,HB.out]
  exact⟨rfl,[],HJ.out _ _ _ H0.out HK.out⟩
 have K1:=zh hi1
 have K2:=zh hk1
 have K3:=zh hs1
 have K4:=zh (And.intro hn1 hc1)
 have K5:=zh hp1
 clear hi1 hk1 hs1 hj1 hn1 hc1 hp1
 go_wp2_with fail
 go_loopg [3] (s.size - n1) (fun gk v wr=>∃ (j:Nat) (ts:List LX.Tok) (cs:List (Nat×Nat)) (cv':Value),j≤s.size∧gk=s.size - j∧It n0 wr b mb ib s j cv' cs∧J ts wr∧ts.length≤j∧cs.length≤j ∧
  (j<s.size→LX.space ((bts s).getD j 0)=false∧LX.opens ((bts s).drop j)=false)∧LX.sc (bts s) 0=(LX.sc (bts s) j).app ts cs)
 case atStart=>exact⟨n1,[],cs1,cv1,K4.out.1,rfl,K1.out,HJ.out _ _ _ H0.out K2.out,Nat.zero_le _,K4.out.2,K5.out,K3.out⟩
 obtain⟨j,ts,cs,cv',hjs,hgk,hit,hJt,htl,hcl,hsp,hsc⟩:=hrel
 obtain⟨e0,e1,elt,ele,esz⟩:=hit.sc.at'
 have ef:∀ q,wr.frozen? ⟨b,q,none⟩=false:=fun q=>zs1 wr b q _ _ hit.sc.1
 have eb:wr.cell? ⟨ib,0,none⟩=some (.pointer (some ⟨b,0,none⟩)):=by rw [zb _ _ 0 _ _ _ hit.box];rfl
 have H1:=zh hit
 have H2:=zh hJt
 have H3:=zh (And.intro htl hcl)
 have H4:=zh hsp
 have H5:=zh hsc
 have H6:=zh hgk
 have hjz:(j:Int)≤400000:=by omega
 clear hit hJt htl hcl hsp hsc hgk ele esz
 by_cases hlt:j<s.size
 ·have hlz:(j:Int)<(s.size:Int):=by omega
  have HLT:=zh hlt
  clear hlt hjs
  go_wp2_with fail
  go_quiet (fail)
  go_wp2_with fail
  refine(token_any number_law (H1.out.drewN nq).sc (H1.out.drewN nq).env (H1.out.drewN nq).wd (H1.out.drewN nq).hmb HLT.out).mono ?_
  intro e w2 hq
  have hstep:=LX.sc_step (T:=bts s) (j:=j) (by rw [ze];exact HLT.out)
  rw [(H4.out HLT.out).1,if_neg (by decide),(H4.out HLT.out).2,if_neg (by decide)] at hstep
  rcases ht:LX.token ((bts s).drop j) with ⟨k,v,m⟩|⟨er⟩
  case bad =>
   rw [ht] at hq hstep
   obtain⟨rfl,hb⟩:=hq
   have G1:=zh hb
   have G2:=zh hstep
   clear hb hstep ht
   unfold thrown
   go_wp2_with fail
   refine⟨rfl,?_⟩
   unfold IPost
   rw [LX.scan_sc,H5.out,G2.out]
   exact⟨rfl,ts,HJ.out _ _ _ H2.out (Kt.of_below (zu G1.out))⟩
  rw [ht] at hq hstep
  obtain⟨rfl,hb⟩:=hq
  have hm:=LX.token_len ht
  rw [List.length_drop,ze] at hm
  have G1:=zh hb
  have G2:=zh hstep
  have G3:=zh hm
  have hmz:(j:Int)+(m:Int)≤400000:=by have:=HZ.out;omega
  obtain⟨tx,htx⟩:∃ t,t=s.extract j (j+m):=⟨_,rfl⟩
  rw [← htx]
  have htl:tx.size=m:=by rw [htx,ByteArray.size_extract];omega
  have G4:=zh htx
  have G5:=zh htl
  clear hb hstep ht hm htx htl e0 e1 elt ef eb
  unfold tokV
  go_wp2_with fail
  obtain⟨z,hz⟩:∃ z,z=w2.heap.size:=⟨_,rfl⟩
  obtain⟨V,hV⟩:∃ V,V=w2.alloc (.cells #[.int .i64 k,.int .i64 v,.string tx,.int .i64 j] 154):=⟨_,rfl⟩
  rw [← hV,← hz]
  have I2:=(H1.out.drewN nq).below G1.out
  have BV:Below w2.heap.size w2 V:=by rw [hV];exact(zs9 _ _).alloc (zr4 _) _
  have I3:=I2.below BV
  have KV:Hid (Kt n0 wr V):=(Kt.of_below (zu G1.out)).trans (Kt.of_below BV)
  have hVz:V.heap[z]?=some (.cells #[.int .i64 k,.int .i64 v,.string tx,.int .i64 j] 154 (0,0)):=by rw [hV,hz];exact zs2 w2 _
  have hne:z≠b:=by have:=(zq7.1 I2.sc.1).1;omega
  have v0:V.cell? ⟨b,0,none⟩=some (.string s):=I3.sc.at'.c0
  have v1:V.cell? ⟨b,1,none⟩=some (.int .i64 j):=I3.sc.at'.c1
  have vf:V.frozen? ⟨b,1,none⟩=false:=zs1 V b 1 _ _ I3.sc.1
  have vb:V.cell? ⟨ib,0,none⟩=some (.pointer (some ⟨b,0,none⟩)):=by rw [zb _ _ 0 _ _ _ I3.box];rfl
  have z2:V.cell? ⟨z,2,none⟩=some (.string tx):=by rw [zb _ _ 2 _ _ _ hVz];rfl
  have hwr:IntKind.i64.wrap ((j:Int)+(tx.size:Int))=(j:Int)+(tx.size:Int):=wrap_in _ (by rw [G5.out];omega)
  have J1:=zh I3
  have J2:=zh hVz
  have J3:=zh hne
  clear hz hV I2 BV I3 hVz hne
  refine wp_region_still_tail 12 (by kernel_rfl) (by kernel_rfl) ?_
  simp only [List.take_succ_cons,List.take_zero,List.drop_succ_cons,List.drop_zero,World.drew_eq]
  iterate 12 still_step
  refine wpStill_nil ?_
  go_upto_region 5 with (fail)
  clear v0 v1 vf vb z2 hwr
  obtain⟨U,hU⟩:∃ U,U=(V.setCell ⟨b,1,none⟩ (.int .i64 ((j:Int)+(tx.size:Int)))).drew:=⟨_,rfl⟩
  rw [← hU]
  have MU:Mv V U b ((j+m:Nat):Int):=by
   have e:((j+m:Nat):Int)=(j:Int)+(tx.size:Int):=by rw [G5.out];push_cast;rfl
   rw [hU,e]
   have M0:=Mv.of_set V b ((j:Int)+(tx.size:Int))
   exact⟨M0.os,M0.tape,M0.output,M0.size,M0.block,M0.cell⟩
  have A1:=J1.out.adv MU (by have:=G3.out;have:=HLT.out;omega)
  have hJU:J ts U:=HJ.out _ _ _ H2.out (KV.out.trans A1.2)
  have z2:U.heap[z]?=some (.cells #[.int .i64 k,.int .i64 v,.string tx,.int .i64 j] 154 (0,0)):=(MU.block z J3.out).trans J2.out
  have z0:U.cell? ⟨z,0,none⟩=some (.int .i64 k):=by rw [zb _ _ 0 _ _ _ z2];rfl
  have z1:U.cell? ⟨z,1,none⟩=some (.int .i64 v):=by rw [zb _ _ 1 _ _ _ z2];rfl
  have z2':U.cell? ⟨z,2,none⟩=some (.string tx):=by rw [zb _ _ 2 _ _ _ z2];rfl
  have z3:U.cell? ⟨z,3,none⟩=some (.int .i64 j):=by rw [zb _ _ 3 _ _ _ z2];rfl
  obtain⟨fn,tmps,assign,body,hy,hR⟩:=HY.out ts k v j tx U hJU (by have:=H3.out.1;have:=HLT.out;omega)
  unfold tokV at hy
  have A2:=zh A1.1
  have A3:=zh hR
  clear A1 hJU z2 hU MU hR
  refine(wpIn_wide (n:=n+1)).1 ?_
  gi_wp2
  refine A3.out.mono ?_
  rintro e U' ⟨rfl,hJ',hk'⟩
  have B1:=A2.out.kb hk'
  have B2:=zh hJ'
  have B3:=pass_it B1 (zr5 H3.out.2 (Nat.le_add_right _ _))
  have vb:U'.cell? ⟨ib,0,none⟩=some (.pointer (some ⟨b,0,none⟩)):=by rw [zb _ _ 0 _ _ _ B1.box];rfl
  have B4:=zh B3
  clear B1 hJ' B3 hk' z0 z1 z2' z3 hy
  gi_wp2
  go_wp2_with fail
  have hjm:j+m≤s.size:=by have:=G3.out;have:=HLT.out;omega
  have hbt:bts tx=((bts s).drop j).take m:=by rw [G4.out,bts_extract,Nat.add_sub_cancel_left]
  have C1:Hid (LX.sc (bts s) 0=(LX.sc (bts s) (j+m)).app (ts++[⟨k,v,bts tx,j⟩]) cs):=by
   show _=_
   rw [H5.out,G2.out,LX.Res.app_app,hbt,List.append_nil]
  have C2:=zh hjm
  clear hjm hbt
  refine B4.out.mono ?_
  clear B4 vb
  rintro e w3 (⟨p,er,rfl,hb,hk⟩|⟨n2,cv2,cs2,rfl,hi2,hk2,hs2,hj2,hn2,hc2,hp2⟩)
  ·unfold thrown
   have HB:=zh hb
   have HK:=zh hk
   clear hb hk
   go_wp2_with fail
   refine⟨rfl,?_⟩
   unfold IPost
   rw [LX.scan_sc,C1.out,HB.out]
   exact⟨rfl,_,HJ.out _ _ _ B2.out HK.out⟩
  have K1':=zh hi2
  have K2':=zh hk2
  have K3':Hid (LX.sc (bts s) 0=(LX.sc (bts s) n2).app (ts++[⟨k,v,bts tx,j⟩]) (cs++cs2)):=by
   show _=_
   rw [C1.out,hs2,LX.Res.app_app,List.append_nil]
  have K4':=zh (And.intro hn2 hc2)
  have K5':=zh hp2
  have K6':=zh hj2
  clear hi2 hk2 hs2 hj2 hn2 hc2 hp2
  go_wp2_with fail
  go_roundg (s.size - n2)
  case measure=>have:=H6.out;have:=HLT.out;have:=G3.out;have:=K6'.out;have:=K4'.out;omega
  exact⟨n2,_,_,cv2,K4'.out.1,rfl,K1'.out,HJ.out _ _ _ B2.out K2'.out,by have:=H3.out;have:=G3.out;have:=K6'.out;simp only [zr2,List.length_cons,List.length_nil];omega,K4'.out.2,K5'.out,K3'.out⟩
 have hlz:(s.size:Int)≤(j:Int):=by omega
 have HE:Hid (j=s.size):=by show _=_;omega
 clear hlt hjs
 go_wp2_with fail
 go_quiet (fail)
 go_wp2_with fail
 (try simp only [Exit.inBlock,Exit.then])
 refine bodyPost_end (results_none rfl _ _ _) rfl ?_
 unfold IPost
 rw [LX.scan_sc,H5.out,LX.sc_end (by rw [ze,HE.out];exact zr4 _)]
 simp only [LX.Res.app,List.append_nil]
 exact⟨trivial,HJ.out _ _ _ H2.out ((Kt.refl _ _).drewN _),j,cv',H1.out.drewN _⟩
end Go.Proofs.YtnkahlloahgifaaGreatDoor.Lx

namespace Go.Proofs.YtnkahlloahgifaaGreatDoor.Lx
open Go.RowKit
theorem tokens_any (w:World) (b:Nat):Calls Tryz.prog 139 #[.pointer (some ⟨b,0,none⟩)] w fun e w'=>e = .returned (.func (.func 141) #[] #[.pointer (some ⟨w.heap.size,0,none⟩)])∧w'=w.alloc (.cells #[.pointer (some ⟨b,0,none⟩)] 200):=by
 go_enter Tryz.func139,Tryz.ntmps139
 go_wp2
 go_ret
 exact⟨rfl,rfl⟩
theorem caught_idle (n lb wb:Nat) (w:World) :
  CallsDIn Fence.wide n Tryz.prog 138 #[.pointer (some ⟨lb,0,none⟩),.pointer (some ⟨wb,0,none⟩)] .returning w fun e u' w'=>e = .returned (.tuple #[])∧u' = .returning∧w'=w:=by
 refine callsDIn_of_wpSIn Tryz.func138 rfl (by trivial) fun c₀ cs hu=>?_
 apply wpSIn_seq
 apply wpSIn_region
 simp [wpOpsSIn,go_sem,recoverD,hu,Tryz.ntmps138,Exit.thenS]
 refine wpSIn_of_wpIn rfl (wpIn_wide.2 ?_)
 go_wp2
 cases c₀
 simp_all [bodyPostS,results,Tryz.results138]
structure Two (w w':World) (x y:Nat) (ox oy:Obj):Prop where
 os:w'.os=w.os
 tape:w'.tape=w.tape
 output:w'.output=w.output
 size:w.heap.size≤w'.heap.size
 hx:w'.heap[x]?=some ox
 hy:w'.heap[y]?=some oy
 block:∀ k,k<w.heap.size→k≠x→k≠y→w'.heap[k]?=w.heap[k]?
theorem caught_thrown (n lb wb:Nat) (w:World) (i e:Int) (v x y:Value) (hl:w.heap[lb]?=some (.cells #[v] 201 (0,0))) (hw:w.heap[wb]?=some (.cells #[x,y] 203 (0,0))) (hne:lb≠wb) :
  CallsDIn Fence.wide n Tryz.prog 138 #[.pointer (some ⟨lb,0,none⟩),.pointer (some ⟨wb,0,none⟩)] (.panicking [{ v := .iface 203 (.agg #[.int .i64 i,.int .i64 e]),recovered:=false }]) w
   fun r u' w'=>r = .returned (.tuple #[])∧u' = .panicking [{ v := .iface 203 (.agg #[.int .i64 i,.int .i64 e]),recovered:=true }] ∧
    Two w w' lb wb (.cells #[.slice none 0 0] 201 (0,0)) (.cells #[.int .i64 i,.int .i64 e] 203 (0,0)):=by
 have h0:w.cell? ⟨lb,0,none⟩=some v:=by rw [zb _ _ 0 _ _ _ hl];rfl
 have h1:w.cell? ⟨wb,0,none⟩=some x:=by rw [zb _ _ 0 _ _ _ hw];rfl
 have h2:w.cell? ⟨wb,1,none⟩=some y:=by rw [zb _ _ 1 _ _ _ hw];rfl
 have f0:w.frozen? ⟨lb,0,none⟩=false:=zs1 w lb 0 _ _ hl
 have f1:w.frozen? ⟨wb,0,none⟩=false:=zs1 w wb 0 _ _ hw
 have f2:w.frozen? ⟨wb,1,none⟩=false:=zs1 w wb 1 _ _ hw
 have HL:=zh hl
 have HW:=zh hw
 have HN:=zh hne
 have hta:∀ W:World,(Instr.typeAssert (.iface 203 (.agg #[.int .i64 i,.int .i64 e])) 20 203 true).run Tryz.prog W = .ok (.tuple #[.agg #[.int .i64 i,.int .i64 e],.bool true]) W:=fun W=>by kernel_rfl
 refine callsDIn_of_wpSIn Tryz.func138 rfl (by trivial) fun c₀ cs hu=>?_
 simp only [Tryz.ntmps138,List.size_toArray,List.length_cons,List.length_nil,Nat.reduceAdd,Nat.reduceSub,Array.replicate_succ,Array.replicate_zero,List.push_toArray,List.append_toArray,List.nil_append,List.cons_append]
 apply wpSIn_seq
 apply wpSIn_region
 simp [wpOpsSIn,go_sem,recoverD,hu,Exit.thenS]
 refine wpSIn_of_wpIn rfl (wpIn_wide.2 ?_)
 clear hl hw hne
 go_wp2
 obtain⟨z,hz⟩:∃ z,z=w.heap.size:=⟨_,rfl⟩
 obtain⟨V,hV⟩:∃ V,V=w.alloc (.cells #[.int .i64 i,.int .i64 e] 203):=⟨_,rfl⟩
 rw [← hV,← hz]
 have hlt:lb<w.heap.size∧wb<w.heap.size:=⟨(zq7.1 HL.out).1,(zq7.1 HW.out).1⟩
 have kb:∀ k,k<w.heap.size→V.heap[k]?=w.heap[k]?:=fun k hk=>by rw [hV];exact zt2 _ _ _ hk
 have vl:=(kb lb hlt.1).trans HL.out
 have vw:=(kb wb hlt.2).trans HW.out
 have vz:V.heap[z]?=some (.cells #[.int .i64 i,.int .i64 e] 203 (0,0)):=by rw [hV,hz];exact zs2 w _
 have nlz:lb≠z:=by omega
 have nwz:wb≠z:=by omega
 have c0:V.cell? ⟨lb,0,none⟩=some v:=by rw [zb _ _ 0 _ _ _ vl];rfl
 have c1:V.cell? ⟨wb,0,none⟩=some x:=by rw [zb _ _ 0 _ _ _ vw];rfl
 have c2:V.cell? ⟨wb,1,none⟩=some y:=by rw [zb _ _ 1 _ _ _ vw];rfl
 have g0:V.frozen? ⟨lb,0,none⟩=false:=zs1 V lb 0 _ _ vl
 have g1:V.frozen? ⟨wb,0,none⟩=false:=zs1 V wb 0 _ _ vw
 have g2:V.frozen? ⟨wb,1,none⟩=false:=zs1 V wb 1 _ _ vw
 have c3:V.cell? ⟨z,0,none⟩=some (.int .i64 i):=by rw [zb _ _ 0 _ _ _ vz];rfl
 have c4:V.cell? ⟨z,1,none⟩=some (.int .i64 e):=by rw [zb _ _ 1 _ _ _ vz];rfl
 have hne:=HN.out
 have END:Hid (Two w (((V.setCell ⟨lb,0,none⟩ (.slice none 0 0)).setCell ⟨wb,0,none⟩ (.int .i64 i)).setCell ⟨wb,1,none⟩ (.int .i64 e)) lb wb (.cells #[.slice none 0 0] 201 (0,0)) (.cells #[.int .i64 i,.int .i64 e] 203 (0,0))):=by
  have k1:∀ k,k≠lb→k≠wb→(((V.setCell ⟨lb,0,none⟩ (.slice none 0 0)).setCell ⟨wb,0,none⟩ (.int .i64 i)).setCell ⟨wb,1,none⟩ (.int .i64 e)).heap[k]?=V.heap[k]?:=fun k h1 h2=>by
   rw [zt1 _ _ _ k h2,zt1 _ _ _ k h2,zt1 _ _ _ k h1]
  refine⟨by rw [hV];rfl,by rw [hV];rfl,by rw [hV];rfl,by rw [hV];simp,?_,?_,fun k hk h1 h2=>(k1 k h1 h2).trans (kb k hk)⟩
  ·rw [zt1 _ _ _ lb HN.out,zt1 _ _ _ lb HN.out]
   exact heap_setCell_same _ lb 0 _ _ _ vl
  have h1:(V.setCell ⟨lb,0,none⟩ (.slice none 0 0)).heap[wb]?=some (.cells #[x,y] 203 (0,0)):=(zt1 _ _ _ wb (Ne.symm HN.out)).trans vw
  exact heap_setCell_same _ wb 1 _ _ _ (heap_setCell_same _ wb 0 _ _ (.int .i64 i) h1)
 clear hV hz hlt kb vl vw vz h0 h1 h2 f0 f1 f2
 go_region
 all_goals
  have E:=END.out
  exact⟨rfl,_,rfl,.tuple #[],results_none rfl _ _ _,rfl,rfl,⟨E.os,E.tape,E.output,E.size,E.hx,E.hy,E.block⟩⟩
end Go.Proofs.YtnkahlloahgifaaGreatDoor.Lx

namespace Go.Proofs.YtnkahlloahgifaaGreatDoor.Lx
open Go.RowKit
def ofB (l:List Nat):ByteArray:=⟨(l.map UInt8.ofNat).toArray⟩
theorem ofB_bts (t:ByteArray):ofB (bts t)=t:=by
 unfold ofB bts
 rw [List.map_map]
 have:(UInt8.ofNat ∘ UInt8.toNat)=id:=by funext x;simp
 rw [this,List.map_id]
def flatT:List LX.Tok→List Value
 | []=>[]
 | t :: r => .int .i64 t.kind :: .int .i64 t.num :: .string (ofB t.text) :: .int .i64 t.place :: flatT r
theorem flatT_append (a b:List LX.Tok):flatT (a++b)=flatT a++flatT b:=by
 induction a with
 | nil=>rfl
 | cons x r ih=>simp [flatT,ih]
theorem owns_keep {w w':World}{base e size n:Nat}{v:Value}{xs:List Value}(h:w.ownsRow base e size v n xs) (hk:∀ k,v.ownBlock=some k→w'.heap[k]?=w.heap[k]?):w'.ownsRow base e size v n xs:=by
 obtain⟨h1,h2⟩:=h
 rcases h2 with h2 | ⟨g,cap,cur,rfl,hb,hg,rest⟩
 ·exact⟨h1,.inl h2⟩
 exact⟨h1,.inr ⟨g,cap,cur,rfl,hb,(hk g rfl).trans hg,rest⟩⟩
theorem owns_blk {w:World}{base e size n:Nat}{v:Value}{xs:List Value}(h:w.ownsRow base e size v n xs) {k:Nat}(hk:v.ownBlock=some k):base≤k∧∃ c,w.heap[k]?=some (.cells c e (0,0)):=by
 rcases h.2 with ⟨rfl,_⟩|⟨g,cap,cur,rfl,hb,hg,_⟩
 ·simp [Value.ownBlock] at hk
 simp [Value.ownBlock] at hk;subst hk;exact⟨hb,_,hg⟩
structure Jt (w:World) (D l lb wb:Nat) (rcd:Loop) (ts:List LX.Tok) (W:World):Prop where
 blk:W.heap[D]?=some (.deferred (some []))
 loop:W.heap[l]?=some (.loop rcd)
 wrong:W.heap[wb]?=some (.cells #[.int .i64 0,.int .i64 0] 203 (0,0))
 row:∃ v,Boxed W lb 201 v∧W.ownsRow w.heap.size 154 4 v ts.length (flatT ts)
 below:Below w.heap.size w W
theorem Jt.kt {w W W':World}{D l lb wb:Nat}{rcd:Loop}{ts:List LX.Tok}(h:Jt w D l lb wb rcd ts W) (k:Kt w.heap.size W W'):Jt w D l lb wb rcd ts W':=by
 obtain⟨v,h1,h2⟩:=h.row
 refine⟨k.block _ _ h.blk (.inr ⟨nofun,nofun⟩),k.block _ _ h.loop (.inr ⟨nofun,nofun⟩),k.block _ _ h.wrong (.inr ⟨fun c r e=>?_,fun c r e=>?_⟩),⟨v,k.block _ _ h1 (.inr ⟨fun c r e=>?_,fun c r e=>?_⟩),owns_keep h2 fun q hq=>?_⟩,h.below.trans (k.below h.below.size)⟩
 ·simp at e
 ·simp at e
 ·simp at e
 ·simp at e
 obtain⟨_,c,hc⟩:=owns_blk h2 hq
 rw [hc]
 exact k.block _ _ hc (.inr ⟨fun c r e=>by simp at e,fun c r e=>by simp at e⟩)
theorem Jt.put {w W:World}{D l lb wb:Nat}{rcd:Loop}{ts:List LX.Tok}(h:Jt w D l lb wb rcd ts W) (r':Loop) (hl:w.heap.size≤l):Jt w D l lb wb r' ts (W.putObj l (.loop r'))∧Kb w.heap.size W (W.putObj l (.loop r')):=by
 have ho:∀ k o,W.heap[k]?=some o→(∀ r:Loop,o≠Obj.loop r)→(W.putObj l (.loop r')).heap[k]?=some o:=fun k o hk hr =>
  (World.putObj_heap_other fun e=>by subst e;rw [h.loop] at hk;simp only [zt3] at hk;exact hr _ hk.symm).trans hk
 obtain⟨v,h1,h2⟩:=h.row
 refine⟨⟨ho _ _ h.blk nofun,World.putObj_heap_same (zq7.1 h.loop).1,ho _ _ h.wrong nofun,⟨v,ho _ _ h1 nofun,owns_keep h2 fun q hq=>?_⟩,?_⟩,?_⟩
 ·obtain⟨_,c,hc⟩:=owns_blk h2 hq
  rw [hc]
  exact ho _ _ hc nofun
 ·exact h.below.trans ⟨rfl,rfl,rfl,by simp,fun k hk=>World.putObj_heap_other (by omega)⟩
 refine⟨rfl,rfl,rfl,by simp,fun k o hk ht=>?_⟩
 rcases ht with ht | ⟨c,rfl⟩|⟨c,rfl⟩|⟨es,cl,rfl⟩|⟨c,rfl⟩
 ·exact(World.putObj_heap_other (by omega)).trans hk
 ·exact ho _ _ hk nofun
 ·exact ho _ _ hk nofun
 ·exact ho _ _ hk nofun
 exact ho _ _ hk nofun
theorem Kb.trans {n0:Nat}{w w1 w2:World}(h:Kb n0 w w1) (k:Kb n0 w1 w2):Kb n0 w w2 :=
 ⟨k.os.trans h.os,k.tape.trans h.tape,k.output.trans h.output,zr5 h.size k.size,fun q o ho hq=>k.block q o (h.block q o ho hq) hq⟩
theorem Kb.of_below {n0:Nat}{w w':World}(h:Below w.heap.size w w'):Kb n0 w w' :=
 ⟨h.os,h.tape,h.output,h.size,fun k o ho _=>(h.block k (zq7.1 ho).1).trans ho⟩
theorem Jt.alloc {w W:World}{D l lb wb:Nat}{rcd:Loop}{ts:List LX.Tok}(h:Jt w D l lb wb rcd ts W) (o:Obj):Jt w D l lb wb rcd ts (W.alloc o)∧Kb w.heap.size W (W.alloc o):=by
 have hb:Below W.heap.size W (W.alloc o):=(zs9 _ _).alloc (zr4 _) _
 exact⟨h.kt (Kt.of_below hb),Kb.of_below hb⟩
theorem Jt.more {w W w1:World}{D l lb wb:Nat}{rcd:Loop}{ts:List LX.Tok}{v v':Value}{tmp:Obj}(h:Jt w D l lb wb rcd ts W) (t:LX.Tok) (hv:Boxed W lb 201 v) (hrow:W.ownsRow w.heap.size 154 4 v ts.length (flatT ts))
  (hlb:w.heap.size≤lb) (hown:w1.ownsRow w.heap.size 154 4 v' (ts.length+1) (flatT ts++[.int .i64 t.kind,.int .i64 t.num,.string (ofB t.text),.int .i64 t.place])) (hg:(W.alloc tmp).grownBy w1 v.ownBlock) :
  Boxed w1 lb 201 v∧Jt w D l lb wb rcd (ts++[t]) (w1.setCell ⟨lb,0,none⟩ v')∧Kb w.heap.size W (w1.setCell ⟨lb,0,none⟩ v'):=by
 obtain⟨b1,b2,b3,b4,b5⟩:=hv.appended (by decide) hrow h.below.size hlb hown hg
 have keep:∀ k o,W.heap[k]?=some o→(∀ c:Array Value,o≠Obj.cells c 154 (0,0))→(∀ c:Array Value,o≠Obj.cells c 201 (0,0))→(w1.setCell ⟨lb,0,none⟩ v').heap[k]?=some o:=fun k o hk h39 h35=>by
  have hlt:=(zq7.1 hk).1
  rw [zt1 _ _ _ k (fun e=>by
   have e:k=lb:=e
   subst e
   rw [show W.heap[k]?=_ from hv] at hk
   simp only [zt3] at hk
   exact h35 _ hk.symm)]
  refine(hg.block k (by simp;omega) fun e=>?_).trans ((zt2 W tmp k hlt).trans hk)
  obtain⟨_,c,hc⟩:=owns_blk hrow e.symm
  rw [hc] at hk
  simp only [zt3] at hk
  exact h39 _ hk.symm
 refine⟨b1,⟨keep _ _ h.blk nofun nofun,keep _ _ h.loop nofun nofun,keep _ _ h.wrong (fun c e=>by simp at e) (fun c e=>by simp at e),⟨v',b2,?_⟩,h.below.trans b5⟩,⟨b5.os,b5.tape,b5.output,b5.size,fun k o hk ht=>?_⟩⟩
 ·rw [zr2,flatT_append]
  exact b3
 rcases ht with ht | ⟨c,rfl⟩|⟨c,rfl⟩|⟨es,cl,rfl⟩|⟨c,rfl⟩
 ·exact(b5.block k ht).trans hk
 ·exact keep _ _ hk (fun c e=>by simp at e) (fun c e=>by simp at e)
 ·exact keep _ _ hk (fun c e=>by simp at e) (fun c e=>by simp at e)
 ·exact keep _ _ hk nofun nofun
 exact keep _ _ hk (fun c e=>by simp at e) (fun c e=>by simp at e)
end Go.Proofs.YtnkahlloahgifaaGreatDoor.Lx

namespace Go.Proofs.YtnkahlloahgifaaGreatDoor.Lx
open Go.RowKit
def recOf (fn:FuncId) (tmps:Array Value) (assign body:Code) (D:Nat) (st:LoopState):Loop:={ state:=st,pending:=none,fn,tmps,params := #[11],assign,body,defers:=D }
theorem loop_law {assign body:Code}{Q:Exit→Act→World→Prop}{a:Act}{w W2:World}{b mb ib lb:Nat}{s:ByteArray}
  (hg:a.eval (.tmp 10) = .func (.func 141) #[] #[.pointer (some ⟨ib,0,none⟩)])
  (hI:It w.heap.size W2 b mb ib s 0 (.slice none 0 0) [])
  (hw:W2.heap[lb+1]?=some (.cells #[.int .i64 0,.int .i64 0] 203 (0,0))) (hv:Boxed W2 lb 201 (.slice none 0 0)) (hB:Below w.heap.size w W2)
  (hround:∀ (rcd:Loop) (ts:List LX.Tok) (k:Nat) (v:Int) (p:Nat) (tx:ByteArray) (W:World),rcd.state = .ready→rcd.pending=none→Jt w W2.heap.size (W2.heap.size+1) lb (lb+1) rcd ts W→ts.length<s.size →
   assign.wpIn (Fence.wide.inRound (W2.heap.size+1)) 1 Tryz.prog (Exit.then (fun a₁ w₁=>∃ w₂,(Instr.beginRound (W2.heap.size+1)).run Tryz.prog w₁ = .ok () w₂ ∧
    body.wpIn (Fence.wide.inRound (W2.heap.size+1)) 1 Tryz.prog (roundPost Tryz.prog (W2.heap.size+1) fun e W'=>e = .returned (.bool true) ∧
     Jt w W2.heap.size (W2.heap.size+1) lb (lb+1) rcd (ts++[⟨k,v,bts tx,p⟩]) W'∧Kb w.heap.size W W') a₁ w₂) (fun _ _ _=>False))
    { tmps:=a.tmps.setIfInBounds 11 (tokV k v tx p),defers:=[] } W)
  (hdone:∀ (rcd:Loop) (W:World) (i:Nat) (cv:Value) (ts:List LX.Tok) (cs:List (Nat×Nat)),LX.scan (bts s) = .ok ts cs →
   Jt w W2.heap.size (W2.heap.size+1) lb (lb+1) rcd ts W→It w.heap.size W b mb ib s i cv cs →
   Q .normal { a with defers:={ target := .collected W2.heap.size,args := #[] } :: a.defers } W)
  (hthrown:∀ (rcd:Loop) (W:World) (p er:Nat) (ts:List LX.Tok),LX.scan (bts s) = .bad p er →
   Jt w W2.heap.size (W2.heap.size+1) lb (lb+1) rcd ts W →
   Q (.panic [{ v := .iface 203 (.agg #[.int .i64 p,.int .i64 er]),recovered:=false }]) { a with defers:={ target := .collected W2.heap.size,args := #[] } :: a.defers } W) :
  (Code.rangeFunc (.tmp 10) #[11] assign body).wp Tryz.prog Q a W2:=by
 refine(wpIn_wide (n:=2)).1 ?_
 refine wpIn_rangeFunc ?_
 intro fn hfn
 obtain⟨D,hD⟩:∃ D,D=W2.heap.size:=⟨_,rfl⟩
 obtain⟨l,hl⟩:∃ l,l=W2.heap.size+1:=⟨_,rfl⟩
 obtain⟨W3,hW3⟩:∃ W,W=(W2.alloc (.deferred (some []))).alloc (.loop (recOf fn a.tmps assign body W2.heap.size .ready)):=⟨_,rfl⟩
 have he:(Instr.enterLoop fn a.tmps #[11] assign body Fence.wide.round).run Tryz.prog W2 = .ok (l,[{ target := .collected D,args := #[] }]) W3:=by
  rw [hl,hD,hW3]
  exact run_enterLoop_outer fn a.tmps #[11] assign body
 have h3:Below W2.heap.size W2 W3:=by rw [hW3];exact((zs9 _ _).alloc (zr4 _) _).alloc (by simp) _
 have hD3:W3.heap[D]?=some (.deferred (some [])):=by
  rw [hW3,hD,zt2 _ _ _ (by simp)];exact World.alloc_heap_new W2 _
 have hl3:W3.heap[l]?=some (.loop (recOf fn a.tmps assign body W2.heap.size .ready)):=by
  rw [hW3,hl]
  have:=World.alloc_heap_new (W2.alloc (.deferred (some []))) (.loop (recOf fn a.tmps assign body W2.heap.size .ready))
  rw [World.size_alloc] at this
  exact this
 refine⟨l,[{ target := .collected D,args := #[] }],W3,{ target := .fn (.func 141) #[.pointer (some ⟨ib,0,none⟩)],args := #[.func (.yield l) #[] #[]] },W3,141,
  #[.func (.yield l) #[] #[]] ++ #[.pointer (some ⟨ib,0,none⟩)],W3,he,?_,?_,?_,(fun _=>by decide),?_⟩
 ·simp only [resolve,hg]
  simp [go_sem]
 ·intro f' _;exact trivial
 ·have eg:=enters_of Tryz.func141 (by kernel_rfl) rfl
  simp [invoke,go_sem,eg]
 subst hD
 subst hl
 have J0:Jt w W2.heap.size (W2.heap.size+1) lb (lb+1) (recOf fn a.tmps assign body W2.heap.size .ready) [] W3 :=
  ⟨hD3,hl3,(h3.block _ (zq7.1 hw).1).trans hw,⟨_,(h3.block _ (zq7.1 hv).1).trans hv,World.ownsRow_nil _ _ _ _⟩,hB.trans (h3.mono hB.size)⟩
 refine callsIn_wide.2 ((toks_in (n0:=w.heap.size) 1 (W2.heap.size+1) (Jt w W2.heap.size (W2.heap.size+1) lb (lb+1) (recOf fn a.tmps assign body W2.heap.size .ready)) (fun ts W W' h k=>h.kt k) ?_ (hI.below h3) J0).mono ?_)
 ·intro ts k v p tx W hJ hlen
  have hy:=run_yield (P:=Tryz.prog) (args := #[tokV k v tx p]) hJ.loop rfl
  have hf:((recOf fn a.tmps assign body W2.heap.size .ready).params.zip #[tokV k v tx p]).foldl (fun tmps (t,a)=>tmps.setIfInBounds t a) (recOf fn a.tmps assign body W2.heap.size .ready).tmps=a.tmps.setIfInBounds 11 (tokV k v tx p):=by
   simp [recOf]
  rw [hf] at hy
  exact⟨fn,_,assign,body,hy,roundIn_of_wpIn trivial (hround _ ts k v p tx W rfl rfl hJ hlen)⟩
 intro e W hp
 unfold IPost at hp
 cases hs:LX.scan (bts s) with
 | ok ts cs =>
  rw [hs] at hp
  obtain⟨rfl,hJ,i,cv,hit⟩:=hp
  have h2:=hJ.put (recOf fn a.tmps assign body W2.heap.size .exhausted) (by have:=hB.size;omega)
  refine⟨none,W.putObj (W2.heap.size+1) (.loop (recOf fn a.tmps assign body W2.heap.size .exhausted)),run_endLoop hJ.loop (by simp [recOf]),?_⟩
  exact hdone _ _ i cv ts cs hs h2.1 (hit.kb h2.2)
 | bad p er =>
  rw [hs] at hp
  obtain⟨rfl,ts,hJ⟩:=hp
  exact hthrown _ W p er ts hs hJ
end Go.Proofs.YtnkahlloahgifaaGreatDoor.Lx

namespace Go.Proofs.YtnkahlloahgifaaGreatDoor.Lx
open Go.RowKit
attribute [local go_sem] Oper.semAt_some
def SPost (w:World) (s:ByteArray) (e:Ending) (w':World):Prop :=
 match LX.scan (bts s) with
 | .ok ts cs=>∃ b mb i cv tv,e = .returned (.tuple #[.pointer (some ⟨b,0,none⟩),tv,.agg #[.int .i64 0,.int .i64 0]])∧Sc w' b s i mb cv∧Cm w' b cv cs∧w'.ownsRow w.heap.size 154 4 tv ts.length (flatT ts) ∧
   Below w.heap.size w w'∧w.heap.size≤b∧∀ k,cv.ownBlock=some k→w.heap.size≤k
 | .bad p er=>∃ b,e = .returned (.tuple #[.pointer (some ⟨b,0,none⟩),.slice none 0 0,.agg #[.int .i64 p,.int .i64 er]])∧Below w.heap.size w w'
theorem Tryz.info154:(Tryz.prog.info? 154).map (fun i=>(i.zero,i.size,i.bytes))=some (some (.agg #[.int .i64 0,.int .i64 0,.string ⟨#[]⟩,.int .i64 0]),4,40):=by kernel_rfl
theorem scanned_any {w:World}(henv:Env w) (s:ByteArray) (hs:s.size≤400000):Calls Tryz.prog 130 #[.string s] w (SPost w s):=by
 have HS:=zh hs
 have HE:=zh henv
 clear hs henv
 refine(callsIn_wide (n:=3)).1 (callsIn_of_wp_marks Tryz.func130 rfl trivial ?_ rfl)
 refine wpIn_wide.2 ?_
 simp only [Tryz.ntmps130,List.size_toArray,List.length_cons,List.length_nil,Nat.reduceAdd,Nat.reduceSub,Array.replicate_succ,Array.replicate_zero,List.push_toArray,List.append_toArray,List.nil_append,List.cons_append]
 go_wp2_with fail
 obtain⟨lb,hlb⟩:∃ z,z=w.heap.size:=⟨_,rfl⟩
 obtain⟨W0,hW0⟩:∃ W,W=(w.alloc (.cells #[.slice none 0 0] 201)).alloc (.cells #[.int .i64 0,.int .i64 0] 203):=⟨_,rfl⟩
 rw [← hW0,← hlb]
 have B0:Hid (Below w.heap.size w W0):=by rw [hW0];exact((zs9 _ _).alloc (zr4 _) _).alloc (by simp) _
 have Z0:Hid (W0.heap.size=lb+2):=by rw [hW0,hlb];show _=_;simp
 have L0:Hid (W0.heap[lb]?=some (.cells #[.slice none 0 0] 201 (0,0))):=by
  rw [hW0,hlb]
  show _=_
  rw [zt2 _ _ _ (by simp)];exact zs2 w _
 have R0:Hid (W0.heap[lb+1]?=some (.cells #[.int .i64 0,.int .i64 0] 203 (0,0))):=by
  rw [hW0,hlb]
  have:=zs2 (w.alloc (.cells #[.slice none 0 0] 201)) (.cells #[.int .i64 0,.int .i64 0] 203)
  rw [World.size_alloc] at this
  exact this
 have HL:=zh hlb
 clear hlb hW0
 refine(newScanner_any W0 s HS.out).mono ?_
 rintro e W1 ⟨rfl,hsc,hwd,hb1,hz1⟩
 obtain⟨b,hb⟩:∃ b,b=W0.heap.size+1:=⟨_,rfl⟩
 obtain⟨mb,hmb⟩:∃ m,m=W0.heap.size:=⟨_,rfl⟩
 rw [← hb]
 have hlb:w.heap.size=lb:=HL.out.symm
 have hz0:W0.heap.size=lb+2:=Z0.out
 obtain⟨ib,hib⟩:∃ i,i=W1.heap.size:=⟨_,rfl⟩
 obtain⟨W2,hW2⟩:∃ W,W=W1.alloc (.cells #[.pointer (some ⟨b,0,none⟩)] 200):=⟨_,rfl⟩
 have b12:Below W1.heap.size W1 W2:=by rw [hW2];exact(zs9 _ _).alloc (zr4 _) _
 have bb:Below w.heap.size w W2:=B0.out.trans ((hb1.mono (by omega)).trans (b12.mono (by omega)))
 have I2:Hid (It w.heap.size W2 b mb ib s 0 (.slice none 0 0) []):=by
  refine⟨?_,⟨World.ownsRow_nil _ _ _ _,by simp [Value.ownBlock]⟩,by omega,by simp [Value.ownBlock],?_,HE.out.keep bb HE.out.size,by omega,?_,HE.out.size,bb.size⟩
  ·rw [hmb,hb]
   exact⟨(b12.block _ (by omega)).trans hsc.1,hsc.2⟩
  ·rw [hmb]
   exact hwd.keep fun o ho _=>(b12.block _ (by omega)).trans ho
  rw [hW2,hib];exact zs2 W1 _
 have V2:Hid (Boxed W2 lb 201 (.slice none 0 0)):=(b12.block _ (by omega)).trans ((hb1.block _ (by omega)).trans L0.out)
 have R2:Hid (W2.heap[lb+1]?=some (.cells #[.int .i64 0,.int .i64 0] 203 (0,0))):=(b12.block _ (by omega)).trans ((hb1.block _ (by omega)).trans R0.out)
 have BB:=zh bb
 have HW2:=zh hW2
 have HIB:=zh hib
 clear hsc hwd hb1 hz1 hb hmb hlb hz0 hW2 hib b12 bb
 go_wp2_with fail
 refine(tokens_any W1 b).mono ?_
 rintro e W2' ⟨rfl,rfl⟩
 rw [← HW2.out,← HIB.out]
 go_wp2_with fail
 refine loop_law (w:=w) (lb:=lb) (ib:=ib) (b:=b) (mb:=mb) (s:=s) rfl I2.out R2.out V2.out BB.out ?round ?done ?thrown
 case round =>
  intro rcd ts k v p tx W hr1 hr2 hJ hlen
  unfold tokV
  simp only [zq4,zq6,zq5]
  have J0:=zh hJ
  have HR:=zh (And.intro hr1 hr2)
  have HT:Hid (ts.length<400000):=zt5 hlen HS.out
  have JA:=zh (J0.out.alloc (.cells #[.int .i64 k,.int .i64 v,.string tx,.int .i64 p] 154))
  have LN:Hid (w.heap.size≤W2.heap.size+1):=Nat.le_succ_of_le BB.out.size
  clear hJ hr1 hr2 hlen
  gi_wp2
  obtain⟨z,hz⟩:∃ z,z=W.heap.size:=⟨_,rfl⟩
  obtain⟨Wa,hWa⟩:∃ V,V=W.alloc (.cells #[.int .i64 k,.int .i64 v,.string tx,.int .i64 p] 154):=⟨_,rfl⟩
  have JA2:=JA.out
  have az:Wa.heap[z]?=some (.cells #[.int .i64 k,.int .i64 v,.string tx,.int .i64 p] 154 (0,0)):=by rw [hWa,hz];exact zs2 W _
  rw [← hWa] at JA2
  rw [← hWa,← hz]
  refine⟨_,run_beginRound JA2.1.loop HR.out.1,?_⟩
  obtain⟨JB1,JB2⟩:=JA2.1.put { rcd with state := .busy } LN.out
  obtain⟨Wb,hWb⟩:∃ V,V=Wa.putObj (W2.heap.size+1) (.loop { rcd with state := .busy }):=⟨_,rfl⟩
  rw [← hWb] at JB1 JB2
  rw [← hWb]
  have bz:Wb.heap[z]?=some (.cells #[.int .i64 k,.int .i64 v,.string tx,.int .i64 p] 154 (0,0)):=by
   rw [hWb,World.putObj_heap_other (fun e=>by rw [e,JA2.1.loop] at az;simp at az)];exact az
  have KB:Hid (Kb w.heap.size W Wb):=JA2.2.trans JB2
  have JB:=zh JB1
  obtain⟨sv,hsv,hrow⟩:=JB1.row
  have c0:=hsv.cell
  have cf:=hsv.frozen
  have z0:Wb.cell? ⟨z,0,none⟩=some (.int .i64 k):=by rw [zb _ _ 0 _ _ _ bz];rfl
  have z1:Wb.cell? ⟨z,1,none⟩=some (.int .i64 v):=by rw [zb _ _ 1 _ _ _ bz];rfl
  have z2:Wb.cell? ⟨z,2,none⟩=some (.string tx):=by rw [zb _ _ 2 _ _ _ bz];rfl
  have z3:Wb.cell? ⟨z,3,none⟩=some (.int .i64 p):=by rw [zb _ _ 3 _ _ _ bz];rfl
  have SV:=zh (And.intro hsv hrow)
  have HO:Hid ((Wb.alloc (.cells #[.int .i64 k,.int .i64 v,.string tx,.int .i64 p] 154)).ownsRow w.heap.size 154 4 sv ts.length (flatT ts)) :=
   owns_keep hrow fun q hq=>zt2 _ _ _ (by obtain⟨_,c,hc⟩:=owns_blk hrow hq;exact(zq7.1 hc).1)
  have HN:Hid (∀ j u,[Value.int .i64 k,.int .i64 v,.string tx,.int .i64 p][j]?=some u→(Wb.alloc (.cells #[.int .i64 k,.int .i64 v,.string tx,.int .i64 p] 154)).cell? ((⟨Wb.heap.size,0,none⟩:Addr).add j)=some u):=fun j u hu=>by
   rw [Addr.add_lit,zb _ _ _ _ _ _ (zs2 Wb _)]
   match j,hu with
   | 0,hu=>simpa using hu
   | 1,hu=>simpa using hu
   | 2,hu=>simpa using hu
   | 3,hu=>simpa using hu
   | j+4,hu=>simp at hu
  have HBs:Hid (w.heap.size≤Wb.heap.size):=JB1.below.size
  obtain⟨i0,hi0,hz0,hz1,hz2⟩:=info_parts Tryz.info154
  have I0:=zh (And.intro hi0 (And.intro hz0 (And.intro hz1 hz2)))
  clear JA2 az hWa hWb hz JB1 JB2 bz hsv hrow hi0 hz0 hz1 hz2
  gi_wp2_with (gi_at_builtin;refine wpListIn_append_own _ rfl _ _ 201 rfl w.heap.size 154 i0 _ 4 40 Tryz.underlying201 I0.out.1 I0.out.2.1 I0.out.2.2.1 I0.out.2.2.2 rfl (by decide) sv ts.length (flatT ts) rfl HO.out ⟨Wb.heap.size,0,none⟩ 1 1 _ rfl rfl HN.out ?c1 ?c2 ?c3 ?c4 ?c5)
  case c1=>intro u hu;simp at hu;rcases hu with rfl | rfl | rfl | rfl<;>rfl
  case c2=>have:=HT.out;unfold maxLen;omega
  case c3=>have:=HT.out;omega
  case c4=>have:=HBs.out;simp;omega
  intro v' w1 hown hg hnil
  obtain⟨M1,M2,M3⟩:=JB.out.more (t:=⟨k,v,bts tx,p⟩) SV.out.1 SV.out.2 (by have:=HL.out;omega) (by rw [ofB_bts];exact hown) hg
  obtain⟨g,cap,rfl⟩:=ownsRow_succ hown
  have d0:=M1.cell
  have df:=M1.frozen
  have N2:=zh M2
  have N3:=zh M3
  clear hown hg hnil M1 M2 M3 c0 cf z0 z1 z2 z3
  gi_wp2
  have h:=N2.out.put rcd LN.out
  have hr:=run_endRound (P:=Tryz.prog) none N2.out.loop
  have hq:({ state := .ready,pending:=none,fn:=rcd.fn,tmps:=rcd.tmps,params:=rcd.params,assign:=rcd.assign,body:=rcd.body,defers:=rcd.defers }:Loop)=rcd:=by
   have h1:=HR.out.1
   have h2:=HR.out.2
   cases rcd
   simp only at h1 h2
   subst h1
   subst h2
   rfl
  simp only [Option.isNone_none,if_true,hq] at hr
  exact⟨_,_,hr,rfl,h.1,KB.out.trans (N3.out.trans h.2)⟩
 case done =>
  intro rcd W i cv ts cs hscan hJ hI
  have HSC:=zh hscan
  have HI:=zh hI
  have HJ:=zh hJ
  obtain⟨sv,hsv,hrow⟩:=hJ.row
  obtain⟨sa,sc,hslice⟩:∃ a c,sv = .slice a ts.length c:=by
   rcases hrow.2 with ⟨rfl,h0⟩|⟨g,cap,cur,rfl,_⟩
   ·rw [h0];exact⟨_,_,rfl⟩
   exact⟨_,_,rfl⟩
  obtain⟨tn,htn⟩:∃ n,n=ts.length:=⟨_,rfl⟩
  rw [← htn] at hslice
  subst hslice
  have c0:=hsv.cell
  have cf:=hsv.frozen
  have d0:W.cell? ⟨lb+1,0,none⟩=some (.int .i64 0):=by rw [zb _ _ 0 _ _ _ hJ.wrong];rfl
  have d1:W.cell? ⟨lb+1,1,none⟩=some (.int .i64 0):=by rw [zb _ _ 1 _ _ _ hJ.wrong];rfl
  have df:∀ q,W.frozen? ⟨lb+1,q,none⟩=false:=fun q=>zs1 W (lb+1) q _ _ hJ.wrong
  have SV:=zh (And.intro hsv hrow)
  have TN:=zh htn
  clear hscan hI hJ hsv hrow htn
  go_wp2_with fail
  go_region
  go_wp2_with fail
  obtain⟨V,hV⟩:∃ V,V=(((W.setCell ⟨lb,0,none⟩ (.slice sa tn sc)).setCell ⟨lb+1,0,none⟩ (.int .i64 0)).setCell ⟨lb+1,1,none⟩ (.int .i64 0)).drew:=⟨_,rfl⟩
  rw [← hV]
  have same:∀ k:Nat,V.heap[k]?=W.heap[k]?:=fun k=>by
   rw [hV]
   show (((W.setCell ⟨lb,0,none⟩ (.slice sa tn sc)).setCell ⟨lb+1,0,none⟩ (.int .i64 0)).setCell ⟨lb+1,1,none⟩ (.int .i64 0)).heap[k]?=_
   by_cases h1:k=lb+1
   ·subst h1
    have e1:(W.setCell ⟨lb,0,none⟩ (.slice sa tn sc)).heap[lb+1]?=some (.cells #[.int .i64 0,.int .i64 0] 203 (0,0)):=(zt1 _ _ _ (lb+1) (by show lb+1≠lb;omega)).trans HJ.out.wrong
    rw [HJ.out.wrong]
    exact heap_setCell_same _ (lb+1) 1 _ _ _ (heap_setCell_same _ (lb+1) 0 _ _ (.int .i64 0) e1)
   rw [zt1 _ _ _ k h1,zt1 _ _ _ k h1]
   by_cases h2:k=lb
   ·subst h2
    rw [show W.heap[k]?=_ from SV.out.1]
    exact heap_setCell_same _ k 0 _ _ _ SV.out.1
   exact zt1 _ _ _ k h2
  have kv:Kb w.heap.size W V:=⟨by rw [hV];rfl,by rw [hV];rfl,by rw [hV];rfl,by rw [hV];simp,fun k o hk _=>(same k).trans hk⟩
  have hD:V.heap[W2.heap.size]?=some (.deferred (some [])):=(same _).trans HJ.out.blk
  obtain⟨U,hU⟩:∃ U,U=V.putObj W2.heap.size (.deferred none):=⟨_,rfl⟩
  have hother:∀ (k:Nat) (o:Obj),W.heap[k]?=some o→(∀ ds:Option (List Deferred),o≠Obj.deferred ds)→U.heap[k]?=some o:=fun k o hk hne=>by
   rw [hU]
   refine(World.putObj_heap_other fun e=>?_).trans ((same k).trans hk)
   subst e
   rw [HJ.out.blk] at hk
   simp only [zt3] at hk
   exact hne _ hk.symm
  have ku:Kb w.heap.size W U:=by
   refine kv.trans ⟨by rw [hU];rfl,by rw [hU];rfl,by rw [hU];rfl,by rw [hU];simp,fun k o hk hk2=>?_⟩
   rw [hU]
   refine(World.putObj_heap_other fun e=>?_).trans hk
   subst e
   rcases hk2 with hk2 | hk2
   ·have:=BB.out.size;omega
   rw [hD] at hk
   simp only [zt3] at hk
   subst hk
   rcases hk2 with ⟨c,e⟩|⟨c,e⟩|⟨es,cl,e⟩|⟨c,e⟩<;>cases e
  have u0:U.cell? ⟨lb,0,none⟩=some (.slice sa tn sc):=by rw [zb _ _ 0 _ _ _ (hother _ _ SV.out.1 nofun)];rfl
  have u1:U.cell? ⟨lb+1,0,none⟩=some (.int .i64 0):=by rw [zb _ _ 0 _ _ _ (hother _ _ HJ.out.wrong nofun)];rfl
  have u2:U.cell? ⟨lb+1,1,none⟩=some (.int .i64 0):=by rw [zb _ _ 1 _ _ _ (hother _ _ HJ.out.wrong nofun)];rfl
  have IU:=HI.out.kb ku
  refine⟨by simp,.inl ⟨_,_,rfl,run_takeDeferred hD,?_⟩⟩
  rw [← hU]
  refine⟨by simp,.inr ⟨fun _=>by decide,.func 138,#[.pointer (some ⟨lb,0,none⟩),.pointer (some ⟨lb+1,0,none⟩)],138,#[.pointer (some ⟨lb,0,none⟩),.pointer (some ⟨lb+1,0,none⟩)],rfl,?_,fun _ _=>trivial,?_⟩⟩
  ·have eg:=enters_of Tryz.func138 (by kernel_rfl) rfl
   simp [invoke,go_sem,eg]
  refine(caught_idle _ lb (lb+1) U).mono ?_
  rintro e u' w' ⟨rfl,rfl,rfl⟩
  refine⟨.tuple #[.pointer (some ⟨b,0,none⟩),.slice sa tn sc,.agg #[.int .i64 0,.int .i64 0]],?_,?_⟩
  ·simp [results,Tryz.results130,go_sem,u0,u1,u2]
  unfold SPost
  rw [HSC.out]
  refine⟨b,mb,i,cv,.slice sa tn sc,rfl,IU.sc,IU.cm,owns_keep SV.out.2 fun k hk=>?_,HJ.out.below.trans (ku.below HJ.out.below.size),IU.hb,IU.hcv⟩
  obtain⟨_,c,hc⟩:=owns_blk SV.out.2 hk
  rw [hc]
  exact hother _ _ hc nofun
 intro rcd W p er ts hscan hJ
 have HSC:=zh hscan
 have HJ:=zh hJ
 clear hscan hJ
 (try simp only [Exit.inBlock,Exit.then])
 obtain⟨U,hU⟩:∃ U,U=W.putObj W2.heap.size (.deferred none):=⟨_,rfl⟩
 have hother:∀ (k:Nat) (o:Obj),W.heap[k]?=some o→(∀ ds:Option (List Deferred),o≠Obj.deferred ds)→U.heap[k]?=some o:=fun k o hk hne=>by
  rw [hU]
  refine(World.putObj_heap_other fun e=>?_).trans hk
  subst e
  rw [HJ.out.blk] at hk
  simp only [zt3] at hk
  exact hne _ hk.symm
 have bu:Below w.heap.size w U:=HJ.out.below.trans ⟨by rw [hU];rfl,by rw [hU];rfl,by rw [hU];rfl,by rw [hU];simp,fun k hk=>by rw [hU];exact World.putObj_heap_other (by have:=BB.out.size;omega)⟩
 obtain⟨sv,hsv,hrow⟩:=HJ.out.row
 refine⟨by simp,.inl ⟨_,_,rfl,run_takeDeferred HJ.out.blk,?_⟩⟩
 rw [← hU]
 refine⟨by simp,.inr ⟨fun _=>by decide,.func 138,#[.pointer (some ⟨lb,0,none⟩),.pointer (some ⟨lb+1,0,none⟩)],138,#[.pointer (some ⟨lb,0,none⟩),.pointer (some ⟨lb+1,0,none⟩)],rfl,?_,fun _ _=>trivial,?_⟩⟩
 ·have eg:=enters_of Tryz.func138 (by kernel_rfl) rfl
  simp [invoke,go_sem,eg]
 refine(caught_thrown _ lb (lb+1) U p er sv _ _ (hother _ _ hsv nofun) (hother _ _ HJ.out.wrong nofun) (by omega)).mono ?_
 rintro e u' X ⟨rfl,rfl,h2⟩
 have u0:X.cell? ⟨lb,0,none⟩=some (.slice none 0 0):=by rw [zb _ _ 0 _ _ _ h2.hx];rfl
 have u1:X.cell? ⟨lb+1,0,none⟩=some (.int .i64 p):=by rw [zb _ _ 0 _ _ _ h2.hy];rfl
 have u2:X.cell? ⟨lb+1,1,none⟩=some (.int .i64 er):=by rw [zb _ _ 1 _ _ _ h2.hy];rfl
 refine⟨.tuple #[.pointer (some ⟨b,0,none⟩),.slice none 0 0,.agg #[.int .i64 p,.int .i64 er]],?_,?_⟩
 ·simp [results,Tryz.results130,go_sem,u0,u1,u2]
 unfold SPost
 rw [HSC.out]
 refine⟨b,rfl,bu.trans ⟨h2.os,h2.tape,h2.output,h2.size,fun k hk=>h2.block k (zt5 hk bu.size) ?_ ?_⟩⟩
 ·have:=HL.out;omega
 have:=HL.out;omega
end Go.Proofs.YtnkahlloahgifaaGreatDoor.Lx

namespace Go.Proofs.YtnkahlloahgifaaGreatDoor.Lx
namespace LX
def Res.toks:Res→List Tok
 | .ok l _=>l
 | .bad _ _=>[]
def up (most:Nat) (l:List Nat):Res:=if most<l.length then .bad 0 2 else scan l
end LX
open Go.RowKit
theorem owns_slice {w:World}{base e size n:Nat}{v:Value}{xs:List Value}(h:w.ownsRow base e size v n xs):∃ a c,v = .slice a n c:=by
 rcases h.2 with ⟨rfl,h0⟩|⟨g,cap,cur,rfl,_⟩
 ·rw [h0];exact⟨_,_,rfl⟩
 exact⟨_,_,rfl⟩
end Go.Proofs.YtnkahlloahgifaaGreatDoor.Lx

namespace Go.Proofs.YtnkahlloahgifaaGreatDoor.Lx
namespace LX
def kindOf (l:List Nat):Nat:=if 24<l.length then 0 else match scan l with
 | .ok [t] _=>if t.text=l then t.kind else 0
 | _=>0
def Bt (ts:List Tok):Prop:=∀ t∈ts,∀ c∈t.text,c<256
theorem sc_bytes (T:List Nat) (hT:∀ c∈T,c<256):∀ (n j:Nat),T.length - j=n→∀ ts cs,sc T j = .ok ts cs→Bt ts:=by
 intro n
 induction n using Nat.strongRecOn with
 | ind n ih =>
  intro j hn ts cs h
  rcases Nat.lt_or_ge j T.length with hj | hj
  ·rw [sc_step hj] at h
   split at h
   ·exact ih _ (by omega) (j+1) rfl ts cs h
   split at h
   ·cases hc:cmt (T.drop j) 0 0 with
    | fin m =>
     rw [hc] at h
     simp only [] at h
     have h0:=cmt_fin hc
     cases hs:sc T (j+m) with
     | ok t2 c2 =>
      rw [hs] at h
      simp only [Res.app,Res.ok.injEq,List.nil_append] at h
      rw [← h.1]
      exact ih _ (by omega) (j+m) rfl t2 c2 hs
     | bad p e=>rw [hs] at h;cases h
    | deep m=>rw [hc] at h;cases h
    | never=>rw [hc] at h;cases h
   cases hc:token (T.drop j) with
   | tok k v m =>
    rw [hc] at h
    simp only [] at h
    have h0:=token_len hc
    cases hs:sc T (j+m) with
    | ok t2 c2 =>
     rw [hs] at h
     simp only [Res.app,Res.ok.injEq,List.cons_append,List.nil_append] at h
     rw [← h.1]
     intro t ht
     rcases List.mem_cons.1 ht with rfl | ht
     ·intro c hc
      exact hT c (List.mem_of_mem_drop (List.mem_of_mem_take hc))
     exact ih _ (by omega) (j+m) rfl t2 c2 hs t ht
    | bad p e=>rw [hs] at h;cases h
   | bad e=>rw [hc] at h;cases h
  rw [sc_end hj] at h
  cases h
  intro t ht
  cases ht
theorem token_bad {l:List Nat}{e:Nat}(h:token l = .bad e):e=2∨e=11∨e=13:=by
 have hm:∀ k n,made k n = .bad e→e=2:=fun k n h=>by
  unfold made at h
  split at h
  ·cases h;rfl
  cases h
 have hn:∀ k,named k l = .bad e→e=2:=fun k h=>by
  unfold named at h
  cases hq:made k (nameLen l) with
  | bad e2=>rw [hq] at h;cases h;exact hm _ _ hq
  | tok a b c=>rw [hq] at h;cases h
 cases l with
 | nil=>cases h;exact .inr (.inl rfl)
 | cons c t =>
  unfold token at h
  simp only [] at h
  split at h
  ·unfold number at h
   simp only [] at h
   split at h
   ·cases h;exact .inr (.inr rfl)
   split at h
   ·cases h
   split at h
   ·cases h;exact .inr (.inr rfl)
   cases h
  split at h
  ·exact .inl (hn _ h)
  split at h
  ·exact .inl (hn _ h)
  split at h
  ·exact .inl (hm _ _ h)
  split at h
  ·cases h
  split at h
  ·cases h
  cases h;exact .inr (.inl rfl)
theorem cmt_deep_lt:∀ (l:List Nat) (d n m:Nat),cmt l d n = .deep m→n≤m∧m<n+l.length
 | [],_,_,_,h=>by cases h
 | [_],_,_,_,h=>by cases h
 | a :: b :: t,d,n,m,h=>by
  rw [cmt] at h
  simp only [List.length_cons]
  split at h
  ·split at h
   ·cases h;omega
   have:=cmt_deep_lt t _ _ _ h;omega
  split at h
  ·split at h
   ·cases h
   have:=cmt_deep_lt t _ _ _ h;omega
  have:=cmt_deep_lt (b :: t) _ _ _ h
  simp only [List.length_cons] at this
  omega
theorem sc_bad (T:List Nat):∀ (n j:Nat),T.length - j=n→∀ p e,sc T j = .bad p e→(e=2∨e=6∨e=11∨e=12∨e=13)∧j≤p∧p<T.length:=by
 intro n
 induction n using Nat.strongRecOn with
 | ind n ih =>
  intro j hn p e h
  rcases Nat.lt_or_ge j T.length with hj | hj
  ·rw [sc_step hj] at h
   split at h
   ·have:=ih _ (by omega) (j+1) rfl p e h
    exact⟨this.1,by omega,this.2.2⟩
   split at h
   ·cases hc:cmt (T.drop j) 0 0 with
    | fin m =>
     rw [hc] at h
     simp only [] at h
     have h0:=cmt_fin hc
     cases hs:sc T (j+m) with
     | ok t2 c2=>rw [hs] at h;cases h
     | bad p2 e2 =>
      rw [hs] at h
      simp only [Res.app,Res.bad.injEq] at h
      obtain⟨rfl,rfl⟩:=h
      have:=ih _ (by omega) (j+m) rfl p2 e2 hs
      exact⟨this.1,by omega,this.2.2⟩
    | deep m =>
     rw [hc] at h
     simp only [Res.bad.injEq] at h
     obtain⟨rfl,rfl⟩:=h
     have:=cmt_deep_lt _ _ _ _ hc
     rw [List.length_drop] at this
     exact⟨.inr (.inl rfl),by omega,by omega⟩
    | never =>
     rw [hc] at h
     simp only [Res.bad.injEq] at h
     obtain⟨rfl,rfl⟩:=h
     exact⟨.inr (.inr (.inr (.inl rfl))),by omega,by omega⟩
   cases hc:token (T.drop j) with
   | tok k v m =>
    rw [hc] at h
    simp only [] at h
    have h0:=token_len hc
    cases hs:sc T (j+m) with
    | ok t2 c2=>rw [hs] at h;cases h
    | bad p2 e2 =>
     rw [hs] at h
     simp only [Res.app,Res.bad.injEq] at h
     obtain⟨rfl,rfl⟩:=h
     have:=ih _ (by omega) (j+m) rfl p2 e2 hs
     exact⟨this.1,by omega,this.2.2⟩
   | bad e2 =>
    rw [hc] at h
    simp only [Res.bad.injEq] at h
    obtain⟨rfl,rfl⟩:=h
    refine⟨?_,by omega,by omega⟩
    rcases token_bad hc with h | h | h
    ·exact .inl h
    ·exact .inr (.inr (.inl h))
    exact .inr (.inr (.inr (.inr h)))
  rw [sc_end hj] at h
  cases h
theorem scan_bad {T:List Nat}{p e:Nat}(h:scan T = .bad p e):(e=2∨e=6∨e=11∨e=12∨e=13)∧p<T.length :=
 ⟨(sc_bad T _ 0 rfl p e h).1,(sc_bad T _ 0 rfl p e h).2.2⟩
end LX
open Go.RowKit
theorem bts_small (s:ByteArray):∀ c∈bts s,c<256:=by
 intro c hc
 unfold bts at hc
 obtain⟨u,_,rfl⟩:=List.mem_map.1 hc
 exact u.toNat_lt
theorem bts_ofB {l:List Nat}(h:∀ c∈l,c<256):bts (ofB l)=l:=by
 unfold bts ofB
 simp only [List.map_map]
 conv=>rhs;rw [← List.map_id l]
 refine List.map_congr_left fun c hc=>?_
 simp only [Function.comp,id]
 rw [UInt8.toNat_ofNat']
 exact Nat.mod_eq_of_lt (h c hc)
theorem scan_bytes (s:ByteArray):LX.Bt (LX.scan (bts s)).toks:=by
 cases h:LX.scan (bts s) with
 | ok ts cs=>exact LX.sc_bytes (bts s) (bts_small s) _ 0 rfl ts cs h
 | bad p e=>intro t ht;cases ht
theorem owns_cells {w:World}{base e size n:Nat}{a:Option Addr}{c:Nat}{xs:List Value}(h:w.ownsRow base e size (.slice a n c) n xs) (hn:0<n) :
  ∃ g,a=some ⟨g,0,none⟩∧base≤g∧g<w.heap.size∧n≤c∧∀ j u,xs[j]?=some u→w.cell? ⟨g,j,none⟩=some u:=by
 rcases h.2 with ⟨hv,h0⟩|⟨g,cap,cur,hv,hb,hg,hnc,_,hcs,htake⟩
 ·omega
 simp only [Value.slice.injEq] at hv
 obtain⟨rfl,_,rfl⟩:=hv
 refine⟨g,rfl,hb,(Array.getElem?_eq_some_iff.1 hg).1,hnc,fun j u hu=>?_⟩
 have hj:j<n*size:=by rw [← h.1];exact(List.getElem?_eq_some_iff.1 hu).1
 rw [cell_of_row w g j cur e (0,0) hg,← Array.getElem?_toList]
 rw [← htake,List.getElem?_take,if_pos hj] at hu
 exact hu
def KPost (w:World) (s:ByteArray) (e:Ending) (w':World):Prop:=e = .returned (.int .i64 (LX.kindOf (bts s)))∧Below w.heap.size w w'
theorem kind_any {w:World}(henv:Env w) (s:ByteArray) (hmax:s.size≤9223372036854775807):Calls Tryz.prog 117 #[.string s] w (KPost w s):=by
 obtain⟨r,hr⟩:∃ r,r=LX.kindOf (bts s):=⟨_,rfl⟩
 unfold KPost
 rw [← hr]
 unfold LX.kindOf at hr
 rw [ze] at hr
 by_cases hs:24<s.size
 ·rw [if_pos hs] at hr
  subst hr
  have hz:(24:Int)<(s.size:Int):=by omega
  clear hs
  go_enter Tryz.func117,Tryz.ntmps117
  go_wp2_with fail
  go_ret
  exact⟨rfl,Below.refl _ _⟩
 rw [if_neg hs] at hr
 have hz:(s.size:Int)≤24:=by omega
 have SC:=Lib.hid (scanned_any henv s (by omega))
 have BY:=Lib.hid (scan_bytes s)
 have HR:=Lib.hid hr
 clear hs hr
 go_enter Tryz.func117,Tryz.ntmps117
 go_wp2_with fail
 refine SC.out.mono ?_
 intro e w1 hp
 unfold SPost at hp
 cases hq:LX.scan (bts s) with
 | bad p er =>
  rw [hq] at hp
  have h0:r=0:=by rw [HR.out,hq]
  subst h0
  obtain⟨b,rfl,hb⟩:=hp
  have HB:=Lib.hid hb
  clear hb
  have he:=(LX.scan_bad hq).1
  have e1:((er:Int) != 0)=true:=by simp;omega
  have e2:((er:Int)==0)=false:=by simp;omega
  clear he hq HR
  go_wp2_with fail
  go_ret
  exact⟨rfl,HB.out.trans ((Below.refl _ _).alloc HB.out.size _)⟩
 | ok ts cs =>
  rw [hq] at hp
  obtain⟨b,mb,i,cv,tv,rfl,_,_,hrow,hb,_,_⟩:=hp
  obtain⟨a,c,rfl⟩:=owns_slice hrow
  have HB:=Lib.hid hb
  clear hb
  match ts,hq,hrow with
  | [],hq,hrow =>
   have h0:r=0:=by rw [HR.out,hq]
   subst h0
   clear hq HR hrow
   go_wp2_with fail
   go_ret
   exact⟨rfl,HB.out.trans ((Below.refl _ _).alloc HB.out.size _)⟩
  | [t],hq,hrow =>
   have h0:r=if t.text=bts s then t.kind else 0:=by rw [HR.out,hq]
   have ht:bts (ofB t.text)=t.text:=by
    have h1:=BY.out
    rw [hq] at h1
    exact bts_ofB (h1 t (List.mem_singleton_self _))
   obtain⟨g,rfl,hbg,hlt,hcap,hcells⟩:=owns_cells hrow (Nat.succ_pos 0)
   obtain⟨V,hV⟩:∃ V,V=w1.alloc (.cells #[.int .i64 0,.int .i64 0] 203):=⟨_,rfl⟩
   have kb:∀ q,V.cell? ⟨g,q,none⟩=w1.cell? ⟨g,q,none⟩:=fun q=>by
    have:V.heap[g]?=w1.heap[g]?:=by rw [hV];exact Below.heap_alloc _ _ _ hlt
    rw [World.cell?_of_block this]
   have z0:V.cell? ⟨g,0,none⟩=some (.int .i64 t.kind):=(kb 0).trans (hcells 0 _ rfl)
   have z2:V.cell? ⟨g,2,none⟩=some (.string (ofB t.text)):=(kb 2).trans (hcells 2 _ rfl)
   have hc1:(1:Nat)≤c:=hcap
   have v0:V.cell? ⟨w1.heap.size,0,none⟩=some (.int .i64 0):=by rw [hV];simp
   have v1:V.cell? ⟨w1.heap.size,1,none⟩=some (.int .i64 0):=by rw [hV];simp
   have HV:=Lib.hid hV
   have BV:Hid (Below w.heap.size w V):=by rw [hV];exact HB.out.trans ((Below.refl _ _).alloc HB.out.size _)
   have HT:=Lib.hid ht
   have HC:=Lib.hid hcap
   have H0:=Lib.hid h0
   obtain⟨tx,htx⟩:∃ x,x=ofB t.text:=⟨_,rfl⟩
   rw [← htx] at z2
   have TX:=Lib.hid htx
   clear hq HR hrow hbg hcells kb hV ht h0 hcap htx
   go_upto_region 4 with (fail)
   rw [← HV.out]
   by_cases hsame:tx=s
   ·have hb:(tx.toList==s.toList)=true:=(Lib.bytes_beq_iff _ _).2 hsame
    have hr:r=t.kind:=by rw [H0.out,if_pos (by rw [← HT.out,← TX.out,hsame])]
    have HRR:=Lib.hid hr
    clear hsame hr
    go_wp2_with fail
    go_ret
    exact⟨by rw [HRR.out];rfl,BV.out⟩
   have hb:(tx.toList==s.toList)=false:=(Lib.bytes_beq_false_iff _ _).2 hsame
   have hr:r=0:=by rw [H0.out,if_neg (fun e=>hsame (by rw [TX.out];exact bts_inj (by rw [HT.out,e])))]
   have HRR:=Lib.hid hr
   clear hsame hr
   go_wp2_with fail
   go_ret
   exact⟨by rw [HRR.out];rfl,BV.out⟩
  | t :: u :: ts,hq,hrow =>
   have h0:r=0:=by rw [HR.out,hq]
   subst h0
   obtain⟨tn,htn⟩:∃ n,n=(t :: u :: ts).length:=⟨_,rfl⟩
   have h1:((tn:Int) != 1)=true:=by rw [htn];simp;omega
   have h2:((tn:Int)==1)=false:=by rw [htn];simp;omega
   rw [← htn]
   clear hq HR hrow htn
   go_wp2_with fail
   go_ret
   exact⟨rfl,HB.out.trans ((Below.refl _ _).alloc HB.out.size _)⟩
end Go.Proofs.YtnkahlloahgifaaGreatDoor.Lx

namespace Go.Proofs.YtnkahlloahgifaaGreatDoor.Lx
open Go.RowKit
structure Wg (w:World) where
 v:World
 ch:Below w.heap.size w v
def Wg.first (w:World):Wg w:=⟨w.drew,(zs9 _ _).drew⟩
theorem Wg.cell {w:World}(x:Wg w) {b o:Nat}{v:Value}(hb:b<w.heap.size) (h:w.cell? ⟨b,o,none⟩=some v):x.v.cell? ⟨b,o,none⟩=some v:=(x.ch.cell (p:=⟨b,o,none⟩) hb).trans h
theorem Wg.call {P:Program}{w:World}{f:FuncId}{args:Array Value}{v:Value}(h:∀ x:Wg w,Calls P f args x.v fun e w'=>e = .returned v∧Below x.v.heap.size x.v w') (x:Wg w) :
  Calls P f args x.v fun e w'=>e = .returned v∧∃ y:Wg w,w'=y.v:=by
 refine(h x).mono ?_
 rintro e w' ⟨rfl,hb⟩
 exact⟨rfl,⟨w',x.ch.trans (hb.mono x.ch.size)⟩,rfl⟩
theorem wp_region_below {P:Program}{id:Nat}{Q:Exit→Act→World→Prop}{a:Act}{w:World}{l:List Oper}(hm:P.follows .mixedOrders=true) (hB:Region.lexB .any l.toArray=true)
  (h:wpQuiet P l.toArray (fun w'=>∃ x:Wg w,w'=x.v) (fun a'=>∀ x:Wg w,Q .normal a' x.v) l a):(Code.region id l.toArray true).wp P Q a w:=by
 refine wp_region_quiet (C:=fun w'=>∃ x:Wg w,w'=x.v) hm hB ⟨Wg.first w,rfl⟩ ?_
 simp only [List.toList_toArray]
 have e:(fun a'=>∀ x:Wg w,Q .normal a' x.v)=fun a'=>∀ w',(∃ x:Wg w,w'=x.v)→Q .normal a' w':=by
  funext a'
  exact propext ⟨fun h w' ⟨x,e⟩=>e ▸ h x,fun h x=>h _ ⟨x,rfl⟩⟩
 rw [← e]
 exact h
end Go.Proofs.YtnkahlloahgifaaGreatDoor.Lx

namespace Go.Proofs.YtnkahlloahgifaaGreatDoor.Lx
namespace LX
end LX
open Go.RowKit
theorem isName_any {w:World}(henv:Env w) (s:ByteArray) (hmax:s.size≤9223372036854775807) :
  Calls Tryz.prog 108 #[.string s] w fun e w'=>e = .returned (.bool (LX.kindOf (bts s)==2))∧Below w.heap.size w w':=by
 have K:=Lib.hid (kind_any henv s hmax)
 obtain⟨r,hr⟩:∃ r,r=LX.kindOf (bts s):=⟨_,rfl⟩
 unfold KPost at K
 rw [← hr] at K ⊢
 have e1:((r:Int)==2)=(r==2):=by rw [Bool.eq_iff_iff,beq_iff_eq,beq_iff_eq];omega
 have HE:=Lib.hid e1
 clear hr henv e1
 go_enter Tryz.func108,Tryz.ntmps108
 go_wp2_with fail
 refine K.out.mono ?_
 rintro e w1 ⟨rfl,hb⟩
 have HB:=Lib.hid hb
 clear hb
 go_wp2_with fail
 go_ret
 exact⟨by rw [← HE.out];rfl,HB.out⟩
end Go.Proofs.YtnkahlloahgifaaGreatDoor.Lx

namespace Go.Proofs.YtnkahlloahgifaaGreatDoor
open Go.RowKit RG
def isNm (s:Nm):Bool:=Lx.LX.kindOf (Lx.bts s)==2
theorem nlaw:NLaw Lx.Env isNm where
 call:=fun W s he hs=>Lx.isName_any he s (by unfold maxLen at hs;omega)
 keep:=fun B W W' hB h hb=>Lx.Env.keep h hb hB
 size:=fun W h=>h.size
theorem sort_law:Go.Proofs.YtnkahlloahgifaaGreatDoor.SortLaw:=by
 intro blk cap zs w h1 h2 h3
 exact Tryz.slices_Sort_int blk 0 cap zs w h1 h2 h3
end Go.Proofs.YtnkahlloahgifaaGreatDoor

namespace Go.Proofs.YtnkahlloahgifaaGreatDoor
open Go.RowKit RG Go.Maps
theorem containsS_has (l:List Nm) (x:Nm):Lib.containsS l x=RG.has l x:=by
 rw [Bool.eq_iff_iff,zx,Lib.containsS_iff]
theorem contains_any {w:World}{v:Value}{ns:List Nm}(x:Nm) (h:StrsAt w v ns) (hl:ns.length≤1000000000):Calls Tryz.prog 59 #[v,.string x] w fun e w'=>e = .returned (.bool (RG.has ns x))∧w'=w:=by
 obtain⟨-,ad,c,rfl,hat⟩:=h
 by_cases h0:0<ns.length
 ·obtain⟨g,o,rfl,hat2⟩:=hat h0
  have:=Tryz.slices_Contains_string g o ns.length c ns x w (zr4 _) (by omega) (fun j hj=>by
   have h1:w.cell? ⟨g,o+j,none⟩=some (.string ns[j]):=hat2 j _ (strs_at (zq9 hj))
   rw [zt4,zq9 hj];exact h1)
  rw [List.take_length,containsS_has] at this
  exact this
 have e:ns=[]:=List.eq_nil_of_length_eq_zero (by omega)
 subst e
 exact Tryz.slices_Contains_string_empty ad c x w
def CfP (isName:Nm→Bool) (w:World) (ps:List Nm) (e:TE) (a b:Nm) (en:Ending) (w':World):Prop :=
 Below w.heap.size w w'∧((RG.Good isName ps e∧a∈vars (F0 ps e)∧b∈vars (F0 ps e)∧en = .returned (.tuple #[.bool (conflict (F0 ps e) a b),.int .i64 0])) ∨
  (RG.Good isName ps e∧(a∉vars (F0 ps e)∨b∉vars (F0 ps e))∧en = .returned (.tuple #[.bool false,.int .i64 3]))∨(¬ RG.Good isName ps e∧en = .returned (.tuple #[.bool false,.int .i64 160])))
theorem conflict_any {Env:World→Prop}{isName:Nm→Bool}{w:World}{v:Value}{ps:List Nm}{e:TE}(h:FnOk Env isName w v ps e) (a b:Nm) (ha:a.size≤maxLen) (hb:b.size≤maxLen):Calls Tryz.prog 21 #[v,.string a,.string b] w (CfP isName w ps e a b):=by
 have RD:=zh h.boxed
 have HAS:=zh ha
 have HBS:=zh hb
 obtain⟨cs,rfl⟩:=h.cells
 have B0:Hid (Below w.heap.size w (w.alloc (.cells cs 29))):=(zs9 _ _).alloc (zr4 _) _
 clear h ha hb
 go_enter Tryz.func21,Tryz.ntmps21
 go_wp2_with fail
 refine RD.out.mono ?_
 rintro en w1 ⟨hb,⟨hg,A,f,rfl,hfl⟩|⟨hng,rfl⟩⟩
 ·have HB:Hid (Below w.heap.size w w1):=B0.out.trans (hb.mono B0.out.size)
  have HG:=zh hg
  have HF:=zh hfl
  obtain⟨c,g,o,c1,hat⟩:=hfl.links
  have HAT:=zh hat
  have c4:w1.cell? ⟨f,4,none⟩=some (.map (some A.pl)):=(hfl.link hfl.fo.pos).f4
  have PM:=zh hfl.at'.pmap
  obtain⟨n,hn⟩:∃ n,n=(F0 ps e).length:=⟨_,rfl⟩
  rw [← hn] at c1
  have HN:=zh hn
  have hnz:(n:Int)≤20000:=by have:=hfl.len;omega
  clear hb hg hfl hat hn
  by_cases hA:a∈vars (F0 ps e)
  ·by_cases hB:b∈vars (F0 ps e)
   ·have ta:=zx.2 hA
    have tb:=zx.2 hB
    have HA:=zh hA
    have HB':=zh hB
    clear hA hB
    by_cases hab:a=b
    ·have dp:((place (F0 ps e) a:Int)==(place (F0 ps e) b:Int))=true:=by rw [hab];simp
     have E:Hid (conflict (F0 ps e) a b=false):=by show _=_;unfold conflict;rw [if_pos hab]
     clear hab
     go_wp2_with (at_lookup;first | (refine wpList_pis rfl _ (.tmp 26) rfl A.pl (vars (F0 ps e)) rfl PM.out a HAS.out rfl ?_;intro p hp;obtain rfl:=hp _ (place_at HA.out);rw [ta]) | (refine wpList_pis rfl _ (.tmp 35) rfl A.pl (vars (F0 ps e)) rfl PM.out b HBS.out rfl ?_;intro q hq;obtain rfl:=hq _ (place_at HB'.out);rw [tb]))
     go_ret2
     exact⟨HB.out,.inl ⟨HG.out,HA.out,HB'.out,by rw [E.out];rfl⟩⟩
    have dp:((place (F0 ps e) a:Int)==(place (F0 ps e) b:Int))=false:=by
     rw [beq_eq_false_iff_ne]
     intro h
     exact hab (place_inj HA.out HB'.out (by exact_mod_cast h))
    have E:Hid (conflict (F0 ps e) a b=(List.range (F0 ps e).length).any (clash (F0 ps e) a b)):=by show _=_;unfold conflict;rw [if_neg hab]
    clear hab
    go_wp2_with (at_lookup;first | (refine wpList_pis rfl _ (.tmp 26) rfl A.pl (vars (F0 ps e)) rfl PM.out a HAS.out rfl ?_;intro p hp;obtain rfl:=hp _ (place_at HA.out);rw [ta]) | (refine wpList_pis rfl _ (.tmp 35) rfl A.pl (vars (F0 ps e)) rfl PM.out b HBS.out rfl ?_;intro q hq;obtain rfl:=hq _ (place_at HB'.out);rw [tb]))
    go_loopw [53] (fun iv wr=>∃ k:Nat,k≤n∧iv = .int .i64 k∧Below w1.heap.size w1 wr∧∀ i,i<k→clash (F0 ps e) a b i=false) (fun iv _=>n - (intOf iv).toNat)
    case atStart=>exact⟨0,Nat.zero_le _,rfl,zs9 _ _,fun i hi=>absurd hi (Nat.not_lt_zero i)⟩
    obtain⟨k,hk,rfl,hb,hno⟩:=hrel
    have HK:=zh hk
    have HBW:=zh hb
    have HNO:=zh hno
    clear hk hb hno c1 c4
    by_cases hlt:k<n
    ·have hlz:(k:Int)<n:=by omega
     have HLT:=zh hlt
     have hci:=zd HBW.out _ _ (HAT.out k (by rw [← HN.out];exact hlt))
     have LK:=zh ((HF.out.link (i:=k) (by rw [← HN.out];exact hlt)).keep HBW.out)
     obtain⟨sv,hsv,hst⟩:=LK.out.l0
     have HST:=zh hst
     obtain⟨-,sa,sc,rfl,-⟩:=id hst
     obtain⟨bl,hbl⟩:∃ bl,bl=(nd (F0 ps e) k).binds:=⟨_,rfl⟩
     obtain⟨bn,hbn⟩:∃ bn,bn=bl.length:=⟨_,rfl⟩
     rw [← hbl,← hbn] at hsv
     rw [← hbl,← hbn] at HST
     have HBL:=zh (And.intro hbl hbn)
     have HLL:Hid (bl.length≤1000000000):=by have:=LK.out.nb;rw [← hbl] at this;show _≤_;omega
     have CA:Hid (∀ (x:Nm) (m:Nat),Calls Tryz.prog 59 #[.slice sa bn sc,.string x] (wr.drewN m) fun e w'=>e = .returned (.bool (RG.has bl x))∧w'=wr.drewN m):=fun x m=>contains_any x (StrsAt.kept HST.out (zd (zj _ _ _))) HLL.out
     clear hst hlt hbl hbn
     go_upto_region 13 with (fail)
     go_quiet ((go_at_call 59;exact Calls.quiet_of_same (CA.out _ _)))
     go_wp2_with fail
     refine(crossing_any (LK.out.keep (zj _ _ _))).mono ?_
     rintro en w2 ⟨b1,rfl,hb1,hs2,hb2⟩
     have HB2:Hid (Below w1.heap.size w1 w2):=(HBW.out.trans (zj _ _ _)).trans (hb2.mono HBW.out.size)
     obtain⟨qa,hqa⟩:∃ q,q=cross (F0 ps e) k a:=⟨_,rfl⟩
     obtain⟨qb,hqb⟩:∃ q,q=cross (F0 ps e) k b:=⟨_,rfl⟩
     obtain⟨ba,hba⟩:∃ q,q=RG.has bl a:=⟨_,rfl⟩
     obtain⟨bb,hbb⟩:∃ q,q=RG.has bl b:=⟨_,rfl⟩
     have wfp:∀ x∈vars (F0 ps e),(Lit.int .i64 (place (F0 ps e) x:Int)).wf=true:=fun x hx=>wf_nat (by have:=place_lt hx;have:=HF.out.few;omega)
     have ea:=imap_run hs2 (wfp a HA.out) 108 Tryz.underlying108
     have eb:=imap_run hs2 (wfp b HB'.out) 108 Tryz.underlying108
     rw [vset_at HF.out.fo.once HA.out,← hqa] at ea
     rw [vset_at HF.out.fo.once HB'.out,← hqb] at eb
     have CL:Hid (clash (F0 ps e) a b k=((ba&&(bb||qb))||(bb&&qa))):=by show _=_;unfold clash;rw [← HBL.out.1,hba,hbb,hqa,hqb]
     rw [← hba,← hbb]
     clear hb1 hs2 hb2 hqa hqb hba hbb wfp hsv hci
     cases ba<;>cases bb<;>cases qa<;>cases qb
     all_goals
      simp only [if_true,if_false,Bool.false_eq_true] at ea eb
      first
       | (have C0:Hid (clash (F0 ps e) a b k=false):=CL.out
          have NX:Hid (∀ i,i<k+1→clash (F0 ps e) a b i=false):=fun i hi=>by
           by_cases e2:i=k
           ·rw [e2];exact C0.out
           exact HNO.out i (by omega)
          go_wp2_with fail
          go_roundw
          case rel=>exact⟨k+1,HLT.out,by go_num,HB2.out,NX.out⟩
          case measure=>have:=HLT.out;simp [intOf];omega)
       | (have C1:Hid (clash (F0 ps e) a b k=true):=CL.out
          have E2:Hid (conflict (F0 ps e) a b=true):=by
           show _=_
           rw [E.out,List.any_eq_true]
           exact⟨k,List.mem_range.2 (by rw [← HN.out];exact HLT.out),C1.out⟩
          go_wp2_with fail
          go_ret2
          exact⟨HB.out.trans (HB2.out.mono HB.out.size),.inl ⟨HG.out,HA.out,HB'.out,by rw [E2.out];rfl⟩⟩)
    have hlz:(n:Int)≤k:=by omega
    have E2:Hid (conflict (F0 ps e) a b=false):=by
     show _=_
     rw [E.out,List.any_eq_false]
     intro i hi
     have h1:=List.mem_range.1 hi
     rw [HNO.out i (by have:=HN.out;omega)]
     decide
    clear hlt
    go_wp2_with fail
    go_ret2
    exact⟨HB.out.trans (HBW.out.mono HB.out.size),.inl ⟨HG.out,HA.out,HB'.out,by rw [E2.out];rfl⟩⟩
   have HA:=zh hA
   have ta:=zx.2 hA
   have tb:RG.has (vars (F0 ps e)) b=false:=by cases hq:RG.has (vars (F0 ps e)) b with | false=>rfl | true=>exact absurd (zx.1 hq) hB
   have NB:=zh hB
   clear hA hB
   go_wp2_with (at_lookup;first | (refine wpList_pis rfl _ (.tmp 26) rfl A.pl (vars (F0 ps e)) rfl PM.out a HAS.out rfl ?_;intro p hp;clear hp;rw [ta]) | (refine wpList_pis rfl _ (.tmp 35) rfl A.pl (vars (F0 ps e)) rfl PM.out b HBS.out rfl ?_;intro q hq;clear hq;rw [tb]))
   go_ret2
   exact⟨HB.out,.inr (.inl ⟨HG.out,.inr NB.out,rfl⟩)⟩
  have ta:RG.has (vars (F0 ps e)) a=false:=by cases hq:RG.has (vars (F0 ps e)) a with | false=>rfl | true=>exact absurd (zx.1 hq) hA
  have NA:=zh hA
  clear hA
  cases tb:RG.has (vars (F0 ps e)) b with
  | true =>
   go_wp2_with (at_lookup;first | (refine wpList_pis rfl _ (.tmp 26) rfl A.pl (vars (F0 ps e)) rfl PM.out a HAS.out rfl ?_;intro p hp;clear hp;rw [ta]) | (refine wpList_pis rfl _ (.tmp 35) rfl A.pl (vars (F0 ps e)) rfl PM.out b HBS.out rfl ?_;intro q hq;clear hq;rw [tb]))
   go_ret2
   exact⟨HB.out,.inr (.inl ⟨HG.out,.inl NA.out,rfl⟩)⟩
  | false =>
   go_wp2_with (at_lookup;first | (refine wpList_pis rfl _ (.tmp 26) rfl A.pl (vars (F0 ps e)) rfl PM.out a HAS.out rfl ?_;intro p hp;clear hp;rw [ta]) | (refine wpList_pis rfl _ (.tmp 35) rfl A.pl (vars (F0 ps e)) rfl PM.out b HBS.out rfl ?_;intro q hq;clear hq;rw [tb]))
   go_ret2
   exact⟨HB.out,.inr (.inl ⟨HG.out,.inl NA.out,rfl⟩)⟩
 have HB:Hid (Below w.heap.size w w1):=B0.out.trans (hb.mono B0.out.size)
 have HG:=zh hng
 clear hb hng
 go_wp2_with fail
 go_ret2
 exact⟨HB.out,.inr (.inr ⟨HG.out,rfl⟩)⟩
end Go.Proofs.YtnkahlloahgifaaGreatDoor

namespace Go.Proofs.YtnkahlloahgifaaGreatDoor
open Go.RowKit RG Go.Maps RF
def FindP (w:World) (l:List Nm) (x:Nm) (en:Ending) (w':World):Prop :=
 Below w.heap.size w w'∧((∃ k:Nat,en = .returned (.int .i64 k)∧l[k]?=some x)∨(en = .returned (.int .i64 (-1))∧x∉l))
theorem not_take {l:List Nm}{x:Nm}{n:Nat}(hn:n=l.length) (h:x∉l.take n):x∉l:=by
 rw [hn,List.take_length] at h;exact h
theorem find_any {w:World}{v:Value}{l:List Nm}(x:Nm) (h:StrsAt w v l) (hl:l.length≤1000000000000):Calls Tryz.prog 61 #[v,.string x] w (FindP w l x):=by
 obtain⟨aa,ac,rfl,hat⟩:=h.cells
 have HAT:=zh hat
 obtain⟨n,hn⟩:∃ n,n=l.length:=⟨_,rfl⟩
 rw [← hn] at hl ⊢
 have HN:=zh hn
 have hnz:(n:Int)≤1000000000000:=by omega
 clear h hat hn hl
 go_enter Tryz.func61,Tryz.ntmps61
 go_wp2_with fail
 go_loopw [5] (fun iv wr=>∃ k:Nat,k≤n∧iv = .int .i64 k∧Below w.heap.size w wr∧x∉l.take k) (fun iv _=>n - (intOf iv).toNat)
 case atStart=>exact⟨0,Nat.zero_le _,rfl,zs9 _ _,by simp⟩
 obtain⟨k,hk,rfl,hb,hq⟩:=hrel
 have HK:=zh hk
 have HB:=zh hb
 have HQ:=zh hq
 clear hk hb hq
 by_cases hlt:k<n
 ·obtain⟨g,o,rfl,hat⟩:=HAT.out (by have:=HN.out;omega)
  obtain⟨y,hy⟩:∃ y,l[k]?=some y:=⟨_,zq9 (by have:=HN.out;omega)⟩
  have y0:=zd HB.out _ _ (hat k y hy)
  have HY:=zh hy
  have HLT:=zh hlt
  have hlz:(k:Int)<n:=by omega
  have hk0:(0:Int)≤k:=by omega
  clear hat hy
  by_cases hxy:y=x
  ·have d1:(y.toList==x.toList)=true:=by rw [bytes_beq];simp [hxy]
   have E2:Hid (l[k]?=some x):=by show _=_;rw [HY.out,hxy]
   clear hxy hlt
   go_wp2_with fail
   go_ret
   exact⟨HB.out,.inl ⟨k,rfl,E2.out⟩⟩
  have d1:(y.toList==x.toList)=false:=by rw [bytes_beq];simp [hxy]
  have E2:Hid (x∉l.take (k+1)):=by
   show ¬ _
   rw [List.take_add_one,HY.out]
   intro hm
   rcases List.mem_append.1 hm with hm | hm
   ·exact HQ.out hm
   simp at hm;exact hxy hm.symm
  clear hxy hlt
  go_wp2_with fail
  go_roundw
  case rel=>exact⟨k+1,HLT.out,by go_num,HB.out,E2.out⟩
  case measure=>have:=HLT.out;simp [intOf];omega
 have hlz:(n:Int)≤k:=by omega
 have E2:Hid (x∉l):=not_take (show k=l.length by have:=HK.out;have:=HN.out;omega) HQ.out
 clear hlt
 go_wp2_with fail
 go_ret
 exact⟨HB.out,.inr ⟨rfl,E2.out⟩⟩
end Go.Proofs.YtnkahlloahgifaaGreatDoor

namespace Go.Proofs.YtnkahlloahgifaaGreatDoor
open Go.RowKit RG Go.Maps RF
attribute [local go_sem] Oper.semAt_some
theorem step_append_own {P:Program}{ops:Array Oper}{o:Oper}{a:Act}{w:World}{K:Act→World→Prop}{Q:Exit→Act→World→Prop}{E:Prop}
  (hg:o.guard=none) (s x:Operand) (t:TypeId) (hop:o.op=Op.call { callee:=Callee.builtin Builtin.append,args := #[s,x],argTypes := #[t,t] })
  (base:Nat) (e:TypeId) (i:TypeInfo) (z:Value) (size bytes:Nat) (ht:P.underlying t=some (.slice e)) (hi:P.info? e=some i) (hz:i.zero=some z)
  (hsize:i.size=size) (hby:i.bytes=bytes) (hzs:z.cells.size=size) (hsz:0<size) (v:Value) (n:Nat) (xs:List Value) (hs:a.eval s=v) (hown:w.ownsRow base e size v n xs)
  (ad:Addr) (m c:Nat) (news:List Value) (hx:a.eval x = .slice (some ad) m c) (hl:news.length=m*size) (hnews:∀ j u,news[j]?=some u→w.cell? (ad.add j)=some u) (h1:∀ u∈news,u.oneCell'=true)
  (h63:n+m≤maxLen) (hbytes:(n+m)*bytes≤140737488355328) (hbase:base≤w.heap.size)
  (hK:∀ v' w',w'.ownsRow base e size v' (n+m) (xs++news)→w.grownBy w' v.ownBlock→K (a.put o.dst v') w') :
  if Region.wanted o (yielded ops a.tmps)=true then Oper.wp P o a w K Q else E:=by
 have hw:Region.wanted o (yielded ops a.tmps)=true:=by simp [Region.wanted,hg]
 rw [if_pos hw]
 obtain⟨v',w',hr,h2,h3,-⟩:=run_append_own (P:=P) w base t o.type e i z size bytes ht hi hz hsize hby hzs hsz v n xs hown ad m c news hl hnews h1 h63 hbytes hbase
 unfold Oper.wp execOp
 simp only [hop,resolve,invoke,builtin,Sem.run_bind,Sem.run_pure,Result.andThen_ok,List.map_toArray,List.map_cons,List.map_nil,hs,hx,hr]
 exact hK _ _ h2 h3
theorem owns_strs {w:World}{base n:Nat}{v:Value}{l:List Nm}(h:w.ownsRow base 9 1 v n (strs l)) (hn:n=l.length):StrsAt w v l:=by
 obtain⟨a,c,rfl⟩:=own_sliceI h
 subst hn
 refine⟨strs_length _,a,c,rfl,fun h0=>?_⟩
 rcases h.2 with ⟨he,h1⟩|⟨g,cap,cur,hv,_,hg,k1,k2,k3,k4⟩
 ·omega
 simp only [Value.slice.injEq,true_and] at hv
 obtain⟨rfl,rfl⟩:=hv
 refine⟨g,0,rfl,fun i x hi=>?_⟩
 have hl:=(zq8.1 hi).1
 rw [strs_length] at hl
 rw [Nat.zero_add,zb _ _ _ _ _ _ hg,← Array.getElem?_toList,← List.getElem?_take_of_lt (show i<l.length*1 by omega),k4]
 exact hi
end Go.Proofs.YtnkahlloahgifaaGreatDoor

namespace Go.Proofs.YtnkahlloahgifaaGreatDoor
open Go.RowKit RG Go.Maps RF
theorem Tryz.info9r:(Tryz.prog.info? 9).map (fun i=>(i.zero,i.size,i.bytes))=some (some (.string ⟨#[]⟩),1,16):=by kernel_rfl
theorem Tryz.info40r:(Tryz.prog.info? 40).map (fun i=>(i.zero,i.size,i.bytes))=some (some (.slice none 0 0),1,24):=by kernel_rfl
theorem one1 {x u:Value}(hx:x.oneCell'=true) (hu:u∈[x]):u.oneCell'=true:=by simp at hu;rw [hu];exact hx
theorem news1' {w:World}{b:Nat}{x:Value}{T:TypeId}(h:w.heap[b]?=some (.cells #[x] T (0,0))):∀ (j:Nat) (u:Value),[x][j]?=some u→w.cell? ((⟨b,0,none⟩:Addr).add j)=some u:=fun j u hu=>by
 rw [Addr.add_lit,zb _ _ _ _ _ _ h,Nat.zero_add]
 match j,hu with
 | 0,hu=>exact hu
 | j+1,hu=>simp at hu
def RbP (w:World) (ρ:Nat→Nat) (fb:Nat) (st:St) (names:List Nm) (sc:List (Nm×Nat)) (e:Ending) (w':World):Prop :=
 ∃ ρ' a,e = .returned (.pointer a)∧Ch BM ρ ρ' w w'∧(∀ k,ρ' k≠9)∧FlR w' ρ' fb (st.bind names)∧ScR w' ρ' (scope st.vars.length names sc) (.pointer a)
theorem rbind_any {w:World} {ρ:Nat→Nat}{fb:Nat}{st:St}{names:List Nm}{v scv:Value}{sc:List (Nm×Nat)}{of:Int}(hfl:FlR w ρ fb st) (hρ:∀ k,w.heap.size≤k→ρ k=0) (h9:∀ k,ρ k≠9)
  (hn:ZA w ρ v names.length (strs names)) (hnl:names.length≤16) (hsc:ScR w ρ sc scv) (hvl:st.vars.length≤400000) (hbl:st.binds.length≤100000) (hub:st.uses.length=st.binds.length) :
  Calls Tryz.prog 51 #[.pointer (some ⟨fb,0,none⟩),v,.int .i64 of,scv] w (RbP w ρ fb st names sc):=by
 obtain⟨sv,su,sn,sb,sa,so,us,ns,bs,os,hf⟩:=hfl
 have H9:=zh h9
 have BD0:Hid (BdV w ρ fb st names sc v su sn sb sa so us ns bs os st.binds.length st.binds.length 0 0 0 ρ sv (.slice none 0 0) scv w) :=
  ⟨by rw [List.take_zero,List.append_nil];exact hf,Ch.refl hρ,RR.nil _ _ _ _ _,by rw [List.take_zero];exact hsc,hn,fun k hk=>absurd hk (h9 k)⟩
 obtain⟨_,na,nc,rfl,-⟩:=id hn
 obtain⟨sca,rfl⟩:=hsc.ptr
 obtain⟨n,hnn⟩:∃ n,n=names.length:=⟨_,rfl⟩
 obtain⟨nv,hnv⟩:∃ n,n=st.vars.length:=⟨_,rfl⟩
 obtain⟨nb,hnb⟩:∃ n,n=st.binds.length:=⟨_,rfl⟩
 rw [← hnb] at BD0
 rw [← hnn]
 rw [← hnn] at BD0
 have HNN:=zh hnn
 have HNV:=zh hnv
 have HNB:=zh hnb
 have HNL:Hid (n≤16):=by show _≤_;omega
 have HVL:Hid (nv≤400000):=by show _≤_;omega
 have HBL:Hid (nb≤100000):=by show _≤_;omega
 have HUB:Hid (st.uses.length=nb):=by show _=_;omega
 have hnz:(n:Int)≤16:=by omega
 obtain⟨i9,p1,p2,p3,p4⟩:=info_parts Tryz.info9r
 have HI9:=zh (And.intro p1 (And.intro p2 (And.intro p3 p4)))
 obtain⟨i3,q1,q2,q3,q4⟩:=info_parts Tryz.info3u
 have HI3:=zh (And.intro q1 (And.intro q2 (And.intro q3 q4)))
 obtain⟨i40,r1,r2,r3,r4⟩:=info_parts Tryz.info40r
 have HI40:=zh (And.intro r1 (And.intro r2 (And.intro r3 r4)))
 clear hf hρ h9 hn hnl hsc hvl hbl hub hnn hnv hnb p1 p2 p3 p4 q1 q2 q3 q4 r1 r2 r3 r4
 go_enter Tryz.func51,Tryz.ntmps51
 go_wp2_with fail
 go_loopw [9,10,11] (fun lv vo iv wr=>∃ (i:Nat) (ρ1:Nat→Nat) (sv1:Value),i≤n∧iv = .int .i64 i∧BdV w ρ fb st names sc (.slice na n nc) su sn sb sa so us ns bs os nb nb i i i ρ1 sv1 lv vo wr) (fun _ _ iv _=>n - (intOf iv).toNat)
 case atStart=>exact⟨0,ρ,sv,Nat.zero_le _,rfl,BD0.out⟩
 rename World=>V
 obtain⟨i,ρ1,sv1,hi,rfl,hbd⟩:=hrel
 have KI:=zh hi
 have KB:=zh hbd
 obtain⟨la,lc,rfl⟩:=hbd.row.shape
 obtain⟨va,vc,hsv⟩:=hbd.fl.vars.shape
 have hvl:(({ st with vars:=st.vars++names.take i }:St)).vars.length=nv+i:=by
  show (st.vars++names.take i).length=_
  rw [zr2,List.length_take,← HNV.out]
  have:=HNN.out;omega
 rw [hvl] at hsv
 subst hsv
 obtain⟨pa,hpa⟩:=hbd.scp.ptr
 subst hpa
 clear hi BD0
 have RHO:=zh hbd.rho
 by_cases hlt:i<n
 ·have hlz:(i:Int)<n:=by omega
  have hi0:(0:Int)≤i:=by omega
  have HLT:=zh hlt
  obtain⟨hzl,ad,cc,hsl,hat⟩:=hbd.nms
  simp only [Value.slice.injEq] at hsl
  obtain⟨rfl,-,rfl⟩:=hsl
  obtain⟨g,o,rfl,hrg,hat2⟩:=hat (by have:=HNN.out;omega)
  obtain⟨x,hx⟩:∃ x,names[i]?=some x:=⟨_,zq9 (by have:=HNN.out;omega)⟩
  have z1:=hat2 i _ (strs_at hx)
  have z0:V.cell? ⟨fb,0,none⟩=some (.slice va (nv+i) vc):=hbd.fl.cell 0 _ rfl
  have hb1:fb<V.heap.size:=zs3 V _ z0
  have hb2:g<V.heap.size:=zs3 V _ z1
  have HX:=zh hx
  have HG:=zh (And.intro hb2 hrg)
  have hfg:fb≠g:=by intro hh;have h1:=hbd.fl.role;rw [hh,hrg] at h1;cases h1
  have VL:Hid ((({ st with vars:=st.vars++names.take i }:St)).vars.length=nv+i):=hvl
  have hnvz:((nv+i:Nat):Int)≤500000:=by have:=HVL.out;have:=HNL.out;omega
  have NB:Hid (nv+i+1≤maxLen∧(nv+i+1)*16≤140737488355328):=by show _∧_;have:=HVL.out;have:=HNL.out;simp only [maxLen];omega
  have B1:Hid (Below V.heap.size V ((V.alloc (Obj.cells #[.string x] 9)).drew)):=((zs9 _ _).alloc (zr4 _) _).drew
  have X1:=zh (show ((V.alloc (Obj.cells #[.string x] 9)).drew).heap[V.heap.size]?=some (.cells #[.string x] 9 (0,0)) from zs2 V (.cells #[.string x] 9))
  have RW:Hid (RR ((V.alloc (Obj.cells #[.string x] 9)).drew) ρ1 3 9 1 (.slice va (nv+i) vc) (nv+i) (strs (st.vars++names.take i))):=by
   have:=(hbd.below B1.out).fl.vars
   rw [hvl] at this
   exact this
  have KB1:=zh (hbd.below B1.out)
  clear hlt hx hat hat2 hzl hbd hvl hrg
  go_wp2_with fail
  refine wp_region_held_drew (S:=(fun w'=>w'.cell? ⟨g,o+i,none⟩=some (.string x))) (by kernel_rfl) z1 (fun hHeld=>?_)
  have k0:=hHeld
  refine zs5 (i:=0) (v:=?_) rfl (by kernel_rfl) (by kernel_rfl) (by kernel_rfl) (fun _ _ _ h=>h) (Or.inl ⟨by rfl,?_⟩) k0 ?_
  rotate_left
  ·(intro wz hSw;have zk0:=hSw;(try simp only [zq1,zq2,zq3]);go_simp;try with_reducible rfl)
  try simp only [Act.put,zq1,zq2,zq3,zq4,zq5,zq6]
  refine zs5 (i:=1) (v:=?_) rfl (by kernel_rfl) (by kernel_rfl) (by kernel_rfl) (fun _ _ _ h=>h) (Or.inl ⟨by rfl,?_⟩) k0 ?_
  rotate_left
  ·(intro wz hSw;have zk0:=hSw;(try simp only [zq1,zq2,zq3]);go_simp;try with_reducible rfl)
  try simp only [Act.put,zq1,zq2,zq3,zq4,zq5,zq6]
  refine zs5 (i:=2) (v:=?_) rfl (by kernel_rfl) (by kernel_rfl) (by kernel_rfl) (fun _ _ _ h=>h) (Or.inl ⟨by rfl,?_⟩) k0 ?_
  rotate_left
  ·(intro wz hSw;have zk0:=hSw;(try simp only [zq1,zq2,zq3]);go_simp;try with_reducible rfl)
  try simp only [Act.put,zq1,zq2,zq3,zq4,zq5,zq6]
  refine zs5 (i:=3) (v:=?_) rfl (by kernel_rfl) (by kernel_rfl) (by kernel_rfl) (fun _ _ _ h=>h) (Or.inl ⟨by rfl,?_⟩) k0 ?_
  rotate_left
  ·(intro wz hSw;have zk0:=hSw;(try simp only [zq1,zq2,zq3]);go_simp;try with_reducible rfl)
  try simp only [Act.put,zq1,zq2,zq3,zq4,zq5,zq6]
  refine zs5 (i:=5) (v:=?_) rfl (by kernel_rfl) (by kernel_rfl) (by kernel_rfl) (fun _ _ _ h=>h) (Or.inl ⟨by rfl,?_⟩) k0 ?_
  rotate_left
  ·(intro wz hSw;have zk0:=hSw;(try simp only [zq1,zq2,zq3]);go_simp;try with_reducible rfl)
  try simp only [Act.put,zq1,zq2,zq3,zq4,zq5,zq6]
  refine zs5 (i:=6) (v:=?_) rfl (by kernel_rfl) (by kernel_rfl) (by kernel_rfl) (fun _ _ _ h=>h) (Or.inl ⟨by rfl,?_⟩) k0 ?_
  rotate_left
  ·(intro wz hSw;have zk0:=hSw;(try simp only [zq1,zq2,zq3]);go_simp;try with_reducible rfl)
  try simp only [Act.put,zq1,zq2,zq3,zq4,zq5,zq6]
  refine zs5 (i:=7) (v:=?_) rfl (by kernel_rfl) (by kernel_rfl) (by kernel_rfl) (fun _ _ _ h=>h) (Or.inl ⟨by rfl,?_⟩) k0 ?_
  rotate_left
  ·(intro wz hSw;have zk0:=hSw;(try simp only [zq1,zq2,zq3]);go_simp;try with_reducible rfl)
  try simp only [Act.put,zq1,zq2,zq3,zq4,zq5,zq6]
  refine zs5 (i:=8) (v:=?_) rfl (by kernel_rfl) (by kernel_rfl) (by kernel_rfl) (fun _ _ _ h=>h) (Or.inl ⟨by rfl,?_⟩) k0 ?_
  rotate_left
  ·(intro wz hSw;have zk0:=hSw;(try simp only [zq1,zq2,zq3]);go_simp;try with_reducible rfl)
  try simp only [Act.put,zq1,zq2,zq3,zq4,zq5,zq6]
  refine zs6 (rs:=[4,9]) (by kernel_rfl) (by simp) ?_
  refine zs7 rfl (fun K hK=>?_) (zs7 rfl (fun K hK=>?_) zs8)
  ·try simp only [zq1,zq2,zq3]
   go_simp
   refine hK.out _ _ ?hs (fun hHeld=>?_)
   case hs=>exact k0
   clear hK K k0
   have k0:=hHeld
   try simp only [Act.put,zq1,zq2,zq3,zq4,zq5,zq6]
   refine zs6 (rs:=[9]) (by kernel_rfl) (by simp) ?_
   refine zs7 rfl (fun K hK=>?_) zs8
   try simp only [zq1,zq2,zq3]
   go_simp
   refine hK.out _ _ ?hs (fun hHeld=>?_)
   case hs=>first | exact zs4 _ k0 | go_keep
   clear hK K k0
   have k0:=hHeld
   try simp only [Act.put,zq1,zq2,zq3,zq4,zq5,zq6]
   refine zs6 (rs:=[10]) (by kernel_rfl) (by simp) ?_
   refine zs7 rfl (fun K hK=>?_) zs8
   refine step_append_rr rfl _ _ 35 rfl 9 i9 (.string ⟨#[]⟩) 1 16 Tryz.underlying35 HI9.out.1 HI9.out.2.1 HI9.out.2.2.1 HI9.out.2.2.2 rfl (by decide) ρ1 3 (.slice va (nv+i) vc) (nv+i) (strs (st.vars++names.take i)) rfl RW.out (fun k hk=>RHO.out k (zr5 B1.out.size hk)) ⟨V.heap.size,0,none⟩ 1 1 [.string x] rfl rfl (news1' X1.out) (fun u hu=>one1 rfl hu) NB.out.1 NB.out.2 ?_
   intro a4 c4 w4 ρ4 hr4 hc4 hf4
   have R4:=zh hr4
   have C4:=zh hc4
   have F4:=zh hf4
   have t1:w4.cell? ⟨g,o+i,none⟩=some (.string x):=hc4.cell (zd B1.out _ _ z1) (by show ρ1 g≠3;rw [HG.out.2];decide)
   have y0:=hc4.keep KB1.out.fl.obj (by rw [KB1.out.fl.role];decide)
   have t0:w4.cell? ⟨fb,0,none⟩=some (.slice va (nv+i) vc):=by rw [zb _ _ 0 _ _ _ y0];rfl
   have t3:w4.frozen? ⟨fb,0,none⟩=false:=zs1 _ _ 0 _ _ y0
   clear hr4 hc4 hf4 y0
   (try simp only [])
   refine hK.out _ _ ?hs (fun hHeld=>?_)
   case hs=>exact t1
   clear hK K k0
   have k0:=hHeld
   try simp only [Act.put,zq1,zq2,zq3,zq4,zq5,zq6]
   refine zs5 (i:=11) (v:=?_) rfl (by kernel_rfl) (by kernel_rfl) (by kernel_rfl) (fun _ _ _ h=>h) (Or.inl ⟨by rfl,?_⟩) k0 ?_
   rotate_left
   ·(intro wz hSw;have zk0:=hSw;(try simp only [zq1,zq2,zq3]);go_simp;try with_reducible rfl)
   try simp only [Act.put,zq1,zq2,zq3,zq4,zq5,zq6]
   refine zs5 (i:=12) (v:=?_) rfl (by kernel_rfl) (by kernel_rfl) (by kernel_rfl) (fun _ _ _ h=>h) (Or.inl ⟨by rfl,?_⟩) k0 ?_
   rotate_left
   ·(intro wz hSw;have zk0:=hSw;(try simp only [zq1,zq2,zq3]);go_simp;try with_reducible rfl)
   try simp only [Act.put,zq1,zq2,zq3,zq4,zq5,zq6]
   refine zs6 (rs:=[13]) (by kernel_rfl) (by simp) ?_
   refine zs7 rfl (fun K hK=>?_) zs8
   try simp only [zq1,zq2,zq3]
   go_simp
   refine hK.out _ _ ?hs (fun hHeld=>?_)
   case hs=>first | assumption | (rw [World.cell?_setCell_far _ _ _ _ hfg];assumption)
   clear hK K hHeld k0
   refine wpAnyH_done (by kernel_rfl) ?_ _
   have GA:=zh (KB1.out.growA HX.out C4.out (by rw [← HNV.out];exact R4.out) (fun q hq=>F4.out q hq))
   obtain⟨V6,hV6⟩:∃ W,W=w4.setCell ⟨fb,0,none⟩ (.slice a4 (nv+i+1) c4):=⟨_,rfl⟩
   rw [← hV6] at GA
   try rw [← hV6]
   clear R4 C4 F4 RW KB KB1 RHO t0 t1 t3 z0 z1 hV6
   have hbd:=GA.out
   have RHO:=zh hbd.rho
   have z0:V6.cell? ⟨fb,0,none⟩=some (.slice a4 (nv+i+1) c4):=hbd.fl.cell 0 _ rfl
   have hm1:(1:Int)≤((nv+i+1:Nat):Int):=by omega
   have hm2:((nv+i+1:Nat):Int)≤500001:=by omega
   have e1:(((nv+i+1:Nat):Int) - 1)=((nv+i:Nat):Int):=by omega
   have E1:=zh e1
   obtain⟨nq,hnq⟩:∃ q,q=nv+i+1:=⟨_,rfl⟩
   rw [← hnq] at z0 hm1 hm2 GA E1
   try rw [← hnq]
   have hwn:IntKind.i64.wrap ((nq:Int) - 1)=(nq:Int) - 1:=Lx.wrap_in _ (by omega)
   have B2:Hid (Below V6.heap.size V6 (V6.alloc (Obj.cells #[.int .i64 ((nq:Int) - 1)] 3))):=(zs9 _ _).alloc (zr4 _) _
   have X2:=zh (show (V6.alloc (Obj.cells #[.int .i64 ((nq:Int) - 1)] 3)).heap[V6.heap.size]?=some (.cells #[.int .i64 ((nq:Int) - 1)] 3 (0,0)) from zs2 V6 _)
   have KB2:=zh (GA.out.below B2.out)
   have NB2:Hid (i+1≤maxLen∧(i+1)*8≤140737488355328):=by show _∧_;have:=HNL.out;have:=HLT.out;simp only [maxLen];omega
   clear hbd e1 hnq
   go_wp2_with (at_builtin;refine wpList_append_rr rfl _ _ 40 rfl 3 i3 (.int .i64 0) 1 8 Tryz.underlying40 HI3.out.1 HI3.out.2.1 HI3.out.2.2.1 HI3.out.2.2.2 rfl (by decide) ρ4 9 (.slice la i lc) i (nats (List.range' st.vars.length i)) rfl KB2.out.row (fun k hk=>RHO.out k (zr5 B2.out.size hk)) ⟨V6.heap.size,0,none⟩ 1 1 [.int .i64 ((nq:Int) - 1)] rfl rfl (news1' X2.out) (fun u hu=>one1 rfl hu) NB2.out.1 NB2.out.2 ?_)
   intro a5 c5 w5 ρ5 hr5 hc5 hf5
   have GB:=zh (KB2.out.growB hc5 (by have h:=hr5;rw [E1.out,HNV.out] at h;exact h))
   clear hr5 hc5 hf5 KB2 RHO z0
   have hbd:=GB.out
   have z0:w5.cell? ⟨fb,0,none⟩=some (.slice a4 nq c4):=hbd.fl.cell 0 _ rfl
   obtain⟨hzl,ad,cc,hsl,hat⟩:=hbd.nms
   simp only [Value.slice.injEq] at hsl
   obtain⟨rfl,-,rfl⟩:=hsl
   obtain⟨g1,o1,hg1,hrg,hat2⟩:=hat (by have:=HNN.out;have:=HLT.out;omega)
   simp only [zt3] at hg1
   rw [Addr.mk.injEq] at hg1
   obtain⟨rfl,rfl,-⟩:=hg1
   have z1:=hat2 i _ (strs_at HX.out)
   clear hbd hzl hat hat2 hrg GA
   go_wp2_with fail
   go_region_held3 (fun w'=>w'.cell? ⟨fb,0,none⟩=some (.slice a4 nq c4)∧w'.cell? ⟨g,o+i,none⟩=some (.string x)) (first | exact⟨by assumption,by assumption⟩ | go_keep) (fail)
   have B3:Hid (Below w5.heap.size w5 ((w5.alloc (Obj.cells #[.string x,.int .i64 ((nq:Int) - 1),.pointer pa] 150)).drew)):=((zs9 _ _).alloc (zr4 _) _).drew
   have GC:=zh (GB.out.growC HX.out B3.out (b:=w5.heap.size) (by rw [← HNV.out,← E1.out];exact zs2 w5 (.cells #[.string x,.int .i64 ((nq:Int) - 1),.pointer pa] 150)) (zr4 _))
   clear GB z0 z1
   go_wp2_with fail
   go_roundw
   case rel=>exact⟨i+1,ρ5,_,HLT.out,by go_num,GC.out⟩
   case measure=>have:=HLT.out;simp [intOf];omega
  try simp only [zq1,zq2,zq3]
  go_simp
  refine hK.out _ _ ?hs (fun hHeld=>?_)
  case hs=>first | exact zs4 _ k0 | go_keep
  clear hK K k0
  have k0:=hHeld
  try simp only [Act.put,zq1,zq2,zq3,zq4,zq5,zq6]
  refine zs6 (rs:=[4]) (by kernel_rfl) (by simp) ?_
  refine zs7 rfl (fun K hK=>?_) zs8
  try simp only [zq1,zq2,zq3]
  go_simp
  refine hK.out _ _ ?hs (fun hHeld=>?_)
  case hs=>exact k0
  clear hK K k0
  have k0:=hHeld
  try simp only [Act.put,zq1,zq2,zq3,zq4,zq5,zq6]
  refine zs6 (rs:=[10]) (by kernel_rfl) (by simp) ?_
  refine zs7 rfl (fun K hK=>?_) zs8
  refine step_append_rr rfl _ _ 35 rfl 9 i9 (.string ⟨#[]⟩) 1 16 Tryz.underlying35 HI9.out.1 HI9.out.2.1 HI9.out.2.2.1 HI9.out.2.2.2 rfl (by decide) ρ1 3 (.slice va (nv+i) vc) (nv+i) (strs (st.vars++names.take i)) rfl RW.out (fun k hk=>RHO.out k (zr5 B1.out.size hk)) ⟨V.heap.size,0,none⟩ 1 1 [.string x] rfl rfl (news1' X1.out) (fun u hu=>one1 rfl hu) NB.out.1 NB.out.2 ?_
  intro a4 c4 w4 ρ4 hr4 hc4 hf4
  have R4:=zh hr4
  have C4:=zh hc4
  have F4:=zh hf4
  have t1:w4.cell? ⟨g,o+i,none⟩=some (.string x):=hc4.cell (zd B1.out _ _ z1) (by show ρ1 g≠3;rw [HG.out.2];decide)
  have y0:=hc4.keep KB1.out.fl.obj (by rw [KB1.out.fl.role];decide)
  have t0:w4.cell? ⟨fb,0,none⟩=some (.slice va (nv+i) vc):=by rw [zb _ _ 0 _ _ _ y0];rfl
  have t3:w4.frozen? ⟨fb,0,none⟩=false:=zs1 _ _ 0 _ _ y0
  clear hr4 hc4 hf4 y0
  (try simp only [])
  refine hK.out _ _ ?hs (fun hHeld=>?_)
  case hs=>exact t1
  clear hK K k0
  have k0:=hHeld
  try simp only [Act.put,zq1,zq2,zq3,zq4,zq5,zq6]
  refine zs5 (i:=11) (v:=?_) rfl (by kernel_rfl) (by kernel_rfl) (by kernel_rfl) (fun _ _ _ h=>h) (Or.inl ⟨by rfl,?_⟩) k0 ?_
  rotate_left
  ·(intro wz hSw;have zk0:=hSw;(try simp only [zq1,zq2,zq3]);go_simp;try with_reducible rfl)
  try simp only [Act.put,zq1,zq2,zq3,zq4,zq5,zq6]
  refine zs5 (i:=12) (v:=?_) rfl (by kernel_rfl) (by kernel_rfl) (by kernel_rfl) (fun _ _ _ h=>h) (Or.inl ⟨by rfl,?_⟩) k0 ?_
  rotate_left
  ·(intro wz hSw;have zk0:=hSw;(try simp only [zq1,zq2,zq3]);go_simp;try with_reducible rfl)
  try simp only [Act.put,zq1,zq2,zq3,zq4,zq5,zq6]
  refine zs6 (rs:=[13]) (by kernel_rfl) (by simp) ?_
  refine zs7 rfl (fun K hK=>?_) zs8
  try simp only [zq1,zq2,zq3]
  go_simp
  refine hK.out _ _ ?hs (fun hHeld=>?_)
  case hs=>first | assumption | (rw [World.cell?_setCell_far _ _ _ _ hfg];assumption)
  clear hK K hHeld k0
  refine wpAnyH_done (by kernel_rfl) ?_ _
  have GA:=zh (KB1.out.growA HX.out C4.out (by rw [← HNV.out];exact R4.out) (fun q hq=>F4.out q hq))
  obtain⟨V6,hV6⟩:∃ W,W=w4.setCell ⟨fb,0,none⟩ (.slice a4 (nv+i+1) c4):=⟨_,rfl⟩
  rw [← hV6] at GA
  try rw [← hV6]
  clear R4 C4 F4 RW KB KB1 RHO t0 t1 t3 z0 z1 hV6
  have hbd:=GA.out
  have RHO:=zh hbd.rho
  have z0:V6.cell? ⟨fb,0,none⟩=some (.slice a4 (nv+i+1) c4):=hbd.fl.cell 0 _ rfl
  have hm1:(1:Int)≤((nv+i+1:Nat):Int):=by omega
  have hm2:((nv+i+1:Nat):Int)≤500001:=by omega
  have e1:(((nv+i+1:Nat):Int) - 1)=((nv+i:Nat):Int):=by omega
  have E1:=zh e1
  obtain⟨nq,hnq⟩:∃ q,q=nv+i+1:=⟨_,rfl⟩
  rw [← hnq] at z0 hm1 hm2 GA E1
  try rw [← hnq]
  have hwn:IntKind.i64.wrap ((nq:Int) - 1)=(nq:Int) - 1:=Lx.wrap_in _ (by omega)
  have B2:Hid (Below V6.heap.size V6 (V6.alloc (Obj.cells #[.int .i64 ((nq:Int) - 1)] 3))):=(zs9 _ _).alloc (zr4 _) _
  have X2:=zh (show (V6.alloc (Obj.cells #[.int .i64 ((nq:Int) - 1)] 3)).heap[V6.heap.size]?=some (.cells #[.int .i64 ((nq:Int) - 1)] 3 (0,0)) from zs2 V6 _)
  have KB2:=zh (GA.out.below B2.out)
  have NB2:Hid (i+1≤maxLen∧(i+1)*8≤140737488355328):=by show _∧_;have:=HNL.out;have:=HLT.out;simp only [maxLen];omega
  clear hbd e1 hnq
  go_wp2_with (at_builtin;refine wpList_append_rr rfl _ _ 40 rfl 3 i3 (.int .i64 0) 1 8 Tryz.underlying40 HI3.out.1 HI3.out.2.1 HI3.out.2.2.1 HI3.out.2.2.2 rfl (by decide) ρ4 9 (.slice la i lc) i (nats (List.range' st.vars.length i)) rfl KB2.out.row (fun k hk=>RHO.out k (zr5 B2.out.size hk)) ⟨V6.heap.size,0,none⟩ 1 1 [.int .i64 ((nq:Int) - 1)] rfl rfl (news1' X2.out) (fun u hu=>one1 rfl hu) NB2.out.1 NB2.out.2 ?_)
  intro a5 c5 w5 ρ5 hr5 hc5 hf5
  have GB:=zh (KB2.out.growB hc5 (by have h:=hr5;rw [E1.out,HNV.out] at h;exact h))
  clear hr5 hc5 hf5 KB2 RHO z0
  have hbd:=GB.out
  have z0:w5.cell? ⟨fb,0,none⟩=some (.slice a4 nq c4):=hbd.fl.cell 0 _ rfl
  obtain⟨hzl,ad,cc,hsl,hat⟩:=hbd.nms
  simp only [Value.slice.injEq] at hsl
  obtain⟨rfl,-,rfl⟩:=hsl
  obtain⟨g1,o1,hg1,hrg,hat2⟩:=hat (by have:=HNN.out;have:=HLT.out;omega)
  simp only [zt3] at hg1
  rw [Addr.mk.injEq] at hg1
  obtain⟨rfl,rfl,-⟩:=hg1
  have z1:=hat2 i _ (strs_at HX.out)
  clear hbd hzl hat hat2 hrg GA
  go_wp2_with fail
  go_region_held3 (fun w'=>w'.cell? ⟨fb,0,none⟩=some (.slice a4 nq c4)∧w'.cell? ⟨g,o+i,none⟩=some (.string x)) (first | exact⟨by assumption,by assumption⟩ | go_keep) (fail)
  have B3:Hid (Below w5.heap.size w5 ((w5.alloc (Obj.cells #[.string x,.int .i64 ((nq:Int) - 1),.pointer pa] 150)).drew)):=((zs9 _ _).alloc (zr4 _) _).drew
  have GC:=zh (GB.out.growC HX.out B3.out (b:=w5.heap.size) (by rw [← HNV.out,← E1.out];exact zs2 w5 (.cells #[.string x,.int .i64 ((nq:Int) - 1),.pointer pa] 150)) (zr4 _))
  clear GB z0 z1
  go_wp2_with fail
  go_roundw
  case rel=>exact⟨i+1,ρ5,_,HLT.out,by go_num,GC.out⟩
  case measure=>have:=HLT.out;simp [intOf];omega
 obtain rfl:i=n:=by have:=KI.out;omega
 have hlz:(i:Int)≤i:=by omega
 have hdi:decide ((i:Int)<i)=false:=by simp
 have hdi2:decide (i<i)=false:=by simp
 have etk:names.take i=names:=zr3 (by have:=HNN.out;omega)
 have F0:Hid (FlV V (rero ρ1) fb { st with vars:=st.vars++names } (.slice va (nv+i) vc) su sn sb sa so us ns bs os nb nb):=by
  have:=hbd.fl.re;rw [etk] at this;exact this
 have S0:Hid (ScR V (rero ρ1) (scope st.vars.length names sc) (.pointer pa)):=by
  have:=ScR.re hbd.scp;rw [etk] at this;exact this
 have Z0:Hid (ZA V (rero ρ1) (.slice la i lc) i (nats (List.range' st.vars.length i))):=ZA.of_rr hbd.row
 have C0:Hid (Ch BM ρ (rero ρ1) w V):=hbd.ch.re H9.out
 have N0:Hid (∀ k,rero ρ1 k≠9):=fun k=>re_ne ρ1 k
 obtain⟨ρr,hρr⟩:∃ r,r=rero ρ1:=⟨_,rfl⟩
 rw [← hρr] at F0 S0 Z0 C0 N0
 obtain⟨ba,bc,hsb⟩:=F0.out.binds.shape
 obtain⟨oa,oc,hso⟩:=F0.out.of.shape
 obtain⟨aa,ac,hsa⟩:=F0.out.after.shape
 obtain⟨ua,uc,hsu⟩:=F0.out.uses.shape
 replace hsb:sb = .slice ba nb bc:=by rw [hsb];show Value.slice ba st.binds.length bc=_;rw [← HNB.out]
 replace hsu:su = .slice ua nb uc:=by rw [hsu];show Value.slice ua st.uses.length uc=_;rw [HUB.out]
 subst hsb hso hsa hsu
 have hnbz:(nb:Int)≤100000:=by have:=HBL.out;omega
 have NB:Hid (nb+1≤maxLen∧(nb+1)*24≤140737488355328):=by show _∧_;have:=HBL.out;simp only [maxLen];omega
 have NB8:Hid (nb+1≤maxLen∧(nb+1)*8≤140737488355328):=by show _∧_;have:=HBL.out;simp only [maxLen];omega
 have B1:Hid (Below V.heap.size V (V.alloc (Obj.cells #[.slice la i lc] 40))):=(zs9 _ _).alloc (zr4 _) _
 have X1:=zh (show (V.alloc (Obj.cells #[.slice la i lc] 40)).heap[V.heap.size]?=some (.cells #[.slice la i lc] 40 (0,0)) from zs2 V _)
 have F1:=zh (F0.out.below B1.out C0.out.fresh)
 have z3:V.cell? ⟨fb,3,none⟩=some (.slice ba nb bc):=F0.out.cell 3 _ rfl
 have R1:Hid (RR (V.alloc (Obj.cells #[.slice la i lc] 40)) ρr 6 40 1 (.slice ba nb bc) nb bs):=by have:=F1.out.binds;rw [show ({ st with vars:=st.vars++names }:St).binds.length=nb from HNB.out.symm] at this;exact this
 clear hbd KB RHO hρr etk hlt KI
 go_wp2_with (at_builtin;refine wpList_append_rr rfl _ _ 39 rfl 40 i40 (.slice none 0 0) 1 24 Tryz.underlying39 HI40.out.1 HI40.out.2.1 HI40.out.2.2.1 HI40.out.2.2.2 rfl (by decide) ρr 6 (.slice ba nb bc) nb bs rfl R1.out (fun k hk=>C0.out.fresh k (zr5 B1.out.size hk)) ⟨V.heap.size,0,none⟩ 1 1 [.slice la i lc] rfl rfl (news1' X1.out) (fun u hu=>one1 rfl hu) NB.out.1 NB.out.2 ?_)
 intro a4 c4 w4 ρ4 hr4 hc4 hf4
 have y0:=hc4.keep F1.out.obj (by rw [F1.out.role];decide)
 have t0:w4.cell? ⟨fb,3,none⟩=some (.slice ba nb bc):=by rw [zb _ _ 3 _ _ _ y0];rfl
 have t3:w4.frozen? ⟨fb,3,none⟩=false:=zs1 _ _ 3 _ _ y0
 have c2:Ch (fun q=>q=6∨q=2) ρr ρ4 V (w4.setCell ⟨fb,3,none⟩ (.slice a4 (nb+1) c4)):=((Ch.of_below (M:=fun q=>q=6∨q=2) B1.out C0.out.fresh).trans (ch_put hc4 F1.out.lt F1.out.role))
 have F2:=zh (F1.out.putBinds (v' := .slice a4 (nb+1) c4) (x := .slice la i lc) (l:=List.range' st.vars.length i) hc4 (by rw [show ({ st with vars:=st.vars++names }:St).binds.length=nb from HNB.out.symm];exact hr4) (by rw [List.length_range'];exact Z0.out.keep (Ch.of_below (M:=fun _=>False) B1.out C0.out.fresh) id))
 have S2:=zh (ScR.keep c2 (by decide) S0.out)
 have C2:Hid (Ch BM ρ ρ4 w (w4.setCell ⟨fb,3,none⟩ (.slice a4 (nb+1) c4))):=C0.out.trans (c2.mono fun r hr=>by unfold BM;omega)
 have N2:Hid (∀ k,ρ4 k≠9):=n9_step hc4 N0.out (fun q hq=>hf4 q (by simpa using hq)) (by decide)
 clear hr4 hc4 hf4 y0 c2 z3 R1 F0 F1 S0 C0 N0 Z0 X1 B1
 go_upto_region 10 with fail
 obtain⟨V9,hV9⟩:∃ W,W=w4.setCell ⟨fb,3,none⟩ (.slice a4 (nb+1) c4):=⟨_,rfl⟩
 rw [← hV9] at F2 S2 C2
 try rw [← hV9]
 clear hV9 t0 t3
 have B1:Hid (Below V9.heap.size V9 (V9.alloc (Obj.cells #[.int .i64 of] 3))):=(zs9 _ _).alloc (zr4 _) _
 have X1:=zh (show (V9.alloc (Obj.cells #[.int .i64 of] 3)).heap[V9.heap.size]?=some (.cells #[.int .i64 of] 3 (0,0)) from zs2 V9 _)
 have F1:=zh (F2.out.below B1.out C2.out.fresh)
 have z5:V9.cell? ⟨fb,5,none⟩=some (.slice oa nb oc):=F2.out.cell 5 _ rfl
 go_wp2_with (at_builtin;refine wpList_append_rr rfl _ _ 40 rfl 3 i3 (.int .i64 0) 1 8 Tryz.underlying40 HI3.out.1 HI3.out.2.1 HI3.out.2.2.1 HI3.out.2.2.2 rfl (by decide) ρ4 8 (.slice oa nb oc) nb os rfl F1.out.of (fun k hk=>C2.out.fresh k (zr5 B1.out.size hk)) ⟨V9.heap.size,0,none⟩ 1 1 [.int .i64 of] rfl rfl (news1' X1.out) (fun u hu=>one1 rfl hu) NB8.out.1 NB8.out.2 ?_)
 intro a5 c5 w5 ρ5 hr5 hc5 hf5
 have y0:=hc5.keep F1.out.obj (by rw [F1.out.role];decide)
 have t0:w5.cell? ⟨fb,5,none⟩=some (.slice oa nb oc):=by rw [zb _ _ 5 _ _ _ y0];rfl
 have t3:w5.frozen? ⟨fb,5,none⟩=false:=zs1 _ _ 5 _ _ y0
 have c2:Ch (fun q=>q=8∨q=2) ρ4 ρ5 V9 (w5.setCell ⟨fb,5,none⟩ (.slice a5 (nb+1) c5)):=((Ch.of_below (M:=fun q=>q=8∨q=2) B1.out C2.out.fresh).trans (ch_put hc5 F1.out.lt F1.out.role))
 have F3:=zh (F1.out.putOf (v' := .slice a5 (nb+1) c5) hc5 hr5)
 have S3:=zh (ScR.keep c2 (by decide) S2.out)
 have C3:Hid (Ch BM ρ ρ5 w (w5.setCell ⟨fb,5,none⟩ (.slice a5 (nb+1) c5))):=C2.out.trans (c2.mono fun r hr=>by unfold BM;omega)
 have N3:Hid (∀ k,ρ5 k≠9):=n9_step hc5 N2.out (fun q hq=>hf5 q (by simpa using hq)) (by decide)
 clear hr5 hc5 hf5 y0 c2 z5 F1 F2 S2 C2 N2 X1 B1
 go_wp2_with fail
 obtain⟨V,hV⟩:∃ W,W=w5.setCell ⟨fb,5,none⟩ (.slice a5 (nb+1) c5):=⟨_,rfl⟩
 rw [← hV] at F3 S3 C3
 try rw [← hV]
 clear hV t0 t3
 have z1:V.cell? ⟨fb,1,none⟩=some (.slice ua nb uc):=F3.out.cell 1 _ rfl
 have z0:V.cell? ⟨fb,4,none⟩=some (.slice aa nb ac):=F3.out.cell 4 _ rfl
 have hb1:fb<V.heap.size:=zs3 V _ z0
 have B1:Hid (Below V.heap.size V ((V.alloc (Obj.cells #[.int .i64 (nb:Int)] 3)).drew)):=((zs9 _ _).alloc (zr4 _) _).drew
 have X1:=zh (show ((V.alloc (Obj.cells #[.int .i64 (nb:Int)] 3)).drew).heap[V.heap.size]?=some (.cells #[.int .i64 (nb:Int)] 3 (0,0)) from zs2 V (.cells #[.int .i64 (nb:Int)] 3))
 have F1:=zh (F3.out.below B1.out C3.out.fresh)
 refine wp_region_held_drew (S:=(fun w'=>w'.cell? ⟨fb,1,none⟩=some (.slice ua nb uc))) (by kernel_rfl) z1 (fun hHeld=>?_)
 have k0:=hHeld
 refine zs5 (i:=0) (v:=?_) rfl (by kernel_rfl) (by kernel_rfl) (by kernel_rfl) (fun _ _ _ h=>h) (Or.inl ⟨by rfl,?_⟩) k0 ?_
 rotate_left
 ·(intro wz hSw;have zk0:=hSw;(try simp only [zq1,zq2,zq3]);go_simp;try with_reducible rfl)
 try simp only [Act.put,zq1,zq2,zq3,zq4,zq5,zq6]
 refine zs5 (i:=1) (v:=?_) rfl (by kernel_rfl) (by kernel_rfl) (by kernel_rfl) (fun _ _ _ h=>h) (Or.inl ⟨by rfl,?_⟩) k0 ?_
 rotate_left
 ·(intro wz hSw;have zk0:=hSw;(try simp only [zq1,zq2,zq3]);go_simp;try with_reducible rfl)
 try simp only [Act.put,zq1,zq2,zq3,zq4,zq5,zq6]
 refine zs5 (i:=2) (v:=?_) rfl (by kernel_rfl) (by kernel_rfl) (by kernel_rfl) (fun _ _ _ h=>h) (Or.inl ⟨by rfl,?_⟩) k0 ?_
 rotate_left
 ·(intro wz hSw;have zk0:=hSw;(try simp only [zq1,zq2,zq3]);go_simp;try with_reducible rfl)
 try simp only [Act.put,zq1,zq2,zq3,zq4,zq5,zq6]
 refine zs5 (i:=3) (v:=?_) rfl (by kernel_rfl) (by kernel_rfl) (by kernel_rfl) (fun _ _ _ h=>h) (Or.inl ⟨by rfl,?_⟩) k0 ?_
 rotate_left
 ·(intro wz hSw;have zk0:=hSw;(try simp only [zq1,zq2,zq3]);go_simp;try with_reducible rfl)
 try simp only [Act.put,zq1,zq2,zq3,zq4,zq5,zq6]
 refine zs5 (i:=5) (v:=?_) rfl (by kernel_rfl) (by kernel_rfl) (by kernel_rfl) (fun _ _ _ h=>h) (Or.inl ⟨by rfl,?_⟩) k0 ?_
 rotate_left
 ·(intro wz hSw;have zk0:=hSw;(try simp only [zq1,zq2,zq3]);go_simp;try with_reducible rfl)
 try simp only [Act.put,zq1,zq2,zq3,zq4,zq5,zq6]
 refine zs5 (i:=6) (v:=?_) rfl (by kernel_rfl) (by kernel_rfl) (by kernel_rfl) (fun _ _ _ h=>h) (Or.inl ⟨by rfl,?_⟩) k0 ?_
 rotate_left
 ·(intro wz hSw;have zk0:=hSw;(try simp only [zq1,zq2,zq3]);go_simp;try with_reducible rfl)
 try simp only [Act.put,zq1,zq2,zq3,zq4,zq5,zq6]
 refine zs5 (i:=7) (v:=?_) rfl (by kernel_rfl) (by kernel_rfl) (by kernel_rfl) (fun _ _ _ h=>h) (Or.inl ⟨by rfl,?_⟩) k0 ?_
 rotate_left
 ·(intro wz hSw;have zk0:=hSw;(try simp only [zq1,zq2,zq3]);go_simp;try with_reducible rfl)
 try simp only [Act.put,zq1,zq2,zq3,zq4,zq5,zq6]
 refine zs5 (i:=8) (v:=?_) rfl (by kernel_rfl) (by kernel_rfl) (by kernel_rfl) (fun _ _ _ h=>h) (Or.inl ⟨by rfl,?_⟩) k0 ?_
 rotate_left
 ·(intro wz hSw;have zk0:=hSw;(try simp only [zq1,zq2,zq3]);go_simp;try with_reducible rfl)
 try simp only [Act.put,zq1,zq2,zq3,zq4,zq5,zq6]
 refine zs5 (i:=9) (v:=?_) rfl (by kernel_rfl) (by kernel_rfl) (by kernel_rfl) (fun _ _ _ h=>h) (Or.inl ⟨by rfl,?_⟩) k0 ?_
 rotate_left
 ·(intro wz hSw;have zk0:=hSw;(try simp only [zq1,zq2,zq3]);go_simp;try with_reducible rfl)
 try simp only [Act.put,zq1,zq2,zq3,zq4,zq5,zq6]
 refine zs6 (rs:=[4,10]) (by kernel_rfl) (by simp) ?_
 refine zs7 rfl (fun K hK=>?_) (zs7 rfl (fun K hK=>?_) zs8)
 ·try simp only [zq1,zq2,zq3]
  go_simp
  refine hK.out _ _ ?hs (fun hHeld=>?_)
  case hs=>exact k0
  clear hK K k0
  have k0:=hHeld
  try simp only [Act.put,zq1,zq2,zq3,zq4,zq5,zq6]
  refine zs6 (rs:=[10]) (by kernel_rfl) (by simp) ?_
  refine zs7 rfl (fun K hK=>?_) zs8
  try simp only [zq1,zq2,zq3]
  go_simp
  refine hK.out _ _ ?hs (fun hHeld=>?_)
  case hs=>first | exact zs4 _ k0 | go_keep
  clear hK K k0
  have k0:=hHeld
  try simp only [Act.put,zq1,zq2,zq3,zq4,zq5,zq6]
  refine zs6 (rs:=[11]) (by kernel_rfl) (by simp) ?_
  refine zs7 rfl (fun K hK=>?_) zs8
  refine step_append_rr rfl _ _ 40 rfl 3 i3 (.int .i64 0) 1 8 Tryz.underlying40 HI3.out.1 HI3.out.2.1 HI3.out.2.2.1 HI3.out.2.2.2 rfl (by decide) ρ5 7 (.slice aa nb ac) nb (nats (List.range nb)) rfl F1.out.after (fun k hk=>C3.out.fresh k (zr5 B1.out.size hk)) ⟨V.heap.size,0,none⟩ 1 1 [.int .i64 (nb:Int)] rfl rfl (news1' X1.out) (fun u hu=>one1 rfl hu) NB8.out.1 NB8.out.2 ?_
  intro a6 c6 w6 ρ6 hr6 hc6 hf6
  have y0:=hc6.keep F1.out.obj (by rw [F1.out.role];decide)
  have t0:w6.cell? ⟨fb,4,none⟩=some (.slice aa nb ac):=by rw [zb _ _ 4 _ _ _ y0];rfl
  have t1:w6.cell? ⟨fb,1,none⟩=some (.slice ua nb uc):=by rw [zb _ _ 1 _ _ _ y0];rfl
  have t3:w6.frozen? ⟨fb,4,none⟩=false:=zs1 _ _ 4 _ _ y0
  have c2:Ch (fun q=>q=7∨q=2) ρ5 ρ6 V (w6.setCell ⟨fb,4,none⟩ (.slice a6 (nb+1) c6)):=((Ch.of_below (M:=fun q=>q=7∨q=2) B1.out C3.out.fresh).trans (ch_put hc6 F1.out.lt F1.out.role))
  have F4:=zh (F1.out.putAfter (v' := .slice a6 (nb+1) c6) hc6 hr6)
  have S4:=zh (ScR.keep c2 (by decide) S3.out)
  have C4:Hid (Ch BM ρ ρ6 w (w6.setCell ⟨fb,4,none⟩ (.slice a6 (nb+1) c6))):=C3.out.trans (c2.mono fun r hr=>by unfold BM;omega)
  have N4:Hid (∀ k,ρ6 k≠9):=n9_step hc6 N3.out (fun q hq=>hf6 q (by simpa using hq)) (by decide)
  clear hr6 hc6 hf6 y0 c2
  (try simp only [])
  refine hK.out _ _ ?hs (fun hHeld=>?_)
  case hs=>exact t1
  clear hK K k0
  have k0:=hHeld
  try simp only [Act.put,zq1,zq2,zq3,zq4,zq5,zq6]
  refine zs5 (i:=12) (v:=?_) rfl (by kernel_rfl) (by kernel_rfl) (by kernel_rfl) (fun _ _ _ h=>h) (Or.inl ⟨by rfl,?_⟩) k0 ?_
  rotate_left
  ·(intro wz hSw;have zk0:=hSw;(try simp only [zq1,zq2,zq3]);go_simp;try with_reducible rfl)
  try simp only [Act.put,zq1,zq2,zq3,zq4,zq5,zq6]
  refine zs5 (i:=13) (v:=?_) rfl (by kernel_rfl) (by kernel_rfl) (by kernel_rfl) (fun _ _ _ h=>h) (Or.inl ⟨by rfl,?_⟩) k0 ?_
  rotate_left
  ·(intro wz hSw;have zk0:=hSw;(try simp only [zq1,zq2,zq3]);go_simp;try with_reducible rfl)
  try simp only [Act.put,zq1,zq2,zq3,zq4,zq5,zq6]
  refine zs6 (rs:=[14]) (by kernel_rfl) (by simp) ?_
  refine zs7 rfl (fun K hK=>?_) zs8
  try simp only [zq1,zq2,zq3]
  go_simp
  refine hK.out _ _ ?hs (fun hHeld=>?_)
  case hs=>first | assumption | (rw [World.cell?_setCell_other _ _ _ _ (by intro hh;rw [Addr.mk.injEq] at hh;exact absurd hh.2.1 (by decide))];assumption)
  clear hK K hHeld k0
  refine wpAnyH_done (by kernel_rfl) ?_ _
  obtain⟨V8,hV8⟩:∃ W,W=w6.setCell ⟨fb,4,none⟩ (.slice a6 (nb+1) c6):=⟨_,rfl⟩
  rw [← hV8] at F4 S4 C4
  try rw [← hV8]
  clear hV8 t0 t1 t3 z0 z1 F1 F3 S3 C3 N3 X1 B1
  go_wp2_with fail
  go_ret
  have h4:=F4.out
  have hbe:(st.bind names).binds.length=nb+1:=by show (st.binds++[_]).length=_;rw [zr2,List.length_singleton,← HNB.out]
  rw [← hbe,HNN.out] at h4
  exact⟨ρ6,pa,rfl,C4.out,N4.out,⟨_,_,_,_,_,_,_,_,_,_,h4⟩,S4.out⟩
 try simp only [zq1,zq2,zq3]
 go_simp
 refine hK.out _ _ ?hs (fun hHeld=>?_)
 case hs=>first | exact zs4 _ k0 | go_keep
 clear hK K k0
 have k0:=hHeld
 try simp only [Act.put,zq1,zq2,zq3,zq4,zq5,zq6]
 refine zs6 (rs:=[4]) (by kernel_rfl) (by simp) ?_
 refine zs7 rfl (fun K hK=>?_) zs8
 try simp only [zq1,zq2,zq3]
 go_simp
 refine hK.out _ _ ?hs (fun hHeld=>?_)
 case hs=>exact k0
 clear hK K k0
 have k0:=hHeld
 try simp only [Act.put,zq1,zq2,zq3,zq4,zq5,zq6]
 refine zs6 (rs:=[11]) (by kernel_rfl) (by simp) ?_
 refine zs7 rfl (fun K hK=>?_) zs8
 refine step_append_rr rfl _ _ 40 rfl 3 i3 (.int .i64 0) 1 8 Tryz.underlying40 HI3.out.1 HI3.out.2.1 HI3.out.2.2.1 HI3.out.2.2.2 rfl (by decide) ρ5 7 (.slice aa nb ac) nb (nats (List.range nb)) rfl F1.out.after (fun k hk=>C3.out.fresh k (zr5 B1.out.size hk)) ⟨V.heap.size,0,none⟩ 1 1 [.int .i64 (nb:Int)] rfl rfl (news1' X1.out) (fun u hu=>one1 rfl hu) NB8.out.1 NB8.out.2 ?_
 intro a6 c6 w6 ρ6 hr6 hc6 hf6
 have y0:=hc6.keep F1.out.obj (by rw [F1.out.role];decide)
 have t0:w6.cell? ⟨fb,4,none⟩=some (.slice aa nb ac):=by rw [zb _ _ 4 _ _ _ y0];rfl
 have t1:w6.cell? ⟨fb,1,none⟩=some (.slice ua nb uc):=by rw [zb _ _ 1 _ _ _ y0];rfl
 have t3:w6.frozen? ⟨fb,4,none⟩=false:=zs1 _ _ 4 _ _ y0
 have c2:Ch (fun q=>q=7∨q=2) ρ5 ρ6 V (w6.setCell ⟨fb,4,none⟩ (.slice a6 (nb+1) c6)):=((Ch.of_below (M:=fun q=>q=7∨q=2) B1.out C3.out.fresh).trans (ch_put hc6 F1.out.lt F1.out.role))
 have F4:=zh (F1.out.putAfter (v' := .slice a6 (nb+1) c6) hc6 hr6)
 have S4:=zh (ScR.keep c2 (by decide) S3.out)
 have C4:Hid (Ch BM ρ ρ6 w (w6.setCell ⟨fb,4,none⟩ (.slice a6 (nb+1) c6))):=C3.out.trans (c2.mono fun r hr=>by unfold BM;omega)
 have N4:Hid (∀ k,ρ6 k≠9):=n9_step hc6 N3.out (fun q hq=>hf6 q (by simpa using hq)) (by decide)
 clear hr6 hc6 hf6 y0 c2
 (try simp only [])
 refine hK.out _ _ ?hs (fun hHeld=>?_)
 case hs=>exact t1
 clear hK K k0
 have k0:=hHeld
 try simp only [Act.put,zq1,zq2,zq3,zq4,zq5,zq6]
 refine zs5 (i:=12) (v:=?_) rfl (by kernel_rfl) (by kernel_rfl) (by kernel_rfl) (fun _ _ _ h=>h) (Or.inl ⟨by rfl,?_⟩) k0 ?_
 rotate_left
 ·(intro wz hSw;have zk0:=hSw;(try simp only [zq1,zq2,zq3]);go_simp;try with_reducible rfl)
 try simp only [Act.put,zq1,zq2,zq3,zq4,zq5,zq6]
 refine zs5 (i:=13) (v:=?_) rfl (by kernel_rfl) (by kernel_rfl) (by kernel_rfl) (fun _ _ _ h=>h) (Or.inl ⟨by rfl,?_⟩) k0 ?_
 rotate_left
 ·(intro wz hSw;have zk0:=hSw;(try simp only [zq1,zq2,zq3]);go_simp;try with_reducible rfl)
 try simp only [Act.put,zq1,zq2,zq3,zq4,zq5,zq6]
 refine zs6 (rs:=[14]) (by kernel_rfl) (by simp) ?_
 refine zs7 rfl (fun K hK=>?_) zs8
 try simp only [zq1,zq2,zq3]
 go_simp
 refine hK.out _ _ ?hs (fun hHeld=>?_)
 case hs=>first | assumption | (rw [World.cell?_setCell_other _ _ _ _ (by intro hh;rw [Addr.mk.injEq] at hh;exact absurd hh.2.1 (by decide))];assumption)
 clear hK K hHeld k0
 refine wpAnyH_done (by kernel_rfl) ?_ _
 obtain⟨V8,hV8⟩:∃ W,W=w6.setCell ⟨fb,4,none⟩ (.slice a6 (nb+1) c6):=⟨_,rfl⟩
 rw [← hV8] at F4 S4 C4
 try rw [← hV8]
 clear hV8 t0 t1 t3 z0 z1 F1 F3 S3 C3 N3 X1 B1
 go_wp2_with fail
 go_ret
 have h4:=F4.out
 have hbe:(st.bind names).binds.length=nb+1:=by show (st.binds++[_]).length=_;rw [zr2,List.length_singleton,← HNB.out]
 rw [← hbe,HNN.out] at h4
 exact⟨ρ6,pa,rfl,C4.out,N4.out,⟨_,_,_,_,_,_,_,_,_,_,h4⟩,S4.out⟩
end Go.Proofs.YtnkahlloahgifaaGreatDoor

namespace RG
theorem TB.kids_one (n:Nm):∀ (b:TB) (p:List Nm×TE),p∈b.kids n→p.1=[n]
 | .nil,p,h=>by simp [TB.kids] at h
 | .cons e r,p,h=>by
  rw [TB.kids] at h
  rcases List.mem_cons.1 h with rfl | h
  ·rfl
  exact TB.kids_one n r p h
theorem nodeOk_iff {e:TE}:nodeOk e=true↔(1≤e.kind∧e.kind≤10)∧(e.body.length=if e.kind≤6 then 1 else 0)∧e.args.length≤16 ∧
  if e.kind=7 then e.args.length=1∧(e.args.headD ⟨#[]⟩).size≠0∧1≤e.arms.length∧e.arms.length≤16∧∀ p∈e.arms.kids,p.1.length≤16 else e.arms.length=0:=by
 obtain⟨k,n,xs,arms,body⟩:=e
 have e1:nodeOk (.mk k n xs arms body)=(decide (1≤k)&&decide (k≤10)&&((decide (1≤k)&&decide (k≤6))==(body.length==1))&&decide (body.length≤1)&&(if k=7 then xs.length==1&&((xs.headD ⟨#[]⟩).size != 0)&&decide (1≤arms.length)&&decide (arms.length≤16) else arms.length==0&&decide (xs.length≤16))&&((body.kids n++arms.kids).all fun p=>decide (p.1.length≤16))):=rfl
 have hb:((body.kids n).all fun p=>decide (p.1.length≤16))=true:=by
  rw [List.all_eq_true]
  intro p hp
  rw [TB.kids_one n body p hp];rfl
 have hnil:arms.length=0→arms.kids=[]:=fun h=>by cases arms with
  | nil=>rfl
  | cons vs e r=>simp [TA.length] at h
 rw [e1,List.all_append,hb,Bool.true_and]
 show _↔(1≤k∧k≤10)∧(body.length=if k≤6 then 1 else 0)∧xs.length≤16 ∧
  if k=7 then xs.length=1∧(xs.headD ⟨#[]⟩).size≠0∧1≤arms.length∧arms.length≤16∧∀ p∈arms.kids,p.1.length≤16 else arms.length=0
 generalize body.length=nb
 have key:(decide (1≤k)=true∧((decide (1≤k)&&decide (k≤6))==(nb==1))=true∧nb≤1)↔(1≤k∧nb=if k≤6 then 1 else 0):=by
  rw [decide_eq_true_eq]
  by_cases h1:1≤k
  ·by_cases h6:k≤6
   ·rw [if_pos h6]
    simp only [h1,h6,decide_true,Bool.and_true,true_and]
    constructor
    ·rintro ⟨h,_⟩;simpa using h
    rintro rfl;exact⟨rfl,Nat.le_refl _⟩
   rw [if_neg h6]
   simp only [h1,h6,decide_true,decide_false,Bool.and_false,true_and]
   constructor
   ·rintro ⟨h,h2⟩
    have:¬ nb=1:=by rintro rfl;cases h
    omega
   rintro rfl;exact⟨rfl,Nat.zero_le _⟩
  simp [h1]
 by_cases h7:k=7
 ·rw [if_pos h7,if_pos h7]
  simp only [Bool.and_eq_true,decide_eq_true_eq,beq_iff_eq,bne_iff_ne,List.all_eq_true] at key ⊢
  constructor
  ·rintro ⟨⟨⟨⟨⟨h1,h2⟩,h3⟩,h4⟩,⟨⟨h5,h6⟩,h8⟩,h9⟩,h10⟩
   obtain⟨a,b⟩:=key.1 ⟨h1,h3,h4⟩
   exact⟨⟨h1,h2⟩,b,by omega,h5,h6,h8,h9,h10⟩
  rintro ⟨⟨h1,h2⟩,h3,h4,h5,h6,h8,h9,h10⟩
  obtain⟨a,b,c⟩:=key.2 ⟨h1,h3⟩
  exact⟨⟨⟨⟨⟨h1,h2⟩,b⟩,c⟩,⟨⟨h5,h6⟩,h8⟩,h9⟩,h10⟩
 rw [if_neg h7,if_neg h7]
 simp only [Bool.and_eq_true,decide_eq_true_eq,beq_iff_eq,bne_iff_ne,List.all_eq_true] at key ⊢
 constructor
 ·rintro ⟨⟨⟨⟨⟨h1,h2⟩,h3⟩,h4⟩,h5,h6⟩,h10⟩
  obtain⟨a,b⟩:=key.1 ⟨h1,h3,h4⟩
  exact⟨⟨h1,h2⟩,b,h6,h5⟩
 rintro ⟨⟨h1,h2⟩,h3,h4,h5⟩
 obtain⟨a,b,c⟩:=key.2 ⟨h1,h3⟩
 exact⟨⟨⟨⟨⟨h1,h2⟩,b⟩,c⟩,h5,h4⟩,by rw [hnil h5];intro p hp;cases hp⟩
theorem sizes_take {l:List (List Nm×TE)}{i:Nat}{p:List Nm×TE}(h:l[i]?=some p):sizes (l.take (i+1))=sizes (l.take i)+p.2.size:=by
 rw [List.take_add_one,h,zr];simp [zg,zw]
theorem sizes_take_le {l:List (List Nm×TE)}(i:Nat):sizes (l.take i)≤sizes l:=by
 have:=zr (l.take i) (l.drop i)
 rw [List.take_append_drop] at this
 omega
end RG
namespace Go.Proofs.YtnkahlloahgifaaGreatDoor
open Go.RowKit RG Go.Maps RF
def TB.nth:TB→Nat→Option TE
 | .nil,_=>none
 | .cons e _,0=>some e
 | .cons _ r,k+1=>TB.nth r k
theorem TB.nth_kids (n:Nm):∀ (b:TB) (k:Nat),(b.kids n)[k]?=(TB.nth b k).map fun e=>([n],e)
 | .nil,k=>by simp [TB.kids,TB.nth]
 | .cons e r,0=>by simp [TB.kids,TB.nth]
 | .cons e r,k+1=>by simp [TB.kids,TB.nth,TB.nth_kids n r k]
theorem TBAt.nth {w:World}:∀ (a:TB) (g o k:Nat) (e:TE),TBAt w a g o→TB.nth a k=some e→TEAt w e g (o+k*8)
 | .nil,g,o,k,e,_,h=>by simp [TB.nth] at h
 | .cons e' r,g,o,0,e,h,hk=>by
  simp only [TB.nth,zt3] at hk
  subst hk
  rw [TBAt] at h
  rw [Nat.zero_mul,Nat.add_zero]
  exact h.1
 | .cons e' r,g,o,k+1,e,h,hk=>by
  simp only [TB.nth] at hk
  rw [TBAt] at h
  have:=TBAt.nth r g (o+8) k e h.2 hk
  rw [show o+8+k*8=o+(k+1)*8 from by omega] at this
  exact this
structure TEX (w:World) (e:TE) (xa aa ab:Option Addr) (xc:Nat):Prop where
 atoms:AtomsAt w (.slice xa e.args.length xc) e.args
 arms:0<e.arms.length→∃ g o,aa=some ⟨g,o,none⟩∧TAAt w e.arms g o
 body:0<e.body.length→∃ g o,ab=some ⟨g,o,none⟩∧TBAt w e.body g o
abbrev teV (e:TE) (op:ByteArray) (num site:Int) (xa aa ab:Option Addr) (xc ca cb:Nat):Value :=
 .agg #[.int .i64 e.kind,.string e.name,.string op,.int .i64 num,.int .i64 site,.slice xa e.args.length xc,.slice aa e.arms.length ca,.slice ab e.body.length cb]
theorem TEX.kept {w w':World}{e:TE}{xa aa ab:Option Addr}{xc:Nat}(h:TEX w e xa aa ab xc) (hb:Kept w w'):TEX w' e xa aa ab xc :=
 ⟨h.atoms.kept hb,fun h0=>by obtain⟨g,o,a,b⟩:=h.arms h0;exact⟨g,o,a,TAAt.kept hb _ _ _ b⟩,fun h0=>by obtain⟨g,o,a,b⟩:=h.body h0;exact⟨g,o,a,TBAt.kept hb _ _ _ b⟩⟩
structure TEC (w:World) (e:TE) (b o:Nat) (op:ByteArray) (num site:Int) (xa aa ab:Option Addr) (xc ca cb:Nat):Prop where
 c0:w.cell? ⟨b,o,none⟩=some (.int .i64 e.kind)
 c1:w.cell? ⟨b,o+1,none⟩=some (.string e.name)
 c2:w.cell? ⟨b,o+2,none⟩=some (.string op)
 c3:w.cell? ⟨b,o+3,none⟩=some (.int .i64 num)
 c4:w.cell? ⟨b,o+4,none⟩=some (.int .i64 site)
 c5:w.cell? ⟨b,o+5,none⟩=some (.slice xa e.args.length xc)
 c6:w.cell? ⟨b,o+6,none⟩=some (.slice aa e.arms.length ca)
 c7:w.cell? ⟨b,o+7,none⟩=some (.slice ab e.body.length cb)
theorem TEC.kept {w w':World}{e:TE}{b o:Nat}{op:ByteArray}{num site:Int}{xa aa ab:Option Addr}{xc ca cb:Nat}(h:TEC w e b o op num site xa aa ab xc ca cb) (hb:Kept w w'):TEC w' e b o op num site xa aa ab xc ca cb :=
 ⟨hb _ _ h.c0,hb _ _ h.c1,hb _ _ h.c2,hb _ _ h.c3,hb _ _ h.c4,hb _ _ h.c5,hb _ _ h.c6,hb _ _ h.c7⟩
theorem TEAt.cells {w:World}{e:TE}{b o:Nat}(h:TEAt w e b o):∃ op num site xa aa ab xc ca cb,TEC w e b o op num site xa aa ab xc ca cb∧TEX w e xa aa ab xc:=by
 obtain⟨k,n,xs,arms,body⟩:=e
 rw [TEAt] at h
 obtain⟨op,num,site,va,aa,ab,ca,cb,ga,oa,gb,ob,⟨c0,c1,c2,c3⟩,⟨c4,c5,c6,c7⟩,h1,h2,h3,h4,h5⟩:=h
 obtain⟨xa,xc,e1,h1'⟩:=h1.at'
 subst e1
 exact⟨op,num,site,xa,aa,ab,xc,ca,cb,⟨c0,c1,c2,c3,c4,c5,c6,c7⟩,h1,fun h=>⟨ga,oa,h2 h,h3⟩,fun h=>⟨gb,ob,h4 h,h5⟩⟩
theorem TEC.load {w:World}{e:TE}{b o:Nat}{op:ByteArray}{num site:Int}{xa aa ab:Option Addr}{xc ca cb:Nat}(h:TEC w e b o op num site xa aa ab xc ca cb):(loadVar 27 ⟨b,o,none⟩).run Tryz.prog w = .ok (teV e op num site xa aa ab xc ca cb) w:=by
 obtain⟨c0,c1,c2,c3,c4,c5,c6,c7⟩:=h
 simp [loadVar,go_sem,c0,c1,c2,c3,c4,c5,c6,c7]
end Go.Proofs.YtnkahlloahgifaaGreatDoor

namespace Go.Proofs.YtnkahlloahgifaaGreatDoor
open Go.RowKit RG Go.Maps RF
theorem no_of {v:Bool}{P:Prop}(h:v=true↔P) (hn:¬ P):v=false:=by
 cases v with
 | false=>rfl
 | true=>exact absurd (h.1 rfl) hn
theorem yes_of {v:Bool}{P:Prop}(h:v=true↔P) (hp:P):v=true:=h.2 hp
def BoP (w:World) (v:Value) (e:Ending) (w':World):Prop:=e = .returned v∧Below w.heap.size w w'
theorem shaped_any {w:World}{e:TE}{op:ByteArray}{num site:Int}{xa aa ab:Option Addr}{xc ca cb:Nat}(h:TEX w e xa aa ab xc):Calls Tryz.prog 82 #[teV e op num site xa aa ab xc ca cb] w (BoP w (.bool (nodeOk e))):=by
 obtain⟨v,hv⟩:∃ v,v=nodeOk e:=⟨_,rfl⟩
 rw [← hv]
 have hform := @nodeOk_iff e
 rw [← hv] at hform
 have HAT:=zh h.atoms
 have HAR:=zh h.arms
 show Calls Tryz.prog 82 #[.agg #[.int .i64 e.kind,.string e.name,.string op,.int .i64 num,.int .i64 site,.slice xa e.args.length xc,.slice aa e.arms.length ca,.slice ab e.body.length cb]] w _
 obtain⟨k,hk⟩:∃ x,x=e.kind:=⟨_,rfl⟩
 obtain⟨nm,hnm⟩:∃ x,x=e.name:=⟨_,rfl⟩
 obtain⟨hdn,hhd⟩:∃ x,x=e.args.headD ⟨#[]⟩:=⟨_,rfl⟩
 obtain⟨ng,hng⟩:∃ x,x=e.args.length:=⟨_,rfl⟩
 obtain⟨na,hna⟩:∃ x,x=e.arms.length:=⟨_,rfl⟩
 obtain⟨nb,hnb⟩:∃ x,x=e.body.length:=⟨_,rfl⟩
 rw [← hk,← hng,← hna,← hnb,← hhd] at hform
 rw [← hk,← hnm,← hng,← hna,← hnb]
 rw [← hna] at HAR
 rw [← hng] at HAT
 have HV:=zh hform
 have HNG:=zh hng
 have HNA:=zh hna
 have HH:=zh hhd
 have B0:Hid (Below w.heap.size w (w.alloc (.cells #[.int .i64 k,.string nm,.string op,.int .i64 num,.int .i64 site,.slice xa ng xc,.slice aa na ca,.slice ab nb cb] 27))):=(zs9 _ _).alloc (zr4 _) _
 clear h hv hform hk hnm hhd hng hna hnb
 by_cases k1:k<1
 ·have d1:decide (1≤k)=false:=by simp;omega
  have d2:decide (k<1)=true:=by simp;omega
  have E:Hid (v=false):=no_of HV.out (by intro h;have:=h.1.1;omega)
  clear k1
  go_enter Tryz.func82,Tryz.ntmps82
  go_wp2_with fail
  go_ret
  exact⟨by rw [E.out];rfl,B0.out⟩
 have d1:decide (1≤k)=true:=by simp;omega
 have d2:decide (k<1)=false:=by simp;omega
 by_cases k2:10<k
 ·have d3:decide (k≤6)=false:=by simp;omega
  have d4:decide (10<k)=true:=by simp;omega
  have E:Hid (v=false):=no_of HV.out (by intro h;have:=h.1.2;omega)
  clear k1 k2
  go_enter Tryz.func82,Tryz.ntmps82
  go_wp2_with fail
  go_ret
  exact⟨by rw [E.out];rfl,B0.out⟩
 have d4:decide (10<k)=false:=by simp;omega
 by_cases k6:k≤6
 ·have d3:decide (k≤6)=true:=by simp;omega
  by_cases b1:nb=1
  ·have d5:((nb:Int) != 1)=false:=by simp [b1]
   by_cases g1:16<ng
   ·have d6:decide (16<(ng:Int))=true:=by simp;omega
    have E:Hid (v=false):=no_of HV.out (by intro h;have:=h.2.2.1;omega)
    clear k1 k2 k6 b1 g1
    go_enter Tryz.func82,Tryz.ntmps82
    go_wp2_with fail
    go_ret
    exact⟨by rw [E.out];rfl,B0.out⟩
   have d6:decide (16<(ng:Int))=false:=by simp;omega
   have d7:(k != 7)=true:=by simp;omega
   have k7:k≠7:=by omega
   by_cases a1:na=0
   ·have d8:((na:Int)==0)=true:=by simp [a1]
    have E:Hid (v=true):=yes_of HV.out (by refine⟨by omega,?_,by omega,by rw [if_neg k7];exact a1⟩;first | (rw [if_pos (by omega)];exact b1) | (rw [if_neg (by omega)];exact b1))
    clear k1 k2 k6 b1 g1 k7 a1
    go_enter Tryz.func82,Tryz.ntmps82
    go_wp2_with fail
    go_ret
    exact⟨by rw [E.out];rfl,B0.out⟩
   have d8:((na:Int)==0)=false:=by simp;omega
   have E:Hid (v=false):=no_of HV.out (by intro h;have:=h.2.2.2;rw [if_neg k7] at this;exact a1 this)
   clear k1 k2 k6 b1 g1 k7 a1
   go_enter Tryz.func82,Tryz.ntmps82
   go_wp2_with fail
   go_ret
   exact⟨by rw [E.out];rfl,B0.out⟩
  have d5:((nb:Int) != 1)=true:=by simp;omega
  have E:Hid (v=false):=no_of HV.out (by intro h;have:=h.2.1;rw [if_pos k6] at this;omega)
  clear k1 k2 k6 b1
  go_enter Tryz.func82,Tryz.ntmps82
  go_wp2_with fail
  go_ret
  exact⟨by rw [E.out];rfl,B0.out⟩
 have d3:decide (k≤6)=false:=by simp;omega
 by_cases k7:k=7
 ·skip
  by_cases b1:nb=0
  ·have d5:((nb:Int) != 0)=false:=by simp [b1]
   by_cases g1:16<ng
   ·have d6:decide (16<(ng:Int))=true:=by simp;omega
    have E:Hid (v=false):=no_of HV.out (by intro h;have:=h.2.2.1;omega)
    clear k1 k2 k6 k7 b1 g1
    go_enter Tryz.func82,Tryz.ntmps82
    go_wp2_with fail
    go_ret
    exact⟨by rw [E.out];rfl,B0.out⟩
   have d6:decide (16<(ng:Int))=false:=by simp;omega
   have d7:(k != 7)=false:=by simp [k7]
   have H7:Hid (v=true↔ng=1∧hdn.size≠0∧1≤na∧na≤16∧∀ p∈e.arms.kids,p.1.length≤16):=by
    show _↔_
    rw [HV.out,if_pos k7,if_neg (by omega)]
    exact⟨fun h=>h.2.2.2,fun h=>⟨by omega,b1,by omega,h⟩⟩
   clear k1 k2 k6 k7 b1 g1
   by_cases n1:ng=1
   ·have d8:((ng:Int) != 1)=false:=by simp [n1]
    obtain⟨ad,c,hsl,hat⟩:=HAT.out.at'
    simp only [Value.slice.injEq] at hsl
    obtain⟨rfl,-,rfl⟩:=hsl
    obtain⟨g,q,rfl,hat2⟩:=hat (by rw [← HNG.out];omega)
    obtain⟨mm,hm,_⟩:=hat2 0 hdn (by rw [HH.out];have:=HNG.out;cases hx:e.args with | nil=>rw [hx] at this;simp at this;omega | cons a t=>rfl)
    rw [Nat.zero_mul,Nat.add_zero] at hm
    have hm:=zd B0.out _ _ hm
    have i1:(0:Int)<ng:=by omega
    have i2:0<ng:=by omega
    have N1:=zh n1
    clear hat hat2 n1
    by_cases s0:hdn.size=0
    ·have c2:hdn.toList.isEmpty=true:=toList_empty s0
     have E:Hid (v=false):=no_of H7.out (by intro h;exact h.2.1 s0)
     clear s0
     go_enter Tryz.func82,Tryz.ntmps82
     go_wp2_with fail
     go_ret
     exact⟨by rw [E.out];rfl,B0.out⟩
    have c2:hdn.toList.isEmpty=false:=toList_full s0
    by_cases a1:na<1
    ·have c3:decide ((na:Int)<1)=true:=by simp;omega
     have E:Hid (v=false):=no_of H7.out (by intro h;have:=h.2.2.1;omega)
     clear s0 a1
     go_enter Tryz.func82,Tryz.ntmps82
     go_wp2_with fail
     go_ret
     exact⟨by rw [E.out];rfl,B0.out⟩
    have c3:decide ((na:Int)<1)=false:=by simp;omega
    by_cases a2:16<na
    ·have c4:decide (16<(na:Int))=true:=by simp;omega
     have E:Hid (v=false):=no_of H7.out (by intro h;have:=h.2.2.2.1;omega)
     clear s0 a1 a2
     go_enter Tryz.func82,Tryz.ntmps82
     go_wp2_with fail
     go_ret
     exact⟨by rw [E.out];rfl,B0.out⟩
    have c4:decide (16<(na:Int))=false:=by simp;omega
    have H8:Hid (v=true↔∀ p∈e.arms.kids,p.1.length≤16):=by
     show _↔_
     rw [H7.out]
     exact⟨fun h=>h.2.2.2.2,fun h=>⟨N1.out,s0,by omega,by omega,h⟩⟩
    have hnz:(na:Int)≤16:=by omega
    obtain⟨ga,oa,rfl,hta⟩:=HAR.out (by omega)
    have HTA:=zh hta
    clear s0 a1 a2 hta
    go_enter Tryz.func82,Tryz.ntmps82
    go_wp2_with fail
    go_loopw [4] (fun iv wr=>∃ i:Nat,i≤na∧iv = .int .i64 i∧wr=w.alloc (.cells #[.int .i64 k,.string nm,.string op,.int .i64 num,.int .i64 site,.slice (some ⟨g,q,none⟩) ng xc,.slice (some ⟨ga,oa,none⟩) na ca,.slice ab nb cb] 27)∧∀ (j:Nat) (p:List Nm×TE),j<i→e.arms.kids[j]?=some p→p.1.length≤16) (fun iv _=>na - (intOf iv).toNat)
    case atStart=>exact⟨0,Nat.zero_le _,rfl,rfl,fun j p h=>absurd h (Nat.not_lt_zero _)⟩
    obtain⟨i,hi,rfl,rfl,hall⟩:=hrel
    have KI:=zh hi
    have AL:=zh hall
    clear hi hall
    by_cases hlt:i<na
    ·have hlz:(i:Int)<na:=by omega
     have hi0:(0:Int)≤i:=by omega
     have HLT:=zh hlt
     obtain⟨⟨vs,te⟩,hp⟩:∃ p,e.arms.kids[i]?=some p:=⟨_,zq9 (by rw [TA.kids_length,← HNA.out];exact hlt)⟩
     obtain⟨⟨con,vv,y0,y1,hst⟩,-⟩:=TAAt.nth e.arms ga oa i vs te HTA.out (by rw [← TA.nth_kids];exact hp)
     obtain⟨_,sa,sc,rfl,_⟩:=hst
     have y1:=zd B0.out _ _ y1
     obtain⟨nv,hnv⟩:∃ x,x=vs.length:=⟨_,rfl⟩
     rw [← hnv] at y1
     have HP:=zh hp
     have HNV:=zh hnv
     clear hlt hp y0 hnv
     by_cases v1:16<nv
     ·have c5:decide (16<(nv:Int))=true:=by simp;omega
      have E:Hid (v=false):=no_of H8.out (fun h=>by have:=h _ (zr1 HP.out);have:=HNV.out;simp only [] at *;omega)
      clear v1
      go_wp2_with fail
      go_ret
      exact⟨by rw [E.out];rfl,B0.out⟩
     have c5:decide (16<(nv:Int))=false:=by simp;omega
     have AX:Hid (∀ (j:Nat) (p:List Nm×TE),j<i+1→e.arms.kids[j]?=some p→p.1.length≤16):=fun j p h1 h2=>by
      by_cases e0:j=i
      ·subst e0
       rw [HP.out,zt3] at h2
       subst h2
       have:=HNV.out;simp only [];omega
      exact AL.out j p (by omega) h2
     clear v1
     go_wp2_with fail
     go_roundw
     case rel=>exact⟨i+1,HLT.out,by go_num,by first | rfl | trivial,AX.out⟩
     case measure=>have:=HLT.out;simp [intOf];omega
    have hlz:(na:Int)≤i:=by omega
    have E:Hid (v=true):=yes_of H8.out (fun p hp=>by
     obtain⟨j,hj⟩:=List.mem_iff_getElem?.1 hp
     exact AL.out j p (by have:=(zq8.1 hj).1;rw [TA.kids_length,← HNA.out] at this;omega) hj)
    clear hlt
    go_wp2_with fail
    go_ret
    exact⟨by rw [E.out];rfl,B0.out⟩
   have d8:((ng:Int) != 1)=true:=by simp;omega
   have E:Hid (v=false):=no_of H7.out (by intro h;exact n1 h.1)
   clear n1
   go_enter Tryz.func82,Tryz.ntmps82
   go_wp2_with fail
   go_ret
   exact⟨by rw [E.out];rfl,B0.out⟩
  have d5:((nb:Int) != 0)=true:=by simp;omega
  have E:Hid (v=false):=no_of HV.out (by intro h;have:=h.2.1;rw [if_neg k6] at this;omega)
  clear k1 k2 k6 k7 b1
  go_enter Tryz.func82,Tryz.ntmps82
  go_wp2_with fail
  go_ret
  exact⟨by rw [E.out];rfl,B0.out⟩
 skip
 by_cases b1:nb=0
 ·have d5:((nb:Int) != 0)=false:=by simp [b1]
  by_cases g1:16<ng
  ·have d6:decide (16<(ng:Int))=true:=by simp;omega
   have E:Hid (v=false):=no_of HV.out (by intro h;have:=h.2.2.1;omega)
   clear k1 k2 k6 b1 g1
   go_enter Tryz.func82,Tryz.ntmps82
   go_wp2_with fail
   go_ret
   exact⟨by rw [E.out];rfl,B0.out⟩
  have d6:decide (16<(ng:Int))=false:=by simp;omega
  have d7:(k != 7)=true:=by simp;omega
  have k7:k≠7:=by omega
  by_cases a1:na=0
  ·have d8:((na:Int)==0)=true:=by simp [a1]
   have E:Hid (v=true):=yes_of HV.out (by refine⟨by omega,?_,by omega,by rw [if_neg k7];exact a1⟩;first | (rw [if_pos (by omega)];exact b1) | (rw [if_neg (by omega)];exact b1))
   clear k1 k2 k6 b1 g1 k7 a1
   go_enter Tryz.func82,Tryz.ntmps82
   go_wp2_with fail
   go_ret
   exact⟨by rw [E.out];rfl,B0.out⟩
  have d8:((na:Int)==0)=false:=by simp;omega
  have E:Hid (v=false):=no_of HV.out (by intro h;have:=h.2.2.2;rw [if_neg k7] at this;exact a1 this)
  clear k1 k2 k6 b1 g1 k7 a1
  go_enter Tryz.func82,Tryz.ntmps82
  go_wp2_with fail
  go_ret
  exact⟨by rw [E.out];rfl,B0.out⟩
 have d5:((nb:Int) != 0)=true:=by simp;omega
 have E:Hid (v=false):=no_of HV.out (by intro h;have:=h.2.1;rw [if_neg k6] at this;omega)
 clear k1 k2 k6 b1
 go_enter Tryz.func82,Tryz.ntmps82
 go_wp2_with fail
 go_ret
 exact⟨by rw [E.out];rfl,B0.out⟩
theorem sizes_len:∀ l:List (List Nm×TE),l.length≤sizes l
 | []=>Nat.zero_le _
 | p :: l=>by
  have:=sizes_len l
  have:=p.2.size_pos
  rw [zg,List.length_cons];omega
def MsP (w:World) (b c:Nat) (e:TE) (en:Ending) (w':World):Prop :=
 w.grownBy w' (some b)∧((c+e.size≤20000∧en = .returned (.bool true)∧w'.cell? ⟨b,0,none⟩=some (.int .i64 ((c+e.size:Nat):Int))∧w'.frozen? ⟨b,0,none⟩=false)∨(20000<c+e.size∧en = .returned (.bool false)))
theorem measure_any (N:Nat):∀ (e:TE),e.size≤N→∀ {W w:World}{op:ByteArray}{num site:Int}{xa aa ab:Option Addr}{xc ca cb b c:Nat}{d:Int},TEX W e xa aa ab xc→Below W.heap.size W w→W.heap.size≤b →
  w.cell? ⟨b,0,none⟩=some (.int .i64 (c:Int))→w.frozen? ⟨b,0,none⟩=false→c≤20000→0≤d→d≤c+1→Calls Tryz.prog 50 #[teV e op num site xa aa ab xc ca cb,.int .i64 d,.pointer (some ⟨b,0,none⟩)] w (MsP w b c e):=by
 induction N with
 | zero=>intro e hN;have:=e.size_pos;omega
 | succ N ih =>
  intro e hN W w op num site xa aa ab xc ca cb b c d hx hB hb hc hf hc2 hd0 hd
  have IH:=zh ih
  clear ih
  have HAR:=zh hx.arms
  have HBO:=zh hx.body
  have hsz:e.size=sizes (e.body.kids e.name)+sizes e.arms.kids+1:=by rw [TB.sizes_kids,TA.sizes_kids];cases e;rfl
  have HSZ:=zh hsz
  have HNN:=zh hN
  have HB:=zh hB
  have HBB:=zh hb
  show Calls Tryz.prog 50 #[.agg #[.int .i64 e.kind,.string e.name,.string op,.int .i64 num,.int .i64 site,.slice xa e.args.length xc,.slice aa e.arms.length ca,.slice ab e.body.length cb],.int .i64 d,.pointer (some ⟨b,0,none⟩)] w _
  obtain⟨k,hk⟩:∃ x,x=e.kind:=⟨_,rfl⟩
  obtain⟨nm,hnm⟩:∃ x,x=e.name:=⟨_,rfl⟩
  obtain⟨ng,hng⟩:∃ x,x=e.args.length:=⟨_,rfl⟩
  obtain⟨na,hna⟩:∃ x,x=e.arms.length:=⟨_,rfl⟩
  obtain⟨nb,hnb⟩:∃ x,x=e.body.length:=⟨_,rfl⟩
  rw [← hk,← hnm,← hng,← hna,← hnb]
  rw [← hna] at HAR
  rw [← hnb] at HBO
  have HNA:=zh hna
  have HNB:=zh hnb
  have HC2:=zh hc2
  have hblt:b<w.heap.size:=zs3 w _ hc
  have hcz:(c:Int)≤20000:=by omega
  have hpos:=e.size_pos
  have HPOS:=zh hpos
  obtain⟨w0,hw0⟩:∃ x,x=w.alloc (.cells #[.int .i64 k,.string nm,.string op,.int .i64 num,.int .i64 site,.slice xa ng xc,.slice aa na ca,.slice ab nb cb] 27):=⟨_,rfl⟩
  have O0:Hid (w0.heap[w.heap.size]?=some (.cells #[.int .i64 k,.string nm,.string op,.int .i64 num,.int .i64 site,.slice xa ng xc,.slice aa na ca,.slice ab nb cb] 27 (0,0))):=by show _=_;rw [hw0];exact zs2 w _
  have hb0:w0.heap[b]?=w.heap[b]?:=by rw [hw0];exact zt2 _ _ _ hblt
  have c0:w0.cell? ⟨b,0,none⟩=some (.int .i64 (c:Int)):=(World.cell?_of_block (a:=⟨b,0,none⟩) hb0).trans hc
  have f0:w0.frozen? ⟨b,0,none⟩=false:=(World.frozen?_of_block (a:=⟨b,0,none⟩) hb0).trans hf
  have G0:Hid (w.grownBy w0 (some b)):=by rw [hw0];exact World.grownBy_alloc _ _ _
  have BLT:=zh hblt
  have bne:b≠w.heap.size:=by omega
  have HD:=zh hd
  clear hx hsz hN hB hb hk hnm hng hna hnb hc hf hb0 hpos
  have O1:Hid ((w0.setCell ⟨b,0,none⟩ (.int .i64 ((c:Int)+1))).heap[w.heap.size]?=some (.cells #[.int .i64 k,.string nm,.string op,.int .i64 num,.int .i64 site,.slice xa ng xc,.slice aa na ca,.slice ab nb cb] 27 (0,0))):=(zt1 _ _ _ _ (by show w.heap.size≠b;omega)).trans O0.out
  have C1:Hid ((w0.setCell ⟨b,0,none⟩ (.int .i64 ((c:Int)+1))).cell? ⟨b,0,none⟩=some (.int .i64 ((c:Int)+1))):=World.cell?_setCell_same _ _ _ c0
  have F1:Hid ((w0.setCell ⟨b,0,none⟩ (.int .i64 ((c:Int)+1))).frozen? ⟨b,0,none⟩=false):=by show _=_;rw [World.frozen?_setCell];exact f0
  have G1:Hid (w.grownBy (w0.setCell ⟨b,0,none⟩ (.int .i64 ((c:Int)+1))) (some b)):=grown_trans G0.out (grown_setCell w0 ⟨b,0,none⟩ _) (fun r e=>by simp at e;exact .inl e.symm)
  by_cases hbig:20000<c+1
  ·have d1:decide (20000<(c:Int)+1)=true:=by simp;omega
   have E:Hid (20000<c+e.size):=by show _<_;have:=HPOS.out;omega
   clear hbig
   go_enter Tryz.func50,Tryz.ntmps50
   go_upto_region 1 with fail
   rw [← hw0]
   clear hw0
   go_wp2_with fail
   go_ret
   exact⟨G1.out,.inr ⟨E.out,rfl⟩⟩
  have d1:decide (20000<(c:Int)+1)=false:=by simp;omega
  have d2:decide (20000<d)=false:=by simp;omega
  have hC1:c+1≤20000:=by omega
  have HC1:=zh hC1
  have hd2:d≤20000:=by omega
  clear hbig
  go_enter Tryz.func50,Tryz.ntmps50
  go_upto_region 1 with fail
  rw [← hw0]
  clear hw0
  go_wp2_with fail
  go_loopw [7] (fun iv wr=>∃ i t:Nat,i≤na∧iv = .int .i64 i∧t=c+1+sizes (e.arms.kids.take i)∧t≤20000∧wr.cell? ⟨b,0,none⟩=some (.int .i64 (t:Int))∧wr.frozen? ⟨b,0,none⟩=false∧w.grownBy wr (some b)∧wr.heap[w.heap.size]?=some (.cells #[.int .i64 k,.string nm,.string op,.int .i64 num,.int .i64 site,.slice xa ng xc,.slice aa na ca,.slice ab nb cb] 27 (0,0))) (fun iv _=>na - (intOf iv).toNat)
  case atStart=>exact⟨0,c+1,Nat.zero_le _,rfl,by simp [zw],HC1.out,C1.out,F1.out,G1.out,O1.out⟩
  obtain⟨i,t,hi,rfl,ht,htl,hcl,hfr,hg,ho⟩:=hrel
  have KI:=zh hi
  have HT:=zh ht
  have HTL:=zh htl
  have HCL:=zh hcl
  have HFR:=zh hfr
  have HG:=zh hg
  have HO:=zh ho
  have z6:wr.cell? ⟨w.heap.size,6,none⟩=some (.slice aa na ca):=by rw [zb _ _ _ _ _ _ ho];rfl
  have z7:wr.cell? ⟨w.heap.size,7,none⟩=some (.slice ab nb cb):=by rw [zb _ _ _ _ _ _ ho];rfl
  have BW:Hid (Below W.heap.size W wr):=HB.out.grown hg HB.out.size (fun r e=>by simp at e;have:=HBB.out;omega)
  clear hi ht htl hcl hfr hg ho c0 f0
  rename World=>wA
  by_cases hlt:i<na
  ·have hlz:(i:Int)<na:=by omega
   have hiz:(i:Int)≤20000:=by have h1:=sizes_len (e.arms.kids.take i);rw [List.length_take,TA.kids_length,← HNA.out] at h1;have:=HT.out;have:=HTL.out;omega
   have hi0:(0:Int)≤i:=by omega
   have HLT:=zh hlt
   obtain⟨ga,oa,rfl,hta⟩:=HAR.out (by omega)
   obtain⟨⟨vs,te⟩,hp⟩:∃ p,e.arms.kids[i]?=some p:=⟨_,zq9 (by rw [TA.kids_length,← HNA.out];exact hlt)⟩
   obtain⟨-,hte⟩:=TAAt.nth e.arms ga oa i vs te hta (by rw [← TA.nth_kids];exact hp)
   obtain⟨op1,num1,site1,xa1,aa1,ab1,xc1,ca1,cb1,hcs,hx1⟩:=hte.cells
   obtain⟨q0,q1,q2,q3,q4,q5,q6,q7⟩:=hcs.kept (zd BW.out)
   have hsum:=sizes_take hp
   have hle:=sizes_take_le (l:=e.arms.kids) (i+1)
   simp only [] at hsum
   have HP:Hid (sizes (e.arms.kids.take (i+1))=sizes (e.arms.kids.take i)+te.size):=hsum
   have CL:=zh (IH.out te (by have:=HSZ.out;have:=HNN.out;omega) (op:=op1) (num:=num1) (site:=site1) (ca:=ca1) (cb:=cb1) (d:=d+1) hx1 BW.out HBB.out HCL.out HFR.out HTL.out (by omega) (by have:=HT.out;have:=HD.out;omega))
   have SUM:Hid (c+1+sizes (e.arms.kids.take i)+te.size≤c+e.size):=by show _≤_;have:=HSZ.out;omega
   clear hlt hta hp hte hcs hx1 hsum hle
   go_wp2_with fail
   refine CL.out.mono ?_
   rintro en w2 ⟨hg2,⟨h1,rfl,h2,h3⟩|⟨h1,rfl⟩⟩
   ·have G2:Hid (w.grownBy w2 (some b)):=grown_trans HG.out hg2 (fun r e=>by simp at e;exact .inl e.symm)
    have O2:Hid (w2.heap[w.heap.size]?=some (.cells #[.int .i64 k,.string nm,.string op,.int .i64 num,.int .i64 site,.slice xa ng xc,.slice (some ⟨ga,oa,none⟩) na ca,.slice ab nb cb] 27 (0,0))):=(hg2.block _ (zq7.1 HO.out).1 (fun e=>by simp at e;have:=BLT.out;omega)).trans HO.out
    have K1:=zh h1
    have K2:=zh h2
    have K3:=zh h3
    clear hg2 h1 h2 h3 z6 z7 q0 q1 q2 q3 q4 q5 q6 q7
    go_wp2_with fail
    go_roundw
    case rel=>exact⟨i+1,t+te.size,HLT.out,by go_num,by have:=HT.out;have:=HP.out;omega,K1.out,K2.out,K3.out,G2.out,O2.out⟩
    case measure=>have:=HLT.out;simp [intOf];omega
   have G2:Hid (w.grownBy w2 (some b)):=grown_trans HG.out hg2 (fun r e=>by simp at e;exact .inl e.symm)
   have E:Hid (20000<c+e.size):=by show _<_;have:=SUM.out;have:=HT.out;omega
   clear hg2 h1 z6 z7 q0 q1 q2 q3 q4 q5 q6 q7
   go_wp2_with fail
   go_ret
   exact⟨G2.out,.inr ⟨E.out,rfl⟩⟩
  have hlz:(na:Int)≤i:=by omega
  have hdi:decide (i<na)=false:=by simp;omega
  have HT2:Hid (t=c+1+sizes e.arms.kids):=by
   show _=_
   rw [HT.out,zr3 (by rw [TA.kids_length,← HNA.out];omega)]
  clear hlt HT
  go_wp2_with fail
  go_loopw [8] (fun iv wr=>∃ i s:Nat,i≤nb∧iv = .int .i64 i∧s=t+sizes ((e.body.kids e.name).take i)∧s≤20000∧wr.cell? ⟨b,0,none⟩=some (.int .i64 (s:Int))∧wr.frozen? ⟨b,0,none⟩=false∧w.grownBy wr (some b)∧wr.heap[w.heap.size]?=some (.cells #[.int .i64 k,.string nm,.string op,.int .i64 num,.int .i64 site,.slice xa ng xc,.slice aa na ca,.slice ab nb cb] 27 (0,0))) (fun iv _=>nb - (intOf iv).toNat)
  case atStart=>exact⟨0,t,Nat.zero_le _,rfl,by simp [zw],HTL.out,HCL.out,HFR.out,HG.out,HO.out⟩
  obtain⟨i2,s,hi,rfl,hs,hsl,hcl,hfr,hg,ho⟩:=hrel
  have KI2:=zh hi
  have HS:=zh hs
  have HSL:=zh hsl
  have HCL2:=zh hcl
  have HFR2:=zh hfr
  have HG2:=zh hg
  have HO2:=zh ho
  clear z6 z7
  have z7:wr.cell? ⟨w.heap.size,7,none⟩=some (.slice ab nb cb):=by rw [zb _ _ _ _ _ _ ho];rfl
  have BW2:Hid (Below W.heap.size W wr):=HB.out.grown hg HB.out.size (fun r e=>by simp at e;have:=HBB.out;omega)
  clear hi hs hsl hcl hfr hg ho
  by_cases hlt:i2<nb
  ·have hlz2:(i2:Int)<nb:=by omega
   have hiz:(i2:Int)≤20000:=by have h1:=sizes_len ((e.body.kids e.name).take i2);rw [List.length_take,TB.kids_length,← HNB.out] at h1;have:=HS.out;have:=HSL.out;omega
   have hi0:(0:Int)≤i2:=by omega
   have HLT:=zh hlt
   obtain⟨gb,ob,rfl,htb⟩:=HBO.out (by omega)
   obtain⟨p,hp⟩:∃ p,(e.body.kids e.name)[i2]?=some p:=⟨_,zq9 (by rw [TB.kids_length,← HNB.out];exact hlt)⟩
   obtain⟨te,hn,rfl⟩:∃ te,TB.nth e.body i2=some te∧p=([e.name],te):=by
    rw [TB.nth_kids] at hp
    obtain⟨te,h1,h2⟩:=Option.map_eq_some_iff.1 hp
    exact⟨te,h1,h2.symm⟩
   have hte:=TBAt.nth e.body gb ob i2 te htb hn
   obtain⟨op1,num1,site1,xa1,aa1,ab1,xc1,ca1,cb1,hcs,hx1⟩:=hte.cells
   obtain⟨q0,q1,q2,q3,q4,q5,q6,q7⟩:=hcs.kept (zd BW2.out)
   have hsum:=sizes_take hp
   have hle:=sizes_take_le (l:=e.body.kids e.name) (i2+1)
   simp only [] at hsum
   have HP:Hid (sizes ((e.body.kids e.name).take (i2+1))=sizes ((e.body.kids e.name).take i2)+te.size):=hsum
   have CL:=zh (IH.out te (by have:=HSZ.out;have:=HNN.out;omega) (op:=op1) (num:=num1) (site:=site1) (ca:=ca1) (cb:=cb1) (d:=d+1) hx1 BW2.out HBB.out HCL2.out HFR2.out HSL.out (by omega) (by have:=HS.out;have:=HT2.out;have:=HD.out;omega))
   have SUM:Hid (t+sizes ((e.body.kids e.name).take i2)+te.size≤c+e.size):=by show _≤_;have:=HSZ.out;have:=HT2.out;omega
   clear hlt htb hp hn hte hcs hx1 hsum hle
   go_wp2_with fail
   refine CL.out.mono ?_
   rintro en w2 ⟨hg2,⟨h1,rfl,h2,h3⟩|⟨h1,rfl⟩⟩
   ·have G2:Hid (w.grownBy w2 (some b)):=grown_trans HG2.out hg2 (fun r e=>by simp at e;exact .inl e.symm)
    have O2:Hid (w2.heap[w.heap.size]?=some (.cells #[.int .i64 k,.string nm,.string op,.int .i64 num,.int .i64 site,.slice xa ng xc,.slice aa na ca,.slice (some ⟨gb,ob,none⟩) nb cb] 27 (0,0))):=(hg2.block _ (zq7.1 HO2.out).1 (fun e=>by simp at e;have:=BLT.out;omega)).trans HO2.out
    have K1:=zh h1
    have K2:=zh h2
    have K3:=zh h3
    clear hg2 h1 h2 h3 z7 q0 q1 q2 q3 q4 q5 q6 q7
    go_wp2_with fail
    go_roundw
    case rel=>exact⟨i2+1,s+te.size,HLT.out,by go_num,by have:=HS.out;have:=HP.out;omega,K1.out,K2.out,K3.out,G2.out,O2.out⟩
    case measure=>have:=HLT.out;simp [intOf];omega
   have G2:Hid (w.grownBy w2 (some b)):=grown_trans HG2.out hg2 (fun r e=>by simp at e;exact .inl e.symm)
   have E:Hid (20000<c+e.size):=by show _<_;have:=SUM.out;have:=HS.out;omega
   clear hg2 h1 z7 q0 q1 q2 q3 q4 q5 q6 q7
   go_wp2_with fail
   go_ret
   exact⟨G2.out,.inr ⟨E.out,rfl⟩⟩
  have hlz2:(nb:Int)≤i2:=by omega
  have hdi2:decide (i2<nb)=false:=by simp;omega
  have SE:Hid (s=c+e.size):=by
   show _=_
   have h1:=HS.out
   rw [zr3 (by rw [TB.kids_length,← HNB.out];omega)] at h1
   have:=HT2.out;have:=HSZ.out;omega
  clear hlt
  go_wp2_with fail
  go_ret
  exact⟨HG2.out,.inl ⟨by have:=SE.out;have:=HSL.out;omega,rfl,by rw [← SE.out];exact HCL2.out,HFR2.out⟩⟩
end Go.Proofs.YtnkahlloahgifaaGreatDoor
