/- Part. -/
import Derived.Test.YtnkahlloahgifaaGreatDoorVLxN
import Derived.Lib.SlicesS
import Derived.Test.YtnkahlloahgifaaGreatDoorVShelf
import Derived.Test.YtnkahlloahgifaaGreatDoorVCb
import Derived.Test.YtnkahlloahgifaaGreatDoorVDa
import Derived.Deep.Cut
import Derived.Test.YtnkahlloahgifaaGreatDoorVEa
import Derived.Test.YtnkahlloahgifaaGreatDoorVFb
import Derived.OwnWalkIn
set_option linter.unusedSimpArgs false
set_option linter.unusedVariables false
namespace Go.Proofs.YtnkahlloahgifaaGreatDoor.Lx
namespace LX
def kindOf (l:List Nat):Nat:=if 24<l.length then 0 else match scan l with
 | .ok [t] _=>if t.text=l then t.kind else 0
 | _=>0
def Bt (ts:List Tok):Prop:=∀ t∈ts,∀ c∈t.text,c<256
theorem sc_bytes (T:List Nat) (hT:∀ c∈T,c<256):∀ (n j:Nat),T.length - j=n→∀ ts cs,sc T j = .ok ts cs→Bt ts:=by
 intro n
 induction n using Nat.strongRecOn with
 | ind n ih =>
  intro j hn ts cs h
  rcases Nat.lt_or_ge j T.length with hj | hj
  ·rw [sc_step hj] at h
   split at h
   ·exact ih _ (by omega) (j+1) rfl ts cs h
   ·split at h
    ·cases hc:cmt (T.drop j) 0 0 with
     | fin m =>
      rw [hc] at h
      simp only [] at h
      have h0:=cmt_fin hc
      cases hs:sc T (j+m) with
      | ok t2 c2 =>
       rw [hs] at h
       simp only [Res.app,Res.ok.injEq,List.nil_append] at h
       rw [← h.1]
       exact ih _ (by omega) (j+m) rfl t2 c2 hs
      | bad p e=>rw [hs] at h;cases h
     | deep m=>rw [hc] at h;cases h
     | never=>rw [hc] at h;cases h
    ·cases hc:token (T.drop j) with
     | tok k v m =>
      rw [hc] at h
      simp only [] at h
      have h0:=token_len hc
      cases hs:sc T (j+m) with
      | ok t2 c2 =>
       rw [hs] at h
       simp only [Res.app,Res.ok.injEq,List.cons_append,List.nil_append] at h
       rw [← h.1]
       intro t ht
       rcases List.mem_cons.1 ht with rfl | ht
       ·intro c hc
        exact hT c (List.mem_of_mem_drop (List.mem_of_mem_take hc))
       ·exact ih _ (by omega) (j+m) rfl t2 c2 hs t ht
      | bad p e=>rw [hs] at h;cases h
     | bad e=>rw [hc] at h;cases h
  ·rw [sc_end hj] at h
   cases h
   intro t ht
   cases ht
theorem token_bad {l:List Nat}{e:Nat}(h:token l = .bad e):e=2∨e=11∨e=13:=by
 have hm:∀ k n,made k n = .bad e→e=2:=fun k n h=>by
  unfold made at h
  split at h
  ·cases h;rfl
  ·cases h
 have hn:∀ k,named k l = .bad e→e=2:=fun k h=>by
  unfold named at h
  cases hq:made k (nameLen l) with
  | bad e2=>rw [hq] at h;cases h;exact hm _ _ hq
  | tok a b c=>rw [hq] at h;cases h
 cases l with
 | nil=>cases h;exact .inr (.inl rfl)
 | cons c t =>
  unfold token at h
  simp only [] at h
  split at h
  ·unfold number at h
   simp only [] at h
   split at h
   ·cases h;exact .inr (.inr rfl)
   ·split at h
    ·cases h
    ·split at h
     ·cases h;exact .inr (.inr rfl)
     ·cases h
  ·split at h
   ·exact .inl (hn _ h)
   ·split at h
    ·exact .inl (hn _ h)
    ·split at h
     ·exact .inl (hm _ _ h)
     ·split at h
      ·cases h
      ·split at h
       ·cases h
       ·cases h;exact .inr (.inl rfl)
theorem cmt_deep_lt:∀ (l:List Nat) (d n m:Nat),cmt l d n = .deep m→n≤m∧m<n+l.length
 | [],_,_,_,h=>by cases h
 | [_],_,_,_,h=>by cases h
 | a :: b :: t,d,n,m,h=>by
  rw [cmt] at h
  simp only [List.length_cons]
  split at h
  ·split at h
   ·cases h;omega
   ·have:=cmt_deep_lt t _ _ _ h;omega
  ·split at h
   ·split at h
    ·cases h
    ·have:=cmt_deep_lt t _ _ _ h;omega
   ·have:=cmt_deep_lt (b :: t) _ _ _ h
    simp only [List.length_cons] at this
    omega
theorem sc_bad (T:List Nat):∀ (n j:Nat),T.length - j=n→∀ p e,sc T j = .bad p e→(e=2∨e=6∨e=11∨e=12∨e=13)∧j≤p∧p<T.length:=by
 intro n
 induction n using Nat.strongRecOn with
 | ind n ih =>
  intro j hn p e h
  rcases Nat.lt_or_ge j T.length with hj | hj
  ·rw [sc_step hj] at h
   split at h
   ·have:=ih _ (by omega) (j+1) rfl p e h
    exact⟨this.1,by omega,this.2.2⟩
   ·split at h
    ·cases hc:cmt (T.drop j) 0 0 with
     | fin m =>
      rw [hc] at h
      simp only [] at h
      have h0:=cmt_fin hc
      cases hs:sc T (j+m) with
      | ok t2 c2=>rw [hs] at h;cases h
      | bad p2 e2 =>
       rw [hs] at h
       simp only [Res.app,Res.bad.injEq] at h
       obtain⟨rfl,rfl⟩:=h
       have:=ih _ (by omega) (j+m) rfl p2 e2 hs
       exact⟨this.1,by omega,this.2.2⟩
     | deep m =>
      rw [hc] at h
      simp only [Res.bad.injEq] at h
      obtain⟨rfl,rfl⟩:=h
      have:=cmt_deep_lt _ _ _ _ hc
      rw [List.length_drop] at this
      exact⟨.inr (.inl rfl),by omega,by omega⟩
     | never =>
      rw [hc] at h
      simp only [Res.bad.injEq] at h
      obtain⟨rfl,rfl⟩:=h
      exact⟨.inr (.inr (.inr (.inl rfl))),by omega,by omega⟩
    ·cases hc:token (T.drop j) with
     | tok k v m =>
      rw [hc] at h
      simp only [] at h
      have h0:=token_len hc
      cases hs:sc T (j+m) with
      | ok t2 c2=>rw [hs] at h;cases h
      | bad p2 e2 =>
       rw [hs] at h
       simp only [Res.app,Res.bad.injEq] at h
       obtain⟨rfl,rfl⟩:=h
       have:=ih _ (by omega) (j+m) rfl p2 e2 hs
       exact⟨this.1,by omega,this.2.2⟩
     | bad e2 =>
      rw [hc] at h
      simp only [Res.bad.injEq] at h
      obtain⟨rfl,rfl⟩:=h
      refine⟨?_,by omega,by omega⟩
      rcases token_bad hc with h | h | h
      ·exact .inl h
      ·exact .inr (.inr (.inl h))
      ·exact .inr (.inr (.inr (.inr h)))
  ·rw [sc_end hj] at h
   cases h
theorem scan_bad {T:List Nat}{p e:Nat}(h:scan T = .bad p e):(e=2∨e=6∨e=11∨e=12∨e=13)∧p<T.length :=
 ⟨(sc_bad T _ 0 rfl p e h).1,(sc_bad T _ 0 rfl p e h).2.2⟩
end LX
open Go.RowKit
theorem bts_small (s:ByteArray):∀ c∈bts s,c<256:=by
 intro c hc
 unfold bts at hc
 obtain⟨u,_,rfl⟩:=List.mem_map.1 hc
 exact u.toNat_lt
theorem bts_ofB {l:List Nat}(h:∀ c∈l,c<256):bts (ofB l)=l:=by
 unfold bts ofB
 simp only [List.map_map]
 conv=>rhs;rw [← List.map_id l]
 refine List.map_congr_left fun c hc=>?_
 simp only [Function.comp,id]
 rw [UInt8.toNat_ofNat']
 exact Nat.mod_eq_of_lt (h c hc)
theorem scan_bytes (s:ByteArray):LX.Bt (LX.scan (bts s)).toks:=by
 cases h:LX.scan (bts s) with
 | ok ts cs=>exact LX.sc_bytes (bts s) (bts_small s) _ 0 rfl ts cs h
 | bad p e=>intro t ht;cases ht
theorem owns_cells {w:World}{base e size n:Nat}{a:Option Addr}{c:Nat}{xs:List Value}(h:w.ownsRow base e size (.slice a n c) n xs) (hn:0<n) :
  ∃ g,a=some ⟨g,0,none⟩∧base≤g∧g<w.heap.size∧n≤c∧∀ j u,xs[j]?=some u→w.cell? ⟨g,j,none⟩=some u:=by
 rcases h.2 with ⟨hv,h0⟩|⟨g,cap,cur,hv,hb,hg,hnc,_,hcs,htake⟩
 ·omega
 ·simp only [Value.slice.injEq] at hv
  obtain⟨rfl,_,rfl⟩:=hv
  refine⟨g,rfl,hb,(Array.getElem?_eq_some_iff.1 hg).1,hnc,fun j u hu=>?_⟩
  have hj:j<n*size:=by rw [← h.1];exact(List.getElem?_eq_some_iff.1 hu).1
  rw [cell_of_row w g j cur e (0,0) hg,← Array.getElem?_toList]
  rw [← htake,List.getElem?_take,if_pos hj] at hu
  exact hu
def KPost (w:World) (s:ByteArray) (e:Ending) (w':World):Prop:=e = .returned (.int .i64 (LX.kindOf (bts s)))∧Below w.heap.size w w'
set_option maxHeartbeats 400000 in
set_option maxRecDepth 20000 in
theorem kind_any {w:World}(henv:Env w) (s:ByteArray) (hmax:s.size≤9223372036854775807):Calls Tryz.prog 117 #[.string s] w (KPost w s):=by
 obtain⟨r,hr⟩:∃ r,r=LX.kindOf (bts s):=⟨_,rfl⟩
 unfold KPost
 rw [← hr]
 unfold LX.kindOf at hr
 rw [bts_length] at hr
 by_cases hs:24<s.size
 ·rw [if_pos hs] at hr
  subst hr
  have hz:(24:Int)<(s.size:Int):=by omega
  clear hs
  go_enter Tryz.func117,Tryz.ntmps117
  go_wp2_with fail
  go_ret
  exact⟨rfl,Below.refl _ _⟩
 ·rw [if_neg hs] at hr
  have hz:(s.size:Int)≤24:=by omega
  have SC:=Lib.hid (scanned_any henv s (by omega))
  have BY:=Lib.hid (scan_bytes s)
  have HR:=Lib.hid hr
  clear hs hr
  go_enter Tryz.func117,Tryz.ntmps117
  go_wp2_with fail
  refine SC.out.mono ?_
  intro e w1 hp
  unfold SPost at hp
  cases hq:LX.scan (bts s) with
  | bad p er =>
   rw [hq] at hp
   have h0:r=0:=by rw [HR.out,hq]
   subst h0
   obtain⟨b,rfl,hb⟩:=hp
   have HB:=Lib.hid hb
   clear hb
   have he:=(LX.scan_bad hq).1
   have e1:((er:Int) != 0)=true:=by simp;omega
   have e2:((er:Int)==0)=false:=by simp;omega
   clear he hq HR
   go_wp2_with fail
   go_ret
   exact⟨rfl,HB.out.trans ((Below.refl _ _).alloc HB.out.size _)⟩
  | ok ts cs =>
   rw [hq] at hp
   obtain⟨b,mb,i,cv,tv,rfl,_,_,hrow,hb,_,_⟩:=hp
   obtain⟨a,c,rfl⟩:=owns_slice hrow
   have HB:=Lib.hid hb
   clear hb
   match ts,hq,hrow with
   | [],hq,hrow =>
    have h0:r=0:=by rw [HR.out,hq]
    subst h0
    clear hq HR hrow
    go_wp2_with fail
    go_ret
    exact⟨rfl,HB.out.trans ((Below.refl _ _).alloc HB.out.size _)⟩
   | [t],hq,hrow =>
    have h0:r=if t.text=bts s then t.kind else 0:=by rw [HR.out,hq]
    have ht:bts (ofB t.text)=t.text:=by
     have h1:=BY.out
     rw [hq] at h1
     exact bts_ofB (h1 t (List.mem_singleton_self _))
    obtain⟨g,rfl,hbg,hlt,hcap,hcells⟩:=owns_cells hrow (Nat.succ_pos 0)
    obtain⟨V,hV⟩:∃ V,V=w1.alloc (.cells #[.int .i64 0,.int .i64 0] 203):=⟨_,rfl⟩
    have kb:∀ q,V.cell? ⟨g,q,none⟩=w1.cell? ⟨g,q,none⟩:=fun q=>by
     have:V.heap[g]?=w1.heap[g]?:=by rw [hV];exact Below.heap_alloc _ _ _ hlt
     rw [World.cell?_of_block this]
    have z0:V.cell? ⟨g,0,none⟩=some (.int .i64 t.kind):=(kb 0).trans (hcells 0 _ rfl)
    have z2:V.cell? ⟨g,2,none⟩=some (.string (ofB t.text)):=(kb 2).trans (hcells 2 _ rfl)
    have hc1:(1:Nat)≤c:=hcap
    have v0:V.cell? ⟨w1.heap.size,0,none⟩=some (.int .i64 0):=by rw [hV];simp
    have v1:V.cell? ⟨w1.heap.size,1,none⟩=some (.int .i64 0):=by rw [hV];simp
    have HV:=Lib.hid hV
    have BV:Hid (Below w.heap.size w V):=by rw [hV];exact HB.out.trans ((Below.refl _ _).alloc HB.out.size _)
    have HT:=Lib.hid ht
    have HC:=Lib.hid hcap
    have H0:=Lib.hid h0
    obtain⟨tx,htx⟩:∃ x,x=ofB t.text:=⟨_,rfl⟩
    rw [← htx] at z2
    have TX:=Lib.hid htx
    clear hq HR hrow hbg hcells kb hV ht h0 hcap htx
    go_upto_region 4 with (fail)
    rw [← HV.out]
    by_cases hsame:tx=s
    ·have hb:(tx.toList==s.toList)=true:=(Lib.bytes_beq_iff _ _).2 hsame
     have hr:r=t.kind:=by rw [H0.out,if_pos (by rw [← HT.out,← TX.out,hsame])]
     have HRR:=Lib.hid hr
     clear hsame hr
     go_wp2_with fail
     go_ret
     exact⟨by rw [HRR.out];rfl,BV.out⟩
    ·have hb:(tx.toList==s.toList)=false:=(Lib.bytes_beq_false_iff _ _).2 hsame
     have hr:r=0:=by rw [H0.out,if_neg (fun e=>hsame (by rw [TX.out];exact bts_inj (by rw [HT.out,e])))]
     have HRR:=Lib.hid hr
     clear hsame hr
     go_wp2_with fail
     go_ret
     exact⟨by rw [HRR.out];rfl,BV.out⟩
   | t :: u :: ts,hq,hrow =>
    have h0:r=0:=by rw [HR.out,hq]
    subst h0
    obtain⟨tn,htn⟩:∃ n,n=(t :: u :: ts).length:=⟨_,rfl⟩
    have h1:((tn:Int) != 1)=true:=by rw [htn];simp;omega
    have h2:((tn:Int)==1)=false:=by rw [htn];simp;omega
    rw [← htn]
    clear hq HR hrow htn
    go_wp2_with fail
    go_ret
    exact⟨rfl,HB.out.trans ((Below.refl _ _).alloc HB.out.size _)⟩
end Go.Proofs.YtnkahlloahgifaaGreatDoor.Lx

namespace Go.Proofs.YtnkahlloahgifaaGreatDoor.Lx
open Go.RowKit
structure Wg (w:World) where
 v:World
 ch:Below w.heap.size w v
def Wg.first (w:World):Wg w:=⟨w.drew,(Below.refl _ _).drew⟩
theorem Wg.cell {w:World}(x:Wg w) {b o:Nat}{v:Value}(hb:b<w.heap.size) (h:w.cell? ⟨b,o,none⟩=some v):x.v.cell? ⟨b,o,none⟩=some v:=(x.ch.cell (p:=⟨b,o,none⟩) hb).trans h
theorem Wg.call {P:Program}{w:World}{f:FuncId}{args:Array Value}{v:Value}(h:∀ x:Wg w,Calls P f args x.v fun e w'=>e = .returned v∧Below x.v.heap.size x.v w') (x:Wg w) :
  Calls P f args x.v fun e w'=>e = .returned v∧∃ y:Wg w,w'=y.v:=by
 refine(h x).mono ?_
 rintro e w' ⟨rfl,hb⟩
 exact⟨rfl,⟨w',x.ch.trans (hb.mono x.ch.size)⟩,rfl⟩
theorem wp_region_below {P:Program}{id:Nat}{Q:Exit→Act→World→Prop}{a:Act}{w:World}{l:List Oper}(hm:P.follows .mixedOrders=true) (hB:Region.lexB .any l.toArray=true)
  (h:wpQuiet P l.toArray (fun w'=>∃ x:Wg w,w'=x.v) (fun a'=>∀ x:Wg w,Q .normal a' x.v) l a):(Code.region id l.toArray true).wp P Q a w:=by
 refine wp_region_quiet (C:=fun w'=>∃ x:Wg w,w'=x.v) hm hB ⟨Wg.first w,rfl⟩ ?_
 simp only [List.toList_toArray]
 have e:(fun a'=>∀ x:Wg w,Q .normal a' x.v)=fun a'=>∀ w',(∃ x:Wg w,w'=x.v)→Q .normal a' w':=by
  funext a'
  exact propext ⟨fun h w' ⟨x,e⟩=>e ▸ h x,fun h x=>h _ ⟨x,rfl⟩⟩
 rw [← e]
 exact h
end Go.Proofs.YtnkahlloahgifaaGreatDoor.Lx

namespace Go.Proofs.YtnkahlloahgifaaGreatDoor.Lx
namespace LX
end LX
open Go.RowKit
theorem isName_any {w:World}(henv:Env w) (s:ByteArray) (hmax:s.size≤9223372036854775807) :
  Calls Tryz.prog 108 #[.string s] w fun e w'=>e = .returned (.bool (LX.kindOf (bts s)==2))∧Below w.heap.size w w':=by
 have K:=Lib.hid (kind_any henv s hmax)
 obtain⟨r,hr⟩:∃ r,r=LX.kindOf (bts s):=⟨_,rfl⟩
 unfold KPost at K
 rw [← hr] at K ⊢
 have e1:((r:Int)==2)=(r==2):=by rw [Bool.eq_iff_iff,beq_iff_eq,beq_iff_eq];omega
 have HE:=Lib.hid e1
 clear hr henv e1
 go_enter Tryz.func108,Tryz.ntmps108
 go_wp2_with fail
 refine K.out.mono ?_
 rintro e w1 ⟨rfl,hb⟩
 have HB:=Lib.hid hb
 clear hb
 go_wp2_with fail
 go_ret
 exact⟨by rw [← HE.out];rfl,HB.out⟩
end Go.Proofs.YtnkahlloahgifaaGreatDoor.Lx

namespace Go.Proofs.YtnkahlloahgifaaGreatDoor
open Go.RowKit RG
def isNm (s:Nm):Bool:=Lx.LX.kindOf (Lx.bts s)==2
theorem nlaw:NLaw Lx.Env isNm where
 call:=fun W s he hs=>Lx.isName_any he s (by unfold maxLen at hs;omega)
 keep:=fun B W W' hB h hb=>Lx.Env.keep h hb hB
 size:=fun W h=>h.size
theorem sort_law:Go.Proofs.YtnkahlloahgifaaGreatDoor.SortLaw:=by
 intro blk cap zs w h1 h2 h3
 exact Tryz.slices_Sort_int blk 0 cap zs w h1 h2 h3
end Go.Proofs.YtnkahlloahgifaaGreatDoor

namespace Go.Proofs.YtnkahlloahgifaaGreatDoor
open Go.RowKit RG Go.Maps
theorem containsS_has (l:List Nm) (x:Nm):Lib.containsS l x=RG.has l x:=by
 rw [Bool.eq_iff_iff,has_iff,Lib.containsS_iff]
theorem contains_any {w:World}{v:Value}{ns:List Nm}(x:Nm) (h:StrsAt w v ns) (hl:ns.length≤1000000000):Calls Tryz.prog 59 #[v,.string x] w fun e w'=>e = .returned (.bool (RG.has ns x))∧w'=w:=by
 obtain⟨-,ad,c,rfl,hat⟩:=h
 by_cases h0:0<ns.length
 ·obtain⟨g,o,rfl,hat2⟩:=hat h0
  have:=Tryz.slices_Contains_string g o ns.length c ns x w (Nat.le_refl _) (by omega) (fun j hj=>by
   have h1:w.cell? ⟨g,o+j,none⟩=some (.string ns[j]):=hat2 j _ (strs_at (List.getElem?_eq_getElem hj))
   rw [List.getD_eq_getElem?_getD,List.getElem?_eq_getElem hj];exact h1)
  rw [List.take_length,containsS_has] at this
  exact this
 ·have e:ns=[]:=List.eq_nil_of_length_eq_zero (by omega)
  subst e
  exact Tryz.slices_Contains_string_empty ad c x w
def CfP (isName:Nm→Bool) (w:World) (ps:List Nm) (e:TE) (a b:Nm) (en:Ending) (w':World):Prop :=
 Below w.heap.size w w'∧((RG.Good isName ps e∧a∈vars (F0 ps e)∧b∈vars (F0 ps e)∧en = .returned (.tuple #[.bool (conflict (F0 ps e) a b),.int .i64 0])) ∨
  (RG.Good isName ps e∧(a∉vars (F0 ps e)∨b∉vars (F0 ps e))∧en = .returned (.tuple #[.bool false,.int .i64 3]))∨(¬ RG.Good isName ps e∧en = .returned (.tuple #[.bool false,.int .i64 160])))
set_option maxHeartbeats 4000000 in
set_option maxRecDepth 20000 in
theorem conflict_any {Env : World → Prop} {isName : Nm → Bool} {w : World} {v : Value} {ps : List Nm} {e : TE} (h : FnOk Env isName w v ps e) (a b : Nm) (ha : a.size ≤ maxLen) (hb : b.size ≤ maxLen) : Calls Tryz.prog 21 #[v, .string a, .string b] w (CfP isName w ps e a b) := by
  have RD := Lib.hid h.boxed
  have HAS := Lib.hid ha
  have HBS := Lib.hid hb
  obtain ⟨cs, rfl⟩ := h.cells
  have B0 : Hid (Below w.heap.size w (w.alloc (.cells cs 29))) := (Below.refl _ _).alloc (Nat.le_refl _) _
  clear h ha hb
  go_enter Tryz.func21, Tryz.ntmps21
  go_wp2_with fail
  refine RD.out.mono ?_
  rintro en w1 ⟨hb, ⟨hg, A, f, rfl, hfl⟩ | ⟨hng, rfl⟩⟩
  · have HB : Hid (Below w.heap.size w w1) := B0.out.trans (hb.mono B0.out.size)
    have HG := Lib.hid hg
    have HF := Lib.hid hfl
    obtain ⟨c, g, o, c1, hat⟩ := hfl.links
    have HAT := Lib.hid hat
    have c4 : w1.cell? ⟨f, 4, none⟩ = some (.map (some A.pl)) := (hfl.link hfl.fo.pos).f4
    have PM := Lib.hid hfl.at'.pmap
    obtain ⟨n, hn⟩ : ∃ n, n = (F0 ps e).length := ⟨_, rfl⟩
    rw [← hn] at c1
    have HN := Lib.hid hn
    have hnz : (n : Int) ≤ 20000 := by have := hfl.len; omega
    clear hb hg hfl hat hn
    by_cases hA : a ∈ vars (F0 ps e)
    · by_cases hB : b ∈ vars (F0 ps e)
      · have ta := has_iff.2 hA
        have tb := has_iff.2 hB
        have HA := Lib.hid hA
        have HB' := Lib.hid hB
        clear hA hB
        by_cases hab : a = b
        · have dp : ((place (F0 ps e) a : Int) == (place (F0 ps e) b : Int)) = true := by rw [hab]; simp
          have E : Hid (conflict (F0 ps e) a b = false) := by show _ = _; unfold conflict; rw [if_pos hab]
          clear hab
          go_wp2_with (at_lookup; first | (refine wpList_pis rfl _ (.tmp 26) rfl A.pl (vars (F0 ps e)) rfl PM.out a HAS.out rfl ?_; intro p hp; obtain rfl := hp _ (place_at HA.out); rw [ta]) | (refine wpList_pis rfl _ (.tmp 35) rfl A.pl (vars (F0 ps e)) rfl PM.out b HBS.out rfl ?_; intro q hq; obtain rfl := hq _ (place_at HB'.out); rw [tb]))
          go_ret2
          exact ⟨HB.out, .inl ⟨HG.out, HA.out, HB'.out, by rw [E.out]; rfl⟩⟩
        · have dp : ((place (F0 ps e) a : Int) == (place (F0 ps e) b : Int)) = false := by
            rw [beq_eq_false_iff_ne]
            intro h
            exact hab (place_inj HA.out HB'.out (by exact_mod_cast h))
          have E : Hid (conflict (F0 ps e) a b = (List.range (F0 ps e).length).any (clash (F0 ps e) a b)) := by show _ = _; unfold conflict; rw [if_neg hab]
          clear hab
          go_wp2_with (at_lookup; first | (refine wpList_pis rfl _ (.tmp 26) rfl A.pl (vars (F0 ps e)) rfl PM.out a HAS.out rfl ?_; intro p hp; obtain rfl := hp _ (place_at HA.out); rw [ta]) | (refine wpList_pis rfl _ (.tmp 35) rfl A.pl (vars (F0 ps e)) rfl PM.out b HBS.out rfl ?_; intro q hq; obtain rfl := hq _ (place_at HB'.out); rw [tb]))
          go_loopw [53] (fun iv wr => ∃ k : Nat, k ≤ n ∧ iv = .int .i64 k ∧ Below w1.heap.size w1 wr ∧ ∀ i, i < k → clash (F0 ps e) a b i = false) (fun iv _ => n - (intOf iv).toNat)
          case atStart => exact ⟨0, Nat.zero_le _, rfl, Below.refl _ _, fun i hi => absurd hi (Nat.not_lt_zero i)⟩
          case round =>
            obtain ⟨k, hk, rfl, hb, hno⟩ := hrel
            have HK := Lib.hid hk
            have HBW := Lib.hid hb
            have HNO := Lib.hid hno
            clear hk hb hno c1 c4
            by_cases hlt : k < n
            · have hlz : (k : Int) < n := by omega
              have HLT := Lib.hid hlt
              have hci := kept_below HBW.out _ _ (HAT.out k (by rw [← HN.out]; exact hlt))
              have LK := Lib.hid ((HF.out.link (i := k) (by rw [← HN.out]; exact hlt)).keep HBW.out)
              obtain ⟨sv, hsv, hst⟩ := LK.out.l0
              have HST := Lib.hid hst
              obtain ⟨-, sa, sc, rfl, -⟩ := id hst
              obtain ⟨bl, hbl⟩ : ∃ bl, bl = (nd (F0 ps e) k).binds := ⟨_, rfl⟩
              obtain ⟨bn, hbn⟩ : ∃ bn, bn = bl.length := ⟨_, rfl⟩
              rw [← hbl, ← hbn] at hsv
              rw [← hbl, ← hbn] at HST
              have HBL := Lib.hid (And.intro hbl hbn)
              have HLL : Hid (bl.length ≤ 1000000000) := by have := LK.out.nb; rw [← hbl] at this; show _ ≤ _; omega
              have CA : Hid (∀ (x : Nm) (m : Nat), Calls Tryz.prog 59 #[.slice sa bn sc, .string x] (wr.drewN m) fun e w' => e = .returned (.bool (RG.has bl x)) ∧ w' = wr.drewN m) := fun x m => contains_any x (StrsAt.kept HST.out (kept_below (below_drewN _ _ _))) HLL.out
              clear hst hlt hbl hbn
              go_upto_region 13 with (fail)
              go_quiet ((go_at_call 59; exact Calls.quiet_of_same (CA.out _ _)))
              go_wp2_with fail
              refine (crossing_any (LK.out.keep (below_drewN _ _ _))).mono ?_
              rintro en w2 ⟨b1, rfl, hb1, hs2, hb2⟩
              have HB2 : Hid (Below w1.heap.size w1 w2) := (HBW.out.trans (below_drewN _ _ _)).trans (hb2.mono HBW.out.size)
              obtain ⟨qa, hqa⟩ : ∃ q, q = cross (F0 ps e) k a := ⟨_, rfl⟩
              obtain ⟨qb, hqb⟩ : ∃ q, q = cross (F0 ps e) k b := ⟨_, rfl⟩
              obtain ⟨ba, hba⟩ : ∃ q, q = RG.has bl a := ⟨_, rfl⟩
              obtain ⟨bb, hbb⟩ : ∃ q, q = RG.has bl b := ⟨_, rfl⟩
              have wfp : ∀ x ∈ vars (F0 ps e), (Lit.int .i64 (place (F0 ps e) x : Int)).wf = true := fun x hx => wf_nat (by have := place_lt hx; have := HF.out.few; omega)
              have ea := imap_run hs2 (wfp a HA.out) 108 Tryz.underlying108
              have eb := imap_run hs2 (wfp b HB'.out) 108 Tryz.underlying108
              rw [vset_at HF.out.fo.once HA.out, ← hqa] at ea
              rw [vset_at HF.out.fo.once HB'.out, ← hqb] at eb
              have CL : Hid (clash (F0 ps e) a b k = ((ba && (bb || qb)) || (bb && qa))) := by show _ = _; unfold clash; rw [← HBL.out.1, hba, hbb, hqa, hqb]
              rw [← hba, ← hbb]
              clear hb1 hs2 hb2 hqa hqb hba hbb wfp hsv hci
              cases ba <;> cases bb <;> cases qa <;> cases qb
              all_goals
                simp only [if_true, if_false, Bool.false_eq_true] at ea eb
                first
                  | (have C0 : Hid (clash (F0 ps e) a b k = false) := CL.out
                     have NX : Hid (∀ i, i < k + 1 → clash (F0 ps e) a b i = false) := fun i hi => by
                       by_cases e2 : i = k
                       · rw [e2]; exact C0.out
                       · exact HNO.out i (by omega)
                     go_wp2_with fail
                     go_roundw
                     case rel => exact ⟨k + 1, HLT.out, by go_num, HB2.out, NX.out⟩
                     case measure => have := HLT.out; simp [intOf]; omega)
                  | (have C1 : Hid (clash (F0 ps e) a b k = true) := CL.out
                     have E2 : Hid (conflict (F0 ps e) a b = true) := by
                       show _ = _
                       rw [E.out, List.any_eq_true]
                       exact ⟨k, List.mem_range.2 (by rw [← HN.out]; exact HLT.out), C1.out⟩
                     go_wp2_with fail
                     go_ret2
                     exact ⟨HB.out.trans (HB2.out.mono HB.out.size), .inl ⟨HG.out, HA.out, HB'.out, by rw [E2.out]; rfl⟩⟩)
            · have hlz : (n : Int) ≤ k := by omega
              have E2 : Hid (conflict (F0 ps e) a b = false) := by
                show _ = _
                rw [E.out, List.any_eq_false]
                intro i hi
                have h1 := List.mem_range.1 hi
                rw [HNO.out i (by have := HN.out; omega)]
                decide
              clear hlt
              go_wp2_with fail
              go_ret2
              exact ⟨HB.out.trans (HBW.out.mono HB.out.size), .inl ⟨HG.out, HA.out, HB'.out, by rw [E2.out]; rfl⟩⟩
      · have HA := Lib.hid hA
        have ta := has_iff.2 hA
        have tb : RG.has (vars (F0 ps e)) b = false := by cases hq : RG.has (vars (F0 ps e)) b with | false => rfl | true => exact absurd (has_iff.1 hq) hB
        have NB := Lib.hid hB
        clear hA hB
        go_wp2_with (at_lookup; first | (refine wpList_pis rfl _ (.tmp 26) rfl A.pl (vars (F0 ps e)) rfl PM.out a HAS.out rfl ?_; intro p hp; clear hp; rw [ta]) | (refine wpList_pis rfl _ (.tmp 35) rfl A.pl (vars (F0 ps e)) rfl PM.out b HBS.out rfl ?_; intro q hq; clear hq; rw [tb]))
        go_ret2
        exact ⟨HB.out, .inr (.inl ⟨HG.out, .inr NB.out, rfl⟩)⟩
    · have ta : RG.has (vars (F0 ps e)) a = false := by cases hq : RG.has (vars (F0 ps e)) a with | false => rfl | true => exact absurd (has_iff.1 hq) hA
      have NA := Lib.hid hA
      clear hA
      cases tb : RG.has (vars (F0 ps e)) b with
      | true =>
        go_wp2_with (at_lookup; first | (refine wpList_pis rfl _ (.tmp 26) rfl A.pl (vars (F0 ps e)) rfl PM.out a HAS.out rfl ?_; intro p hp; clear hp; rw [ta]) | (refine wpList_pis rfl _ (.tmp 35) rfl A.pl (vars (F0 ps e)) rfl PM.out b HBS.out rfl ?_; intro q hq; clear hq; rw [tb]))
        go_ret2
        exact ⟨HB.out, .inr (.inl ⟨HG.out, .inl NA.out, rfl⟩)⟩
      | false =>
        go_wp2_with (at_lookup; first | (refine wpList_pis rfl _ (.tmp 26) rfl A.pl (vars (F0 ps e)) rfl PM.out a HAS.out rfl ?_; intro p hp; clear hp; rw [ta]) | (refine wpList_pis rfl _ (.tmp 35) rfl A.pl (vars (F0 ps e)) rfl PM.out b HBS.out rfl ?_; intro q hq; clear hq; rw [tb]))
        go_ret2
        exact ⟨HB.out, .inr (.inl ⟨HG.out, .inl NA.out, rfl⟩)⟩
  · have HB : Hid (Below w.heap.size w w1) := B0.out.trans (hb.mono B0.out.size)
    have HG := Lib.hid hng
    clear hb hng
    go_wp2_with fail
    go_ret2
    exact ⟨HB.out, .inr (.inr ⟨HG.out, rfl⟩)⟩
end Go.Proofs.YtnkahlloahgifaaGreatDoor

namespace Go.Proofs.YtnkahlloahgifaaGreatDoor
open Go.RowKit RG Go.Maps RF
def FindP (w:World) (l:List Nm) (x:Nm) (en:Ending) (w':World):Prop :=
 Below w.heap.size w w'∧((∃ k:Nat,en = .returned (.int .i64 k)∧l[k]?=some x)∨(en = .returned (.int .i64 (-1))∧x∉l))
theorem not_take {l:List Nm}{x:Nm}{n:Nat}(hn:n=l.length) (h:x∉l.take n):x∉l:=by
 rw [hn,List.take_length] at h;exact h
set_option maxHeartbeats 1000000 in
set_option maxRecDepth 20000 in
theorem find_any {w:World}{v:Value}{l:List Nm}(x:Nm) (h:StrsAt w v l) (hl:l.length≤1000000000000):Calls Tryz.prog 61 #[v,.string x] w (FindP w l x):=by
 obtain⟨aa,ac,rfl,hat⟩:=h.cells
 have HAT:=zh hat
 obtain⟨n,hn⟩:∃ n,n=l.length:=⟨_,rfl⟩
 rw [← hn] at hl ⊢
 have HN:=zh hn
 have hnz:(n:Int)≤1000000000000:=by omega
 clear h hat hn hl
 go_enter Tryz.func61,Tryz.ntmps61
 go_wp2_with fail
 go_loopw [5] (fun iv wr=>∃ k:Nat,k≤n∧iv = .int .i64 k∧Below w.heap.size w wr∧x∉l.take k) (fun iv _=>n - (intOf iv).toNat)
 case atStart=>exact⟨0,Nat.zero_le _,rfl,Below.refl _ _,by simp⟩
 case round =>
  obtain⟨k,hk,rfl,hb,hq⟩:=hrel
  have HK:=zh hk
  have HB:=zh hb
  have HQ:=zh hq
  clear hk hb hq
  by_cases hlt:k<n
  ·obtain⟨g,o,rfl,hat⟩:=HAT.out (by have:=HN.out;omega)
   obtain⟨y,hy⟩:∃ y,l[k]?=some y:=⟨_,List.getElem?_eq_getElem (by have:=HN.out;omega)⟩
   have y0:=kept_below HB.out _ _ (hat k y hy)
   have HY:=zh hy
   have HLT:=zh hlt
   have hlz:(k:Int)<n:=by omega
   have hk0:(0:Int)≤k:=by omega
   clear hat hy
   by_cases hxy:y=x
   ·have d1:(y.toList==x.toList)=true:=by rw [bytes_beq];simp [hxy]
    have E2:Hid (l[k]?=some x):=by show _=_;rw [HY.out,hxy]
    clear hxy hlt
    go_wp2_with fail
    go_ret
    exact⟨HB.out,.inl ⟨k,rfl,E2.out⟩⟩
   ·have d1:(y.toList==x.toList)=false:=by rw [bytes_beq];simp [hxy]
    have E2:Hid (x∉l.take (k+1)):=by
     show ¬ _
     rw [List.take_add_one,HY.out]
     intro hm
     rcases List.mem_append.1 hm with hm | hm
     ·exact HQ.out hm
     ·simp at hm;exact hxy hm.symm
    clear hxy hlt
    go_wp2_with fail
    go_roundw
    case rel=>exact⟨k+1,HLT.out,by go_num,HB.out,E2.out⟩
    case measure=>have:=HLT.out;simp [intOf];omega
  ·have hlz:(n:Int)≤k:=by omega
   have E2:Hid (x∉l):=not_take (show k=l.length by have:=HK.out;have:=HN.out;omega) HQ.out
   clear hlt
   go_wp2_with fail
   go_ret
   exact⟨HB.out,.inr ⟨rfl,E2.out⟩⟩
set_option maxHeartbeats 1000000 in
set_option maxRecDepth 20000 in
theorem hasR_any {w:World}{v:Value}{l:List Nm}(x:Nm) (h:StrsAt w v l) (hl:l.length≤1000000000000):Calls Tryz.prog 36 #[v,.string x] w fun en w'=>Below w.heap.size w w'∧en = .returned (.bool (RG.has l x)):=by
 have FD:=zh (find_any x h hl)
 clear h hl
 go_enter Tryz.func36,Tryz.ntmps36
 go_wp2_with fail
 refine FD.out.mono ?_
 rintro en w1 ⟨hb,⟨k,rfl,hk⟩|⟨rfl,hk⟩⟩
 ·have HB:=zh hb
  have HH:Hid (RG.has l x=true):=has_iff.2 (List.mem_of_getElem? hk)
  have k0:decide ((0:Int)≤k)=true:=by simp
  clear hb hk
  go_wp2_with fail
  go_ret
  exact⟨HB.out,by rw [HH.out];rfl⟩
 ·have HB:=zh hb
  have HH:Hid (RG.has l x=false):=by
   show _=_
   cases e:RG.has l x with
   | false=>rfl
   | true=>exact absurd (has_iff.1 e) hk
  clear hb hk
  go_wp2_with fail
  go_ret
  exact⟨HB.out,by rw [HH.out];rfl⟩
end Go.Proofs.YtnkahlloahgifaaGreatDoor

namespace Go.Proofs.YtnkahlloahgifaaGreatDoor
open Go.RowKit RG Go.Maps RF
attribute [local go_sem] Oper.semAt_some
theorem once_snoc:∀ (l s:List Nm) (x:Nm),once s (l++[x])=if has (once s l) x then once s l else once s l++[x]
 | [],s,x=>by show once s [x]=_;rw [once];rfl
 | y :: r,s,x=>by
  rw [List.cons_append,once,once]
  split
  ·exact once_snoc r s x
  ·exact once_snoc r _ x
theorem once_len:∀ (l s:List Nm),(once s l).length≤s.length+l.length
 | [],s=>by simp [once]
 | y :: r,s=>by
  rw [once,List.length_cons]
  split
  ·have:=once_len r s;omega
  ·have:=once_len r (s++[y]);rw [List.length_append] at this;simp at this;omega
structure UI (w1:World) (ib nb:Nat) (us:List Nm) (j:Nat) (W:World):Prop where
 below:Below w1.heap.size w1 W
 big:w1.heap.size+2≤W.heap.size
 it:W.heap[w1.heap.size+1]?=some (.cells #[.pointer (some ⟨nb,0,none⟩)] 100 (0,0))
 out:∃ v,W.heap[w1.heap.size]?=some (.cells #[v] 35 (0,0))∧World.ownsRow W (w1.heap.size+2) 9 1 v (once [] (us.take j)).length (strs (once [] (us.take j)))
theorem owns_bk {B:Nat}{W W':World}(b:Bk B W W') {base e size n:Nat}{v:Value}{xs:List Value}(h:W.ownsRow base e size v n xs):W'.ownsRow base e size v n xs:=by
 obtain⟨h1,h2⟩:=h
 rcases h2 with h2 | ⟨g,cap,cur,rfl,hb2,hg,rest⟩
 ·exact⟨h1,.inl h2⟩
 ·exact⟨h1,.inr ⟨g,cap,cur,rfl,hb2,cells_bk b hg,rest⟩⟩
theorem UI.bk {w1:World}{ib nb:Nat}{us:List Nm}{j:Nat}{W W':World}(h:UI w1 ib nb us j W) (b:Bk (w1.heap.size+2) W W'):UI w1 ib nb us j W':=by
 have hb:=below_bk b
 obtain⟨v,o1,o2⟩:=h.out
 refine⟨⟨hb.os.trans h.below.os,hb.tape.trans h.below.tape,hb.output.trans h.below.output,Nat.le_trans h.below.size hb.size,fun q hq=>(hb.block q (by omega)).trans (h.below.block q hq)⟩,Nat.le_trans h.big hb.size,cells_bk b h.it,v,cells_bk b o1,?_⟩
 obtain⟨h1,h2⟩:=o2
 rcases h2 with h2 | ⟨g,cap,cur,rfl,hb2,hg,rest⟩
 ·exact⟨h1,.inl h2⟩
 ·exact⟨h1,.inr ⟨g,cap,cur,rfl,hb2,cells_bk b hg,rest⟩⟩
theorem UI.then {w1:World}{ib nb:Nat}{us:List Nm}{j:Nat}{W W':World}(h:UI w1 ib nb us j W) (b:Below W.heap.size W W'):UI w1 ib nb us j W':=by
 obtain⟨v,o1,o2⟩:=h.out
 exact⟨h.below.trans (b.mono h.below.size),Nat.le_trans h.big b.size,heap_below b h.it,v,heap_below b o1,owns_keep2 o2 fun q hq=>b.block q (o2.lt q hq).2⟩
def usTm (cs : Array Value) (w w1 : World) (A : Ad) (f i : Nat) (x : Nm) : Array Value := #[Value.agg cs, Value.int IntKind.i64 i, Value.pointer (some { block := w.heap.size, off := 0 }), undef,
          Value.slice none 0 0, Value.int IntKind.i64 0, Value.pointer (some { block := f, off := 0 }),
          Value.pointer (some { block := A.nb i, off := 0 }), Value.int IntKind.i64 0,
          Value.pointer (some { block := w1.heap.size, off := 0 }), .string x,
          Value.tuple
            #[Value.pointer (some { block := f, off := 0 }), Value.pointer (some { block := A.nb i, off := 0 }),
              Value.int IntKind.i64 0],
          Value.int IntKind.i64 i,
          Value.tuple
            #[Value.pointer (some { block := f, off := 0 }), Value.pointer (some { block := A.nb i, off := 0 }),
              Value.int IntKind.i64 0],
          Value.pointer (some { block := f, off := 0 }), Value.pointer (some { block := A.nb i, off := 0 }),
          Value.int IntKind.i64 0, Value.int IntKind.i64 0, Value.bool false, undef,
          Value.pointer (some { block := A.nb i, off := 0 }),
          Value.func (Fn.func 95) #[] #[Value.pointer (some { block := w1.heap.size + 1, off := 0 })], .string x, undef,
          undef, undef, undef, undef, undef, undef, undef, undef]
theorem own_cells {W:World}{base e size n q:Nat}{v:Value}{xs:List Value}(h:W.ownsRow base e size v n xs) (hq:v.ownBlock=some q):∃ cs T r,W.heap[q]?=some (.cells cs T r):=by
 rcases h.2 with ⟨rfl,_⟩|⟨g,cap,cur,rfl,hb2,hg,rest⟩
 ·cases hq
 ·obtain rfl:=Option.some.inj hq
  exact⟨_,_,_,hg⟩
theorem owns_strs {w:World}{base n:Nat}{v:Value}{l:List Nm}(h:w.ownsRow base 9 1 v n (strs l)) (hn:n=l.length):StrsAt w v l:=by
 obtain⟨a,c,rfl⟩:=own_sliceI h
 subst hn
 refine⟨strs_length _,a,c,rfl,fun h0=>?_⟩
 rcases h.2 with ⟨he,h1⟩|⟨g,cap,cur,hv,_,hg,k1,k2,k3,k4⟩
 ·omega
 ·simp only [Value.slice.injEq,true_and] at hv
  obtain⟨rfl,rfl⟩:=hv
  refine⟨g,0,rfl,fun i x hi=>?_⟩
  have hl:=(List.getElem?_eq_some_iff.1 hi).1
  rw [strs_length] at hl
  rw [Nat.zero_add,cell_of_row _ _ _ _ _ _ hg,← Array.getElem?_toList,← List.getElem?_take_of_lt (show i<l.length*1 by omega),k4]
  exact hi
set_option maxHeartbeats 2000000 in
set_option maxRecDepth 20000 in
theorem usesFn_any {Env:World→Prop}{isName:Nm→Bool}{w:World}{v:Value}{ps:List Nm}{e:TE}(h:FnOk Env isName w v ps e) (at':Int):Calls Tryz.prog 35 #[v,.int .i64 at'] w (LvP isName w ps e at' (usesAt (F0 ps e))):=by
 have FD:=zh (found_any h at')
 obtain⟨cs,rfl⟩:=h.cells
 obtain⟨i9,p1,p2,p3,p4⟩:=info_parts Tryz.info9v
 have HI9:=zh (And.intro p1 (And.intro p2 (And.intro p3 p4)))
 clear h p1 p2 p3 p4
 refine(callsIn_wide (n:=3)).1 (callsIn_of_wp_marks Tryz.func35 rfl trivial ?_ rfl)
 refine wpIn_wide.2 ?_
 simp only [Tryz.ntmps35,List.size_toArray,List.length_cons,List.length_nil,Nat.reduceAdd,Nat.reduceSub,Array.replicate_succ,Array.replicate_zero,List.push_toArray,List.append_toArray,List.nil_append,List.cons_append]
 go_wp2_with fail
 refine FD.out.mono ?_
 rintro en w1 ⟨hb,⟨hg,A,f,i,rfl,hi,rfl,hfl⟩|⟨hg,ho,rfl⟩|⟨hng,rfl⟩⟩
 ·have HB:=zh hb
  have HG:=zh hg
  have HF:=zh hfl
  have HI:=zh hi
  have AL:Hid ((nd (F0 ps e) i).e.args.length≤16):=by
   have hm:nd (F0 ps e) i∈F0 ps e:=by unfold nd;rw [List.getD_eq_getElem?_getD,List.getElem?_eq_getElem hi];exact List.getElem_mem hi
   exact(nodeOk_few (hg.form _ hm)).2.1
  clear hb hg hfl hi FD
  go_wp2_with fail
  refine(uses_any (A.nb i) _).mono ?_
  rintro en w2 ⟨rfl,rfl⟩
  go_wp2_with fail
  obtain⟨W0,hW0⟩:∃ W,W=(w1.alloc (.cells #[.slice none 0 0] 35)).alloc (.cells #[.pointer (some ⟨A.nb i,0,none⟩)] 100):=⟨_,rfl⟩
  have U0:Hid (UI w1 (w1.heap.size+1) (A.nb i) (nd (F0 ps e) i).uses 0 W0):=by
   rw [hW0]
   refine⟨((Below.refl _ _).alloc (Nat.le_refl _) _).alloc (by simp) _,by simp,?_,_,?_,World.ownsRow_nil _ _ _ _⟩
   ·have:=heap_alloc_new (w1.alloc (.cells #[.slice none 0 0] 35)) (.cells #[.pointer (some ⟨A.nb i,0,none⟩)] 100)
    rw [World.size_alloc] at this
    exact this
   ·rw [Below.heap_alloc _ _ _ (by simp)];exact heap_alloc_new w1 _
  rw [← hW0]
  clear hW0
  obtain⟨sx,nd1,nd2⟩:=HF.out.at'.node i HI.out
  obtain⟨va,aa,ab,ca,cb,hxc⟩:=(HF.out.at'.exp i HI.out).open
  obtain⟨ad2,c2,hva,hargs⟩:=hxc.args.at'
  have HXC:=zh hxc.c5
  have ND1:=zh nd1
  subst hva
  have B0:=zh U0.out.below
  have SZ0:=zh U0.out.big
  clear nd1 nd2 hxc
  obtain⟨g2,o2,hg2,hat2⟩:∃ g2 o2,(0<(nd (F0 ps e) i).e.args.length→ad2=some ⟨g2,o2,none⟩)∧∀ (k:Nat) x,(nd (F0 ps e) i).e.args[k]?=some x→∃ m:Int,w1.cell? ⟨g2,o2+k*2,none⟩=some (.string x)∧w1.cell? ⟨g2,o2+k*2+1,none⟩=some (.int .i64 m):=by
   by_cases h0:0<(nd (F0 ps e) i).e.args.length
   ·obtain⟨g2,o2,e1,e2⟩:=hargs h0
    exact⟨g2,o2,fun _=>e1,e2⟩
   ·exact⟨0,0,fun h=>absurd h h0,fun k x hx=>by have:=(List.getElem?_eq_some_iff.1 hx).1;omega⟩
  have HG2:=zh hg2
  have HAT2:=zh hat2
  clear hg2 hat2 hargs
  have UL:Hid ((nd (F0 ps e) i).uses.length≤16):=by
   have h1:=AL.out
   have h2:=List.length_filter_le (fun n:Nm=>n.size != 0) (nd (F0 ps e) i).e.args
   show (nd (F0 ps e) i).uses.length≤16
   unfold Nd.uses
   omega
  refine range_outer (P:=Tryz.prog) (n:=1) (B:=w1.heap.size+2) (m:=(nd (F0 ps e) i).uses.length) (encs:=usEnc (nd (F0 ps e) i).e.args) (I:=UI w1 (w1.heap.size+1) (A.nb i) (nd (F0 ps e) i).uses) (X:=fun _=>False)
   (A:=fun j a _=>a={ tmps:=usTm cs w w1 A f i ((nd (F0 ps e) i).uses.getD j ⟨#[]⟩),defers:=[] })
   (Rd:=UsRd (w1.heap.size+1) (A.nb i) (A.xb i) (A.xo i) ad2 c2 g2 o2 (nd (F0 ps e) i).e.args) rfl (enters_of Tryz.func95 (by kernel_rfl) rfl) (uses_iter _ _ _ _ _ _ _ _ _ HG2.out (by have:=AL.out;omega)) SZ0.out ?rd
   (fun j W W' h b=>h.bk b) (fun W W' h b=>h) (fun _ _ _ _ h _=>h) (fun j W W' h b=>h.then b) (fun _=>rfl) U0.out ?assign ?body ?done (fun _ _ _ h _=>h.elim)
  case rd =>
   intro j W h
   have hk:=kept_below h.below
   exact⟨by rw [cell_of_row _ _ 0 _ _ _ h.it];rfl,by rw [cell_of_row _ _ 0 _ _ _ (heap_below h.below ND1.out)];rfl,hk _ _ HXC.out,fun k x hx=>by obtain⟨m,e1,e2⟩:=HAT2.out k x hx;exact⟨m,hk _ _ e1,hk _ _ e2⟩⟩
  case assign =>
   intro l j W hI hj
   unfold usEnc
   simp only [List.zip_toArray,List.zip_cons_cons,List.zip_nil_left,List.foldl_toArray',List.foldl_cons,List.foldl_nil,zq4,zq6,zq5]
   gi_wp2
   exact⟨Below.refl _ _,rfl⟩
  case body =>
   rintro l j a2 W hl ⟨r2,hr2⟩ hJ rfl hj
   obtain⟨x,hx⟩:∃ x,(nd (F0 ps e) i).uses[j]?=some x:=⟨_,List.getElem?_eq_getElem hj⟩
   have hs:(nd (F0 ps e) i).uses.getD j ⟨#[]⟩=x:=by rw [List.getD_eq_getElem?_getD,hx];rfl
   rw [hs]
   unfold usTm
   have hmx:Tryz.prog.follows .mixedOrders=true:=by kernel_rfl
   obtain⟨ov,o1,o2'⟩:=hJ.out
   obtain⟨oa,oc,hov⟩:=own_sliceI o2'
   subst hov
   have TK:Hid ((nd (F0 ps e) i).uses.take (j+1)=(nd (F0 ps e) i).uses.take j++[x]):=by show _=_;rw [List.take_add_one,hx];rfl
   obtain⟨out,hout⟩:∃ out,out=once [] ((nd (F0 ps e) i).uses.take j):=⟨_,rfl⟩
   have OL:Hid (out.length≤16):=by
    have:=once_len ((nd (F0 ps e) i).uses.take j) []
    rw [← hout,List.length_take] at this
    have h2:=UL.out
    simp at this
    show _≤_
    omega
   have ON:Hid (once [] ((nd (F0 ps e) i).uses.take (j+1))=if RG.has out x then out else out++[x]):=by show _=_;rw [TK.out,once_snoc,← hout]
   rw [← hout] at o1 o2'
   obtain⟨no,hno⟩:∃ no,no=out.length:=⟨_,rfl⟩
   have HNO:=zh hno
   rw [← hno] at o1 o2' OL
   have HJ:=zh hJ
   have OB:=zh o1
   have OW:=zh o2'
   have HOUT:=zh hout
   have ca:W.cell? ⟨w1.heap.size,0,none⟩=some (.slice oa no oc):=by rw [cell_of_row _ _ 0 _ _ _ o1];rfl
   have ST:=zh (owns_strs o2' hno)
   have CT:=zh (contains_any x ST.out (by have:=OL.out;rw [← hno];omega))
   clear hJ hx hs hr2 hl hj o1 o2' hout hno
   gi_wp2
   refine⟨trivial,(CallsIn.inRound l (callsIn_wide.2 CT.out)).mono ?_⟩
   intro en w2 hw2
   obtain⟨rfl,h2⟩:=hw2
   have e2:=h2.symm
   subst e2
   clear h2 CT
   by_cases hh:RG.has out x=true
   ·have ON2:Hid (once [] ((nd (F0 ps e) i).uses.take (j+1))=out):=by show _=_;rw [ON.out,if_pos hh]
    rw [hh]
    clear hh
    gi_wp2
    refine⟨Kb.refl _,HJ.out.below,HJ.out.big,HJ.out.it,_,OB.out,?_⟩
    rw [ON2.out,← HNO.out]
    exact OW.out
   ·have hh':RG.has out x=false:=by simpa using hh
    have ON2:Hid (once [] ((nd (F0 ps e) i).uses.take (j+1))=out++[x]):=by show _=_;rw [ON.out,if_neg hh]
    rw [hh']
    clear hh hh'
    have OX:Hid (World.ownsRow (W.alloc (.cells #[.string x] 9)) (w1.heap.size+2) 9 1 (.slice oa no oc) no (strs out)):=owns_keep2 OW.out fun q hq=>Below.heap_alloc _ _ _ (OW.out.lt q hq).2
    have NB:Hid (no+1≤maxLen∧(no+1)*16≤140737488355328):=by have:=OL.out;show _∧_;simp only [maxLen];omega
    have BA:Hid (Below (w1.heap.size+2) W (W.alloc (.cells #[.string x] 9))):=(Below.refl _ _).alloc HJ.out.big _
    gi_wp2_with (gi_at_builtin;refine wpListIn_append_own _ rfl _ _ 35 rfl (w1.heap.size+2) 9 i9 (.string ⟨#[]⟩) 1 16 Tryz.underlying35 HI9.out.1 HI9.out.2.1 HI9.out.2.2.1 HI9.out.2.2.2 rfl (by decide) (.slice oa no oc) no (strs out) rfl OX.out ⟨W.heap.size,0,none⟩ 1 1 [.string x] rfl rfl (news1 _ _ _) (fun u hu=>by simp at hu;rw [hu];rfl) NB.out.1 NB.out.2 (Nat.le_trans HJ.out.big BA.out.size) ?_)
    intro v' w6 hown hg _
    obtain⟨va,vc,rfl⟩:=own_sliceI hown
    have B6:Hid (Below (w1.heap.size+2) W w6):=BA.out.grown hg (Nat.le_trans HJ.out.big BA.out.size) (fun q e=>(OX.out.lt q e).1)
    have OB6:Hid (w6.heap[w1.heap.size]?=some (.cells #[.slice oa no oc] 35 (0,0))):=(B6.out.block _ (by omega)).trans OB.out
    have IT6:Hid (w6.heap[w1.heap.size+1]?=some (.cells #[.pointer (some ⟨A.nb i,0,none⟩)] 100 (0,0))):=(B6.out.block _ (by omega)).trans HJ.out.it
    have KB:Hid (Kb W (w6.setCell ⟨w1.heap.size,0,none⟩ (.slice va (no+1) vc))):=by
     refine⟨by simp;exact B6.out.size,fun q' o' hq ho hw=>?_⟩
     have hlt:=(Array.getElem?_eq_some_iff.1 hq).1
     have n1:q'≠w1.heap.size:=by
      rintro rfl
      rw [OB.out] at hq
      obtain rfl:=Option.some.inj hq
      cases ho
     rw [Below.heap_setCell _ _ _ _ n1]
     refine(hg.block q' (by simp;omega) fun e=>?_).trans ((Below.heap_alloc _ _ _ hlt).trans hq)
     obtain⟨cs',T',r',hc⟩:=own_cells OW.out (q:=q') (by first | exact e | exact e.symm)
     rw [hq] at hc
     obtain rfl:=Option.some.inj hc
     cases ho
    have M6:Hid (World.ownsRow w6 (w1.heap.size+2) 9 1 (.slice va (no+1) vc) (once [] ((nd (F0 ps e) i).uses.take (j+1))).length (strs (once [] ((nd (F0 ps e) i).uses.take (j+1))))):=by
     show World.ownsRow _ _ _ _ _ _ _
     rw [ON2.out,List.length_append,← HNO.out]
     unfold strs at hown ⊢
     rw [List.map_append];exact hown
    have z0:w6.cell? ⟨w1.heap.size,0,none⟩=some (.slice oa no oc):=by rw [cell_of_row _ _ 0 _ _ _ OB6.out];rfl
    have zf:w6.frozen? ⟨w1.heap.size,0,none⟩=false:=frozen_of_row w6 _ 0 _ _ OB6.out
    clear hown hg
    gi_wp2
    refine⟨KB.out,⟨?_,?_,?_,_,heap_setCell_same w6 _ 0 _ _ _ OB6.out,?_⟩⟩
    ·exact(HJ.out.below.trans (B6.out.mono (by omega))).setCell (Nat.le_refl _) _
    ·have h1:=B6.out.size
     have h2:=HJ.out.big
     rw [World.size_setCell];omega
    ·exact(Below.heap_setCell _ _ _ _ (by show w1.heap.size+1≠w1.heap.size;omega)).trans IT6.out
    ·exact owns_keep2 M6.out fun q hq=>Below.heap_setCell _ _ _ _ (by show q≠w1.heap.size;have:=(M6.out.lt q hq).1;omega)
  case done =>
   intro D W hD hI hd
   have HI2:=zh hI
   have HD:=zh hd
   have HDL:=zh hD
   obtain⟨ov,o1,o2'⟩:=hI.out
   obtain⟨oa,oc,hov⟩:=own_sliceI o2'
   subst hov
   rw [List.take_length] at o1 o2'
   have ca:W.cell? ⟨w1.heap.size,0,none⟩=some (.slice oa (once [] (nd (F0 ps e) i).uses).length oc):=by rw [cell_of_row _ _ 0 _ _ _ o1];rfl
   obtain⟨no,hno⟩:∃ no,no=(once [] (nd (F0 ps e) i).uses).length:=⟨_,rfl⟩
   have HNO:=zh hno
   rw [← hno] at ca o2'
   have OWE:=zh o2'
   clear hI hd hD o1 o2' hno
   go_wp2_with fail
   have BKD:Bk (w1.heap.size+2) W (W.putObj D (.deferred none)):=⟨D,_,_,HD.out,rfl,rfl,Nat.le_trans SZ0.out HDL.out,rfl⟩
   have STD:=owns_strs (owns_bk BKD OWE.out) HNO.out
   refine⟨by simp,.inl ⟨_,_,rfl,run_takeDeferred HD.out,?_⟩⟩
   exact⟨.tuple #[.slice oa no oc,.int .i64 0],by simp [results,Tryz.results35,go_sem],HB.out.trans ((HI2.out.bk BKD).below.mono HB.out.size),.inl ⟨HG.out,i,_,rfl,HI.out,rfl,by unfold usesAt;exact STD⟩⟩
 ·have HB:=zh hb
  have HG:=zh (And.intro hg ho)
  clear hb hg ho
  go_wp2_with fail
  exact⟨_,by simp [results,Tryz.results35,go_sem],HB.out,.inr (.inl ⟨HG.out.1,HG.out.2,rfl⟩)⟩
 ·have HB:=zh hb
  have HG:=zh hng
  clear hb hng
  go_wp2_with fail
  exact⟨_,by simp [results,Tryz.results35,go_sem],HB.out,.inr (.inr ⟨HG.out,rfl⟩)⟩
end Go.Proofs.YtnkahlloahgifaaGreatDoor
