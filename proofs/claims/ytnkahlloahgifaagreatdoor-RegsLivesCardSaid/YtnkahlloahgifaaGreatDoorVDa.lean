/- Part. -/
import Derived.Test.YtnkahlloahgifaaGreatDoorVB
import Derived.Test.YtnkahlloahgifaaGreatDoorVCb
import Derived.Handy
import Derived.Shelf.Abstract
import Derived.Lib.LazyBuf
import Derived.Deep.OwnRows
import Derived.Deep.RegionLaw
import Derived.Lib.SliceRun
import Derived.Test.YtnkahlloahgifaaGreatDoorVPl
import Derived.Deep.RegionHeld3
import Derived.Deep.Cut
import Derived.Laws.OwnMore
set_option maxHeartbeats 16000000
set_option maxRecDepth 100000
set_option linter.unusedSimpArgs false
set_option linter.unusedVariables false
namespace Go.Proofs.YtnkahlloahgifaaGreatDoor
open Go.RowKit RG Go.Maps
def MvsAt (w:World) (v:Value) (l:List RM.Mv):Prop :=
 ∃ (ad:Option Addr) (c:Nat),v = .slice ad l.length c∧(0<l.length→∃ g o,ad=some ⟨g,o,none⟩∧∀ (i:Nat) m,l[i]?=some m→w.cell? ⟨g,o+i*2,none⟩=some (.int .i64 m.1)∧w.cell? ⟨g,o+i*2+1,none⟩=some (.int .i64 m.2))
theorem MvsAt.kept {w w':World}{v:Value}{l:List RM.Mv}(h:MvsAt w v l) (hk:Kept w w'):MvsAt w' v l:=by
 obtain⟨ad,c,e,h1⟩:=h
 exact⟨ad,c,e,fun h0=>by obtain⟨g,o,e2,hat⟩:=h1 h0;exact⟨g,o,e2,fun i m hi=>⟨hk _ _ (hat i m hi).1,hk _ _ (hat i m hi).2⟩⟩⟩
theorem isReg_any (r:Int) (w:World):Calls Tryz.prog 96 #[.int .i64 r] w fun e w'=>e = .returned (.bool (RM.isReg r))∧w=w':=by
 by_cases h1:0≤r
 ·by_cases h2:r≤20000
  ·go_enter Tryz.func96,Tryz.ntmps96
   go_wp2_with fail
   go_ret
   exact⟨by simp [RM.isReg,h1,h2],rfl⟩
  have hd:decide (r≤20000)=false:=by simpa using h2
  go_enter Tryz.func96,Tryz.ntmps96
  go_wp2_with fail
  go_ret
  exact⟨by simp [RM.isReg,h1,h2],rfl⟩
 have hd:decide (0≤r)=false:=by simpa using h1
 go_enter Tryz.func96,Tryz.ntmps96
 go_wp2_with fail
 go_ret
 exact⟨by simp [RM.isReg];omega,rfl⟩
theorem isReg_yes {r:Int}(h:RM.isReg r=true) (w:World):Calls Tryz.prog 96 #[.int .i64 r] w fun e w'=>e = .returned (.bool true)∧w=w':=by have:=isReg_any r w;rw [h] at this;exact this
theorem isReg_no {r:Int}(h:RM.isReg r=false) (w:World):Calls Tryz.prog 96 #[.int .i64 r] w fun e w'=>e = .returned (.bool false)∧w=w':=by have:=isReg_any r w;rw [h] at this;exact this
theorem isReg_wf {r:Int}(h:RM.isReg r=true):(Lit.int .i64 r).wf=true:=by
 unfold RM.isReg at h
 simp at h
 exact WalkArith.wf_i64 (by omega)
theorem right_no {spare a b:Int}{s:List Int}{l:List RM.Mv}{k:Nat}(hx:l[k]?=some (a,b)) (h:¬ (RM.isReg a=true∧RM.isReg b=true∧a≠spare∧b≠spare∧a∉s)):RM.rightFrom spare s (l.drop k)=false:=by
 have hk:=(zq8.1 hx).1
 rw [zq9 hk,zt3] at hx
 rw [List.drop_eq_getElem_cons hk,hx,RM.rightFrom]
 apply if_neg
 intro h2
 apply h
 simp only [Bool.and_eq_true,Bool.not_eq_true',decide_eq_false_iff_not,List.any_eq_false,decide_eq_true_eq] at h2
 exact⟨h2.1.1.1.1,h2.1.1.1.2,h2.1.1.2,h2.1.2,fun hm=>h2.2 a hm rfl⟩
theorem right_yes {spare a b:Int}{s:List Int}{l:List RM.Mv}{k:Nat}(hx:l[k]?=some (a,b)) (h1:RM.isReg a=true) (h2:RM.isReg b=true) (h3:a≠spare) (h4:b≠spare) (h5:a∉s):RM.rightFrom spare s (l.drop k)=RM.rightFrom spare (a :: s) (l.drop (k+1)):=by
 have hk:=(zq8.1 hx).1
 rw [zq9 hk,zt3] at hx
 rw [List.drop_eq_getElem_cons hk,hx,RM.rightFrom]
 apply if_pos
 simp only [Bool.and_eq_true,Bool.not_eq_true',decide_eq_false_iff_not,List.any_eq_false,decide_eq_true_eq]
 exact⟨⟨⟨⟨h1,h2⟩,h3⟩,h4⟩,fun x hm e=>h5 (e ▸ hm)⟩
theorem few_of {a b:List Int}(hn:a.Nodup) (hs:∀ x∈a,x∈b) (hb:b.length≤16):a.length≤900000:=by
 by_cases h:b.length≤a.length
 ·have:=(RM.perm_of_sub hn hs h).length_eq
  omega
 omega
theorem imap_run {w:World}{b:Nat}{l:List (Int×Int)}(h:IMap Tryz.prog w b l) {k:Int}(hk:(Lit.int .i64 k).wf=true) (t:TypeId) (ht:Tryz.prog.underlying t=some (.map 3 3)):(Instr.lookup t (.map (some b)) (.int .i64 k) false).run Tryz.prog w = .ok (.int .i64 (iat l k)) w:=by
 obtain⟨D,h1,h2,h3,h4,h5⟩:=h
 obtain⟨c,hrun,hat,_⟩:=h1.lookup_int (int_keyed Tryz.underlying3) ht Tryz.underlying3 (zero3 w) (key_wf Tryz.underlying3 hk)
 have:c=iat l k:=by
  cases hq:ikey l k with
  | true =>
   obtain⟨v,hv⟩:=ikey_iff.1 hq
   rw [(h4 k v hv).2.2] at hat
   simp at hat
   rw [← hat,iat_mem h3 hv]
  | false =>
   have hno:Maps.has D (.int .i64 k)=false:=by
    cases hq2:Maps.has D (.int .i64 k) with
    | false=>rfl
    | true=>rw [ikey_iff.2 (h5 k hq2)] at hq;cases hq
   rw [Maps.atKey_of_not_has hno] at hat
   simp at hat
   rw [← hat,iat_none hq]
 rw [this] at hrun
 exact hrun
theorem iset_run {w:World}{b:Nat}{T:List Int}(h:ISet w b T) {k:Int}(hk:(Lit.int .i64 k).wf=true):(Instr.lookup 108 (.map (some b)) (.int .i64 k) false).run Tryz.prog w = .ok (.int .i64 (if k∈T then 1 else 0)) w:=by
 obtain⟨l,h1,h2,h3,h4⟩:=h
 have:=imap_run h1 hk 108 Tryz.underlying108
 rw [iat_set h1.nodup h3 h4] at this
 exact this
def AmP (w:World) (b:Bool) (e:Ending) (w':World):Prop:=e = .returned (.bool b)∧Below w.heap.size w w'
theorem areMoves_any {w:World}{v:Value}{l:List RM.Mv}{spare:Int}(h:MvsAt w v l):Calls Tryz.prog 68 #[v,.int .i64 spare] w (AmP w (RM.areMoves l spare)):=by
 obtain⟨ad,c,rfl,hat⟩:=h
 have HAT:=zh hat
 obtain⟨n,hn⟩:∃ n,n=l.length:=⟨_,rfl⟩
 rw [← hn]
 have HN:=zh hn
 have hmm := @run_makeMap Tryz.prog
 obtain⟨ans,hans⟩:∃ a,a=RM.areMoves l spare:=⟨_,rfl⟩
 rw [← hans]
 have HA:=zh hans
 clear hat hn hans
 by_cases h16:n≤16
 ·have d16:decide (16<(n:Int))=false:=by simp;omega
  have hnz:(n:Int)≤16:=by omega
  have H16:=zh h16
  clear h16
  cases hsp:RM.isReg spare with
  | false =>
   have E:Hid (ans=false):=by show _=_;rw [HA.out];unfold RM.areMoves;rw [hsp];simp
   have CS:=zh (isReg_no hsp)
   clear hsp
   go_enter Tryz.func68,Tryz.ntmps68
   go_wp2_with (go_at_call 96;refine(CS.out _).mono ?_;rintro e w' ⟨rfl,rfl⟩)
   go_ret
   exact⟨by rw [E.out];rfl,zs9 _ _⟩
  | true =>
   have CS:=zh (isReg_yes hsp)
   have E:Hid (ans=RM.rightFrom spare [] l):=by show _=_;rw [HA.out];unfold RM.areMoves;rw [hsp,← HN.out];simp [H16.out]
   clear hsp
   go_enter Tryz.func68,Tryz.ntmps68
   go_wp2_with (go_at_call 96;refine(CS.out _).mono ?_;rintro e w' ⟨rfl,rfl⟩)
   go_loopw [19] (fun iv wr=>∃ (k:Nat) (s:List Int),k≤n∧iv = .int .i64 k∧ISet wr w.heap.size s∧s.length=k∧Below w.heap.size w wr∧ans=RM.rightFrom spare s (l.drop k)) (fun iv _=>n - (intOf iv).toNat)
   case atStart=>exact⟨0,[],Nat.zero_le _,rfl,ISet.made w,rfl,(zs9 _ _).alloc (zr4 _) _,E.out⟩
   obtain⟨k,s,hk,rfl,hset,hsl,hb,he⟩:=hrel
   have HK:=zh hk
   have HS:=zh hset
   have HSL:=zh hsl
   have HB:=zh hb
   have HE:=zh he
   clear hk hset hsl hb he E hmm
   by_cases hlt:k<n
   ·obtain⟨g,o,rfl,hat⟩:=HAT.out (by have:=HN.out;omega)
    obtain⟨⟨a,b⟩,hx⟩:∃ m,l[k]?=some m:=⟨_,zq9 (by have:=HN.out;omega)⟩
    obtain⟨y0,y1⟩:=hat k _ hx
    have y0:=zd HB.out _ _ y0
    have y1:=zd HB.out _ _ y1
    simp only [] at y0 y1
    have HX:=zh hx
    have HLT:=zh hlt
    have hlz:(k:Int)<n:=by omega
    have V0:Hid (∀ o,ISet (wr.alloc o) w.heap.size s):=fun o=>HS.out.keep (zt2 _ _ _ HS.out.lt)
    have VB:Hid (∀ o,Below w.heap.size w (wr.alloc o)):=fun o=>HB.out.alloc HB.out.size _
    clear hat hx hlt
    cases ha:RM.isReg a with
    | false =>
     have C1:=zh (isReg_no ha)
     have E2:Hid (ans=false):=by show _=_;rw [HE.out];exact right_no HX.out (fun h=>by rw [ha] at h;cases h.1)
     clear ha
     go_wp2_with (go_at_call 96;refine(C1.out _).mono ?_;rintro e w' ⟨rfl,rfl⟩)
     go_ret
     exact⟨by rw [E2.out];rfl,VB.out _⟩
    | true =>
     have C1:=zh (isReg_yes ha)
     have WFA:=zh (isReg_wf ha)
     have HA1:=zh ha
     clear ha
     cases hb2:RM.isReg b with
     | false =>
      have C2:=zh (isReg_no hb2)
      have E2:Hid (ans=false):=by show _=_;rw [HE.out];exact right_no HX.out (fun h=>by rw [hb2] at h;cases h.2.1)
      clear hb2
      go_wp2_with (go_at_call 96;(first | ((with_reducible refine(C1.out _).mono ?_);rintro e w' ⟨rfl,rfl⟩) | ((with_reducible refine(C2.out _).mono ?_);rintro e w' ⟨rfl,rfl⟩)))
      go_ret
      exact⟨by rw [E2.out];rfl,VB.out _⟩
     | true =>
      have C2:=zh (isReg_yes hb2)
      have HB1:=zh hb2
      clear hb2
      by_cases h3:a=spare
      ·have d3:(a==spare)=true:=by simp [h3]
       have E2:Hid (ans=false):=by show _=_;rw [HE.out];exact right_no HX.out (fun h=>h.2.2.1 h3)
       clear h3
       go_wp2_with (go_at_call 96;(first | ((with_reducible refine(C1.out _).mono ?_);rintro e w' ⟨rfl,rfl⟩) | ((with_reducible refine(C2.out _).mono ?_);rintro e w' ⟨rfl,rfl⟩)))
       go_ret
       exact⟨by rw [E2.out];rfl,VB.out _⟩
      have d3:(a==spare)=false:=by simp [h3]
      have H3:=zh h3
      clear h3
      by_cases h4:b=spare
      ·have d4:(b==spare)=true:=by simp [h4]
       have E2:Hid (ans=false):=by show _=_;rw [HE.out];exact right_no HX.out (fun h=>h.2.2.2.1 h4)
       clear h4
       go_wp2_with (go_at_call 96;(first | ((with_reducible refine(C1.out _).mono ?_);rintro e w' ⟨rfl,rfl⟩) | ((with_reducible refine(C2.out _).mono ?_);rintro e w' ⟨rfl,rfl⟩)))
       go_ret
       exact⟨by rw [E2.out];rfl,VB.out _⟩
      have d4:(b==spare)=false:=by simp [h4]
      have H4:=zh h4
      clear h4
      by_cases h5:a∈s
      ·have E2:Hid (ans=false):=by show _=_;rw [HE.out];exact right_no HX.out (fun h=>h.2.2.2.2 h5)
       have e5:∀ o,(Instr.lookup 108 (.map (some w.heap.size)) (.int .i64 a) false).run Tryz.prog (wr.alloc o) = .ok (.int .i64 1) (wr.alloc o):=fun o=>by have:=iset_run (V0.out o) WFA.out;rw [if_pos h5] at this;exact this
       clear h5
       go_wp2_with (first | (go_at_call 96;(first | ((with_reducible refine(C1.out _).mono ?_);rintro e w' ⟨rfl,rfl⟩) | ((with_reducible refine(C2.out _).mono ?_);rintro e w' ⟨rfl,rfl⟩))))
       go_ret
       exact⟨by rw [E2.out];rfl,VB.out _⟩
      have E2:Hid (ans=RM.rightFrom spare (a :: s) (l.drop (k+1))):=by show _=_;rw [HE.out];exact right_yes HX.out HA1.out HB1.out H3.out H4.out h5
      have e5:∀ o,(Instr.lookup 108 (.map (some w.heap.size)) (.int .i64 a) false).run Tryz.prog (wr.alloc o) = .ok (.int .i64 0) (wr.alloc o):=fun o=>by have:=iset_run (V0.out o) WFA.out;rw [if_neg h5] at this;exact this
      clear h5
      go_wp2_with (first | (go_at_call 96;(first | ((with_reducible refine(C1.out _).mono ?_);rintro e w' ⟨rfl,rfl⟩) | ((with_reducible refine(C2.out _).mono ?_);rintro e w' ⟨rfl,rfl⟩))) | (at_mapUpdate;refine wpList_sput rfl _ _ _ rfl w.heap.size s rfl (V0.out _) (zr5 (Nat.le_of_eq HSL.out) (zr5 HK.out (zr5 H16.out (by decide)))) (fun l2 hn2 hs2=>few_of hn2 hs2 (zr5 (Nat.le_of_eq HSL.out) (zr5 HK.out H16.out))) a rfl rfl WFA.out ?_))
      intro w2 hm2 hg2
      have HM2:=zh (hm2.congr (T':=a :: s) (fun q=>by simp [or_comm]))
      have HB2:=zh ((VB.out _).grown hg2 (VB.out _).size (fun r e=>by simp at e;omega))
      clear hm2 hg2
      go_wp2_with fail
      go_roundw
      case rel=>exact⟨k+1,a :: s,HLT.out,by go_num,HM2.out,by rw [List.length_cons,HSL.out],HB2.out,E2.out⟩
      case measure=>have:=HLT.out;simp [intOf];omega
   have hlz:(n:Int)≤k:=by omega
   have E2:Hid (ans=true):=by
    show _=_
    have hkl:l.length≤k:=by have:=HN.out;omega
    rw [HE.out,List.drop_of_length_le hkl]
    rfl
   clear hlt
   go_wp2_with fail
   go_ret
   exact⟨by rw [E2.out];rfl,HB.out⟩
 have d16:decide (16<(n:Int))=true:=by simp;omega
 have E:Hid (ans=false):=by show _=_;rw [HA.out];unfold RM.areMoves;rw [← HN.out];simp [h16]
 clear h16
 go_enter Tryz.func68,Tryz.ntmps68
 go_wp2_with fail
 go_ret
 exact⟨by rw [E.out];rfl,zs9 _ _⟩
end Go.Proofs.YtnkahlloahgifaaGreatDoor
namespace Go.Proofs.YtnkahlloahgifaaGreatDoor
open Go.RowKit RG Go.Maps
structure MFun (G:Nat) (cap:Array Value) (p:RM.Mv→Bool) (Ok:World→Prop):Prop where
 enter:∀ args w,(callFunc G args).run Tryz.prog w = .ok (.enter G args) w
 call:∀ (W:World) (a b:Int),Ok W→Calls Tryz.prog G (#[.agg #[.int .i64 a,.int .i64 b]]++cap) W fun e W'=>e = .returned (.bool (p (a,b)))∧Below W.heap.size W W'
 keep:∀ W W',Ok W→Below W.heap.size W W'→Ok W'
theorem idx_at {l:List RM.Mv}{p:RM.Mv→Bool}{k:Nat}{x:RM.Mv}(h:∀ (i:Nat) m,i<k→l[i]?=some m→p m=false) (hx:l[k]?=some x) (hp:p x=true):l.findIdx p=k:=by
 have hk:=(zq8.1 hx).1
 rw [zq9 hk,zt3] at hx
 rw [List.findIdx_eq hk]
 exact⟨by rw [hx];exact hp,fun j hj=>h j _ hj (zq9 (by omega))⟩
theorem idx_none {l:List RM.Mv}{p:RM.Mv→Bool}(h:∀ (i:Nat) m,l[i]?=some m→p m=false):¬ l.findIdx p<l.length:=fun hl=>by
 have h1:=List.findIdx_getElem (w:=hl)
 rw [h _ _ (zq9 hl)] at h1
 cases h1
def IxP (w:World) (l:List RM.Mv) (p:RM.Mv→Bool) (e:Ending) (w':World):Prop :=
 Below w.heap.size w w'∧e = .returned (.int .i64 (if l.findIdx p<l.length then (l.findIdx p:Int) else -1))
theorem indexFunc_any {G:Nat}{cap:Array Value}{p:RM.Mv→Bool}{Ok:World→Prop}(M:MFun G cap p Ok) {w:World}{v:Value}{l:List RM.Mv}(h:MvsAt w v l) (hl:l.length≤1000000) (hok:Ok w):Calls Tryz.prog 72 #[v,.func (.func G) #[] cap] w (IxP w l p):=by
 obtain⟨ad,c,rfl,hat⟩:=h
 have HAT:=zh hat
 have HM:=zh M
 have HOK:=zh hok
 have eg:=M.enter
 obtain⟨n,hn⟩:∃ n,n=l.length:=⟨_,rfl⟩
 rw [← hn] at hl ⊢
 have HN:=zh hn
 have hnz:(n:Int)≤1000000:=by omega
 clear hat hn hl M hok
 go_enter Tryz.func72,Tryz.ntmps72
 go_wp2_with fail
 go_loopw [8] (fun iv wr=>∃ k:Nat,k≤n∧iv = .int .i64 k∧Below w.heap.size w wr∧∀ (i:Nat) m,i<k→l[i]?=some m→p m=false) (fun iv _=>n - (intOf iv).toNat)
 case atStart=>exact⟨0,Nat.zero_le _,rfl,zs9 _ _,fun i m hi=>absurd hi (Nat.not_lt_zero i)⟩
 obtain⟨k,hk,rfl,hb,hno⟩:=hrel
 have HK:=zh hk
 have HB:=zh hb
 have HNO:=zh hno
 clear hk hb hno
 by_cases hlt:k<n
 ·obtain⟨g,o,rfl,hat⟩:=HAT.out (by have:=HN.out;omega)
  obtain⟨⟨a,b⟩,hx⟩:∃ m,l[k]?=some m:=⟨_,zq9 (by have:=HN.out;omega)⟩
  obtain⟨y0,y1⟩:=hat k _ hx
  have y0:=zd HB.out _ _ y0
  have y1:=zd HB.out _ _ y1
  simp only [] at y0 y1
  have HX:=zh hx
  have HLT:=zh hlt
  have hlz:(k:Int)<n:=by omega
  clear hat hx hlt
  go_wp2_with fail
  refine(HM.out.call wr a b (HM.out.keep _ _ HOK.out HB.out)).mono ?_
  rintro e w1 ⟨rfl,hb1⟩
  have HB1:Hid (Below w.heap.size w w1):=HB.out.trans (hb1.mono HB.out.size)
  clear hb1 y0 y1
  cases hp:p (a,b) with
  | true =>
   have E:Hid (l.findIdx p=k):=idx_at HNO.out HX.out hp
   clear hp
   go_wp2_with fail
   go_ret
   exact⟨HB1.out,by rw [E.out,if_pos (by have:=HLT.out;have:=HN.out;omega)];rfl⟩
  | false =>
   have NX:Hid (∀ (i:Nat) m,i<k+1→l[i]?=some m→p m=false):=fun i m hi hm=>by
    by_cases e2:i=k
    ·subst e2
     rw [HX.out,zt3] at hm
     rw [← hm];exact hp
    exact HNO.out i m (by omega) hm
   clear hp
   go_wp2_with fail
   go_roundw
   case rel=>exact⟨k+1,HLT.out,by go_num,HB1.out,NX.out⟩
   case measure=>have:=HLT.out;simp [intOf];omega
 have hlz:(n:Int)≤k:=by omega
 have E:Hid (¬ l.findIdx p<l.length):=idx_none fun i m hm=>HNO.out i m (by have:=(zq8.1 hm).1;have:=HN.out;omega) hm
 clear hlt
 go_wp2_with fail
 go_ret
 exact⟨HB.out,by rw [if_neg E.out];rfl⟩
end Go.Proofs.YtnkahlloahgifaaGreatDoor
namespace Go.Proofs.YtnkahlloahgifaaGreatDoor
open Go.RowKit RG Go.Maps
theorem same_fun:MFun 71 #[] (fun m=>decide (m.1=m.2)) (fun _=>True) where
 enter:=enters_of Tryz.func71 (by kernel_rfl) rfl
 keep:=fun _ _ _ _=>trivial
 call:=fun W a b _=>by
  simp only [Array.append_empty]
  go_enter Tryz.func71,Tryz.ntmps71
  go_wp2_with fail
  go_ret
  exact⟨by congr 2,(zs9 _ _).alloc (zr4 _) _⟩
theorem from_fun (mb:Nat) (t:Int):MFun 75 #[.pointer (some ⟨mb,0,none⟩)] (fun o=>decide (o.2=t)) (fun W=>W.cell? ⟨mb,0,none⟩=some (.int .i64 t)) where
 enter:=enters_of Tryz.func75 (by kernel_rfl) rfl
 keep:=fun W W' h hb=>zd hb _ _ h
 call:=fun W a b h=>by
  have hlt:mb<W.heap.size:=zs3 W _ h
  simp only [List.append_toArray,List.cons_append,List.nil_append]
  go_enter Tryz.func75,Tryz.ntmps75
  go_wp2_with fail
  go_ret
  exact⟨by congr 2,(zs9 _ _).alloc (zr4 _) _⟩
def CxP (w:World) (b:Bool) (e:Ending) (w':World):Prop:=Below w.heap.size w w'∧e = .returned (.bool b)
theorem containsFunc_any {G:Nat}{cap:Array Value}{p:RM.Mv→Bool}{Ok:World→Prop}(M:MFun G cap p Ok) {w:World}{v:Value}{l:List RM.Mv}(h:MvsAt w v l) (hl:l.length≤1000000) (hok:Ok w):Calls Tryz.prog 74 #[v,.func (.func G) #[] cap] w (CxP w (l.any p)):=by
 have IX:=zh (indexFunc_any M h hl hok)
 have hv:∃ a n c,v = .slice a n c:=by obtain⟨a,c,e,_⟩:=h;exact⟨_,_,_,e⟩
 obtain⟨a,n,c,rfl⟩:=hv
 have HA:Hid (l.any p=decide (l.findIdx p<l.length)):=by
  show _=_
  rw [Bool.eq_iff_iff,decide_eq_true_eq,List.findIdx_lt_length,List.any_eq_true]
 clear M h hl hok
 by_cases hx:l.findIdx p<l.length
 ·have E:Hid (l.any p=true):=by show _=_;rw [HA.out];simpa using hx
  obtain⟨i,hi⟩:∃ i,i=l.findIdx p:=⟨_,rfl⟩
  have IX2:Hid (Calls Tryz.prog 72 #[.slice a n c,.func (.func G) #[] cap] w fun e w'=>Below w.heap.size w w'∧e = .returned (.int .i64 (i:Int))):=by
   refine IX.out.mono ?_
   rintro e w' ⟨hb,he⟩
   rw [if_pos hx,← hi] at he
   exact⟨hb,he⟩
  have hi0:(0:Int)≤i:=by omega
  clear hx hi
  go_enter Tryz.func74,Tryz.ntmps74
  go_wp2_with fail
  refine IX2.out.mono ?_
  rintro e w1 ⟨hb,rfl⟩
  have HB:=zh hb
  clear hb
  go_wp2_with fail
  go_ret
  exact⟨HB.out,by rw [E.out];rfl⟩
 have E:Hid (l.any p=false):=by show _=_;rw [HA.out];simpa using hx
 have IX2:Hid (Calls Tryz.prog 72 #[.slice a n c,.func (.func G) #[] cap] w fun e w'=>Below w.heap.size w w'∧e = .returned (.int .i64 (-1))):=by
  refine IX.out.mono ?_
  rintro e w' ⟨hb,he⟩
  rw [if_neg hx] at he
  exact⟨hb,he⟩
 clear hx
 go_enter Tryz.func74,Tryz.ntmps74
 go_wp2_with fail
 refine IX2.out.mono ?_
 rintro e w1 ⟨hb,rfl⟩
 have HB:=zh hb
 clear hb
 go_wp2_with fail
 go_ret
 exact⟨HB.out,by rw [E.out];rfl⟩
theorem free_fun (rc:Nat) (rest:List RM.Mv) (hl:rest.length≤1000000):MFun 73 #[.pointer (some ⟨rc,0,none⟩)] (RM.free rest) (fun W=>∃ v,W.cell? ⟨rc,0,none⟩=some v∧MvsAt W v rest) where
 enter:=enters_of Tryz.func73 (by kernel_rfl) rfl
 keep:=fun W W' h hb=>by obtain⟨v,h1,h2⟩:=h;exact⟨v,zd hb _ _ h1,h2.kept (zd hb)⟩
 call:=fun W a b h=>by
  obtain⟨v,h1,h2⟩:=h
  have hlt:rc<W.heap.size:=zs3 W _ h1
  have hb:Below W.heap.size W (W.alloc (.cells #[.int .i64 a,.int .i64 b] 81)):=(zs9 _ _).alloc (zr4 _) _
  have hm:(W.alloc (.cells #[.int .i64 a,.int .i64 b] 81)).cell? ⟨W.heap.size,0,none⟩=some (.int .i64 a):=by rw [zb _ _ 0 _ _ _ (zs2 W _)];rfl
  have CX:=zh (containsFunc_any (from_fun W.heap.size a) (h2.kept (zd hb)) hl hm)
  have HB:=zh hb
  have hv:∃ a n c,v = .slice a n c:=by obtain⟨a,c,e,_⟩:=h2;exact⟨_,_,_,e⟩
  obtain⟨va,vn,vc,rfl⟩:=hv
  have HF:Hid (RM.free rest (a,b) = !(rest.any fun o=>decide (o.2=a))):=zh rfl
  obtain⟨q,hq⟩:∃ q,q=rest.any fun o=>decide (o.2=a):=⟨_,rfl⟩
  rw [← hq] at CX HF
  clear h2 hb hm hq
  simp only [List.append_toArray,List.cons_append,List.nil_append]
  cases q with
  | true =>
   go_enter Tryz.func73,Tryz.ntmps73
   go_wp2_with fail
   refine CX.out.mono ?_
   rintro e w1 ⟨hb,rfl⟩
   have HB1:Hid (Below W.heap.size W w1):=HB.out.trans (hb.mono HB.out.size)
   clear hb
   go_wp2_with fail
   go_ret
   exact⟨by rw [HF.out];rfl,HB1.out⟩
  | false =>
   go_enter Tryz.func73,Tryz.ntmps73
   go_wp2_with fail
   refine CX.out.mono ?_
   rintro e w1 ⟨hb,rfl⟩
   have HB1:Hid (Below W.heap.size W w1):=HB.out.trans (hb.mono HB.out.size)
   clear hb
   go_wp2_with fail
   go_ret
   exact⟨by rw [HF.out];rfl,HB1.out⟩
end Go.Proofs.YtnkahlloahgifaaGreatDoor
namespace Go.Proofs.YtnkahlloahgifaaGreatDoor
open Go.RowKit RG Go.Maps
def zy (l:List RM.Mv):List Value:=l.flatMap fun m=>[.int .i64 m.1,.int .i64 m.2]
theorem mvCells_length:∀ l:List RM.Mv,(zy l).length=l.length*2
 | []=>rfl
 | m :: l=>by
  have:=mvCells_length l
  unfold zy at *
  rw [List.flatMap_cons,zr2,this,List.length_cons]
  simp;omega
theorem mvCells_append (a b:List RM.Mv):zy (a++b)=zy a++zy b:=by unfold zy;rw [List.flatMap_append]
theorem mvCells_at:∀ (l:List RM.Mv) (i:Nat) (m:RM.Mv),l[i]?=some m→(zy l)[i*2]?=some (.int .i64 m.1)∧(zy l)[i*2+1]?=some (.int .i64 m.2)
 | [],i,m,h=>by simp at h
 | a :: l,0,m,h=>by
  simp at h
  subst h
  exact⟨rfl,rfl⟩
 | a :: l,i+1,m,h=>by
  rw [List.getElem?_cons_succ] at h
  have:=mvCells_at l i m h
  rw [show (i+1)*2=i*2+1+1 from by omega]
  exact this
theorem mvCells_one {l:List RM.Mv}{u:Value}(h:u∈zy l):u.oneCell'=true:=by
 unfold zy at h
 obtain⟨m,_,hm⟩:=List.mem_flatMap.1 h
 simp at hm
 rcases hm with rfl | rfl<;>rfl
def MvOwn (w:World) (base:Nat) (v:Value) (l:List RM.Mv):Prop:=w.ownsRow base 81 2 v l.length (zy l)
theorem MvOwn.at' {w:World}{base:Nat}{v:Value}{l:List RM.Mv}(h:MvOwn w base v l):MvsAt w v l:=by
 obtain⟨h1,h2⟩:=h
 rcases h2 with ⟨rfl,h0⟩|⟨g,cap,cur,rfl,hb,hg,k1,k2,k3,k4⟩
 ·exact⟨none,0,by rw [h0],fun h=>by omega⟩
 refine⟨some ⟨g,0,none⟩,cap,rfl,fun h0=>⟨g,0,rfl,fun i m hi=>?_⟩⟩
 have hl:=(zq8.1 hi).1
 obtain⟨a,b⟩:=mvCells_at l i m hi
 refine⟨?_,?_⟩
 ·rw [Nat.zero_add,zb _ _ _ _ _ _ hg,← Array.getElem?_toList,← List.getElem?_take_of_lt (show i*2<l.length*2 by omega),k4];exact a
 rw [Nat.zero_add,zb _ _ _ _ _ _ hg,← Array.getElem?_toList,← List.getElem?_take_of_lt (show i*2+1<l.length*2 by omega),k4];exact b
theorem MvsAt.cells {w:World}{ad:Option Addr}{c:Nat}{l:List RM.Mv}(h:MvsAt w (.slice ad l.length c) l) {g o:Nat}(e:ad=some ⟨g,o,none⟩):∀ j u,(zy l)[j]?=some u→w.cell? ((⟨g,o,none⟩:Addr).add j)=some u:=by
 obtain⟨ad',c',e',hat⟩:=h
 intro j u hu
 have hj:=(zq8.1 hu).1
 rw [mvCells_length] at hj
 obtain⟨g',o',e2,hat⟩:=hat (by omega)
 simp only [Value.slice.injEq,true_and] at e'
 rw [← e'.1,e] at e2
 simp only [zt3,Addr.mk.injEq,and_true] at e2
 obtain⟨rfl,rfl⟩:=e2
 obtain⟨m,hm⟩:∃ m,l[j / 2]?=some m:=⟨_,zq9 (by omega)⟩
 obtain⟨y0,y1⟩:=hat _ _ hm
 obtain⟨x0,x1⟩:=mvCells_at l _ m hm
 rw [Addr.add_lit]
 rcases Nat.mod_two_eq_zero_or_one j with h2 | h2
 ·have e3:j / 2*2=j:=by omega
  rw [e3] at x0 y0
  rw [x0,zt3] at hu
  rw [← hu];exact y0
 have e3:j / 2*2+1=j:=by omega
 rw [show o+j / 2*2+1=o+j from by omega] at y1
 rw [e3] at x1
 rw [x1,zt3] at hu
 rw [← hu];exact y1
theorem Tryz.info81:(Tryz.prog.info? 81).map (fun i=>(i.zero,i.size,i.bytes))=some (some (.agg #[.int .i64 0,.int .i64 0]),2,16):=by kernel_rfl
def ClP (w:World) (l:List RM.Mv) (e:Ending) (w':World):Prop:=∃ v,e = .returned v∧MvOwn w' w.heap.size v l∧Below w.heap.size w w'
theorem clone_any {w:World}{v:Value}{l:List RM.Mv}(h:MvsAt w v l) (hl:l.length≤1000000):Calls Tryz.prog 70 #[v] w (ClP w l):=by
 obtain⟨ad,c,rfl,-⟩:=id h
 have H:=zh h
 obtain⟨n,hn⟩:∃ n,n=l.length:=⟨_,rfl⟩
 rw [← hn]
 have HN:=zh hn
 have HL:=zh hl
 clear h hn hl
 cases ad with
 | none =>
  have qn:=fun (w:World)=>run_eql_slice_nil (P:=Tryz.prog) w 74 81 none n c Tryz.underlying74
  have hn0:Hid (n=0):=by
   obtain⟨ad',c',e,hat⟩:=H.out
   refine Nat.eq_zero_of_not_pos fun h0=>?_
   obtain⟨g,o,e2,_⟩:=hat (by rw [← HN.out];exact h0)
   simp only [Value.slice.injEq] at e
   rw [← e.1] at e2
   cases e2
  go_enter Tryz.func70,Tryz.ntmps70
  go_wp2_with fail
  go_ret
  have e0:l=[]:=List.eq_nil_of_length_eq_zero (by rw [← HN.out];exact hn0.out)
  exact⟨_,rfl,by unfold MvOwn;rw [e0];exact World.ownsRow_nil _ _ _ _,zs9 _ _⟩
 | some ad =>
  have qn:=fun (w:World)=>run_eql_slice_nil (P:=Tryz.prog) w 74 81 (some ad) n c Tryz.underlying74
  obtain⟨i0,hi0,hz0,hz1,hz2⟩:=info_parts Tryz.info81
  have HI:=zh (And.intro hi0 (And.intro hz0 (And.intro hz1 hz2)))
  have BW:Hid (Below w.heap.size w (w.alloc (.cells #[] 81))):=(zs9 _ _).alloc (zr4 _) _
  have OW:Hid ((w.alloc (.cells #[] 81)).ownsRow w.heap.size 81 2 (.slice (some ⟨w.heap.size,0,none⟩) 0 0) 0 []):=⟨rfl,.inr ⟨w.heap.size,0,#[],rfl,zr4 _,zs2 w _,zr4 _,Nat.zero_le _,rfl,rfl⟩⟩
  have NW:Hid (∀ (j:Nat) (u:Value),(zy l)[j]?=some u→(w.alloc (.cells #[] 81)).cell? (ad.add j)=some u):=fun j u hu=>by
   have hj:=(zq8.1 hu).1
   rw [mvCells_length] at hj
   obtain⟨ad',c',e,hat⟩:=H.out
   obtain⟨g,o,e2,_⟩:=hat (by omega)
   simp only [Value.slice.injEq] at e
   rw [← e.1,zt3] at e2
   subst e2
   exact zd BW.out _ _ (H.out.cells rfl j u hu)
  have LW:Hid (0+n≤maxLen∧(0+n)*16≤140737488355328):=by have h1:=HL.out;have h2:=HN.out;show _∧_;simp only [maxLen];omega
  clear hi0 hz0 hz1 hz2
  go_enter Tryz.func70,Tryz.ntmps70
  go_wp2_with (at_builtin;refine wpList_append_own _ rfl _ _ 74 rfl w.heap.size 81 i0 (.agg #[.int .i64 0,.int .i64 0]) 2 16 Tryz.underlying74 HI.out.1 HI.out.2.1 HI.out.2.2.1 HI.out.2.2.2 rfl (by decide) (.slice (some ⟨w.heap.size,0,none⟩) 0 0) 0 [] rfl OW.out ad n c (zy l) rfl (by rw [mvCells_length,HN.out]) NW.out (fun u hu=>mvCells_one hu) LW.out.1 LW.out.2 BW.out.size ?_)
  intro v' w1 hown hg _
  have O1:Hid (MvOwn w1 w.heap.size v' l):=by
   show MvOwn _ _ _ _
   rw [HN.out] at hown
   exact hown
  have B1:Hid (Below w.heap.size w w1):=BW.out.grown hg BW.out.size (fun r e=>by simp [Value.ownBlock] at e;omega)
  clear hown hg
  go_wp2_with fail
  go_ret
  exact⟨_,rfl,O1.out,B1.out⟩
end Go.Proofs.YtnkahlloahgifaaGreatDoor
namespace Go.Proofs.YtnkahlloahgifaaGreatDoor
open Go.RowKit RG Go.Maps
def RestAt (w:World) (g:Nat) (v:Value) (l:List RM.Mv):Prop :=
 (l=[]∧v = .slice none 0 0)∨∃ cap f,v = .slice (some ⟨g,0,none⟩) l.length cap∧l.length≤cap∧cap≤maxLen∧w.rowIs g 81 (cap*2) f∧∀ j u,(zy l)[j]?=some u→f j=u
theorem RestAt.mvs {w:World}{g:Nat}{v:Value}{l:List RM.Mv}(h:RestAt w g v l):MvsAt w v l:=by
 rcases h with ⟨rfl,rfl⟩|⟨cap,f,rfl,h1,h2,h3,h4⟩
 ·exact⟨none,0,rfl,fun h=>absurd h (by simp)⟩
 refine⟨some ⟨g,0,none⟩,cap,rfl,fun h0=>⟨g,0,rfl,fun i m hi=>?_⟩⟩
 have hl:=(zq8.1 hi).1
 obtain⟨a,b⟩:=mvCells_at l i m hi
 exact⟨by rw [Nat.zero_add,h3.cell (by omega),h4 _ _ a],by rw [Nat.zero_add,h3.cell (by omega),h4 _ _ b]⟩
theorem RestAt.keep {w w':World}{g:Nat}{v:Value}{l:List RM.Mv}(h:RestAt w g v l) (hb:w'.heap[g]?=w.heap[g]?):RestAt w' g v l:=by
 rcases h with h | ⟨cap,f,h0,h1,h2,h3,h4⟩
 ·exact .inl h
 exact .inr ⟨cap,f,h0,h1,h2,h3.of_block hb,h4⟩
theorem RestAt.lt {w:World}{g:Nat}{v:Value}{l:List RM.Mv}(h:RestAt w g v l) (h0:0<l.length):g<w.heap.size:=by
 rcases h with ⟨rfl,_⟩|⟨cap,f,_,h1,h2,h3,h4⟩
 ·simp at h0
 exact h3.lt
theorem zeroCells2 (n:Nat):(Builtin.zeroCells #[.int .i64 0,.int .i64 0] n).toList=List.replicate (n*2) (.int .i64 0):=by
 unfold Builtin.zeroCells
 apply List.ext_getElem
 ·simp
 intro i h1 h2
 simp only [Array.toList_map,List.getElem_map,Array.getElem_toList,Array.getElem_range,List.getElem_replicate]
 have:i % #[Value.int .i64 0,Value.int .i64 0].size=0∨i % #[Value.int .i64 0,Value.int .i64 0].size=1:=by simp;omega
 rcases this with e | e<;>rw [e]<;>rfl
theorem zero81 (w:World):(zeroValue 81).run Tryz.prog w = .ok (.agg #[.int .i64 0,.int .i64 0]) w:=by kernel_rfl
theorem run_clear2 (w:World) (t ty:TypeId) (ht:Tryz.prog.underlying t=some (.slice 81)) (b o n c:Nat) (hn:0<n)
  (hc:∀ j,j<n*2→(w.cell? ⟨b,o+j,none⟩).isSome=true) (hf:∀ j,j<n*2→w.frozen? ⟨b,o+j,none⟩=false) :
  (Builtin.clear_ #[t] ty #[.slice (some ⟨b,o,none⟩) n c]).run Tryz.prog w = .ok (.tuple #[]) (w.setCells b o (List.replicate (n*2) (.int .i64 0))):=by
 have hst:=run_storeCells_cells (P:=Tryz.prog) b o (List.replicate (n*2) (.int .i64 0)) 0 w (by simpa using hc) (by simpa using hf) (by intro v hv';rw [List.eq_of_mem_replicate hv'];rfl)
 simp only [Nat.add_zero] at hst
 have hz:=zeroCells2 n
 obtain⟨m,rfl⟩:∃ m,n=m+1:=⟨n - 1,by omega⟩
 simp [Builtin.clear_,run_underlying ht,zero81,Value.cells,hz,hst]
end Go.Proofs.YtnkahlloahgifaaGreatDoor
namespace Go.Proofs.YtnkahlloahgifaaGreatDoor
open Go.RowKit RG Go.Maps
def DfP (w:World) (g:Nat) (l:List RM.Mv) (e:Ending) (w':World):Prop:=∃ v,e = .returned v∧RestAt w' g v l∧w.grownBy w' (some g)
theorem grown_below {w w':World}(h:Below w.heap.size w w') (g:Nat):w.grownBy w' (some g):=⟨h.os,h.tape,h.output,h.size,fun k hk _=>h.block k hk⟩
theorem grown_alloc (w:World) (o:Obj) (g:Nat):w.grownBy (w.alloc o) (some g):=grown_below ((zs9 _ _).alloc (zr4 _) _) g
theorem grown_refl (w:World) (g:Nat):w.grownBy w (some g):=grown_below (zs9 _ _) g
theorem grown_setCell (w:World) (a:Addr) (v:Value):w.grownBy (w.setCell a v) (some a.block) :=
 ⟨rfl,rfl,rfl,by simp,fun k hk hne=>zt1 w a v k (fun e=>hne (by rw [e]))⟩
theorem grown_setCells (b:Nat):∀ (vs:List Value) (o:Nat) (w:World),w.grownBy (w.setCells b o vs) (some b)
 | [],_,w=>grown_refl w b
 | v :: r,o,w=>grown_trans (grown_setCell w ⟨b,o,none⟩ v) (grown_setCells b r (o+1) _) (fun r e=>by simp at e;exact .inl e.symm)
theorem idx_filter {l:List RM.Mv}{p:RM.Mv→Bool}(h:¬ l.findIdx p<l.length):l.filter (fun m => !p m)=l:=by
 rw [List.filter_eq_self]
 intro m hm
 cases hp:p m with
 | false=>rfl
 | true=>exact absurd (List.findIdx_lt_length.2 ⟨m,hm,hp⟩) h
structure DelI (l:List RM.Mv) (p:RM.Mv→Bool) (j i:Nat) (f:Nat→Value):Prop where
 len:((l.take j).filter fun m => !p m).length=i
 lt:i<j
 low:∀ c u,(zy ((l.take j).filter fun m => !p m))[c]?=some u→f c=u
 high:∀ c u,j*2≤c→(zy l)[c]?=some u→f c=u
theorem DelI.start {l:List RM.Mv}{p:RM.Mv→Bool}{f:Nat→Value}(hf:∀ c u,(zy l)[c]?=some u→f c=u) (h:l.findIdx p<l.length):DelI l p (l.findIdx p+1) (l.findIdx p) f:=by
 have e1:(l.take (l.findIdx p)).filter (fun m => !p m)=l.take (l.findIdx p):=by
  rw [List.filter_eq_self]
  intro m hm
  obtain⟨i,hi⟩:=List.getElem?_of_mem hm
  have hil:=(zq8.1 hi).1
  rw [List.length_take] at hil
  rw [List.getElem?_take_of_lt (by omega)] at hi
  have hi2:=(zq8.1 hi)
  have:=List.not_of_lt_findIdx (p:=p) (xs:=l) (i:=i) (by omega)
  rw [hi2.2] at this
  simpa using this
 have e2:(l.take (l.findIdx p+1)).filter (fun m => !p m)=l.take (l.findIdx p):=by
  rw [List.take_add_one,List.filter_append,e1,zq9 h]
  simp [List.findIdx_getElem (w:=h)]
 refine⟨?_,Nat.lt_succ_self _,fun c u hu=>?_,fun c u _ hu=>hf c u hu⟩
 ·rw [e2,List.length_take];omega
 rw [e2] at hu
 refine hf c u ?_
 have:zy l=zy (l.take (l.findIdx p))++zy (l.drop (l.findIdx p)):=by rw [← mvCells_append,List.take_append_drop]
 rw [this,List.getElem?_append_left (zq8.1 hu).1]
 exact hu
theorem DelI.skip {l:List RM.Mv}{p:RM.Mv→Bool}{j i:Nat}{f:Nat→Value}{m:RM.Mv}(h:DelI l p j i f) (hm:l[j]?=some m) (hp:p m=true):DelI l p (j+1) i f:=by
 have e:(l.take (j+1)).filter (fun m => !p m)=(l.take j).filter (fun m => !p m):=by rw [List.take_add_one,List.filter_append,hm];simp [hp]
 exact⟨by rw [e];exact h.len,by have:=h.lt;omega,fun c u hu=>h.low c u (by rw [← e];exact hu),fun c u hc hu=>h.high c u (by omega) hu⟩
theorem DelI.take {l:List RM.Mv}{p:RM.Mv→Bool}{j i:Nat}{f g:Nat→Value}{m:RM.Mv}(h:DelI l p j i f) (hm:l[j]?=some m) (hp:p m=false)
  (hg:∀ c,g c=if c=i*2 then .int .i64 m.1 else if c=i*2+1 then .int .i64 m.2 else f c):DelI l p (j+1) (i+1) g:=by
 have e:(l.take (j+1)).filter (fun m => !p m)=(l.take j).filter (fun m => !p m)++[m]:=by rw [List.take_add_one,List.filter_append,hm];simp [hp]
 have hl:=h.len
 have hlt:=h.lt
 refine⟨by rw [e,zr2,hl];rfl,by omega,fun c u hu=>?_,fun c u hc hu=>?_⟩
 ·rw [e,mvCells_append] at hu
  have hlen:=mvCells_length ((l.take j).filter fun m => !p m)
  rw [hl] at hlen
  rw [hg]
  by_cases h1:c<i*2
  ·rw [List.getElem?_append_left (by omega)] at hu
   rw [if_neg (by omega),if_neg (by omega)]
   exact h.low c u hu
  rw [List.getElem?_append_right (by omega),hlen] at hu
  have h2:=(zq8.1 hu).1
  have h3:(zy [m]).length=2:=rfl
  rw [h3] at h2
  have:c=i*2∨c=i*2+1:=by omega
  rcases this with rfl | rfl
  ·rw [if_pos rfl]
   rw [Nat.sub_self] at hu
   simpa [zy] using hu
  rw [if_neg (by omega),if_pos rfl]
  rw [show i*2+1 - i*2=1 by omega] at hu
  simpa [zy] using hu
 rw [hg,if_neg (by omega),if_neg (by omega)]
 exact h.high c u (by omega) hu
theorem deleteFunc_any {G:Nat}{cap:Array Value}{p:RM.Mv→Bool}(M:MFun G cap p (fun _=>True)) {w:World}{g:Nat}{v:Value}{l:List RM.Mv}(h:RestAt w g v l) (hl:l.length≤1000000) :
  Calls Tryz.prog 69 #[v,.func (.func G) #[] cap] w (DfP w g (l.filter fun m => !p m)):=by
 have IX:=zh (indexFunc_any M h.mvs hl trivial)
 have HM:=zh M
 have eg:=M.enter
 by_cases hx:l.findIdx p<l.length
 ·rcases h with ⟨rfl,_⟩|⟨cp,f,rfl,h1,h2,h3,h4⟩
  ·simp at hx
  obtain⟨n,hn⟩:∃ n,n=l.length:=⟨_,rfl⟩
  rw [← hn] at hl h1 ⊢
  rw [← hn] at IX
  have HN:=zh hn
  obtain⟨i0,hi0⟩:∃ i,i=l.findIdx p:=⟨_,rfl⟩
  have IX2:Hid (Calls Tryz.prog 72 #[.slice (some ⟨g,0,none⟩) n cp,.func (.func G) #[] cap] w fun e w'=>Below w.heap.size w w'∧e = .returned (.int .i64 (i0:Int))):=by
   refine IX.out.mono ?_
   rintro e w' ⟨hb,he⟩
   rw [if_pos hx,← hi0] at he
   exact⟨hb,he⟩
  have ST:Hid (DelI l p (i0+1) i0 f):=by rw [hi0];exact DelI.start h4 hx
  have hi00:((i0:Int) == -1)=false:=beq_eq_false_iff_ne.2 (by omega)
  have hi1:(i0:Int)≤1000000:=by omega
  have hnz:(n:Int)≤1000000:=by omega
  have HI0:Hid (i0<n):=by show _<_;omega
  have H1:=zh h1
  have H2:=zh h2
  have H3:=zh h3
  clear hx hi0 IX h1 h2 h3 h4 hn hl M
  go_enter Tryz.func69,Tryz.ntmps69
  go_wp2_with fail
  refine IX2.out.mono ?_
  rintro e w1 ⟨hb,rfl⟩
  have R1:=zh (H3.out.of_block (hb.block _ H3.out.lt))
  have G1:=zh (grown_below hb g)
  clear hb
  go_wp2_with fail
  go_loopw [5,6] (fun iv jv wr=>∃ (i j:Nat) (f:Nat→Value),iv = .int .i64 i∧jv = .int .i64 j∧j≤n∧DelI l p j i f∧wr.rowIs g 81 (cp*2) f∧w.grownBy wr (some g)) (fun _ jv _=>n - (intOf jv).toNat)
  case atStart=>exact⟨i0,i0+1,f,rfl,by go_num,HI0.out,ST.out,R1.out,G1.out⟩
  obtain⟨i,j,f',rfl,rfl,hj,hI,hr,hg⟩:=hrel
  have KJ:=zh hj
  have KI:=zh hI
  have KR:=zh hr
  have KG:=zh hg
  have hiz:(i:Int)≤1000000:=by have:=hI.lt;omega
  have hjz:(j:Int)≤1000000:=by omega
  have hilt:(i:Int)<n:=by have:=hI.lt;omega
  have hi0:(0:Int)≤i:=by omega
  clear hj hI hr hg
  by_cases hlt:j<n
  ·have hltz:(j:Int)<n:=by omega
   obtain⟨⟨a,b⟩,hx⟩:∃ m,l[j]?=some m:=⟨_,zq9 (by have:=HN.out;omega)⟩
   have HX:=zh hx
   have HLT:=zh hlt
   have hcp:j*2+1<cp*2:=by have:=H1.out;omega
   obtain⟨m0,m1⟩:=mvCells_at l j _ hx
   have y0:=KR.out.cell (i:=j*2) (by omega)
   have y1:=KR.out.cell (i:=j*2+1) hcp
   rw [KI.out.high _ _ (zr4 _) m0] at y0
   rw [KI.out.high _ _ (by omega) m1] at y1
   have hicp:i*2+1<cp*2:=by have:=KI.out.lt;have:=H1.out;omega
   have HIC:=zh hicp
   clear m0 m1 hx hlt hcp hicp
   go_wp2_with fail
   refine(HM.out.call _ a b trivial).mono ?_
   rintro e w2 ⟨rfl,hb2⟩
   have c0:(wr.alloc (.cells #[.int .i64 a,.int .i64 b] 81)).cell? ⟨wr.heap.size,0,none⟩=some (.int .i64 a):=by rw [zb _ _ 0 _ _ _ (zs2 wr _)];rfl
   have c1:(wr.alloc (.cells #[.int .i64 a,.int .i64 b] 81)).cell? ⟨wr.heap.size,1,none⟩=some (.int .i64 b):=by rw [zb _ _ 1 _ _ _ (zs2 wr _)];rfl
   have c0:=zd hb2 _ _ c0
   have c1:=zd hb2 _ _ c1
   have R2:=zh ((KR.out.alloc (.cells #[.int .i64 a,.int .i64 b] 81)).of_block (hb2.block _ (KR.out.alloc _).lt))
   have G2:=zh (grown_trans (grown_trans KG.out (grown_alloc wr (.cells #[.int .i64 a,.int .i64 b] 81) g) (fun r e=>by simp at e;exact .inl e.symm)) (grown_below hb2 g) (fun r e=>by simp at e;exact .inl e.symm))
   clear hb2 y0 y1
   cases hp:p (a,b) with
   | true =>
    have DN:=zh (KI.out.skip HX.out hp)
    clear hp
    go_wp2_with fail
    go_roundw
    case rel=>exact⟨i,j+1,f',rfl,by go_num,HLT.out,DN.out,R2.out,G2.out⟩
    case measure=>have:=HLT.out;simp [intOf];omega
   | false =>
    have DN:=zh (fun g hg=>KI.out.take (g:=g) HX.out hp hg)
    have f0:=R2.out.frozen (i*2)
    have f1:=R2.out.frozen (i*2+1)
    have s0:=R2.out.cell (i:=i*2) (by have:=HIC.out;omega)
    have s1:=R2.out.cell (i:=i*2+1) HIC.out
    clear hp
    go_wp2_with fail
    refine⟨⟨i+1,j+1,_,by go_num,by go_num,HLT.out,DN.out _ (fun c=>?_),(R2.out.set (i*2) _).set (i*2+1) _,?_⟩,?_⟩
    ·show (if c=i*2+1 then _ else if c=i*2 then _ else f' c)=_
     by_cases e1:c=i*2
     ·rw [if_neg (by omega),if_pos e1,if_pos e1]
     rw [if_neg e1,if_neg e1]
    ·exact grown_trans (grown_trans G2.out (grown_setCell _ _ _) (fun r e=>by simp at e;exact .inl e.symm)) (grown_setCell _ _ _) (fun r e=>by simp at e;exact .inl e.symm)
    have:=HLT.out;simp [intOf];omega
  have hjn:j=n:=by have:=KJ.out;omega
  subst hjn
  have hci:i<cp:=by have:=KI.out.lt;have:=H1.out;omega
  have hcl:∀ ty,(Builtin.clear_ #[74] ty #[.slice (some ⟨g,i*2,none⟩) (j - i) (cp - i)]).run Tryz.prog wr = .ok (.tuple #[]) (wr.setCells g (i*2) (List.replicate ((j - i)*2) (.int .i64 0))):=fun ty =>
   run_clear2 wr 74 ty Tryz.underlying74 g (i*2) (j - i) (cp - i) (by have:=KI.out.lt;omega) (fun q hq=>by rw [KR.out.cell (by have:=H1.out;omega)];rfl) (fun q hq=>KR.out.frozen _)
  have hcz:((cp:Int)==i)=false:=by rw [beq_eq_false_iff_ne];omega
  have hcp0:(i:Int)≤cp:=by omega
  go_wp2_with fail
  go_ret
  have etk:l.take j=l:=zr3 (by have:=HN.out;omega)
  have hlen:=KI.out.len
  have hlow:=KI.out.low
  rw [etk] at hlen hlow
  refine⟨_,rfl,.inr ⟨cp,_,by rw [hlen];rfl,by rw [hlen];omega,H2.out,rowIs_setCells _ (i*2) wr f' KR.out,fun c u hu=>?_⟩,grown_trans KG.out (grown_setCells g _ (i*2) wr) (fun r e=>by simp at e;exact .inl e.symm)⟩
  have hc:=(zq8.1 hu).1
  rw [mvCells_length,hlen] at hc
  show (if i*2≤c∧_ then _ else f' c)=u
  rw [if_neg (by omega)]
  exact hlow c u hu
 have e0:=idx_filter hx
 have IX2:Hid (Calls Tryz.prog 72 #[v,.func (.func G) #[] cap] w fun e w'=>Below w.heap.size w w'∧e = .returned (.int .i64 (-1))):=by
  refine IX.out.mono ?_
  rintro e w' ⟨hb,he⟩
  rw [if_neg hx] at he
  exact⟨hb,he⟩
 have R:=zh h
 have hv:∃ a n c,v = .slice a n c:=by rcases h with ⟨_,e⟩|⟨cp,f,e,_⟩<;>exact⟨_,_,_,e⟩
 obtain⟨a,n,c,rfl⟩:=hv
 rw [e0]
 have HG:Hid (l=[]∨g<w.heap.size):=by
  show _∨_
  rcases Nat.eq_zero_or_pos l.length with h0 | h0
  ·exact .inl (List.eq_nil_of_length_eq_zero h0)
  exact .inr (h.lt h0)
 clear h IX hx
 go_enter Tryz.func69,Tryz.ntmps69
 go_wp2_with fail
 refine IX2.out.mono ?_
 rintro e w1 ⟨hb,rfl⟩
 have B1:=zh hb
 clear hb
 go_wp2_with fail
 go_ret
 refine⟨_,rfl,?_,grown_below B1.out g⟩
 rcases R.out with h | ⟨cp,f,h0,h1,h2,h3,h4⟩
 ·exact .inl h
 exact .inr ⟨cp,f,h0,h1,h2,h3.of_block (B1.out.block _ h3.lt),h4⟩
end Go.Proofs.YtnkahlloahgifaaGreatDoor

namespace Go.Proofs.YtnkahlloahgifaaGreatDoor
open Go.RowKit RG Go.Maps
theorem ints_at {l:List Int}{i:Nat}{x:Int}(h:l[i]?=some x):(ints l)[i]?=some (.int .i64 x):=by unfold ints;rw [List.getElem?_map,h];rfl
theorem news1 (w:World) (x:Value) (T:TypeId):∀ (j:Nat) (u:Value),[x][j]?=some u→(w.alloc (.cells #[x] T)).cell? ((⟨w.heap.size,0,none⟩:Addr).add j)=some u:=fun j u hu=>by
 rw [Addr.add_lit,zb _ _ _ _ _ _ (zs2 w _),Nat.zero_add]
 match j,hu with
 | 0,hu=>exact hu
 | j+1,hu=>simp at hu
end Go.Proofs.YtnkahlloahgifaaGreatDoor
