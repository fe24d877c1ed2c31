/- Part. -/
import Derived.Test.YtnkahlloahgifaaGreatDoorVLxRa
import Derived.Test.YtnkahlloahgifaaGreatDoorVLxG
import Derived.Test.YtnkahlloahgifaaGreatDoorVLxL0
import Derived.Test.YtnkahlloahgifaaGreatDoorVLxN
import Derived.Handy
set_option linter.unusedSimpArgs false
set_option linter.unusedVariables false
namespace Go.Proofs.YtnkahlloahgifaaGreatDoor.Lx
open Go.RowKit
theorem run_spec (p:Nat→Bool) (T:List Nat) (i:Nat):(∀ k,i≤k→k<i+LX.run p (T.drop i)→k<T.length∧p (T.getD k 0)=true∧LX.run p (T.drop i)=(k - i)+LX.run p (T.drop k))∧(i≤T.length→i+LX.run p (T.drop i)≤T.length):=by
 generalize hn:LX.run p (T.drop i)=n
 induction n generalizing i with
 | zero=>exact⟨fun k h1 h2=>by omega,fun h=>by omega⟩
 | succ n ih =>
  have hl:i<T.length:=by
   rcases Nat.lt_or_ge i T.length with h | h
   ·exact h
   ·rw [List.drop_of_length_le h] at hn;cases hn
  have hs:=LX.run_step (p:=p) hl
  rw [hn] at hs
  cases hp:p (T.getD i 0) with
  | false=>rw [hp] at hs;simp at hs
  | true =>
   rw [hp,if_pos rfl] at hs
   obtain⟨h1,h2⟩:=ih (i+1) (by omega)
   refine⟨fun k a b=>?_,fun _=>by have:=h2 (by omega);omega⟩
   rcases Nat.eq_or_lt_of_le a with e | e
   ·subst e
    exact⟨hl,hp,by rw [hn];omega⟩
   ·obtain⟨c1,c2,c3⟩:=h1 k (by omega) (by omega)
    exact⟨c1,c2,by omega⟩
theorem nameLen_at {T:List Nat}{i n:Nat}(hn:n=LX.run LX.part (T.drop i)):LX.nameLen (T.drop i)=if i+n<T.length∧T.getD (i+n) 0=39∧0<LX.run LX.digit (T.drop (i+n+1)) then n+1+LX.run LX.digit (T.drop (i+n+1)) else n:=by
 unfold LX.nameLen
 simp only [← hn,List.drop_drop]
 rcases Nat.lt_or_ge (i+n) T.length with h | h
 ·rw [LX.drop_get h]
  simp only []
  by_cases hc:T.getD (i+n) 0=39∧0<LX.run LX.digit (T.drop (i+n+1))
  ·rw [if_pos hc,if_pos ⟨h,hc⟩]
  ·rw [if_neg hc,if_neg (fun e=>hc e.2)]
 ·rw [List.drop_of_length_le h,if_neg (fun e=>by omega)]
set_option maxHeartbeats 2000000 in
set_option maxRecDepth 50000 in
theorem rnamed_any (w:World) (s:ByteArray) (hs:s.size≤400000) (i:Nat) (hi:i≤s.size):Calls Tryz.prog 103 #[.string s,.int .i64 i] w fun e w'=>e = .returned (.int .i64 ((i+LX.nameLen ((bts s).drop i):Nat):Int))∧w'=w:=by
 obtain⟨n,hn⟩:∃ n,n=LX.run LX.part ((bts s).drop i):=⟨_,rfl⟩
 have hnl:=nameLen_at hn
 obtain⟨sp1,sp2⟩:=run_spec LX.part (bts s) i
 rw [← hn] at sp1 sp2
 have hle:=sp2 (by rw [bts_length];exact hi)
 obtain⟨m,hm⟩:∃ m,m=LX.run LX.digit ((bts s).drop (i+n+1)):=⟨_,rfl⟩
 rw [← hm] at hnl
 obtain⟨sq1,sq2⟩:=run_spec LX.digit (bts s) (i+n+1)
 rw [← hm] at sq1 sq2
 have hstop:i+n<s.size→LX.part ((bts s).getD (i+n) 0)=false:=fun h=>LX.run_stops LX.part (bts s) n i hn.symm (by rw [bts_length];exact h)
 have hstop2:i+n+1+m<s.size→LX.digit ((bts s).getD (i+n+1+m) 0)=false:=fun h=>LX.run_stops LX.digit (bts s) m (i+n+1) hm.symm (by rw [bts_length];exact h)
 rw [bts_length] at hnl hle
 simp only [bts_length] at sp1 sq1 sq2
 obtain⟨j0,hj0⟩:∃ j,j=i+n:=⟨_,rfl⟩
 obtain⟨L,hL⟩:∃ L,L=LX.nameLen ((bts s).drop i):=⟨_,rfl⟩
 rw [← hL] at hnl ⊢
 rw [← hj0] at hnl hle sp1 sq1 sq2 hstop hstop2
 have hz:(s.size:Int)≤400000:=by omega
 have HJ:=zh hj0
 have HNL:=zh hnl
 have SP1:=zh sp1
 have SQ1:=zh sq1
 have ST1:=zh hstop
 have ST2:=zh hstop2
 have HLE:Hid (i≤j0∧j0≤s.size):=⟨by omega,hle⟩
 have HM2:Hid (j0<s.size→j0+1+m≤s.size):=fun h=>sq2 (by omega)
 clear hn hnl sp1 sp2 hm sq1 sq2 hstop hstop2 hle hj0 hL hs hi
 go_enter Tryz.func103,Tryz.ntmps103
 go_wp2_with fail
 go_loop [5] (fun j=>∃ k:Nat,i≤k∧k≤j0∧j = .int .i64 k) (fun j=>s.size - (intOf j).toNat)
 case atStart=>exact⟨i,Nat.le_refl _,HLE.out.1,rfl⟩
 case round =>
  obtain⟨k,hk1,hk2,rfl⟩:=hrel
  have HK:Hid (i≤k):=hk1
  clear hk1
  by_cases hlt:k<j0
  ·have hks:k<s.size:=by have:=HLE.out.2;omega
   have hkz:(k:Int)<(s.size:Int):=by omega
   obtain⟨c,hc⟩:∃ c,(bts s).getD k 0=c:=⟨_,rfl⟩
   have bk:=byte_at s hks hc
   have hp:=(SP1.out k HK.out hlt).2.1
   rw [hc] at hp
   have D:=rinner_any w c
   rw [hp] at D
   have HD:=zh D
   have HLT:Hid (k<j0):=hlt
   clear hc hp D hlt hk2
   go_wp2_with fail
   refine HD.out.mono ?_
   rintro e w1 ⟨rfl,rfl⟩
   go_wp2_with fail
   go_round
   case rel=>exact⟨k+1,by have:=HK.out;omega,HLT.out,by go_num⟩
   case measure=>have:=HLT.out;have:=HLE.out.2;simp [intOf];omega
  ·obtain rfl:k=j0:=by omega
   clear hk2 hlt
   by_cases hend:k<s.size
   ·have hkz:(k:Int)<(s.size:Int):=by omega
    obtain⟨c,hc⟩:∃ c,(bts s).getD k 0=c:=⟨_,rfl⟩
    have bk:=byte_at s hend hc
    have hp:=ST1.out hend
    rw [hc] at hp
    have D:=rinner_any w c
    rw [hp] at D
    have HD:=zh D
    have HC:=zh hc
    have HEND:Hid (k<s.size):=hend
    clear hc hp D
    go_wp2_with fail
    refine HD.out.mono ?_
    rintro e w1 ⟨rfl,rfl⟩
    go_wp2_with fail
    go_loop [6] (fun q=>∃ p:Nat,k+1≤p∧p≤k+1+m∧q = .int .i64 p) (fun q=>s.size - (intOf q).toNat)
    case atStart=>exact⟨k+1,Nat.le_refl _,by omega,by go_num⟩
    case round =>
     obtain⟨p,hp1,hp2,rfl⟩:=hrel
     have HP1:Hid (k+1≤p):=hp1
     by_cases hpm:p<k+1+m
     ·have hps:=(SQ1.out p hp1 hpm).1
      have hpz:(p:Int)<(s.size:Int):=by omega
      obtain⟨d,hd⟩:∃ d,(bts s).getD p 0=d:=⟨_,rfl⟩
      have bp:=byte_at s hps hd
      have hdd:=(SQ1.out p hp1 hpm).2.1
      rw [hd] at hdd
      have DD:=rdigit_any w1 d
      rw [hdd] at DD
      have HDD:=zh DD
      have HPM:Hid (p<k+1+m∧p<s.size):=⟨hpm,hps⟩
      clear hd hdd DD hpm hps hp1 hp2
      go_wp2_with fail
      refine HDD.out.mono ?_
      rintro e w2 ⟨rfl,rfl⟩
      go_wp2_with fail
      go_round
      case rel=>exact⟨p+1,by have:=HP1.out;omega,HPM.out.1,by go_num⟩
      case measure=>have:=HPM.out.2;simp [intOf];omega
     ·have HPE:Hid (p=k+1+m):=by show p=k+1+m;omega
      have hm2:=HM2.out hend
      clear hpm hp1 hp2
      by_cases hpe:p<s.size
      ·have hpz:(p:Int)<(s.size:Int):=by omega
       obtain⟨d,hd⟩:∃ d,(bts s).getD p 0=d:=⟨_,rfl⟩
       have bp:=byte_at s hpe hd
       have hdd:=ST2.out (by rw [← HPE.out];exact hpe)
       rw [← HPE.out,hd] at hdd
       have DD:=rdigit_any w1 d
       rw [hdd] at DD
       have HDD:=zh DD
       clear hd hdd DD
       by_cases h39:c=39
       ·have k39:((c:Int)==39)=true:=by rw [h39];rfl
        by_cases hm0:0<m
        ·have km:(k:Int)+1<(p:Int):=by have:=HPE.out;omega
         have hfin:L=n+1+m:=by
          have:=HNL.out
          rw [if_pos ⟨hend,by rw [HC.out];exact h39,hm0⟩] at this
          exact this
         have HFIN:=zh hfin
         clear hfin h39 hm0 hend hm2 hpe
         go_wp2_with fail
         refine HDD.out.mono ?_
         rintro e w2 ⟨rfl,rfl⟩
         go_wp2_with fail
         go_ret
         refine⟨?_,rfl⟩
         rw [HFIN.out]
         show Ending.returned (Value.int .i64 _)=Ending.returned (Value.int .i64 _)
         congr 2
         have:=HJ.out
         have:=HPE.out
         omega
        ·have km:(p:Int)≤(k:Int)+1:=by have:=HPE.out;omega
         have hfin:L=n:=by
          have:=HNL.out
          rw [if_neg (fun e=>hm0 e.2.2)] at this
          exact this
         have HFIN:=zh hfin
         clear hfin h39 hm0 hend hm2 hpe
         go_wp2_with fail
         refine HDD.out.mono ?_
         rintro e w2 ⟨rfl,rfl⟩
         go_wp2_with fail
         go_ret
         refine⟨?_,rfl⟩
         rw [HFIN.out]
         show Ending.returned (Value.int .i64 _)=Ending.returned (Value.int .i64 _)
         congr 2
         have:=HJ.out
         have:=HPE.out
         omega
       ·have k39:((c:Int)==39)=false:=beq_false_of_ne (by omega)
        have hfin:L=n:=by
         have:=HNL.out
         rw [if_neg (fun e=>h39 (by rw [← HC.out];exact e.2.1))] at this
         exact this
        have HFIN:=zh hfin
        clear hfin h39 hend hm2 hpe
        go_wp2_with fail
        refine HDD.out.mono ?_
        rintro e w2 ⟨rfl,rfl⟩
        go_wp2_with fail
        go_ret
        refine⟨?_,rfl⟩
        rw [HFIN.out]
        show Ending.returned (Value.int .i64 _)=Ending.returned (Value.int .i64 _)
        congr 2
        have:=HJ.out
        have:=HPE.out
        omega
      ·have hpz:(s.size:Int)≤(p:Int):=by omega
       by_cases h39:c=39
       ·have k39:((c:Int)==39)=true:=by rw [h39];rfl
        by_cases hm0:0<m
        ·have km:(k:Int)+1<(p:Int):=by have:=HPE.out;omega
         have hfin:L=n+1+m:=by
          have:=HNL.out
          rw [if_pos ⟨hend,by rw [HC.out];exact h39,hm0⟩] at this
          exact this
         have HFIN:=zh hfin
         clear hfin h39 hm0 hend hm2 hpe
         go_wp2_with fail
         go_ret
         refine⟨?_,rfl⟩
         rw [HFIN.out]
         show Ending.returned (Value.int .i64 _)=Ending.returned (Value.int .i64 _)
         congr 2
         have:=HJ.out
         have:=HPE.out
         omega
        ·have km:(p:Int)≤(k:Int)+1:=by have:=HPE.out;omega
         have hfin:L=n:=by
          have:=HNL.out
          rw [if_neg (fun e=>hm0 e.2.2)] at this
          exact this
         have HFIN:=zh hfin
         clear hfin h39 hm0 hend hm2 hpe
         go_wp2_with fail
         go_ret
         refine⟨?_,rfl⟩
         rw [HFIN.out]
         show Ending.returned (Value.int .i64 _)=Ending.returned (Value.int .i64 _)
         congr 2
         have:=HJ.out
         have:=HPE.out
         omega
       ·have k39:((c:Int)==39)=false:=beq_false_of_ne (by omega)
        have hfin:L=n:=by
         have:=HNL.out
         rw [if_neg (fun e=>h39 (by rw [← HC.out];exact e.2.1))] at this
         exact this
        have HFIN:=zh hfin
        clear hfin h39 hend hm2 hpe
        go_wp2_with fail
        go_ret
        refine⟨?_,rfl⟩
        rw [HFIN.out]
        show Ending.returned (Value.int .i64 _)=Ending.returned (Value.int .i64 _)
        congr 2
        have:=HJ.out
        have:=HPE.out
        omega
   ·obtain rfl:k=s.size:=by have:=HLE.out.2;omega
    have hkz:(s.size:Int)≤(s.size:Int):=Int.le_refl _
    have hfin:L=s.size - i:=by
     have:=HNL.out
     rw [if_neg (fun e=>by omega)] at this
     have:=HJ.out
     omega
    have HF:=zh hfin
    clear hfin hend
    go_wp2_with fail
    go_loop [6] (fun q=>q = .int .i64 ((s.size:Int)+1)) (fun q=>0)
    case atStart=>rfl
    case round =>
     subst hrel
     go_wp2_with fail
     go_ret
     refine⟨?_,rfl⟩
     rw [HF.out]
     show Ending.returned (Value.int .i64 (s.size:Int))=Ending.returned (Value.int .i64 ((i+(s.size - i):Nat):Int))
     have:=HLE.out.1
     congr 2
     omega
end Go.Proofs.YtnkahlloahgifaaGreatDoor.Lx

namespace Go.Proofs.YtnkahlloahgifaaGreatDoor.Lx
open Go.RowKit
theorem bytes_neq {s t:ByteArray}(h:¬ s=t):(s.toList==t.toList)=false:=beq_false_of_ne fun e=>h (by
 rw [ByteArray.toList_eq,ByteArray.toList_eq] at e
 exact bts_inj (by unfold bts;rw [e]))
set_option maxHeartbeats 1000000 in
theorem rword_any (w:World) (s:ByteArray):Calls Tryz.prog 104 #[.string s] w fun e w'=>e = .returned (.bool (LX.words.contains (bts s)))∧Below w.heap.size w w':=by
 rw [← words_contains]
 obtain⟨r,hr⟩:∃ r,r=(wordBs.take 15).contains s:=⟨_,rfl⟩
 rw [← hr]
 have hr2:r=(wordBs.drop 0).contains s:=hr
 have HR:=zh hr2
 clear hr hr2
 obtain⟨W,hW⟩:∃ W,w.alloc (.cells (wordBs.map Value.string).toArray 9)=W:=⟨_,rfl⟩
 have hW2:w.alloc (.cells #[Value.string { data := #[97,110,100] },Value.string { data := #[99,97,115,101] },Value.string { data := #[100,97,116,97] },Value.string { data := #[101,108,115,101] },Value.string { data := #[101,110,100] },Value.string { data := #[102,110] },Value.string { data := #[102,117,110] },Value.string { data := #[105,102] },Value.string { data := #[105,110] },Value.string { data := #[105,110,112,117,116] },Value.string { data := #[108,101,116] },Value.string { data := #[111,102] },Value.string { data := #[111,117,116,112,117,116] },Value.string { data := #[116,104,101,110] },Value.string { data := #[118,97,108] }] 9)=W:=hW
 obtain⟨z,hz⟩:∃ z,z=w.heap.size:=⟨_,rfl⟩
 have hblk:W.heap[z]?=some (.cells (wordBs.map Value.string).toArray 9 (0,0)):=by rw [← hW,hz];exact heap_alloc_new w _
 have BW:Hid (Below w.heap.size w W):=by rw [← hW];exact(Below.refl _ _).alloc (Nat.le_refl _) _
 have HB:=zh hblk
 have HW2:=zh hW2
 have HZ:=zh hz
 clear hblk hW hW2 hz
 go_enter Tryz.func104,Tryz.ntmps104
 go_wp2_with fail
 rw [HW2.out,← HZ.out]
 go_loop [4] (fun i=>∃ k:Nat,k≤15∧i = .int .i64 k∧r=(wordBs.drop k).contains s) (fun i=>15 - (intOf i).toNat)
 case atStart=>exact⟨0,by decide,rfl,HR.out⟩
 case round =>
  obtain⟨k,hk,rfl,hrk⟩:=hrel
  have HRK:=zh hrk
  clear hrk
  by_cases hlt:k<15
  ·have hlz:(k:Int)<15:=by omega
   obtain⟨x,hx⟩:∃ x,wordBs[k]?=some x:=⟨_,List.getElem?_eq_getElem (show k<wordBs.length from hlt)⟩
   have hc:W.cell? ⟨z,k,none⟩=some (.string x):=by
    rw [cell_of_row _ _ k _ _ _ HB.out]
    simp [hx]
   have hdrop:wordBs.drop k=x :: wordBs.drop (k+1):=by
    obtain⟨h1,h2⟩:=List.getElem?_eq_some_iff.1 hx
    rw [List.drop_eq_getElem_cons h1,h2]
   have HD:=zh hdrop
   have HLT:=zh hlt
   clear hdrop hlt hk hx
   by_cases hs:x=s
   ·have HS:=zh hs
    have hb:(x.toList==s.toList)=true:=by rw [hs];simp
    clear hs
    go_wp2_with fail
    go_ret
    refine⟨?_,BW.out⟩
    have hb2:(s==x)=true:=(Go.MapKept.bytes_beq s x).2 HS.out.symm
    rw [HRK.out,HD.out,List.contains_cons,hb2,Bool.true_or]
    rfl
   ·have hb:=bytes_neq hs
    have hb2:(s==x)=false:=by
     cases hq:(s==x) with
     | false=>rfl
     | true=>exact absurd ((Go.MapKept.bytes_beq s x).1 hq).symm hs
    have HB2:=zh hb2
    clear hs hb2
    go_wp2_with fail
    go_round
    case rel=>exact⟨k+1,HLT.out,by go_num,by rw [HRK.out,HD.out,List.contains_cons,HB2.out,Bool.false_or]⟩
    case measure=>have:=HLT.out;simp [intOf];omega
  ·obtain rfl:k=15:=by omega
   clear hlt hk
   go_wp2_with fail
   go_ret
   refine⟨?_,BW.out⟩
   rw [HRK.out]
   rfl
def signBs:ByteArray:=⟨#[40,41,44,59,58,124,61,60,43,45,42,47,37,95]⟩
theorem signs_bts:bts signBs=LX.signs:=by decide +kernel
def signLen (l:List Nat):Nat:=if (LX.head0 l=61∨LX.head0 l=45)∧LX.head0 l.tail=62 then 2 else if LX.signs.contains (LX.head0 l) then 1 else 0
theorem two_at (s:ByteArray) {i c d:Nat}(h:i+1<s.size) (hc:(bts s).getD i 0=c) (hd:(bts s).getD (i+1) 0=d):∃ x:ByteArray,bts x=[c,d]∧∀ m,(Instr.slice 9 (.string s) (some (.int .i64 i)) (some (.int .i64 ((i:Int)+2))) none).run Tryz.prog m = .ok (.string x) m:=by
 refine⟨s.extract i (i+2),?_,fun m=>slice_mid s i 2 (by omega) m⟩
 rw [bts_extract,Nat.add_sub_cancel_left,LX.drop_get (by rw [bts_length];omega),hc,LX.drop_get (by rw [bts_length];omega),hd]
 rfl
theorem two_eq {x:ByteArray}{c d a b:Nat}(h:bts x=[c,d]) (y:ByteArray) (hy:bts y=[a,b]):(x.toList==y.toList)=(c==a&&d==b):=by
 by_cases h1:c=a∧d=b
 ·obtain⟨rfl,rfl⟩:=h1
  rw [bts_inj (h.trans hy.symm)];simp
 ·have:¬ x=y:=fun e=>h1 (by rw [e,hy] at h;simp at h;exact⟨h.1.symm,h.2.symm⟩)
  rw [bytes_neq this]
  by_cases h2:c=a
  ·have h3:¬ d=b:=fun e=>h1 ⟨h2,e⟩
   simp [h3]
  ·simp [h2]
end Go.Proofs.YtnkahlloahgifaaGreatDoor.Lx

namespace Go.Proofs.YtnkahlloahgifaaGreatDoor.Lx
open Go.RowKit
theorem lit6162:(⟨#[61,62]⟩:ByteArray).toList=[61,62]:=by decide +kernel
theorem lit4042:(⟨#[40,42]⟩:ByteArray).toList=[40,42]:=by decide +kernel
theorem lit4562:(⟨#[45,62]⟩:ByteArray).toList=[45,62]:=by decide +kernel
theorem sign_byte {k:Nat}(h:k<14):∃ e,(bts signBs).getD k 0=e∧LX.signs.drop k=e :: LX.signs.drop (k+1):=by
 rw [signs_bts]
 refine⟨_,rfl,?_⟩
 exact LX.drop_get (show k<LX.signs.length from h)
def SignPost (w:World) (n:Nat) (e:Ending) (w':World):Prop:=e = .returned (.int .i64 n)∧∃ m,w'=w.drewN m
set_option maxHeartbeats 1000000 in
set_option maxRecDepth 20000 in
theorem rsign_any (w:World) (s:ByteArray) (hs:s.size≤400000) (i:Nat) (hi:i<s.size):Calls Tryz.prog 105 #[.string s,.int .i64 i] w (SignPost w (signLen ((bts s).drop i))):=by
 obtain⟨c,hc⟩:∃ c,(bts s).getD i 0=c:=⟨_,rfl⟩
 have bi:=byte_at s hi hc
 have hz:(s.size:Int)≤400000:=by omega
 have hiz:(i:Int)<(s.size:Int):=by omega
 have hd0:(bts s).drop i=c :: (bts s).drop (i+1):=by rw [LX.drop_get (by rw [bts_length];exact hi),hc]
 obtain⟨r,hr⟩:∃ r,r=LX.signs.contains c:=⟨_,rfl⟩
 by_cases h1:i+1<s.size
 ·obtain⟨d,hd⟩:∃ d,(bts s).getD (i+1) 0=d:=⟨_,rfl⟩
  obtain⟨x,hx,sl⟩:=two_at s h1 hc hd
  have e1:=two_eq hx ⟨#[61,62]⟩ (a:=61) (b:=62) rfl
  have e2:=two_eq hx ⟨#[45,62]⟩ (a:=45) (b:=62) rfl
  rw [lit6162] at e1
  rw [lit4562] at e2
  have hd1:(bts s).drop (i+1)=d :: (bts s).drop (i+2):=by rw [LX.drop_get (by rw [bts_length];exact h1),hd]
  have h1z:(i:Int)+1<(s.size:Int):=by omega
  have hL:signLen ((bts s).drop i)=if (c=61∨c=45)∧d=62 then 2 else if r then 1 else 0:=by
   rw [hd0,hd1,hr];rfl
  rw [hL]
  obtain⟨L1,hL1⟩:∃ L:Nat,L=if r then 1 else 0:=⟨_,rfl⟩
  rw [← hL1]
  have HL1:=zh hL1
  clear hL1
  clear hL hd0 hd1 hc hd hi h1 hs
  by_cases h2:(c=61∨c=45)∧d=62
  ·rw [if_pos h2]
   obtain⟨h3,rfl⟩:=h2
   rcases h3 with rfl | rfl
   ·rw [show ((61:Nat)==61&&(62:Nat)==62)=true from rfl] at e1
    clear e2 hx bi hr
    go_enter Tryz.func105,Tryz.ntmps105
    go_wp2_with fail
    go_ret
    exact⟨rfl,0,rfl⟩
   ·rw [show ((45:Nat)==61&&(62:Nat)==62)=false from rfl] at e1
    rw [show ((45:Nat)==45&&(62:Nat)==62)=true from rfl] at e2
    clear hx bi hr
    go_enter Tryz.func105,Tryz.ntmps105
    go_wp2_with fail
    go_ret
    exact⟨rfl,0,rfl⟩
  ·rw [if_neg h2]
   have f1:(x.toList==([61,62]:List UInt8))=false:=by
    rw [e1];cases h:(c==61&&d==62) with
    | false=>rfl
    | true=>simp at h;exact absurd ⟨.inl h.1,h.2⟩ h2
   have f2:(x.toList==([45,62]:List UInt8))=false:=by
    rw [e2];cases h:(c==45&&d==62) with
    | false=>rfl
    | true=>simp at h;exact absurd ⟨.inr h.1,h.2⟩ h2
   have HR:Hid (r=(LX.signs.drop 0).contains c):=hr
   clear e1 e2 hx h2 hr
   go_enter Tryz.func105,Tryz.ntmps105
   go_wp2_with fail
   clear f1 f2 sl h1z
   go_loopw [6] (fun k wr=>∃ n:Nat,n≤14∧k = .int .i64 n∧r=(LX.signs.drop n).contains c∧∃ m,wr=w.drewN m) (fun k _=>14 - (intOf k).toNat)
   case atStart=>exact⟨0,by decide,rfl,HR.out,0,rfl⟩
   case round =>
    obtain⟨k,hk,rfl,hrk,m,rfl⟩:=hrel
    have HRK:=zh hrk
    clear hrk
    by_cases hlt:k<14
    ·have hlz:(k:Int)<14:=by omega
     obtain⟨q,hq,hdr⟩:=sign_byte hlt
     have bk:∀ m:World,(Instr.index 9 (.string ⟨#[40,41,44,59,58,124,61,60,43,45,42,47,37,95]⟩) (.int .i64 k)).run Tryz.prog m = .ok (.int .u8 (q:Int)) m:=byte_at signBs hlt hq
     have HD:=zh hdr
     have HLT:=zh hlt
     clear hq hdr hlt hk
     by_cases hqc:q=c
     ·subst hqc
      go_wp2_with fail
      go_quiet (fail)
      go_wp2_with fail
      go_ret
      refine⟨?_,_,(by first | rfl | rw [World.drewN_drewN])⟩
      rw [HL1.out,HRK.out,HD.out,List.contains_cons]
      simp
     ·have k1:((q:Int)==(c:Int))=false:=beq_false_of_ne (by omega)
      have HQ:=zh hqc
      clear hqc
      go_wp2_with fail
      go_quiet (fail)
      go_wp2_with fail
      go_roundw
      case rel=>exact⟨k+1,HLT.out,by go_num,by rw [HRK.out,HD.out,List.contains_cons,show (c==q)=false from beq_false_of_ne fun e=>HQ.out e.symm,Bool.false_or],_,(by first | rfl | rw [World.drewN_drewN])⟩
      case measure=>have:=HLT.out;simp [intOf];omega
    ·obtain rfl:k=14:=by omega
     clear hlt hk
     go_wp2_with fail
     go_ret
     refine⟨?_,_,(by first | rfl | rw [World.drewN_drewN])⟩
     rw [HL1.out,HRK.out]
     rfl
 ·have h1z:¬ (i:Int)+1<(s.size:Int):=by omega
  have hd1:(bts s).drop (i+1)=[]:=List.drop_of_length_le (by rw [bts_length];omega)
  have hL:signLen ((bts s).drop i)=if r then 1 else 0:=by
   rw [hd0,hd1,hr]
   unfold signLen
   rw [if_neg (fun e=>absurd e.2 (by simp [LX.head0]))]
   rfl
  rw [hL]
  obtain⟨L1,hL1⟩:∃ L:Nat,L=if r then 1 else 0:=⟨_,rfl⟩
  rw [← hL1]
  have HL1:=zh hL1
  clear hL1
  have HR:Hid (r=(LX.signs.drop 0).contains c):=hr
  clear hL hd0 hd1 hc hi h1 hs hr
  go_enter Tryz.func105,Tryz.ntmps105
  go_wp2_with fail
  clear h1z
  go_loopw [6] (fun k wr=>∃ n:Nat,n≤14∧k = .int .i64 n∧r=(LX.signs.drop n).contains c∧∃ m,wr=w.drewN m) (fun k _=>14 - (intOf k).toNat)
  case atStart=>exact⟨0,by decide,rfl,HR.out,0,rfl⟩
  case round =>
   obtain⟨k,hk,rfl,hrk,m,rfl⟩:=hrel
   have HRK:=zh hrk
   clear hrk
   by_cases hlt:k<14
   ·have hlz:(k:Int)<14:=by omega
    obtain⟨q,hq,hdr⟩:=sign_byte hlt
    have bk:∀ m:World,(Instr.index 9 (.string ⟨#[40,41,44,59,58,124,61,60,43,45,42,47,37,95]⟩) (.int .i64 k)).run Tryz.prog m = .ok (.int .u8 (q:Int)) m:=byte_at signBs hlt hq
    have HD:=zh hdr
    have HLT:=zh hlt
    clear hq hdr hlt hk
    by_cases hqc:q=c
    ·subst hqc
     go_wp2_with fail
     go_quiet (fail)
     go_wp2_with fail
     go_ret
     refine⟨?_,_,(by first | rfl | rw [World.drewN_drewN])⟩
     rw [HL1.out,HRK.out,HD.out,List.contains_cons]
     simp
    ·have k1:((q:Int)==(c:Int))=false:=beq_false_of_ne (by omega)
     have HQ:=zh hqc
     clear hqc
     go_wp2_with fail
     go_quiet (fail)
     go_wp2_with fail
     go_roundw
     case rel=>exact⟨k+1,HLT.out,by go_num,by rw [HRK.out,HD.out,List.contains_cons,show (c==q)=false from beq_false_of_ne fun e=>HQ.out e.symm,Bool.false_or],_,(by first | rfl | rw [World.drewN_drewN])⟩
     case measure=>have:=HLT.out;simp [intOf];omega
   ·obtain rfl:k=14:=by omega
    clear hlt hk
    go_wp2_with fail
    go_ret
    refine⟨?_,_,(by first | rfl | rw [World.drewN_drewN])⟩
    rw [HL1.out,HRK.out]
    rfl
end Go.Proofs.YtnkahlloahgifaaGreatDoor.Lx

namespace Go.Proofs.YtnkahlloahgifaaGreatDoor.Lx
open Go.RowKit
def rdV (s:ByteArray) (i:Nat):LX.TR→Value
 | .tok k v n => .tuple #[tokV k v (s.extract i (i+n)) i,.int .i64 0]
 | .bad e => .tuple #[tokV 0 0 ⟨#[]⟩ 0,.int .i64 e]
def RdPost (w:World) (v:Value) (e:Ending) (w':World):Prop:=e = .returned v∧Below w.heap.size w w'
structure RdAt (s:ByteArray) (i c:Nat):Prop where
 size:s.size≤400000
 lt:i<s.size
 byte:(bts s).getD i 0=c
theorem RdAt.drop {s:ByteArray}{i c:Nat}(h:RdAt s i c):(bts s).drop i=c :: (bts s).drop (i+1):=by
 rw [LX.drop_get (by rw [bts_length];exact h.lt),h.byte]
set_option maxHeartbeats 2000000 in
set_option maxRecDepth 20000 in
theorem rread_var (w:World) (s:ByteArray) (i:Nat) (h:RdAt s i 39) (h1:i+1<s.size) (hsm:LX.small ((bts s).getD (i+1) 0)=true) :
  Calls Tryz.prog 84 #[.string s,.int .i64 i] w (RdPost w (rdV s i (LX.token ((bts s).drop i)))):=by
 obtain⟨d,hd⟩:∃ d,(bts s).getD (i+1) 0=d:=⟨_,rfl⟩
 rw [hd] at hsm
 have hd1:(bts s).drop (i+1)=d :: (bts s).drop (i+2):=by rw [LX.drop_get (by rw [bts_length];exact h1),hd]
 obtain⟨n,hn⟩:∃ n,n=LX.run LX.part ((bts s).drop (i+1)):=⟨_,rfl⟩
 have htok:LX.token ((bts s).drop i)=if 24<1+n then .bad 2 else .tok 4 0 (1+n):=by
  rw [h.drop]
  unfold LX.token
  simp only []
  rw [if_neg (by decide),if_neg (by decide),if_neg (by decide),if_pos ⟨trivial,by rw [hd1];exact hsm⟩,← hn]
  rfl
 have hle:=(run_spec LX.part (bts s) (i+1)).2 (by rw [bts_length];omega)
 rw [← hn,bts_length] at hle
 have b0:=byte_at s h.lt h.byte
 have b1:∀ m,(Instr.index 9 (.string s) (.int .i64 ((i:Int)+1))).run Tryz.prog m = .ok (.int .u8 (d:Int)) m:=byte_at s h1 hd
 have PL:Hid (∀ W,Calls Tryz.prog 101 #[.string s,.int .i64 ((i:Int)+1)] W fun e w'=>e = .returned (.int .i64 ((i:Int)+1+n))∧w'=W):=fun W=>by
  have:=rplain_any W s h.size (i+1) (by omega)
  rw [← hn] at this
  exact this
 have HSM:Hid (∀ W,Calls Tryz.prog 100 #[.int .u8 d] W fun e w'=>e = .returned (.bool true)∧w'=W):=fun W=>by
  have:=rsmall_any W d
  rw [hsm] at this
  exact this
 have DG:Hid (∀ W,Calls Tryz.prog 97 #[.int .u8 39] W fun e w'=>e = .returned (.bool false)∧w'=W):=fun W=>rdigit_any W 39
 have sl:∀ m,(Instr.slice 9 (.string s) (some (.int .i64 i)) (some (.int .i64 ((i:Int)+1+n))) none).run Tryz.prog m = .ok (.string (s.extract i (i+(1+n)))) m:=fun m=>by
  have:=slice_mid s i (1+n) (by omega) m
  rw [show (i:Int)+((1+n:Nat):Int)=(i:Int)+1+n from by omega] at this
  exact this
 obtain⟨tx,htx⟩:∃ t,t=s.extract i (i+(1+n)):=⟨_,rfl⟩
 rw [← htx] at sl
 obtain⟨V,hV⟩:∃ V,V=rdV s i (LX.token ((bts s).drop i)):=⟨_,rfl⟩
 rw [← hV]
 rw [htok] at hV
 have hz:(s.size:Int)≤400000:=by have:=h.size;omega
 have hiz:(i:Int)+1<(s.size:Int):=by omega
 have hnz:(i:Int)+1+(n:Int)≤(s.size:Int):=by omega
 have hn0:(0:Int)≤(n:Int):=by omega
 by_cases h24:24<1+n
 ·have hv:V = .tuple #[tokV 0 0 ⟨#[]⟩ 0,.int .i64 2]:=by rw [hV,if_pos h24];rfl
  have HV:=zh hv
  have h24z:(24:Int)<1+(n:Int):=by omega
  clear hv hV htok hd1 hd hsm h h1 hn hle h24 htx
  go_enter Tryz.func84,Tryz.ntmps84
  go_wp2_with fail
  refine(DG.out _).mono ?_
  rintro e w1 ⟨rfl,rfl⟩
  go_wp2_with fail
  refine(HSM.out _).mono ?_
  rintro e w1 ⟨rfl,rfl⟩
  go_wp2_with fail
  refine(PL.out _).mono ?_
  rintro e w1 ⟨rfl,rfl⟩
  go_wp2_with fail
  go_returns
  exact⟨by rw [HV.out];rfl,(Below.refl _ _).alloc (Nat.le_refl _) _⟩
 ·have hv:V = .tuple #[tokV 4 0 tx i,.int .i64 0]:=by rw [hV,if_neg h24,htx];rfl
  have HV:=zh hv
  have h24z:1+(n:Int)≤24:=by omega
  clear hv hV htok hd1 hd hsm h h1 hn hle h24 htx
  go_enter Tryz.func84,Tryz.ntmps84
  go_wp2_with fail
  refine(DG.out _).mono ?_
  rintro e w1 ⟨rfl,rfl⟩
  go_wp2_with fail
  refine(HSM.out _).mono ?_
  rintro e w1 ⟨rfl,rfl⟩
  go_wp2_with fail
  refine(PL.out _).mono ?_
  rintro e w1 ⟨rfl,rfl⟩
  go_wp2_with fail
  go_returns
  exact⟨by rw [HV.out];rfl,(Below.refl _ _).alloc (Nat.le_refl _) _⟩
end Go.Proofs.YtnkahlloahgifaaGreatDoor.Lx

namespace Go.Proofs.YtnkahlloahgifaaGreatDoor.Lx
open Go.RowKit
theorem words_small {l:List Nat}(h:LX.words.contains l=true):LX.small (l.headD 0)=true:=by
 have h1:∀ w∈LX.words,LX.small (w.headD 0)=true:=by decide
 exact h1 l (by simpa using h)
theorem great_not_small {c:Nat}(h:LX.great c=true):LX.small c=false:=by
 unfold LX.great at h
 unfold LX.small
 simp at h ⊢
 omega
theorem not_digit {c:Nat}(h:LX.small c=true∨LX.great c=true):LX.digit c=false∧c≠126∧c≠39:=by
 unfold LX.small LX.great at h
 unfold LX.digit
 simp at h ⊢
 omega
theorem headD_take {l:List Nat}{n:Nat}(h:0<n):(l.take n).headD 0=l.headD 0:=by
 cases l with
 | nil=>simp
 | cons a l=>obtain⟨m,rfl⟩:∃ m,n=m+1:=⟨n - 1,by omega⟩;rfl
theorem tok_small {c:Nat}{l:List Nat}(h:LX.small c=true):LX.token (c :: l)=LX.named 2 (c :: l):=by
 obtain⟨a,b,_⟩:=not_digit (.inl h)
 unfold LX.token
 simp only []
 rw [if_neg (by rw [a];simp [b]),if_pos h]
theorem tok_great {c:Nat}{l:List Nat}(h:LX.great c=true):LX.token (c :: l)=LX.named 3 (c :: l):=by
 obtain⟨a,b,_⟩:=not_digit (.inr h)
 unfold LX.token
 simp only []
 rw [if_neg (by rw [a];simp [b]),if_neg (by rw [great_not_small h];decide),if_pos h]
set_option maxHeartbeats 4000000 in
set_option maxRecDepth 20000 in
theorem rread_great (w:World) (s:ByteArray) (i c:Nat) (h:RdAt s i c) (hc:LX.great c=true) :
  Calls Tryz.prog 84 #[.string s,.int .i64 i] w (RdPost w (rdV s i (LX.token ((bts s).drop i)))):=by
 obtain⟨n,hn⟩:∃ n,n=LX.nameLen ((bts s).drop i):=⟨_,rfl⟩
 have hle:=LX.nameLen_le ((bts s).drop i)
 rw [← hn,List.length_drop,bts_length] at hle
 have hge:0<n:=by
  have h1:=LX.nameLen_ge ((bts s).drop i)
  rw [← hn,h.drop,LX.run,if_pos (LX.part_great hc)] at h1
  omega
 have htok:LX.token ((bts s).drop i)=if 24<n then .bad 2 else .tok (if LX.words.contains (((bts s).drop i).take n) then 5 else 3) 0 n:=by
  rw [h.drop,tok_great hc,← h.drop]
  unfold LX.named LX.made
  rw [← hn]
  by_cases h24:24<n
  ·rw [if_pos h24,if_pos h24]
  ·rw [if_neg h24,if_neg h24]
 obtain⟨hdg,h126,h39⟩:=not_digit (c:=c) (.inr hc)
 have k126:((c:Int)==126)=false:=beq_false_of_ne (by omega)
 have k39:((c:Int)==39)=false:=beq_false_of_ne (by omega)
 have b0:=byte_at s h.lt h.byte
 have DG:Hid (∀ W,Calls Tryz.prog 97 #[.int .u8 c] W fun e w'=>e = .returned (.bool false)∧w'=W):=fun W=>by
  have:=rdigit_any W c
  rw [hdg] at this
  exact this
 have SM:Hid (∀ W,Calls Tryz.prog 100 #[.int .u8 c] W fun e w'=>e = .returned (.bool false)∧w'=W):=fun W=>by
  have:=rsmall_any W c
  rw [great_not_small hc] at this
  exact this
 have GR:Hid (∀ W,Calls Tryz.prog 102 #[.int .u8 c] W fun e w'=>e = .returned (.bool true)∧w'=W):=fun W=>by
  have:=rgreat_any W c
  rw [hc] at this
  exact this
 obtain⟨J,hJ⟩:∃ J,J=i+n:=⟨_,rfl⟩
 have NM:Hid (∀ W,Calls Tryz.prog 103 #[.string s,.int .i64 i] W fun e w'=>e = .returned (.int .i64 J)∧w'=W):=fun W=>by
  have:=rnamed_any W s h.size i (by have:=h.lt;omega)
  rw [← hn,← hJ] at this
  exact this
 have sl:∀ m,(Instr.slice 9 (.string s) (some (.int .i64 i)) (some (.int .i64 J)) none).run Tryz.prog m = .ok (.string (s.extract i (i+n))) m:=fun m=>by
  have:=slice_mid s i n (by omega) m
  rw [show (i:Int)+(n:Int)=(J:Int) from by omega] at this
  exact this
 obtain⟨tx,htx⟩:∃ t,t=s.extract i (i+n):=⟨_,rfl⟩
 rw [← htx] at sl
 have hbt:bts tx=((bts s).drop i).take n:=by rw [htx,bts_extract,Nat.add_sub_cancel_left]
 rw [← hbt] at htok
 have WD:Hid (∀ W,Calls Tryz.prog 104 #[.string tx] W fun e w'=>e = .returned (.bool (LX.words.contains (bts tx)))∧Below W.heap.size W w'):=fun W=>rword_any W tx
 obtain⟨b,hb⟩:∃ b,b=LX.words.contains (bts tx):=⟨_,rfl⟩
 rw [← hb] at WD htok
 obtain⟨V,hV⟩:∃ V,V=rdV s i (LX.token ((bts s).drop i)):=⟨_,rfl⟩
 rw [← hV]
 rw [htok] at hV
 have hz:(s.size:Int)≤400000:=by have:=h.size;omega
 have hiz:(i:Int)<(s.size:Int):=by have:=h.lt;omega
 have hJz:(J:Int)≤(s.size:Int):=by omega
 have hJi:(i:Int)<(J:Int):=by omega
 have hbf:b=false:=by
  cases hq:b with
  | false=>rfl
  | true =>
   rw [hq] at hb
   have h1:=words_small hb.symm
   rw [hbt,headD_take hge,h.drop,List.headD_cons,great_not_small hc] at h1
   cases h1
 by_cases h24:24<n
 ·have hv:V = .tuple #[tokV 0 0 ⟨#[]⟩ 0,.int .i64 2]:=by rw [hV,if_pos h24];rfl
  have HV:=zh hv
  have h24z:(24:Int)<(J:Int) - (i:Int):=by omega
  clear hv hV htok h hc hn hle h24 htx hge hdg h126 h39 hJ hbt hb
  go_enter Tryz.func84,Tryz.ntmps84
  go_wp2_with fail
  refine(DG.out _).mono ?_
  rintro e w1 ⟨rfl,rfl⟩
  go_wp2_with fail
  refine(SM.out _).mono ?_
  rintro e w1 ⟨rfl,rfl⟩
  go_wp2_with fail
  refine(GR.out _).mono ?_
  rintro e w1 ⟨rfl,rfl⟩
  go_wp2_with fail
  refine(NM.out _).mono ?_
  rintro e w1 ⟨rfl,rfl⟩
  go_wp2_with fail
  go_returns
  exact⟨by rw [HV.out];rfl,(Below.refl _ _).alloc (Nat.le_refl _) _⟩
 ·have h24z:(J:Int) - (i:Int)≤24:=by omega
  cases b with
  | true =>
   cases hbf
  | false =>
   have hv:V = .tuple #[tokV 3 0 tx i,.int .i64 0]:=by rw [hV,if_neg h24,htx];rfl
   have HV:=zh hv
   clear hv hV htok h hc hn hle h24 htx hge hdg h126 h39 hJ hbt hb
   go_enter Tryz.func84,Tryz.ntmps84
   go_wp2_with fail
   refine(DG.out _).mono ?_
   rintro e w1 ⟨rfl,rfl⟩
   go_wp2_with fail
   refine(SM.out _).mono ?_
   rintro e w1 ⟨rfl,rfl⟩
   go_wp2_with fail
   refine(GR.out _).mono ?_
   rintro e w1 ⟨rfl,rfl⟩
   go_wp2_with fail
   refine(NM.out _).mono ?_
   rintro e w1 ⟨rfl,rfl⟩
   go_wp2_with fail
   refine(GR.out _).mono ?_
   rintro e w1 ⟨rfl,rfl⟩
   go_wp2_with fail
   go_returns
   exact⟨by rw [HV.out];rfl,(Below.refl _ _).alloc (Nat.le_refl _) _⟩
set_option maxHeartbeats 4000000 in
set_option maxRecDepth 20000 in
theorem rread_small (w:World) (s:ByteArray) (i c:Nat) (h:RdAt s i c) (hc:LX.small c=true) :
  Calls Tryz.prog 84 #[.string s,.int .i64 i] w (RdPost w (rdV s i (LX.token ((bts s).drop i)))):=by
 obtain⟨n,hn⟩:∃ n,n=LX.nameLen ((bts s).drop i):=⟨_,rfl⟩
 have hle:=LX.nameLen_le ((bts s).drop i)
 rw [← hn,List.length_drop,bts_length] at hle
 have hge:0<n:=by
  have h1:=LX.nameLen_ge ((bts s).drop i)
  rw [← hn,h.drop,LX.run,if_pos (LX.part_small hc)] at h1
  omega
 have htok:LX.token ((bts s).drop i)=if 24<n then .bad 2 else .tok (if LX.words.contains (((bts s).drop i).take n) then 5 else 2) 0 n:=by
  rw [h.drop,tok_small hc,← h.drop]
  unfold LX.named LX.made
  rw [← hn]
  by_cases h24:24<n
  ·rw [if_pos h24,if_pos h24]
  ·rw [if_neg h24,if_neg h24]
 obtain⟨hdg,h126,h39⟩:=not_digit (c:=c) (.inl hc)
 have k126:((c:Int)==126)=false:=beq_false_of_ne (by omega)
 have k39:((c:Int)==39)=false:=beq_false_of_ne (by omega)
 have b0:=byte_at s h.lt h.byte
 have DG:Hid (∀ W,Calls Tryz.prog 97 #[.int .u8 c] W fun e w'=>e = .returned (.bool false)∧w'=W):=fun W=>by
  have:=rdigit_any W c
  rw [hdg] at this
  exact this
 have SM:Hid (∀ W,Calls Tryz.prog 100 #[.int .u8 c] W fun e w'=>e = .returned (.bool true)∧w'=W):=fun W=>by
  have:=rsmall_any W c
  rw [hc] at this
  exact this
 have GR:Hid (∀ W,Calls Tryz.prog 102 #[.int .u8 c] W fun e w'=>e = .returned (.bool false)∧w'=W):=fun W=>by
  have:=rgreat_any W c
  rw [show LX.great c=false from by
   cases hq:LX.great c with
   | false=>rfl
   | true=>have:=great_not_small hq;rw [hc] at this;cases this] at this
  exact this
 obtain⟨J,hJ⟩:∃ J,J=i+n:=⟨_,rfl⟩
 have NM:Hid (∀ W,Calls Tryz.prog 103 #[.string s,.int .i64 i] W fun e w'=>e = .returned (.int .i64 J)∧w'=W):=fun W=>by
  have:=rnamed_any W s h.size i (by have:=h.lt;omega)
  rw [← hn,← hJ] at this
  exact this
 have sl:∀ m,(Instr.slice 9 (.string s) (some (.int .i64 i)) (some (.int .i64 J)) none).run Tryz.prog m = .ok (.string (s.extract i (i+n))) m:=fun m=>by
  have:=slice_mid s i n (by omega) m
  rw [show (i:Int)+(n:Int)=(J:Int) from by omega] at this
  exact this
 obtain⟨tx,htx⟩:∃ t,t=s.extract i (i+n):=⟨_,rfl⟩
 rw [← htx] at sl
 have hbt:bts tx=((bts s).drop i).take n:=by rw [htx,bts_extract,Nat.add_sub_cancel_left]
 rw [← hbt] at htok
 have WD:Hid (∀ W,Calls Tryz.prog 104 #[.string tx] W fun e w'=>e = .returned (.bool (LX.words.contains (bts tx)))∧Below W.heap.size W w'):=fun W=>rword_any W tx
 obtain⟨b,hb⟩:∃ b,b=LX.words.contains (bts tx):=⟨_,rfl⟩
 rw [← hb] at WD htok
 obtain⟨V,hV⟩:∃ V,V=rdV s i (LX.token ((bts s).drop i)):=⟨_,rfl⟩
 rw [← hV]
 rw [htok] at hV
 have hz:(s.size:Int)≤400000:=by have:=h.size;omega
 have hiz:(i:Int)<(s.size:Int):=by have:=h.lt;omega
 have hJz:(J:Int)≤(s.size:Int):=by omega
 have hJi:(i:Int)<(J:Int):=by omega
 by_cases h24:24<n
 ·have hv:V = .tuple #[tokV 0 0 ⟨#[]⟩ 0,.int .i64 2]:=by rw [hV,if_pos h24];rfl
  have HV:=zh hv
  have h24z:(24:Int)<(J:Int) - (i:Int):=by omega
  clear hv hV htok h hc hn hle h24 htx hge hdg h126 h39 hJ hbt hb
  go_enter Tryz.func84,Tryz.ntmps84
  go_wp2_with fail
  refine(DG.out _).mono ?_
  rintro e w1 ⟨rfl,rfl⟩
  go_wp2_with fail
  refine(SM.out _).mono ?_
  rintro e w1 ⟨rfl,rfl⟩
  go_wp2_with fail
  refine(NM.out _).mono ?_
  rintro e w1 ⟨rfl,rfl⟩
  go_wp2_with fail
  go_returns
  exact⟨by rw [HV.out];rfl,(Below.refl _ _).alloc (Nat.le_refl _) _⟩
 ·have h24z:(J:Int) - (i:Int)≤24:=by omega
  cases b with
  | true =>
   have hv:V = .tuple #[tokV 5 0 tx i,.int .i64 0]:=by rw [hV,if_neg h24,htx];rfl
   have HV:=zh hv
   have HLT:Hid True:=trivial
   clear hv hV htok h hc hn hle h24 htx hge hdg h126 h39 hJ hbt hb
   go_enter Tryz.func84,Tryz.ntmps84
   go_wp2_with fail
   refine(DG.out _).mono ?_
   rintro e w1 ⟨rfl,rfl⟩
   go_wp2_with fail
   refine(SM.out _).mono ?_
   rintro e w1 ⟨rfl,rfl⟩
   go_wp2_with fail
   refine(NM.out _).mono ?_
   rintro e w1 ⟨rfl,rfl⟩
   go_wp2_with fail
   refine(GR.out _).mono ?_
   rintro e w1 ⟨rfl,rfl⟩
   go_wp2_with fail
   refine(WD.out _).mono ?_
   rintro e w1 ⟨rfl,hb⟩
   have hblk:w1.heap[w.heap.size]?=some (.cells #[.int .i64 0,.int .i64 0,.string ⟨#[]⟩,.int .i64 0] 154 (0,0)):=(hb.block _ (by simp)).trans (heap_alloc_new w _)
   have e0:w1.cell? ⟨w.heap.size,0,none⟩=some (.int .i64 0):=by rw [cell_of_row _ _ 0 _ _ _ hblk];rfl
   have e1:w1.cell? ⟨w.heap.size,1,none⟩=some (.int .i64 0):=by rw [cell_of_row _ _ 1 _ _ _ hblk];rfl
   have e2:w1.cell? ⟨w.heap.size,2,none⟩=some (.string ⟨#[]⟩):=by rw [cell_of_row _ _ 2 _ _ _ hblk];rfl
   have e3:w1.cell? ⟨w.heap.size,3,none⟩=some (.int .i64 0):=by rw [cell_of_row _ _ 3 _ _ _ hblk];rfl
   have ef:∀ q,w1.frozen? ⟨w.heap.size,q,none⟩=false:=fun q=>frozen_of_row w1 _ q _ _ hblk
   have HBK:=zh hblk
   have HBL:Hid (Below w.heap.size w w1):=((Below.refl _ _).alloc (Nat.le_refl _) _).trans (hb.mono (by simp))
   clear hb hblk
   go_wp2_with fail
   exact bodyPost_ret (v := .tuple #[tokV 5 0 tx i,.int .i64 0]) (by rw [results_cell_tmp rfl];simp [asAddr,load39 (four_set HBK.out _ _ _ _)]) rfl ⟨by rw [HV.out],(((HBL.out.setCell (Nat.le_refl _) _).setCell (Nat.le_refl _) _).setCell (Nat.le_refl _) _).setCell (Nat.le_refl _) _⟩
  | false =>
   have hv:V = .tuple #[tokV 2 0 tx i,.int .i64 0]:=by rw [hV,if_neg h24,htx];rfl
   have HV:=zh hv
   clear hv hV htok h hc hn hle h24 htx hge hdg h126 h39 hJ hbt hb
   go_enter Tryz.func84,Tryz.ntmps84
   go_wp2_with fail
   refine(DG.out _).mono ?_
   rintro e w1 ⟨rfl,rfl⟩
   go_wp2_with fail
   refine(SM.out _).mono ?_
   rintro e w1 ⟨rfl,rfl⟩
   go_wp2_with fail
   refine(NM.out _).mono ?_
   rintro e w1 ⟨rfl,rfl⟩
   go_wp2_with fail
   refine(GR.out _).mono ?_
   rintro e w1 ⟨rfl,rfl⟩
   go_wp2_with fail
   refine(WD.out _).mono ?_
   rintro e w1 ⟨rfl,hb⟩
   have hblk:w1.heap[w.heap.size]?=some (.cells #[.int .i64 0,.int .i64 0,.string ⟨#[]⟩,.int .i64 0] 154 (0,0)):=(hb.block _ (by simp)).trans (heap_alloc_new w _)
   have e0:w1.cell? ⟨w.heap.size,0,none⟩=some (.int .i64 0):=by rw [cell_of_row _ _ 0 _ _ _ hblk];rfl
   have e1:w1.cell? ⟨w.heap.size,1,none⟩=some (.int .i64 0):=by rw [cell_of_row _ _ 1 _ _ _ hblk];rfl
   have e2:w1.cell? ⟨w.heap.size,2,none⟩=some (.string ⟨#[]⟩):=by rw [cell_of_row _ _ 2 _ _ _ hblk];rfl
   have e3:w1.cell? ⟨w.heap.size,3,none⟩=some (.int .i64 0):=by rw [cell_of_row _ _ 3 _ _ _ hblk];rfl
   have ef:∀ q,w1.frozen? ⟨w.heap.size,q,none⟩=false:=fun q=>frozen_of_row w1 _ q _ _ hblk
   have HBK:=zh hblk
   have HBL:Hid (Below w.heap.size w w1):=((Below.refl _ _).alloc (Nat.le_refl _) _).trans (hb.mono (by simp))
   clear hb hblk
   go_wp2_with fail
   exact bodyPost_ret (v := .tuple #[tokV 2 0 tx i,.int .i64 0]) (by rw [results_cell_tmp rfl];simp [asAddr,load39 (four_set HBK.out _ _ _ _)]) rfl ⟨by rw [HV.out],(((HBL.out.setCell (Nat.le_refl _) _).setCell (Nat.le_refl _) _).setCell (Nat.le_refl _) _).setCell (Nat.le_refl _) _⟩
end Go.Proofs.YtnkahlloahgifaaGreatDoor.Lx

namespace Go.Proofs.YtnkahlloahgifaaGreatDoor.Lx
open Go.RowKit
theorem tok_sign {c:Nat}{l:List Nat}(hd:LX.digit c=false) (h126:c≠126) (hs:LX.small c=false) (hg:LX.great c=false) (h39:¬ (c=39∧LX.small (LX.head0 l)=true)) :
  LX.token (c :: l)=if signLen (c :: l)=0 then .bad 11 else .tok 6 0 (signLen (c :: l)):=by
 unfold LX.token
 simp only []
 rw [if_neg (by rw [hd];simp [h126]),if_neg (by rw [hs];decide),if_neg (by rw [hg];decide),if_neg h39]
 have hL:signLen (c :: l)=if (c=61∨c=45)∧LX.head0 l=62 then 2 else if LX.signs.contains c then 1 else 0:=rfl
 rw [hL]
 by_cases h1:(c=61∨c=45)∧LX.head0 l=62
 ·rw [if_pos h1,if_pos h1,if_neg (by decide)]
 ·rw [if_neg h1,if_neg h1]
  cases h2:LX.signs.contains c with
  | true=>rfl
  | false=>rfl
theorem signLen_le {l:List Nat}(h:l≠[]):signLen l≤l.length:=by
 match l,h with
 | [c],_ =>
  unfold signLen
  rw [if_neg (fun e=>absurd e.2 (by simp [LX.head0]))]
  split<;>simp
 | c :: d :: r,_ =>
  unfold signLen
  split
  ·simp
  ·split<;>simp
set_option maxHeartbeats 2000000 in
set_option maxRecDepth 20000 in
theorem rread_sign (w:World) (s:ByteArray) (i c:Nat) (h:RdAt s i c) (hdg:LX.digit c=false) (h126:c≠126) (hsm:LX.small c=false) (hgr:LX.great c=false) (h39:c≠39) :
  Calls Tryz.prog 84 #[.string s,.int .i64 i] w (RdPost w (rdV s i (LX.token ((bts s).drop i)))):=by
 obtain⟨n,hn⟩:∃ n,n=signLen ((bts s).drop i):=⟨_,rfl⟩
 have hle:=signLen_le (l:=(bts s).drop i) (by rw [h.drop];simp)
 rw [← hn,List.length_drop,bts_length] at hle
 have h39':¬ (c=39∧LX.small (LX.head0 ((bts s).drop (i+1)))=true):=fun e=>h39 e.1
 have k39:((c:Int)==39)=false:=beq_false_of_ne (by omega)
 have htok:LX.token ((bts s).drop i)=if n=0 then .bad 11 else .tok 6 0 n:=by
  rw [hn,h.drop]
  exact tok_sign hdg h126 hsm hgr h39'
 have k126:((c:Int)==126)=false:=beq_false_of_ne (by omega)
 have b0:=byte_at s h.lt h.byte
 have DG:Hid (∀ W,Calls Tryz.prog 97 #[.int .u8 c] W fun e w'=>e = .returned (.bool false)∧w'=W):=fun W=>by
  have:=rdigit_any W c
  rw [hdg] at this
  exact this
 have SM:Hid (∀ W,Calls Tryz.prog 100 #[.int .u8 c] W fun e w'=>e = .returned (.bool false)∧w'=W):=fun W=>by
  have:=rsmall_any W c
  rw [hsm] at this
  exact this
 have GR:Hid (∀ W,Calls Tryz.prog 102 #[.int .u8 c] W fun e w'=>e = .returned (.bool false)∧w'=W):=fun W=>by
  have:=rgreat_any W c
  rw [hgr] at this
  exact this
 have SG:Hid (∀ W,Calls Tryz.prog 105 #[.string s,.int .i64 i] W (SignPost W n)):=fun W=>by
  rw [hn];exact rsign_any W s h.size i h.lt
 have sl:∀ m,(Instr.slice 9 (.string s) (some (.int .i64 i)) (some (.int .i64 ((i:Int)+(n:Int)))) none).run Tryz.prog m = .ok (.string (s.extract i (i+n))) m:=slice_mid s i n (by have:=h.lt;omega)
 obtain⟨tx,htx⟩:∃ t,t=s.extract i (i+n):=⟨_,rfl⟩
 rw [← htx] at sl
 obtain⟨V,hV⟩:∃ V,V=rdV s i (LX.token ((bts s).drop i)):=⟨_,rfl⟩
 rw [← hV]
 rw [htok] at hV
 have hz:(s.size:Int)≤400000:=by have:=h.size;omega
 have hiz:(i:Int)<(s.size:Int):=by have:=h.lt;omega
 have hnz:(i:Int)+(n:Int)≤(s.size:Int):=by have:=h.lt;omega
 by_cases h0:n=0
 ·have hv:V = .tuple #[tokV 0 0 ⟨#[]⟩ 0,.int .i64 11]:=by rw [hV,if_pos h0];rfl
  have HV:=zh hv
  have k0:((n:Int)==0)=true:=by rw [h0];rfl
  clear hv hV htok h hdg hsm hgr hn hle htx h126 h39' h0 h39
  go_enter Tryz.func84,Tryz.ntmps84
  go_wp2_with fail
  refine(DG.out _).mono ?_
  rintro e w1 ⟨rfl,rfl⟩
  go_wp2_with fail
  refine(SM.out _).mono ?_
  rintro e w1 ⟨rfl,rfl⟩
  go_wp2_with fail
  refine(GR.out _).mono ?_
  rintro e w1 ⟨rfl,rfl⟩
  go_wp2_with fail
  refine(SG.out _).mono ?_
  rintro e w1 ⟨rfl,m,rfl⟩
  go_wp2_with fail
  go_returns
  exact⟨by rw [HV.out];rfl,((((below_drawn ((Below.refl _ _).alloc (Nat.le_refl _) _) m).setCell (Nat.le_refl _) _).setCell (Nat.le_refl _) _).setCell (Nat.le_refl _) _).setCell (Nat.le_refl _) _⟩
 ·have hv:V = .tuple #[tokV 6 0 tx i,.int .i64 0]:=by rw [hV,if_neg h0,htx];rfl
  have HV:=zh hv
  have k0:((n:Int)==0)=false:=beq_false_of_ne (by omega)
  clear hv hV htok h hdg hsm hgr hn hle htx h126 h39' h0 h39
  go_enter Tryz.func84,Tryz.ntmps84
  go_wp2_with fail
  refine(DG.out _).mono ?_
  rintro e w1 ⟨rfl,rfl⟩
  go_wp2_with fail
  refine(SM.out _).mono ?_
  rintro e w1 ⟨rfl,rfl⟩
  go_wp2_with fail
  refine(GR.out _).mono ?_
  rintro e w1 ⟨rfl,rfl⟩
  go_wp2_with fail
  refine(SG.out _).mono ?_
  rintro e w1 ⟨rfl,m,rfl⟩
  go_wp2_with fail
  go_returns
  exact⟨by rw [HV.out];rfl,((((below_drawn ((Below.refl _ _).alloc (Nat.le_refl _) _) m).setCell (Nat.le_refl _) _).setCell (Nat.le_refl _) _).setCell (Nat.le_refl _) _).setCell (Nat.le_refl _) _⟩
set_option maxHeartbeats 2000000 in
set_option maxRecDepth 20000 in
theorem rread_quote_end (w:World) (s:ByteArray) (i c:Nat) (h:RdAt s i c) (hdg:LX.digit c=false) (h126:c≠126) (hsm:LX.small c=false) (hgr:LX.great c=false) (h39:c=39) (hend:s.size≤i+1) :
  Calls Tryz.prog 84 #[.string s,.int .i64 i] w (RdPost w (rdV s i (LX.token ((bts s).drop i)))):=by
 obtain⟨n,hn⟩:∃ n,n=signLen ((bts s).drop i):=⟨_,rfl⟩
 have hle:=signLen_le (l:=(bts s).drop i) (by rw [h.drop];simp)
 rw [← hn,List.length_drop,bts_length] at hle
 have h39':¬ (c=39∧LX.small (LX.head0 ((bts s).drop (i+1)))=true):=fun e=>by
  rw [List.drop_of_length_le (by rw [bts_length];exact hend)] at e
  exact absurd e.2 (by decide)
 have k39:((c:Int)==39)=true:=by rw [h39];rfl
 have hend':(s.size:Int)≤(i:Int)+1:=by omega
 have htok:LX.token ((bts s).drop i)=if n=0 then .bad 11 else .tok 6 0 n:=by
  rw [hn,h.drop]
  exact tok_sign hdg h126 hsm hgr h39'
 have k126:((c:Int)==126)=false:=beq_false_of_ne (by omega)
 have b0:=byte_at s h.lt h.byte
 have DG:Hid (∀ W,Calls Tryz.prog 97 #[.int .u8 c] W fun e w'=>e = .returned (.bool false)∧w'=W):=fun W=>by
  have:=rdigit_any W c
  rw [hdg] at this
  exact this
 have SM:Hid (∀ W,Calls Tryz.prog 100 #[.int .u8 c] W fun e w'=>e = .returned (.bool false)∧w'=W):=fun W=>by
  have:=rsmall_any W c
  rw [hsm] at this
  exact this
 have GR:Hid (∀ W,Calls Tryz.prog 102 #[.int .u8 c] W fun e w'=>e = .returned (.bool false)∧w'=W):=fun W=>by
  have:=rgreat_any W c
  rw [hgr] at this
  exact this
 have SG:Hid (∀ W,Calls Tryz.prog 105 #[.string s,.int .i64 i] W (SignPost W n)):=fun W=>by
  rw [hn];exact rsign_any W s h.size i h.lt
 have sl:∀ m,(Instr.slice 9 (.string s) (some (.int .i64 i)) (some (.int .i64 ((i:Int)+(n:Int)))) none).run Tryz.prog m = .ok (.string (s.extract i (i+n))) m:=slice_mid s i n (by have:=h.lt;omega)
 obtain⟨tx,htx⟩:∃ t,t=s.extract i (i+n):=⟨_,rfl⟩
 rw [← htx] at sl
 obtain⟨V,hV⟩:∃ V,V=rdV s i (LX.token ((bts s).drop i)):=⟨_,rfl⟩
 rw [← hV]
 rw [htok] at hV
 have hz:(s.size:Int)≤400000:=by have:=h.size;omega
 have hiz:(i:Int)<(s.size:Int):=by have:=h.lt;omega
 have hnz:(i:Int)+(n:Int)≤(s.size:Int):=by have:=h.lt;omega
 by_cases h0:n=0
 ·have hv:V = .tuple #[tokV 0 0 ⟨#[]⟩ 0,.int .i64 11]:=by rw [hV,if_pos h0];rfl
  have HV:=zh hv
  have k0:((n:Int)==0)=true:=by rw [h0];rfl
  clear hv hV htok h hdg hsm hgr hn hle htx h126 h39' h0 h39 hend
  go_enter Tryz.func84,Tryz.ntmps84
  go_wp2_with fail
  refine(DG.out _).mono ?_
  rintro e w1 ⟨rfl,rfl⟩
  go_wp2_with fail
  refine(SM.out _).mono ?_
  rintro e w1 ⟨rfl,rfl⟩
  go_wp2_with fail
  refine(GR.out _).mono ?_
  rintro e w1 ⟨rfl,rfl⟩
  go_wp2_with fail
  refine(SG.out _).mono ?_
  rintro e w1 ⟨rfl,m,rfl⟩
  go_wp2_with fail
  go_returns
  exact⟨by rw [HV.out];rfl,((((below_drawn ((Below.refl _ _).alloc (Nat.le_refl _) _) m).setCell (Nat.le_refl _) _).setCell (Nat.le_refl _) _).setCell (Nat.le_refl _) _).setCell (Nat.le_refl _) _⟩
 ·have hv:V = .tuple #[tokV 6 0 tx i,.int .i64 0]:=by rw [hV,if_neg h0,htx];rfl
  have HV:=zh hv
  have k0:((n:Int)==0)=false:=beq_false_of_ne (by omega)
  clear hv hV htok h hdg hsm hgr hn hle htx h126 h39' h0 h39 hend
  go_enter Tryz.func84,Tryz.ntmps84
  go_wp2_with fail
  refine(DG.out _).mono ?_
  rintro e w1 ⟨rfl,rfl⟩
  go_wp2_with fail
  refine(SM.out _).mono ?_
  rintro e w1 ⟨rfl,rfl⟩
  go_wp2_with fail
  refine(GR.out _).mono ?_
  rintro e w1 ⟨rfl,rfl⟩
  go_wp2_with fail
  refine(SG.out _).mono ?_
  rintro e w1 ⟨rfl,m,rfl⟩
  go_wp2_with fail
  go_returns
  exact⟨by rw [HV.out];rfl,((((below_drawn ((Below.refl _ _).alloc (Nat.le_refl _) _) m).setCell (Nat.le_refl _) _).setCell (Nat.le_refl _) _).setCell (Nat.le_refl _) _).setCell (Nat.le_refl _) _⟩
set_option maxHeartbeats 2000000 in
set_option maxRecDepth 20000 in
theorem rread_quote (w:World) (s:ByteArray) (i c:Nat) (h:RdAt s i c) (hdg:LX.digit c=false) (h126:c≠126) (hsm:LX.small c=false) (hgr:LX.great c=false) (h39:c=39) (hlt:i+1<s.size) (hnx:LX.small ((bts s).getD (i+1) 0)=false) :
  Calls Tryz.prog 84 #[.string s,.int .i64 i] w (RdPost w (rdV s i (LX.token ((bts s).drop i)))):=by
 obtain⟨n,hn⟩:∃ n,n=signLen ((bts s).drop i):=⟨_,rfl⟩
 have hle:=signLen_le (l:=(bts s).drop i) (by rw [h.drop];simp)
 rw [← hn,List.length_drop,bts_length] at hle
 obtain⟨x,hx⟩:∃ x,(bts s).getD (i+1) 0=x:=⟨_,rfl⟩
 rw [hx] at hnx
 have h39':¬ (c=39∧LX.small (LX.head0 ((bts s).drop (i+1)))=true):=fun e=>by
  rw [LX.drop_get (by rw [bts_length];exact hlt),hx] at e
  have h2:LX.small x=true:=e.2
  rw [hnx] at h2
  cases h2
 have k39:((c:Int)==39)=true:=by rw [h39];rfl
 have hlt':(i:Int)+1<(s.size:Int):=by omega
 have b1:∀ m,(Instr.index 9 (.string s) (.int .i64 ((i:Int)+1))).run Tryz.prog m = .ok (.int .u8 (x:Int)) m:=byte_at s hlt hx
 have SX:Hid (∀ W,Calls Tryz.prog 100 #[.int .u8 x] W fun e w'=>e = .returned (.bool false)∧w'=W):=fun W=>by
  have:=rsmall_any W x
  rw [hnx] at this
  exact this
 have htok:LX.token ((bts s).drop i)=if n=0 then .bad 11 else .tok 6 0 n:=by
  rw [hn,h.drop]
  exact tok_sign hdg h126 hsm hgr h39'
 have k126:((c:Int)==126)=false:=beq_false_of_ne (by omega)
 have b0:=byte_at s h.lt h.byte
 have DG:Hid (∀ W,Calls Tryz.prog 97 #[.int .u8 c] W fun e w'=>e = .returned (.bool false)∧w'=W):=fun W=>by
  have:=rdigit_any W c
  rw [hdg] at this
  exact this
 have SM:Hid (∀ W,Calls Tryz.prog 100 #[.int .u8 c] W fun e w'=>e = .returned (.bool false)∧w'=W):=fun W=>by
  have:=rsmall_any W c
  rw [hsm] at this
  exact this
 have GR:Hid (∀ W,Calls Tryz.prog 102 #[.int .u8 c] W fun e w'=>e = .returned (.bool false)∧w'=W):=fun W=>by
  have:=rgreat_any W c
  rw [hgr] at this
  exact this
 have SG:Hid (∀ W,Calls Tryz.prog 105 #[.string s,.int .i64 i] W (SignPost W n)):=fun W=>by
  rw [hn];exact rsign_any W s h.size i h.lt
 have sl:∀ m,(Instr.slice 9 (.string s) (some (.int .i64 i)) (some (.int .i64 ((i:Int)+(n:Int)))) none).run Tryz.prog m = .ok (.string (s.extract i (i+n))) m:=slice_mid s i n (by have:=h.lt;omega)
 obtain⟨tx,htx⟩:∃ t,t=s.extract i (i+n):=⟨_,rfl⟩
 rw [← htx] at sl
 obtain⟨V,hV⟩:∃ V,V=rdV s i (LX.token ((bts s).drop i)):=⟨_,rfl⟩
 rw [← hV]
 rw [htok] at hV
 have hz:(s.size:Int)≤400000:=by have:=h.size;omega
 have hiz:(i:Int)<(s.size:Int):=by have:=h.lt;omega
 have hnz:(i:Int)+(n:Int)≤(s.size:Int):=by have:=h.lt;omega
 by_cases h0:n=0
 ·have hv:V = .tuple #[tokV 0 0 ⟨#[]⟩ 0,.int .i64 11]:=by rw [hV,if_pos h0];rfl
  have HV:=zh hv
  have k0:((n:Int)==0)=true:=by rw [h0];rfl
  clear hv hV htok h hdg hsm hgr hn hle htx h126 h39' h0 h39 hlt hnx hx
  go_enter Tryz.func84,Tryz.ntmps84
  go_wp2_with fail
  refine(DG.out _).mono ?_
  rintro e w1 ⟨rfl,rfl⟩
  go_wp2_with fail
  refine(SX.out _).mono ?_
  rintro e w1 ⟨rfl,rfl⟩
  go_wp2_with fail
  refine(SM.out _).mono ?_
  rintro e w1 ⟨rfl,rfl⟩
  go_wp2_with fail
  refine(GR.out _).mono ?_
  rintro e w1 ⟨rfl,rfl⟩
  go_wp2_with fail
  refine(SG.out _).mono ?_
  rintro e w1 ⟨rfl,m,rfl⟩
  go_wp2_with fail
  go_returns
  exact⟨by rw [HV.out];rfl,((((below_drawn ((Below.refl _ _).alloc (Nat.le_refl _) _) m).setCell (Nat.le_refl _) _).setCell (Nat.le_refl _) _).setCell (Nat.le_refl _) _).setCell (Nat.le_refl _) _⟩
 ·have hv:V = .tuple #[tokV 6 0 tx i,.int .i64 0]:=by rw [hV,if_neg h0,htx];rfl
  have HV:=zh hv
  have k0:((n:Int)==0)=false:=beq_false_of_ne (by omega)
  clear hv hV htok h hdg hsm hgr hn hle htx h126 h39' h0 h39 hlt hnx hx
  go_enter Tryz.func84,Tryz.ntmps84
  go_wp2_with fail
  refine(DG.out _).mono ?_
  rintro e w1 ⟨rfl,rfl⟩
  go_wp2_with fail
  refine(SX.out _).mono ?_
  rintro e w1 ⟨rfl,rfl⟩
  go_wp2_with fail
  refine(SM.out _).mono ?_
  rintro e w1 ⟨rfl,rfl⟩
  go_wp2_with fail
  refine(GR.out _).mono ?_
  rintro e w1 ⟨rfl,rfl⟩
  go_wp2_with fail
  refine(SG.out _).mono ?_
  rintro e w1 ⟨rfl,m,rfl⟩
  go_wp2_with fail
  go_returns
  exact⟨by rw [HV.out];rfl,((((below_drawn ((Below.refl _ _).alloc (Nat.le_refl _) _) m).setCell (Nat.le_refl _) _).setCell (Nat.le_refl _) _).setCell (Nat.le_refl _) _).setCell (Nat.le_refl _) _⟩
end Go.Proofs.YtnkahlloahgifaaGreatDoor.Lx
