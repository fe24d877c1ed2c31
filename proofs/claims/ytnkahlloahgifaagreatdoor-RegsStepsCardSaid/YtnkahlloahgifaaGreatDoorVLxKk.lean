/- Part. -/
import Derived.Test.YtnkahlloahgifaaGreatDoorVLxRg
import Derived.Test.YtnkahlloahgifaaGreatDoorVLxRa
set_option linter.unusedSimpArgs false
set_option linter.unusedVariables false
namespace Go.Proofs.YtnkahlloahgifaaGreatDoor.Lx
open Go.RowKit
set_option maxHeartbeats 4000000 in
set_option maxRecDepth 20000 in
theorem rread_digit (w:World) (s:ByteArray) (i c:Nat) (h:RdAt s i c) (hc:LX.digit c=true) :
  Calls Tryz.prog 84 #[.string s,.int .i64 i] w (RdPost w (rdV s i (LX.token ((bts s).drop i)))):=by
 obtain⟨d,hd⟩:∃ d,d=0+LX.run LX.digit ((bts s).drop (i+0)):=⟨_,rfl⟩
 have htok:LX.token ((bts s).drop i)=match LX.num (((bts s).drop i).take d) with
   | none => .bad 13
   | some v=>if LX.part ((bts s).getD (i+d) 0)||(bts s).getD (i+d) 0==39 then .bad 13 else .tok 1 v d:=by
  refine Eq.trans ?_ (number_eq s i 0 d hd)
  rw [h.drop]
  unfold LX.token
  simp only []
  have h126:c≠126:=fun e=>by rw [e] at hc;cases hc
  rw [if_pos (by rw [hc];rfl),if_neg h126]
 obtain⟨sp1,sp2⟩:=run_spec LX.digit (bts s) (i+0)
 have hle:=sp2 (by rw [bts_length];have:=h.lt;omega)
 rw [bts_length] at hle
 simp only [bts_length] at sp1
 have hstop:i+d<s.size→LX.digit ((bts s).getD (i+d) 0)=false:=fun hh=>by
  have:=LX.run_stops LX.digit (bts s) _ (i+0) rfl (by rw [bts_length];omega)
  rw [show i+0+LX.run LX.digit ((bts s).drop (i+0))=i+d from by omega] at this
  exact this
 have hend0:s.size≤i+d→(bts s).getD (i+d) 0=0:=fun hh=>by
  rw [List.getD_eq_getElem?_getD,List.getElem?_eq_none (by rw [bts_length];exact hh)];rfl
 obtain⟨J,hJ⟩:∃ J,J=i+d:=⟨_,rfl⟩
 rw [← hJ] at htok hstop hend0
 have b0:=byte_at s h.lt h.byte
 have h126:c≠126:=fun e=>by rw [e] at hc;cases hc
 have k126:((c:Int)==126)=false:=beq_false_of_ne (by omega)
 have DG:Hid (∀ W,Calls Tryz.prog 97 #[.int .u8 c] W fun e w'=>e = .returned (.bool true)∧w'=W):=fun W=>by
  have:=rdigit_any W c
  rw [hc] at this
  exact this
 have sl:∀ m,(Instr.slice 9 (.string s) (some (.int .i64 i)) (some (.int .i64 J)) none).run Tryz.prog m = .ok (.string (s.extract i (i+d))) m:=fun m=>by
  have:=slice_mid s i d (by omega) m
  rw [show (i:Int)+(d:Int)=(J:Int) from by omega] at this
  exact this
 obtain⟨tx,htx⟩:∃ t,t=s.extract i (i+d):=⟨_,rfl⟩
 rw [← htx] at sl
 have hbt:bts tx=((bts s).drop i).take d:=by rw [htx,bts_extract,Nat.add_sub_cancel_left]
 rw [← hbt] at htok
 obtain⟨V,hV⟩:∃ V,V=rdV s i (LX.token ((bts s).drop i)):=⟨_,rfl⟩
 rw [← hV]
 rw [htok] at hV
 have hz:(s.size:Int)≤400000:=by have:=h.size;omega
 have hiz:(i:Int)<(s.size:Int):=by have:=h.lt;omega
 have SP1:Hid (∀ k,i+0≤k→k<J→k<s.size∧LX.digit ((bts s).getD k 0)=true):=fun k a b=>⟨(sp1 k a (by omega)).1,(sp1 k a (by omega)).2.1⟩
 have HJ:Hid (i+0≤J∧J≤s.size):=⟨by omega,by omega⟩
 have FIN:Hid (∀ v:Int,LX.num (bts tx)=some v→(LX.part ((bts s).getD J 0)||(bts s).getD J 0==39)=false→V = .tuple #[tokV 1 v tx i,.int .i64 0]):=fun v h1 h2=>by
  rw [hV,h1]
  simp only []
  rw [h2,htx]
  rfl
 have BAD:Hid ((LX.num (bts tx)=none∨(LX.part ((bts s).getD J 0)||(bts s).getD J 0==39)=true)→V = .tuple #[tokV 0 0 ⟨#[]⟩ 0,.int .i64 13]):=fun h1=>by
  rw [hV]
  cases h2:LX.num (bts tx) with
  | none=>rfl
  | some v =>
   simp only []
   rcases h1 with h1 | h1
   ·rw [h2] at h1;cases h1
   ·rw [h1];rfl
 have RNB:Hid (∀ W,Calls Tryz.prog 98 #[.string tx] W (RN (LX.num (bts tx)) W)):=fun W=>refNumber_any W tx
 have ST:=zh hstop
 have EN:=zh hend0
 obtain⟨r,hr⟩:∃ r,r=LX.num (bts tx):=⟨_,rfl⟩
 rw [← hr] at FIN BAD RNB
 clear hr hV htok hbt htx sp1 sp2 hle hstop hend0 hJ hd h126 hc h
 go_enter Tryz.func84,Tryz.ntmps84
 go_wp2_with fail
 refine(DG.out _).mono ?_
 rintro e w1 ⟨rfl,rfl⟩
 go_wp2_with fail
 go_loop [7] (fun j=>∃ k:Nat,i+0≤k∧k≤J∧j = .int .i64 k) (fun j=>s.size - (intOf j).toNat)
 case atStart=>exact⟨i+0,Nat.le_refl _,HJ.out.1,rfl⟩
 case round =>
  obtain⟨k,hk1,hk2,rfl⟩:=hrel
  have HK:Hid (i+0≤k):=hk1
  by_cases hlt:k<J
  ·obtain⟨hks,hdk⟩:=SP1.out k hk1 hlt
   have hkz:(k:Int)<(s.size:Int):=by omega
   obtain⟨x,hx⟩:∃ x,(bts s).getD k 0=x:=⟨_,rfl⟩
   have bk:=byte_at s hks hx
   rw [hx] at hdk
   have DX:Hid (∀ W,Calls Tryz.prog 97 #[.int .u8 x] W fun e w'=>e = .returned (.bool true)∧w'=W):=fun W=>by
    have:=rdigit_any W x
    rw [hdk] at this
    exact this
   have HLT:Hid (k<J∧k<s.size):=⟨hlt,hks⟩
   clear hx hdk hlt hk1 hk2 hks
   go_wp2_with fail
   refine(DX.out _).mono ?_
   rintro e w1 ⟨rfl,rfl⟩
   go_wp2_with fail
   go_round
   case rel=>exact⟨k+1,by have:=HK.out;omega,HLT.out.1,by go_num⟩
   case measure=>have:=HLT.out.2;simp [intOf];omega
  ·obtain rfl:k=J:=by omega
   have hJi:(i:Int)≤(k:Int):=by omega
   clear hk1 hk2 hlt
   by_cases hend:k<s.size
   ·have hkz:(k:Int)<(s.size:Int):=by omega
    obtain⟨x,hx⟩:∃ x,(bts s).getD k 0=x:=⟨_,rfl⟩
    have bk:=byte_at s hend hx
    have hdk:=ST.out hend
    rw [hx] at hdk FIN BAD
    have DX:Hid (∀ W,Calls Tryz.prog 97 #[.int .u8 x] W fun e w'=>e = .returned (.bool false)∧w'=W):=fun W=>by
     have:=rdigit_any W x
     rw [hdk] at this
     exact this
    have INX:Hid (∀ W,Calls Tryz.prog 99 #[.int .u8 x] W fun e w'=>e = .returned (.bool (LX.part x))∧w'=W):=fun W=>rinner_any W x
    clear hdk hend hx
    cases r with
    | none =>
     have HV:=zh (BAD.out (.inl rfl))
     clear FIN BAD
     go_wp2_with fail
     refine(DX.out _).mono ?_
     rintro e w1 ⟨rfl,rfl⟩
     go_wp2_with fail
     refine(RNB.out _).mono ?_
     rintro e w1 ⟨rfl,rfl⟩
     go_wp2_with fail
     go_returns
     exact⟨by rw [HV.out];rfl,(Below.refl _ _).alloc (Nat.le_refl _) _⟩
    | some v =>
     obtain⟨pb,hpb⟩:∃ b,b=LX.part x:=⟨_,rfl⟩
     rw [← hpb] at FIN BAD INX
     clear hpb
     cases pb with
     | true =>
      have HV:=zh (BAD.out (.inr rfl))
      clear FIN BAD
      go_wp2_with fail
      refine(DX.out _).mono ?_
      rintro e w1 ⟨rfl,rfl⟩
      go_wp2_with fail
      refine(RNB.out _).mono ?_
      rintro e w1 ⟨rfl,rfl⟩
      go_wp2_with fail
      refine(INX.out _).mono ?_
      rintro e w1 ⟨rfl,rfl⟩
      go_wp2_with fail
      go_returns
      exact⟨by rw [HV.out];rfl,(Below.refl _ _).alloc (Nat.le_refl _) _⟩
     | false =>
      by_cases h39:x=39
      ·have HV:=zh (BAD.out (.inr (by rw [h39];rfl)))
       have k39:((x:Int)==39)=true:=by rw [h39];rfl
       clear FIN BAD h39
       go_wp2_with fail
       refine(DX.out _).mono ?_
       rintro e w1 ⟨rfl,rfl⟩
       go_wp2_with fail
       refine(RNB.out _).mono ?_
       rintro e w1 ⟨rfl,rfl⟩
       go_wp2_with fail
       refine(INX.out _).mono ?_
       rintro e w1 ⟨rfl,rfl⟩
       go_wp2_with fail
       go_returns
       exact⟨by rw [HV.out];rfl,(Below.refl _ _).alloc (Nat.le_refl _) _⟩
      ·have HV:=zh (FIN.out v rfl (by rw [show (x==39)=false from beq_false_of_ne h39];rfl))
       have k39:((x:Int)==39)=false:=beq_false_of_ne (by omega)
       clear FIN BAD h39
       go_wp2_with fail
       refine(DX.out _).mono ?_
       rintro e w1 ⟨rfl,rfl⟩
       go_wp2_with fail
       refine(RNB.out _).mono ?_
       rintro e w1 ⟨rfl,rfl⟩
       go_wp2_with fail
       refine(INX.out _).mono ?_
       rintro e w1 ⟨rfl,rfl⟩
       go_wp2_with fail
       go_returns
       exact⟨by rw [HV.out];rfl,(Below.refl _ _).alloc (Nat.le_refl _) _⟩
   ·have hkz:(s.size:Int)≤(k:Int):=by omega
    have hkz2:(k:Int)≤(s.size:Int):=by have:=HJ.out.2;omega
    have he0:=EN.out (by omega)
    rw [he0] at FIN BAD
    clear he0 hend
    cases r with
    | none =>
     have HV:=zh (BAD.out (.inl rfl))
     clear FIN BAD
     go_wp2_with fail
     refine(RNB.out _).mono ?_
     rintro e w1 ⟨rfl,rfl⟩
     go_wp2_with fail
     go_returns
     exact⟨by rw [HV.out];rfl,(Below.refl _ _).alloc (Nat.le_refl _) _⟩
    | some v =>
     have HV:=zh (FIN.out v rfl rfl)
     clear FIN BAD
     go_wp2_with fail
     refine(RNB.out _).mono ?_
     rintro e w1 ⟨rfl,rfl⟩
     go_wp2_with fail
     go_returns
     exact⟨by rw [HV.out];rfl,(Below.refl _ _).alloc (Nat.le_refl _) _⟩
set_option maxHeartbeats 4000000 in
set_option maxRecDepth 20000 in
theorem rread_tilde (w:World) (s:ByteArray) (i c:Nat) (h:RdAt s i c) (hc:c=126) :
  Calls Tryz.prog 84 #[.string s,.int .i64 i] w (RdPost w (rdV s i (LX.token ((bts s).drop i)))):=by
 obtain⟨d,hd⟩:∃ d,d=1+LX.run LX.digit ((bts s).drop (i+1)):=⟨_,rfl⟩
 have htok:LX.token ((bts s).drop i)=match LX.num (((bts s).drop i).take d) with
   | none => .bad 13
   | some v=>if LX.part ((bts s).getD (i+d) 0)||(bts s).getD (i+d) 0==39 then .bad 13 else .tok 1 v d:=by
  refine Eq.trans ?_ (number_eq s i 1 d hd)
  rw [h.drop]
  unfold LX.token
  simp only []
  rw [if_pos (by rw [hc];rfl),if_pos hc]
 obtain⟨sp1,sp2⟩:=run_spec LX.digit (bts s) (i+1)
 have hle:=sp2 (by rw [bts_length];have:=h.lt;omega)
 rw [bts_length] at hle
 simp only [bts_length] at sp1
 have hstop:i+d<s.size→LX.digit ((bts s).getD (i+d) 0)=false:=fun hh=>by
  have:=LX.run_stops LX.digit (bts s) _ (i+1) rfl (by rw [bts_length];omega)
  rw [show i+1+LX.run LX.digit ((bts s).drop (i+1))=i+d from by omega] at this
  exact this
 have hend0:s.size≤i+d→(bts s).getD (i+d) 0=0:=fun hh=>by
  rw [List.getD_eq_getElem?_getD,List.getElem?_eq_none (by rw [bts_length];exact hh)];rfl
 obtain⟨J,hJ⟩:∃ J,J=i+d:=⟨_,rfl⟩
 rw [← hJ] at htok hstop hend0
 have b0:=byte_at s h.lt h.byte
 have k126:((c:Int)==126)=true:=by rw [hc];rfl
 have sl:∀ m,(Instr.slice 9 (.string s) (some (.int .i64 i)) (some (.int .i64 J)) none).run Tryz.prog m = .ok (.string (s.extract i (i+d))) m:=fun m=>by
  have:=slice_mid s i d (by omega) m
  rw [show (i:Int)+(d:Int)=(J:Int) from by omega] at this
  exact this
 obtain⟨tx,htx⟩:∃ t,t=s.extract i (i+d):=⟨_,rfl⟩
 rw [← htx] at sl
 have hbt:bts tx=((bts s).drop i).take d:=by rw [htx,bts_extract,Nat.add_sub_cancel_left]
 rw [← hbt] at htok
 obtain⟨V,hV⟩:∃ V,V=rdV s i (LX.token ((bts s).drop i)):=⟨_,rfl⟩
 rw [← hV]
 rw [htok] at hV
 have hz:(s.size:Int)≤400000:=by have:=h.size;omega
 have hiz:(i:Int)<(s.size:Int):=by have:=h.lt;omega
 have SP1:Hid (∀ k,i+1≤k→k<J→k<s.size∧LX.digit ((bts s).getD k 0)=true):=fun k a b=>⟨(sp1 k a (by omega)).1,(sp1 k a (by omega)).2.1⟩
 have HJ:Hid (i+1≤J∧J≤s.size):=⟨by omega,by omega⟩
 have FIN:Hid (∀ v:Int,LX.num (bts tx)=some v→(LX.part ((bts s).getD J 0)||(bts s).getD J 0==39)=false→V = .tuple #[tokV 1 v tx i,.int .i64 0]):=fun v h1 h2=>by
  rw [hV,h1]
  simp only []
  rw [h2,htx]
  rfl
 have BAD:Hid ((LX.num (bts tx)=none∨(LX.part ((bts s).getD J 0)||(bts s).getD J 0==39)=true)→V = .tuple #[tokV 0 0 ⟨#[]⟩ 0,.int .i64 13]):=fun h1=>by
  rw [hV]
  cases h2:LX.num (bts tx) with
  | none=>rfl
  | some v =>
   simp only []
   rcases h1 with h1 | h1
   ·rw [h2] at h1;cases h1
   ·rw [h1];rfl
 have RNB:Hid (∀ W,Calls Tryz.prog 98 #[.string tx] W (RN (LX.num (bts tx)) W)):=fun W=>refNumber_any W tx
 have ST:=zh hstop
 have EN:=zh hend0
 obtain⟨r,hr⟩:∃ r,r=LX.num (bts tx):=⟨_,rfl⟩
 rw [← hr] at FIN BAD RNB
 clear hr hV htok hbt htx sp1 sp2 hle hstop hend0 hJ hd hc h
 go_enter Tryz.func84,Tryz.ntmps84
 skip
 go_wp2_with fail
 go_loop [7] (fun j=>∃ k:Nat,i+1≤k∧k≤J∧j = .int .i64 k) (fun j=>s.size - (intOf j).toNat)
 case atStart=>exact⟨i+1,Nat.le_refl _,HJ.out.1,by go_num⟩
 case round =>
  obtain⟨k,hk1,hk2,rfl⟩:=hrel
  have HK:Hid (i+1≤k):=hk1
  by_cases hlt:k<J
  ·obtain⟨hks,hdk⟩:=SP1.out k hk1 hlt
   have hkz:(k:Int)<(s.size:Int):=by omega
   obtain⟨x,hx⟩:∃ x,(bts s).getD k 0=x:=⟨_,rfl⟩
   have bk:=byte_at s hks hx
   rw [hx] at hdk
   have DX:Hid (∀ W,Calls Tryz.prog 97 #[.int .u8 x] W fun e w'=>e = .returned (.bool true)∧w'=W):=fun W=>by
    have:=rdigit_any W x
    rw [hdk] at this
    exact this
   have HLT:Hid (k<J∧k<s.size):=⟨hlt,hks⟩
   clear hx hdk hlt hk1 hk2 hks
   go_wp2_with fail
   refine(DX.out _).mono ?_
   rintro e w1 ⟨rfl,rfl⟩
   go_wp2_with fail
   go_round
   case rel=>exact⟨k+1,by have:=HK.out;omega,HLT.out.1,by go_num⟩
   case measure=>have:=HLT.out.2;simp [intOf];omega
  ·obtain rfl:k=J:=by omega
   have hJi:(i:Int)≤(k:Int):=by omega
   clear hk1 hk2 hlt
   by_cases hend:k<s.size
   ·have hkz:(k:Int)<(s.size:Int):=by omega
    obtain⟨x,hx⟩:∃ x,(bts s).getD k 0=x:=⟨_,rfl⟩
    have bk:=byte_at s hend hx
    have hdk:=ST.out hend
    rw [hx] at hdk FIN BAD
    have DX:Hid (∀ W,Calls Tryz.prog 97 #[.int .u8 x] W fun e w'=>e = .returned (.bool false)∧w'=W):=fun W=>by
     have:=rdigit_any W x
     rw [hdk] at this
     exact this
    have INX:Hid (∀ W,Calls Tryz.prog 99 #[.int .u8 x] W fun e w'=>e = .returned (.bool (LX.part x))∧w'=W):=fun W=>rinner_any W x
    clear hdk hend hx
    cases r with
    | none =>
     have HV:=zh (BAD.out (.inl rfl))
     clear FIN BAD
     go_wp2_with fail
     refine(DX.out _).mono ?_
     rintro e w1 ⟨rfl,rfl⟩
     go_wp2_with fail
     refine(RNB.out _).mono ?_
     rintro e w1 ⟨rfl,rfl⟩
     go_wp2_with fail
     go_returns
     exact⟨by rw [HV.out];rfl,(Below.refl _ _).alloc (Nat.le_refl _) _⟩
    | some v =>
     obtain⟨pb,hpb⟩:∃ b,b=LX.part x:=⟨_,rfl⟩
     rw [← hpb] at FIN BAD INX
     clear hpb
     cases pb with
     | true =>
      have HV:=zh (BAD.out (.inr rfl))
      clear FIN BAD
      go_wp2_with fail
      refine(DX.out _).mono ?_
      rintro e w1 ⟨rfl,rfl⟩
      go_wp2_with fail
      refine(RNB.out _).mono ?_
      rintro e w1 ⟨rfl,rfl⟩
      go_wp2_with fail
      refine(INX.out _).mono ?_
      rintro e w1 ⟨rfl,rfl⟩
      go_wp2_with fail
      go_returns
      exact⟨by rw [HV.out];rfl,(Below.refl _ _).alloc (Nat.le_refl _) _⟩
     | false =>
      by_cases h39:x=39
      ·have HV:=zh (BAD.out (.inr (by rw [h39];rfl)))
       have k39:((x:Int)==39)=true:=by rw [h39];rfl
       clear FIN BAD h39
       go_wp2_with fail
       refine(DX.out _).mono ?_
       rintro e w1 ⟨rfl,rfl⟩
       go_wp2_with fail
       refine(RNB.out _).mono ?_
       rintro e w1 ⟨rfl,rfl⟩
       go_wp2_with fail
       refine(INX.out _).mono ?_
       rintro e w1 ⟨rfl,rfl⟩
       go_wp2_with fail
       go_returns
       exact⟨by rw [HV.out];rfl,(Below.refl _ _).alloc (Nat.le_refl _) _⟩
      ·have HV:=zh (FIN.out v rfl (by rw [show (x==39)=false from beq_false_of_ne h39];rfl))
       have k39:((x:Int)==39)=false:=beq_false_of_ne (by omega)
       clear FIN BAD h39
       go_wp2_with fail
       refine(DX.out _).mono ?_
       rintro e w1 ⟨rfl,rfl⟩
       go_wp2_with fail
       refine(RNB.out _).mono ?_
       rintro e w1 ⟨rfl,rfl⟩
       go_wp2_with fail
       refine(INX.out _).mono ?_
       rintro e w1 ⟨rfl,rfl⟩
       go_wp2_with fail
       go_returns
       exact⟨by rw [HV.out];rfl,(Below.refl _ _).alloc (Nat.le_refl _) _⟩
   ·have hkz:(s.size:Int)≤(k:Int):=by omega
    have hkz2:(k:Int)≤(s.size:Int):=by have:=HJ.out.2;omega
    have he0:=EN.out (by omega)
    rw [he0] at FIN BAD
    clear he0 hend
    cases r with
    | none =>
     have HV:=zh (BAD.out (.inl rfl))
     clear FIN BAD
     go_wp2_with fail
     refine(RNB.out _).mono ?_
     rintro e w1 ⟨rfl,rfl⟩
     go_wp2_with fail
     go_returns
     exact⟨by rw [HV.out];rfl,(Below.refl _ _).alloc (Nat.le_refl _) _⟩
    | some v =>
     have HV:=zh (FIN.out v rfl rfl)
     clear FIN BAD
     go_wp2_with fail
     refine(RNB.out _).mono ?_
     rintro e w1 ⟨rfl,rfl⟩
     go_wp2_with fail
     go_returns
     exact⟨by rw [HV.out];rfl,(Below.refl _ _).alloc (Nat.le_refl _) _⟩
end Go.Proofs.YtnkahlloahgifaaGreatDoor.Lx

namespace Go.Proofs.YtnkahlloahgifaaGreatDoor.Lx
open Go.RowKit
theorem rread_any (w:World) (s:ByteArray) (i c:Nat) (h:RdAt s i c):Calls Tryz.prog 84 #[.string s,.int .i64 i] w (RdPost w (rdV s i (LX.token ((bts s).drop i)))):=by
 cases hd:LX.digit c with
 | true=>exact rread_digit w s i c h hd
 | false =>
  by_cases h126:c=126
  ·exact rread_tilde w s i c h h126
  ·cases hs:LX.small c with
   | true=>exact rread_small w s i c h hs
   | false =>
    cases hg:LX.great c with
    | true=>exact rread_great w s i c h hg
    | false =>
     by_cases h39:c=39
     ·by_cases hl:i+1<s.size
      ·cases hn:LX.small ((bts s).getD (i+1) 0) with
       | true=>rw [h39] at h;exact rread_var w s i h hl hn
       | false=>exact rread_quote w s i c h hd h126 hs hg h39 hl hn
      ·exact rread_quote_end w s i c h hd h126 hs hg h39 (by omega)
     ·exact rread_sign w s i c h hd h126 hs hg h39
def RkPost (w:World) (k:Nat) (e:Ending) (w':World):Prop:=e = .returned (.int .i64 k)∧Below w.heap.size w w'
theorem slice_to (s:ByteArray) (p:Nat) (hp:p≤s.size) (m:World):(Instr.slice 9 (.string s) none (some (.int .i64 p)) none).run Tryz.prog m = .ok (.string (s.extract 0 p)) m:=by
 have:=run_slice_string_to_if (P:=Tryz.prog) m 9 s .i64 p Tryz.underlying9
 rw [this]
 simp [show (p:Int)≤(s.size:Int) from by omega]
theorem two_head (s:ByteArray) (h:1<s.size):∃ x:ByteArray,(∀ m,(Instr.slice 9 (.string s) none (some (.int .i64 2)) none).run Tryz.prog m = .ok (.string x) m)∧(x.toList==([40,42]:List UInt8))=LX.opens (bts s):=by
 have hx:bts (s.extract 0 2)=[(bts s).getD 0 0,(bts s).getD 1 0]:=by
  rw [bts_extract,List.drop_zero]
  have h1:=LX.drop_get (T:=bts s) (j:=0) (by rw [bts_length];omega)
  have h2:=LX.drop_get (T:=bts s) (j:=1) (by rw [bts_length];omega)
  rw [List.drop_zero] at h1
  rw [h1]
  show (_ :: (bts s).drop 1).take 2=_
  rw [h2]
  rfl
 refine⟨s.extract 0 2,fun m=>slice_to s 2 (by omega) m,?_⟩
 have:=two_eq hx ⟨#[40,42]⟩ (a:=40) (b:=42) rfl
 rw [lit4042] at this
 rw [this]
 cases ho:LX.opens (bts s) with
 | true =>
  obtain⟨a,b⟩:=LX.opens_two ho
  rw [a,b];rfl
 | false =>
  cases hq:((bts s).getD 0 0==40&&(bts s).getD 1 0==42) with
  | false=>rfl
  | true =>
   simp only [Bool.and_eq_true,beq_iff_eq] at hq
   rw [LX.opens_of hq.1 hq.2] at ho
   cases ho
set_option maxHeartbeats 1000000 in
set_option maxRecDepth 20000 in
theorem rkind_any (w : World) (s : ByteArray) : Calls Tryz.prog 54 #[.string s] w (RkPost w (LX.refKind (bts s))) := by
  obtain ⟨K, hK⟩ : ∃ K, K = LX.refKind (bts s) := ⟨_, rfl⟩
  rw [← hK]
  unfold LX.refKind at hK
  rw [bts_length] at hK
  have ZERO : Hid (K = 0 → ∀ w', Below w.heap.size w w' → RkPost w K (.returned (.int .i64 0)) w') := fun h w' hb => ⟨by rw [h]; rfl, hb⟩
  by_cases h0 : s.size = 0
  · have e0 : bts s = [] := List.length_eq_zero_iff.1 (by rw [bts_length]; exact h0)
    rw [if_pos (.inl e0)] at hK
    have HK := Lib.hid hK
    have z0 : ((s.size : Int) == 0) = true := by rw [h0]; rfl
    have z1 : (s.size == 0) = true := by rw [h0]; rfl
    clear hK e0 h0
    go_enter Tryz.func54, Tryz.ntmps54
    go_wp2_with fail
    go_ret
    exact ZERO.out HK.out _ (Below.refl _ _)
  · have hne : bts s ≠ [] := fun e => h0 (by rw [← bts_length, e]; rfl)
    have z0 : ((s.size : Int) == 0) = false := beq_false_of_ne (by omega)
    have z1 : (s.size == 0) = false := beq_false_of_ne (by omega)
    by_cases h100 : 100 < s.size
    · rw [if_pos (.inr h100)] at hK
      have HK := Lib.hid hK
      have z2 : (100 : Int) < (s.size : Int) := by omega
      clear hK hne h0 h100
      go_enter Tryz.func54, Tryz.ntmps54
      go_wp2_with fail
      go_ret
      exact ZERO.out HK.out _ (Below.refl _ _)
    · rw [if_neg (fun e => by rcases e with e | e; · exact hne e
                              · exact h100 e), LX.headD_getD] at hK
      have z2 : (s.size : Int) ≤ 100 := by omega
      have z3 : (0 : Int) < (s.size : Int) := by omega
      obtain ⟨c, hc⟩ : ∃ c, (bts s).getD 0 0 = c := ⟨_, rfl⟩
      have b0 : ∀ m, (Instr.index 9 (.string s) (.int .i64 0)).run Tryz.prog m = .ok (.int .u8 c) m := byte_at (i := 0) s (by omega) hc
      rw [hc] at hK
      have SP : Hid (∀ W, Calls Tryz.prog 83 #[.int .u8 c] W fun e w' => e = .returned (.bool (LX.space c)) ∧ w' = W) := fun W => rspace_any W c
      cases hsp : LX.space c with
      | true =>
        rw [if_pos (.inl hsp)] at hK
        rw [hsp] at SP
        have HK := Lib.hid hK
        clear hK hne h0 h100 hc hsp
        go_enter Tryz.func54, Tryz.ntmps54
        go_wp2_with fail
        refine (SP.out _).mono ?_
        rintro e w1 ⟨rfl, rfl⟩
        go_wp2_with fail
        go_ret
        exact ZERO.out HK.out _ (Below.refl _ _)
      | false =>
        rw [hsp] at SP
        have RA : Hid (∀ W, Calls Tryz.prog 84 #[.string s, .int .i64 0] W (RdPost W (rdV s 0 (LX.token (bts s))))) := fun W => by
          have := rread_any W s 0 c ⟨by omega, by omega, hc⟩
          rw [List.drop_zero] at this
          exact this
        have main : ∀ (pre : LX.opens (bts s) = false), (∃ x : ByteArray, (1 < s.size → (∀ m, (Instr.slice 9 (.string s) none (some (.int .i64 2)) none).run Tryz.prog m = .ok (.string x) m) ∧ (x.toList == ([40, 42] : List UInt8)) = false)) → Calls Tryz.prog 54 #[.string s] w (RkPost w K) := fun pre hx => by
          obtain ⟨x, hx⟩ := hx
          rw [if_neg (fun e => by rcases e with e | e; · rw [hsp] at e; cases e
                                  · rw [pre] at e; cases e)] at hK
          by_cases h1 : 1 < s.size
          · obtain ⟨sl, ne⟩ := hx h1
            have z4 : (1 : Int) < (s.size : Int) := by omega
            clear hx h1
            cases ht : LX.token (bts s) with
            | bad er =>
              rw [ht] at hK RA
              have hee := LX.token_bad ht
              have k0 : ((er : Int) == 0) = false := beq_false_of_ne (by omega)
              have HK := Lib.hid hK
              clear hK hne h0 h100 hc hsp ht hee pre
              go_enter Tryz.func54, Tryz.ntmps54
              go_wp2_with fail
              refine (SP.out _).mono ?_
              rintro e w1 ⟨rfl, rfl⟩
              go_wp2_with fail
              refine (RA.out _).mono ?_
              rintro e w1 ⟨rfl, hb⟩
              have HB := Lib.hid hb
              clear hb
              unfold rdV tokV
              go_wp2_with fail
              go_ret
              exact ZERO.out HK.out _ (HB.out.alloc HB.out.size _)
            | tok k v n =>
              rw [ht] at hK RA
              have h9 := LX.token_len ht
              rw [bts_length] at h9
              obtain ⟨tx, htx⟩ : ∃ t, t = s.extract 0 (0 + n) := ⟨_, rfl⟩
              have hts : tx.size = n := by rw [htx, ByteArray.size_extract]; omega
              have RA2 : Hid (∀ W, Calls Tryz.prog 84 #[.string s, .int .i64 0] W (RdPost W (.tuple #[.agg #[.int .i64 k, .int .i64 v, .string tx, .int .i64 0], .int .i64 0]))) := fun W => by rw [htx]; exact RA.out W
              clear RA
              have RA := RA2
              clear RA2
              by_cases hn : n = s.size
              · have k1 : ((tx.size : Int) == (s.size : Int)) = true := by rw [hts, hn]; simp
                have k2 : (tx.size == s.size) = true := by rw [hts, hn]; simp
                have hv : K = k := by rw [hK]; simp only []; rw [if_pos hn]
                have HV := Lib.hid hv
                clear hK hv hne h0 h100 hc hsp ht h9 pre htx hts hn
                go_enter Tryz.func54, Tryz.ntmps54
                go_wp2_with fail
                refine (SP.out _).mono ?_
                rintro e w1 ⟨rfl, rfl⟩
                go_wp2_with fail
                refine (RA.out _).mono ?_
                rintro e w1 ⟨rfl, hb⟩
                have HB := Lib.hid hb
                clear hb
                go_wp2_with fail
                go_ret
                exact ⟨by rw [HV.out]; rfl, HB.out.alloc HB.out.size _⟩
              · have k1 : ((tx.size : Int) == (s.size : Int)) = false := beq_false_of_ne (by omega)
                have k2 : (tx.size == s.size) = false := beq_false_of_ne (by omega)
                have hv : K = 0 := by rw [hK]; simp only []; rw [if_neg hn]
                have HV := Lib.hid hv
                clear hK hv hne h0 h100 hc hsp ht h9 pre htx hts hn
                go_enter Tryz.func54, Tryz.ntmps54
                go_wp2_with fail
                refine (SP.out _).mono ?_
                rintro e w1 ⟨rfl, rfl⟩
                go_wp2_with fail
                refine (RA.out _).mono ?_
                rintro e w1 ⟨rfl, hb⟩
                have HB := Lib.hid hb
                clear hb
                go_wp2_with fail
                go_ret
                exact ZERO.out HV.out _ (HB.out.alloc HB.out.size _)
          · have z4 : (s.size : Int) ≤ 1 := by omega
            clear hx h1
            cases ht : LX.token (bts s) with
            | bad er =>
              rw [ht] at hK RA
              have hee := LX.token_bad ht
              have k0 : ((er : Int) == 0) = false := beq_false_of_ne (by omega)
              have HK := Lib.hid hK
              clear hK hne h0 h100 hc hsp ht hee pre
              go_enter Tryz.func54, Tryz.ntmps54
              go_wp2_with fail
              refine (SP.out _).mono ?_
              rintro e w1 ⟨rfl, rfl⟩
              go_wp2_with fail
              refine (RA.out _).mono ?_
              rintro e w1 ⟨rfl, hb⟩
              have HB := Lib.hid hb
              clear hb
              unfold rdV tokV
              go_wp2_with fail
              go_ret
              exact ZERO.out HK.out _ (HB.out.alloc HB.out.size _)
            | tok k v n =>
              rw [ht] at hK RA
              have h9 := LX.token_len ht
              rw [bts_length] at h9
              obtain ⟨tx, htx⟩ : ∃ t, t = s.extract 0 (0 + n) := ⟨_, rfl⟩
              have hts : tx.size = n := by rw [htx, ByteArray.size_extract]; omega
              have RA2 : Hid (∀ W, Calls Tryz.prog 84 #[.string s, .int .i64 0] W (RdPost W (.tuple #[.agg #[.int .i64 k, .int .i64 v, .string tx, .int .i64 0], .int .i64 0]))) := fun W => by rw [htx]; exact RA.out W
              clear RA
              have RA := RA2
              clear RA2
              by_cases hn : n = s.size
              · have k1 : ((tx.size : Int) == (s.size : Int)) = true := by rw [hts, hn]; simp
                have k2 : (tx.size == s.size) = true := by rw [hts, hn]; simp
                have hv : K = k := by rw [hK]; simp only []; rw [if_pos hn]
                have HV := Lib.hid hv
                clear hK hv hne h0 h100 hc hsp ht h9 pre htx hts hn
                go_enter Tryz.func54, Tryz.ntmps54
                go_wp2_with fail
                refine (SP.out _).mono ?_
                rintro e w1 ⟨rfl, rfl⟩
                go_wp2_with fail
                refine (RA.out _).mono ?_
                rintro e w1 ⟨rfl, hb⟩
                have HB := Lib.hid hb
                clear hb
                go_wp2_with fail
                go_ret
                exact ⟨by rw [HV.out]; rfl, HB.out.alloc HB.out.size _⟩
              · have k1 : ((tx.size : Int) == (s.size : Int)) = false := beq_false_of_ne (by omega)
                have k2 : (tx.size == s.size) = false := beq_false_of_ne (by omega)
                have hv : K = 0 := by rw [hK]; simp only []; rw [if_neg hn]
                have HV := Lib.hid hv
                clear hK hv hne h0 h100 hc hsp ht h9 pre htx hts hn
                go_enter Tryz.func54, Tryz.ntmps54
                go_wp2_with fail
                refine (SP.out _).mono ?_
                rintro e w1 ⟨rfl, rfl⟩
                go_wp2_with fail
                refine (RA.out _).mono ?_
                rintro e w1 ⟨rfl, hb⟩
                have HB := Lib.hid hb
                clear hb
                go_wp2_with fail
                go_ret
                exact ZERO.out HV.out _ (HB.out.alloc HB.out.size _)
        by_cases h1 : 1 < s.size
        · obtain ⟨x, sl, hx⟩ := two_head s h1
          cases ho : LX.opens (bts s) with
          | false => exact main ho ⟨x, fun _ => ⟨sl, by rw [hx, ho]⟩⟩
          | true =>
            rw [if_pos (.inr ho)] at hK
            rw [ho] at hx
            have HK := Lib.hid hK
            have z4 : (1 : Int) < (s.size : Int) := by omega
            clear hK hne h0 h100 hc hsp ho main RA h1
            go_enter Tryz.func54, Tryz.ntmps54
            go_wp2_with fail
            refine (SP.out _).mono ?_
            rintro e w1 ⟨rfl, rfl⟩
            go_wp2_with fail
            go_ret
            exact ZERO.out HK.out _ (Below.refl _ _)
        · refine main ?_ ⟨⟨#[]⟩, fun h => absurd h h1⟩
          cases ho : LX.opens (bts s) with
          | false => rfl
          | true =>
            obtain ⟨_, b⟩ := LX.opens_two ho
            rw [List.getD_eq_getElem?_getD, List.getElem?_eq_none (by rw [bts_length]; omega)] at b
            cases b
end Go.Proofs.YtnkahlloahgifaaGreatDoor.Lx
