/- Part. -/
import Derived.Test.YtnkahlloahgifaaGreatDoorVLxRg
import Derived.Deep.MidRow
import Derived.Shelf.RegionOpenPlain
import Derived.KernelRfl
import Derived.Test.YtnkahlloahgifaaGreatDoorRows
import Derived.Test.YtnkahlloahgifaaGreatDoorTie
import Derived.Test.YtnkahlloahgifaaGreatDoorCards
import Derived.ProofKit
import Derived.OpenShut
import Derived.LaidMore
import Derived.LaidLaws
import Derived.MakeChecks
import Derived.Lay
import Derived.Shelf.Vars
import Derived.Stop.LaidErr
import Derived.Lib.LaidTab
import Derived.HandedShaped
import Derived.SevenTiedAt
import Derived.LaidByTextLater
import Derived.Deep.Slices
import Derived.Deep.Fields
import Derived.ChangeSame
import Derived.Carry
import Derived.SizedLaws
set_option maxHeartbeats 16000000
set_option maxRecDepth 100000
set_option linter.unusedSimpArgs false
set_option linter.unusedVariables false
namespace Go.Proofs.YtnkahlloahgifaaGreatDoor.Lx
open Go.RowKit
theorem rread_digit (w:World) (s:ByteArray) (i c:Nat) (h:RdAt s i c) (hc:LX.digit c=true) :
  Calls Tryz.prog 84 #[.string s,.int .i64 i] w (RdPost w (rdV s i (LX.token ((bts s).drop i)))):=by
 obtain⟨d,hd⟩:∃ d,d=0+LX.run LX.digit ((bts s).drop (i+0)):=⟨_,rfl⟩
 have htok:LX.token ((bts s).drop i)=match LX.num (((bts s).drop i).take d) with
   | none => .bad 13
   | some v=>if LX.part ((bts s).getD (i+d) 0)||(bts s).getD (i+d) 0==39 then .bad 13 else .tok 1 v d:=by
  refine Eq.trans ?_ (number_eq s i 0 d hd)
  rw [h.drop]
  unfold LX.token
  simp only []
  have h126:c≠126:=fun e=>by rw [e] at hc;cases hc
  rw [if_pos (by rw [hc];rfl),if_neg h126]
 obtain⟨sp1,sp2⟩:=run_spec LX.digit (bts s) (i+0)
 have hle:=sp2 (by rw [ze];have:=h.lt;omega)
 rw [ze] at hle
 simp only [ze] at sp1
 have hstop:i+d<s.size→LX.digit ((bts s).getD (i+d) 0)=false:=fun hh=>by
  have:=LX.run_stops LX.digit (bts s) _ (i+0) rfl (by rw [ze];omega)
  rw [show i+0+LX.run LX.digit ((bts s).drop (i+0))=i+d from by omega] at this
  exact this
 have hend0:s.size≤i+d→(bts s).getD (i+d) 0=0:=fun hh=>by
  rw [zt4,List.getElem?_eq_none (by rw [ze];exact hh)];rfl
 obtain⟨J,hJ⟩:∃ J,J=i+d:=⟨_,rfl⟩
 rw [← hJ] at htok hstop hend0
 have b0:=byte_at s h.lt h.byte
 have h126:c≠126:=fun e=>by rw [e] at hc;cases hc
 have k126:((c:Int)==126)=false:=zt6 (by omega)
 have DG:Hid (∀ W,Calls Tryz.prog 97 #[.int .u8 c] W fun e w'=>e = .returned (.bool true)∧w'=W):=fun W=>by
  have:=rdigit_any W c
  rw [hc] at this
  exact this
 have sl:∀ m,(Instr.slice 9 (.string s) (some (.int .i64 i)) (some (.int .i64 J)) none).run Tryz.prog m = .ok (.string (s.extract i (i+d))) m:=fun m=>by
  have:=slice_mid s i d (by omega) m
  rw [show (i:Int)+(d:Int)=(J:Int) from by omega] at this
  exact this
 obtain⟨tx,htx⟩:∃ t,t=s.extract i (i+d):=⟨_,rfl⟩
 rw [← htx] at sl
 have hbt:bts tx=((bts s).drop i).take d:=by rw [htx,bts_extract,Nat.add_sub_cancel_left]
 rw [← hbt] at htok
 obtain⟨V,hV⟩:∃ V,V=rdV s i (LX.token ((bts s).drop i)):=⟨_,rfl⟩
 rw [← hV]
 rw [htok] at hV
 have hz:(s.size:Int)≤400000:=by have:=h.size;omega
 have hiz:(i:Int)<(s.size:Int):=by have:=h.lt;omega
 have SP1:Hid (∀ k,i+0≤k→k<J→k<s.size∧LX.digit ((bts s).getD k 0)=true):=fun k a b=>⟨(sp1 k a (by omega)).1,(sp1 k a (by omega)).2.1⟩
 have HJ:Hid (i+0≤J∧J≤s.size):=⟨by omega,by omega⟩
 have FIN:Hid (∀ v:Int,LX.num (bts tx)=some v→(LX.part ((bts s).getD J 0)||(bts s).getD J 0==39)=false→V = .tuple #[tokV 1 v tx i,.int .i64 0]):=fun v h1 h2=>by
  rw [hV,h1]
  simp only []
  rw [h2,htx]
  rfl
 have BAD:Hid ((LX.num (bts tx)=none∨(LX.part ((bts s).getD J 0)||(bts s).getD J 0==39)=true)→V = .tuple #[tokV 0 0 ⟨#[]⟩ 0,.int .i64 13]):=fun h1=>by
  rw [hV]
  cases h2:LX.num (bts tx) with
  | none=>rfl
  | some v =>
   simp only []
   rcases h1 with h1 | h1
   ·rw [h2] at h1;cases h1
   rw [h1];rfl
 have RNB:Hid (∀ W,Calls Tryz.prog 98 #[.string tx] W (RN (LX.num (bts tx)) W)):=fun W=>refNumber_any W tx
 have ST:=zh hstop
 have EN:=zh hend0
 obtain⟨r,hr⟩:∃ r,r=LX.num (bts tx):=⟨_,rfl⟩
 rw [← hr] at FIN BAD RNB
 clear hr hV htok hbt htx sp1 sp2 hle hstop hend0 hJ hd h126 hc h
 go_enter Tryz.func84,Tryz.ntmps84
 go_wp2_with fail
 refine(DG.out _).mono ?_
 rintro e w1 ⟨rfl,rfl⟩
 go_wp2_with fail
 go_loop [7] (fun j=>∃ k:Nat,i+0≤k∧k≤J∧j = .int .i64 k) (fun j=>s.size - (intOf j).toNat)
 case atStart=>exact⟨i+0,zr4 _,HJ.out.1,rfl⟩
 obtain⟨k,hk1,hk2,rfl⟩:=hrel
 have HK:Hid (i+0≤k):=hk1
 by_cases hlt:k<J
 ·obtain⟨hks,hdk⟩:=SP1.out k hk1 hlt
  have hkz:(k:Int)<(s.size:Int):=by omega
  obtain⟨x,hx⟩:∃ x,(bts s).getD k 0=x:=⟨_,rfl⟩
  have bk:=byte_at s hks hx
  rw [hx] at hdk
  have DX:Hid (∀ W,Calls Tryz.prog 97 #[.int .u8 x] W fun e w'=>e = .returned (.bool true)∧w'=W):=fun W=>by
   have:=rdigit_any W x
   rw [hdk] at this
   exact this
  have HLT:Hid (k<J∧k<s.size):=⟨hlt,hks⟩
  clear hx hdk hlt hk1 hk2 hks
  go_wp2_with fail
  refine(DX.out _).mono ?_
  rintro e w1 ⟨rfl,rfl⟩
  go_wp2_with fail
  go_round
  case rel=>exact⟨k+1,by have:=HK.out;omega,HLT.out.1,by go_num⟩
  case measure=>have:=HLT.out.2;simp [intOf];omega
 obtain rfl:k=J:=by omega
 have hJi:(i:Int)≤(k:Int):=by omega
 clear hk1 hk2 hlt
 by_cases hend:k<s.size
 ·have hkz:(k:Int)<(s.size:Int):=by omega
  obtain⟨x,hx⟩:∃ x,(bts s).getD k 0=x:=⟨_,rfl⟩
  have bk:=byte_at s hend hx
  have hdk:=ST.out hend
  rw [hx] at hdk FIN BAD
  have DX:Hid (∀ W,Calls Tryz.prog 97 #[.int .u8 x] W fun e w'=>e = .returned (.bool false)∧w'=W):=fun W=>by
   have:=rdigit_any W x
   rw [hdk] at this
   exact this
  have INX:Hid (∀ W,Calls Tryz.prog 99 #[.int .u8 x] W fun e w'=>e = .returned (.bool (LX.part x))∧w'=W):=fun W=>rinner_any W x
  clear hdk hend hx
  cases r with
  | none =>
   have HV:=zh (BAD.out (.inl rfl))
   clear FIN BAD
   go_wp2_with fail
   refine(DX.out _).mono ?_
   rintro e w1 ⟨rfl,rfl⟩
   go_wp2_with fail
   refine(RNB.out _).mono ?_
   rintro e w1 ⟨rfl,rfl⟩
   go_wp2_with fail
   go_returns
   exact⟨by rw [HV.out];rfl,(zs9 _ _).alloc (zr4 _) _⟩
  | some v =>
   obtain⟨pb,hpb⟩:∃ b,b=LX.part x:=⟨_,rfl⟩
   rw [← hpb] at FIN BAD INX
   clear hpb
   cases pb with
   | true =>
    have HV:=zh (BAD.out (.inr rfl))
    clear FIN BAD
    go_wp2_with fail
    refine(DX.out _).mono ?_
    rintro e w1 ⟨rfl,rfl⟩
    go_wp2_with fail
    refine(RNB.out _).mono ?_
    rintro e w1 ⟨rfl,rfl⟩
    go_wp2_with fail
    refine(INX.out _).mono ?_
    rintro e w1 ⟨rfl,rfl⟩
    go_wp2_with fail
    go_returns
    exact⟨by rw [HV.out];rfl,(zs9 _ _).alloc (zr4 _) _⟩
   | false =>
    by_cases h39:x=39
    ·have HV:=zh (BAD.out (.inr (by rw [h39];rfl)))
     have k39:((x:Int)==39)=true:=by rw [h39];rfl
     clear FIN BAD h39
     go_wp2_with fail
     refine(DX.out _).mono ?_
     rintro e w1 ⟨rfl,rfl⟩
     go_wp2_with fail
     refine(RNB.out _).mono ?_
     rintro e w1 ⟨rfl,rfl⟩
     go_wp2_with fail
     refine(INX.out _).mono ?_
     rintro e w1 ⟨rfl,rfl⟩
     go_wp2_with fail
     go_returns
     exact⟨by rw [HV.out];rfl,(zs9 _ _).alloc (zr4 _) _⟩
    have HV:=zh (FIN.out v rfl (by rw [show (x==39)=false from zt6 h39];rfl))
    have k39:((x:Int)==39)=false:=zt6 (by omega)
    clear FIN BAD h39
    go_wp2_with fail
    refine(DX.out _).mono ?_
    rintro e w1 ⟨rfl,rfl⟩
    go_wp2_with fail
    refine(RNB.out _).mono ?_
    rintro e w1 ⟨rfl,rfl⟩
    go_wp2_with fail
    refine(INX.out _).mono ?_
    rintro e w1 ⟨rfl,rfl⟩
    go_wp2_with fail
    go_returns
    exact⟨by rw [HV.out];rfl,(zs9 _ _).alloc (zr4 _) _⟩
 have hkz:(s.size:Int)≤(k:Int):=by omega
 have hkz2:(k:Int)≤(s.size:Int):=by have:=HJ.out.2;omega
 have he0:=EN.out (by omega)
 rw [he0] at FIN BAD
 clear he0 hend
 cases r with
 | none =>
  have HV:=zh (BAD.out (.inl rfl))
  clear FIN BAD
  go_wp2_with fail
  refine(RNB.out _).mono ?_
  rintro e w1 ⟨rfl,rfl⟩
  go_wp2_with fail
  go_returns
  exact⟨by rw [HV.out];rfl,(zs9 _ _).alloc (zr4 _) _⟩
 | some v =>
  have HV:=zh (FIN.out v rfl rfl)
  clear FIN BAD
  go_wp2_with fail
  refine(RNB.out _).mono ?_
  rintro e w1 ⟨rfl,rfl⟩
  go_wp2_with fail
  go_returns
  exact⟨by rw [HV.out];rfl,(zs9 _ _).alloc (zr4 _) _⟩
theorem rread_tilde (w:World) (s:ByteArray) (i c:Nat) (h:RdAt s i c) (hc:c=126) :
  Calls Tryz.prog 84 #[.string s,.int .i64 i] w (RdPost w (rdV s i (LX.token ((bts s).drop i)))):=by
 obtain⟨d,hd⟩:∃ d,d=1+LX.run LX.digit ((bts s).drop (i+1)):=⟨_,rfl⟩
 have htok:LX.token ((bts s).drop i)=match LX.num (((bts s).drop i).take d) with
   | none => .bad 13
   | some v=>if LX.part ((bts s).getD (i+d) 0)||(bts s).getD (i+d) 0==39 then .bad 13 else .tok 1 v d:=by
  refine Eq.trans ?_ (number_eq s i 1 d hd)
  rw [h.drop]
  unfold LX.token
  simp only []
  rw [if_pos (by rw [hc];rfl),if_pos hc]
 obtain⟨sp1,sp2⟩:=run_spec LX.digit (bts s) (i+1)
 have hle:=sp2 (by rw [ze];have:=h.lt;omega)
 rw [ze] at hle
 simp only [ze] at sp1
 have hstop:i+d<s.size→LX.digit ((bts s).getD (i+d) 0)=false:=fun hh=>by
  have:=LX.run_stops LX.digit (bts s) _ (i+1) rfl (by rw [ze];omega)
  rw [show i+1+LX.run LX.digit ((bts s).drop (i+1))=i+d from by omega] at this
  exact this
 have hend0:s.size≤i+d→(bts s).getD (i+d) 0=0:=fun hh=>by
  rw [zt4,List.getElem?_eq_none (by rw [ze];exact hh)];rfl
 obtain⟨J,hJ⟩:∃ J,J=i+d:=⟨_,rfl⟩
 rw [← hJ] at htok hstop hend0
 have b0:=byte_at s h.lt h.byte
 have k126:((c:Int)==126)=true:=by rw [hc];rfl
 have sl:∀ m,(Instr.slice 9 (.string s) (some (.int .i64 i)) (some (.int .i64 J)) none).run Tryz.prog m = .ok (.string (s.extract i (i+d))) m:=fun m=>by
  have:=slice_mid s i d (by omega) m
  rw [show (i:Int)+(d:Int)=(J:Int) from by omega] at this
  exact this
 obtain⟨tx,htx⟩:∃ t,t=s.extract i (i+d):=⟨_,rfl⟩
 rw [← htx] at sl
 have hbt:bts tx=((bts s).drop i).take d:=by rw [htx,bts_extract,Nat.add_sub_cancel_left]
 rw [← hbt] at htok
 obtain⟨V,hV⟩:∃ V,V=rdV s i (LX.token ((bts s).drop i)):=⟨_,rfl⟩
 rw [← hV]
 rw [htok] at hV
 have hz:(s.size:Int)≤400000:=by have:=h.size;omega
 have hiz:(i:Int)<(s.size:Int):=by have:=h.lt;omega
 have SP1:Hid (∀ k,i+1≤k→k<J→k<s.size∧LX.digit ((bts s).getD k 0)=true):=fun k a b=>⟨(sp1 k a (by omega)).1,(sp1 k a (by omega)).2.1⟩
 have HJ:Hid (i+1≤J∧J≤s.size):=⟨by omega,by omega⟩
 have FIN:Hid (∀ v:Int,LX.num (bts tx)=some v→(LX.part ((bts s).getD J 0)||(bts s).getD J 0==39)=false→V = .tuple #[tokV 1 v tx i,.int .i64 0]):=fun v h1 h2=>by
  rw [hV,h1]
  simp only []
  rw [h2,htx]
  rfl
 have BAD:Hid ((LX.num (bts tx)=none∨(LX.part ((bts s).getD J 0)||(bts s).getD J 0==39)=true)→V = .tuple #[tokV 0 0 ⟨#[]⟩ 0,.int .i64 13]):=fun h1=>by
  rw [hV]
  cases h2:LX.num (bts tx) with
  | none=>rfl
  | some v =>
   simp only []
   rcases h1 with h1 | h1
   ·rw [h2] at h1;cases h1
   rw [h1];rfl
 have RNB:Hid (∀ W,Calls Tryz.prog 98 #[.string tx] W (RN (LX.num (bts tx)) W)):=fun W=>refNumber_any W tx
 have ST:=zh hstop
 have EN:=zh hend0
 obtain⟨r,hr⟩:∃ r,r=LX.num (bts tx):=⟨_,rfl⟩
 rw [← hr] at FIN BAD RNB
 clear hr hV htok hbt htx sp1 sp2 hle hstop hend0 hJ hd hc h
 go_enter Tryz.func84,Tryz.ntmps84
 skip
 go_wp2_with fail
 go_loop [7] (fun j=>∃ k:Nat,i+1≤k∧k≤J∧j = .int .i64 k) (fun j=>s.size - (intOf j).toNat)
 case atStart=>exact⟨i+1,zr4 _,HJ.out.1,by go_num⟩
 obtain⟨k,hk1,hk2,rfl⟩:=hrel
 have HK:Hid (i+1≤k):=hk1
 by_cases hlt:k<J
 ·obtain⟨hks,hdk⟩:=SP1.out k hk1 hlt
  have hkz:(k:Int)<(s.size:Int):=by omega
  obtain⟨x,hx⟩:∃ x,(bts s).getD k 0=x:=⟨_,rfl⟩
  have bk:=byte_at s hks hx
  rw [hx] at hdk
  have DX:Hid (∀ W,Calls Tryz.prog 97 #[.int .u8 x] W fun e w'=>e = .returned (.bool true)∧w'=W):=fun W=>by
   have:=rdigit_any W x
   rw [hdk] at this
   exact this
  have HLT:Hid (k<J∧k<s.size):=⟨hlt,hks⟩
  clear hx hdk hlt hk1 hk2 hks
  go_wp2_with fail
  refine(DX.out _).mono ?_
  rintro e w1 ⟨rfl,rfl⟩
  go_wp2_with fail
  go_round
  case rel=>exact⟨k+1,by have:=HK.out;omega,HLT.out.1,by go_num⟩
  case measure=>have:=HLT.out.2;simp [intOf];omega
 obtain rfl:k=J:=by omega
 have hJi:(i:Int)≤(k:Int):=by omega
 clear hk1 hk2 hlt
 by_cases hend:k<s.size
 ·have hkz:(k:Int)<(s.size:Int):=by omega
  obtain⟨x,hx⟩:∃ x,(bts s).getD k 0=x:=⟨_,rfl⟩
  have bk:=byte_at s hend hx
  have hdk:=ST.out hend
  rw [hx] at hdk FIN BAD
  have DX:Hid (∀ W,Calls Tryz.prog 97 #[.int .u8 x] W fun e w'=>e = .returned (.bool false)∧w'=W):=fun W=>by
   have:=rdigit_any W x
   rw [hdk] at this
   exact this
  have INX:Hid (∀ W,Calls Tryz.prog 99 #[.int .u8 x] W fun e w'=>e = .returned (.bool (LX.part x))∧w'=W):=fun W=>rinner_any W x
  clear hdk hend hx
  cases r with
  | none =>
   have HV:=zh (BAD.out (.inl rfl))
   clear FIN BAD
   go_wp2_with fail
   refine(DX.out _).mono ?_
   rintro e w1 ⟨rfl,rfl⟩
   go_wp2_with fail
   refine(RNB.out _).mono ?_
   rintro e w1 ⟨rfl,rfl⟩
   go_wp2_with fail
   go_returns
   exact⟨by rw [HV.out];rfl,(zs9 _ _).alloc (zr4 _) _⟩
  | some v =>
   obtain⟨pb,hpb⟩:∃ b,b=LX.part x:=⟨_,rfl⟩
   rw [← hpb] at FIN BAD INX
   clear hpb
   cases pb with
   | true =>
    have HV:=zh (BAD.out (.inr rfl))
    clear FIN BAD
    go_wp2_with fail
    refine(DX.out _).mono ?_
    rintro e w1 ⟨rfl,rfl⟩
    go_wp2_with fail
    refine(RNB.out _).mono ?_
    rintro e w1 ⟨rfl,rfl⟩
    go_wp2_with fail
    refine(INX.out _).mono ?_
    rintro e w1 ⟨rfl,rfl⟩
    go_wp2_with fail
    go_returns
    exact⟨by rw [HV.out];rfl,(zs9 _ _).alloc (zr4 _) _⟩
   | false =>
    by_cases h39:x=39
    ·have HV:=zh (BAD.out (.inr (by rw [h39];rfl)))
     have k39:((x:Int)==39)=true:=by rw [h39];rfl
     clear FIN BAD h39
     go_wp2_with fail
     refine(DX.out _).mono ?_
     rintro e w1 ⟨rfl,rfl⟩
     go_wp2_with fail
     refine(RNB.out _).mono ?_
     rintro e w1 ⟨rfl,rfl⟩
     go_wp2_with fail
     refine(INX.out _).mono ?_
     rintro e w1 ⟨rfl,rfl⟩
     go_wp2_with fail
     go_returns
     exact⟨by rw [HV.out];rfl,(zs9 _ _).alloc (zr4 _) _⟩
    have HV:=zh (FIN.out v rfl (by rw [show (x==39)=false from zt6 h39];rfl))
    have k39:((x:Int)==39)=false:=zt6 (by omega)
    clear FIN BAD h39
    go_wp2_with fail
    refine(DX.out _).mono ?_
    rintro e w1 ⟨rfl,rfl⟩
    go_wp2_with fail
    refine(RNB.out _).mono ?_
    rintro e w1 ⟨rfl,rfl⟩
    go_wp2_with fail
    refine(INX.out _).mono ?_
    rintro e w1 ⟨rfl,rfl⟩
    go_wp2_with fail
    go_returns
    exact⟨by rw [HV.out];rfl,(zs9 _ _).alloc (zr4 _) _⟩
 have hkz:(s.size:Int)≤(k:Int):=by omega
 have hkz2:(k:Int)≤(s.size:Int):=by have:=HJ.out.2;omega
 have he0:=EN.out (by omega)
 rw [he0] at FIN BAD
 clear he0 hend
 cases r with
 | none =>
  have HV:=zh (BAD.out (.inl rfl))
  clear FIN BAD
  go_wp2_with fail
  refine(RNB.out _).mono ?_
  rintro e w1 ⟨rfl,rfl⟩
  go_wp2_with fail
  go_returns
  exact⟨by rw [HV.out];rfl,(zs9 _ _).alloc (zr4 _) _⟩
 | some v =>
  have HV:=zh (FIN.out v rfl rfl)
  clear FIN BAD
  go_wp2_with fail
  refine(RNB.out _).mono ?_
  rintro e w1 ⟨rfl,rfl⟩
  go_wp2_with fail
  go_returns
  exact⟨by rw [HV.out];rfl,(zs9 _ _).alloc (zr4 _) _⟩
end Go.Proofs.YtnkahlloahgifaaGreatDoor.Lx
namespace Go.Proofs.YtnkahlloahgifaaGreatDoor.Lx
open Go.RowKit
theorem rread_any (w:World) (s:ByteArray) (i c:Nat) (h:RdAt s i c):Calls Tryz.prog 84 #[.string s,.int .i64 i] w (RdPost w (rdV s i (LX.token ((bts s).drop i)))):=by
 cases hd:LX.digit c with
 | true=>exact rread_digit w s i c h hd
 | false =>
  by_cases h126:c=126
  ·exact rread_tilde w s i c h h126
  cases hs:LX.small c with
  | true=>exact rread_small w s i c h hs
  | false =>
   cases hg:LX.great c with
   | true=>exact rread_great w s i c h hg
   | false =>
    by_cases h39:c=39
    ·by_cases hl:i+1<s.size
     ·cases hn:LX.small ((bts s).getD (i+1) 0) with
      | true=>rw [h39] at h;exact rread_var w s i h hl hn
      | false=>exact rread_quote w s i c h hd h126 hs hg h39 hl hn
     exact rread_quote_end w s i c h hd h126 hs hg h39 (by omega)
    exact rread_sign w s i c h hd h126 hs hg h39
def RkPost (w:World) (k:Nat) (e:Ending) (w':World):Prop:=e = .returned (.int .i64 k)∧Below w.heap.size w w'
theorem slice_to (s:ByteArray) (p:Nat) (hp:p≤s.size) (m:World):(Instr.slice 9 (.string s) none (some (.int .i64 p)) none).run Tryz.prog m = .ok (.string (s.extract 0 p)) m:=by
 have:=run_slice_string_to_if (P:=Tryz.prog) m 9 s .i64 p Tryz.underlying9
 rw [this]
 simp [show (p:Int)≤(s.size:Int) from by omega]
theorem two_head (s:ByteArray) (h:1<s.size):∃ x:ByteArray,(∀ m,(Instr.slice 9 (.string s) none (some (.int .i64 2)) none).run Tryz.prog m = .ok (.string x) m)∧(x.toList==([40,42]:List UInt8))=LX.opens (bts s):=by
 have hx:bts (s.extract 0 2)=[(bts s).getD 0 0,(bts s).getD 1 0]:=by
  rw [bts_extract,List.drop_zero]
  have h1:=LX.drop_get (T:=bts s) (j:=0) (by rw [ze];omega)
  have h2:=LX.drop_get (T:=bts s) (j:=1) (by rw [ze];omega)
  rw [List.drop_zero] at h1
  rw [h1]
  show (_ :: (bts s).drop 1).take 2=_
  rw [h2]
  rfl
 refine⟨s.extract 0 2,fun m=>slice_to s 2 (by omega) m,?_⟩
 have:=two_eq hx ⟨#[40,42]⟩ (a:=40) (b:=42) rfl
 rw [lit4042] at this
 rw [this]
 cases ho:LX.opens (bts s) with
 | true =>
  obtain⟨a,b⟩:=LX.opens_two ho
  rw [a,b];rfl
 | false =>
  cases hq:((bts s).getD 0 0==40&&(bts s).getD 1 0==42) with
  | false=>rfl
  | true =>
   simp only [Bool.and_eq_true,beq_iff_eq] at hq
   rw [LX.opens_of hq.1 hq.2] at ho
   cases ho
theorem rkind_any (w:World) (s:ByteArray):Calls Tryz.prog 54 #[.string s] w (RkPost w (LX.refKind (bts s))):=by
 obtain⟨K,hK⟩:∃ K,K=LX.refKind (bts s):=⟨_,rfl⟩
 rw [← hK]
 unfold LX.refKind at hK
 rw [ze] at hK
 have ZERO:Hid (K=0→∀ w',Below w.heap.size w w'→RkPost w K (.returned (.int .i64 0)) w'):=fun h w' hb=>⟨by rw [h];rfl,hb⟩
 by_cases h0:s.size=0
 ·have e0:bts s=[]:=List.length_eq_zero_iff.1 (by rw [ze];exact h0)
  rw [if_pos (.inl e0)] at hK
  have HK:=zh hK
  have z0:((s.size:Int)==0)=true:=by rw [h0];rfl
  have z1:(s.size==0)=true:=by rw [h0];rfl
  clear hK e0 h0
  go_enter Tryz.func54,Tryz.ntmps54
  go_wp2_with fail
  go_ret
  exact ZERO.out HK.out _ (zs9 _ _)
 have hne:bts s≠[]:=fun e=>h0 (by rw [← ze,e];rfl)
 have z0:((s.size:Int)==0)=false:=zt6 (by omega)
 have z1:(s.size==0)=false:=zt6 (by omega)
 by_cases h100:100<s.size
 ·rw [if_pos (.inr h100)] at hK
  have HK:=zh hK
  have z2:(100:Int)<(s.size:Int):=by omega
  clear hK hne h0 h100
  go_enter Tryz.func54,Tryz.ntmps54
  go_wp2_with fail
  go_ret
  exact ZERO.out HK.out _ (zs9 _ _)
 rw [if_neg (fun e=>by rcases e with e | e;exact hne e;exact h100 e),LX.headD_getD] at hK
 have z2:(s.size:Int)≤100:=by omega
 have z3:(0:Int)<(s.size:Int):=by omega
 obtain⟨c,hc⟩:∃ c,(bts s).getD 0 0=c:=⟨_,rfl⟩
 have b0:∀ m,(Instr.index 9 (.string s) (.int .i64 0)).run Tryz.prog m = .ok (.int .u8 c) m:=byte_at (i:=0) s (by omega) hc
 rw [hc] at hK
 have SP:Hid (∀ W,Calls Tryz.prog 83 #[.int .u8 c] W fun e w'=>e = .returned (.bool (LX.space c))∧w'=W):=fun W=>rspace_any W c
 cases hsp:LX.space c with
 | true =>
  rw [if_pos (.inl hsp)] at hK
  rw [hsp] at SP
  have HK:=zh hK
  clear hK hne h0 h100 hc hsp
  go_enter Tryz.func54,Tryz.ntmps54
  go_wp2_with fail
  refine(SP.out _).mono ?_
  rintro e w1 ⟨rfl,rfl⟩
  go_wp2_with fail
  go_ret
  exact ZERO.out HK.out _ (zs9 _ _)
 | false =>
  rw [hsp] at SP
  have RA:Hid (∀ W,Calls Tryz.prog 84 #[.string s,.int .i64 0] W (RdPost W (rdV s 0 (LX.token (bts s))))):=fun W=>by
   have:=rread_any W s 0 c ⟨by omega,by omega,hc⟩
   rw [List.drop_zero] at this
   exact this
  have main:∀ (pre:LX.opens (bts s)=false),(∃ x:ByteArray,(1<s.size→(∀ m,(Instr.slice 9 (.string s) none (some (.int .i64 2)) none).run Tryz.prog m = .ok (.string x) m)∧(x.toList==([40,42]:List UInt8))=false))→Calls Tryz.prog 54 #[.string s] w (RkPost w K):=fun pre hx=>by
   obtain⟨x,hx⟩:=hx
   rw [if_neg (fun e=>by rcases e with e | e;rw [hsp] at e;cases e;rw [pre] at e;cases e)] at hK
   by_cases h1:1<s.size
   ·obtain⟨sl,ne⟩:=hx h1
    have z4:(1:Int)<(s.size:Int):=by omega
    clear hx h1
    cases ht:LX.token (bts s) with
    | bad er =>
     rw [ht] at hK RA
     have hee:=LX.token_bad ht
     have k0:((er:Int)==0)=false:=zt6 (by omega)
     have HK:=zh hK
     clear hK hne h0 h100 hc hsp ht hee pre
     go_enter Tryz.func54,Tryz.ntmps54
     go_wp2_with fail
     refine(SP.out _).mono ?_
     rintro e w1 ⟨rfl,rfl⟩
     go_wp2_with fail
     refine(RA.out _).mono ?_
     rintro e w1 ⟨rfl,hb⟩
     have HB:=zh hb
     clear hb
     unfold rdV tokV
     go_wp2_with fail
     go_ret
     exact ZERO.out HK.out _ (HB.out.alloc HB.out.size _)
    | tok k v n =>
     rw [ht] at hK RA
     have h9:=LX.token_len ht
     rw [ze] at h9
     obtain⟨tx,htx⟩:∃ t,t=s.extract 0 (0+n):=⟨_,rfl⟩
     have hts:tx.size=n:=by rw [htx,ByteArray.size_extract];omega
     have RA2:Hid (∀ W,Calls Tryz.prog 84 #[.string s,.int .i64 0] W (RdPost W (.tuple #[.agg #[.int .i64 k,.int .i64 v,.string tx,.int .i64 0],.int .i64 0]))):=fun W=>by rw [htx];exact RA.out W
     clear RA
     have RA:=RA2
     clear RA2
     by_cases hn:n=s.size
     ·have k1:((tx.size:Int)==(s.size:Int))=true:=by rw [hts,hn];simp
      have k2:(tx.size==s.size)=true:=by rw [hts,hn];simp
      have hv:K=k:=by rw [hK];simp only [];rw [if_pos hn]
      have HV:=zh hv
      clear hK hv hne h0 h100 hc hsp ht h9 pre htx hts hn
      go_enter Tryz.func54,Tryz.ntmps54
      go_wp2_with fail
      refine(SP.out _).mono ?_
      rintro e w1 ⟨rfl,rfl⟩
      go_wp2_with fail
      refine(RA.out _).mono ?_
      rintro e w1 ⟨rfl,hb⟩
      have HB:=zh hb
      clear hb
      go_wp2_with fail
      go_ret
      exact⟨by rw [HV.out];rfl,HB.out.alloc HB.out.size _⟩
     have k1:((tx.size:Int)==(s.size:Int))=false:=zt6 (by omega)
     have k2:(tx.size==s.size)=false:=zt6 (by omega)
     have hv:K=0:=by rw [hK];simp only [];rw [if_neg hn]
     have HV:=zh hv
     clear hK hv hne h0 h100 hc hsp ht h9 pre htx hts hn
     go_enter Tryz.func54,Tryz.ntmps54
     go_wp2_with fail
     refine(SP.out _).mono ?_
     rintro e w1 ⟨rfl,rfl⟩
     go_wp2_with fail
     refine(RA.out _).mono ?_
     rintro e w1 ⟨rfl,hb⟩
     have HB:=zh hb
     clear hb
     go_wp2_with fail
     go_ret
     exact ZERO.out HV.out _ (HB.out.alloc HB.out.size _)
   have z4:(s.size:Int)≤1:=by omega
   clear hx h1
   cases ht:LX.token (bts s) with
   | bad er =>
    rw [ht] at hK RA
    have hee:=LX.token_bad ht
    have k0:((er:Int)==0)=false:=zt6 (by omega)
    have HK:=zh hK
    clear hK hne h0 h100 hc hsp ht hee pre
    go_enter Tryz.func54,Tryz.ntmps54
    go_wp2_with fail
    refine(SP.out _).mono ?_
    rintro e w1 ⟨rfl,rfl⟩
    go_wp2_with fail
    refine(RA.out _).mono ?_
    rintro e w1 ⟨rfl,hb⟩
    have HB:=zh hb
    clear hb
    unfold rdV tokV
    go_wp2_with fail
    go_ret
    exact ZERO.out HK.out _ (HB.out.alloc HB.out.size _)
   | tok k v n =>
    rw [ht] at hK RA
    have h9:=LX.token_len ht
    rw [ze] at h9
    obtain⟨tx,htx⟩:∃ t,t=s.extract 0 (0+n):=⟨_,rfl⟩
    have hts:tx.size=n:=by rw [htx,ByteArray.size_extract];omega
    have RA2:Hid (∀ W,Calls Tryz.prog 84 #[.string s,.int .i64 0] W (RdPost W (.tuple #[.agg #[.int .i64 k,.int .i64 v,.string tx,.int .i64 0],.int .i64 0]))):=fun W=>by rw [htx];exact RA.out W
    clear RA
    have RA:=RA2
    clear RA2
    by_cases hn:n=s.size
    ·have k1:((tx.size:Int)==(s.size:Int))=true:=by rw [hts,hn];simp
     have k2:(tx.size==s.size)=true:=by rw [hts,hn];simp
     have hv:K=k:=by rw [hK];simp only [];rw [if_pos hn]
     have HV:=zh hv
     clear hK hv hne h0 h100 hc hsp ht h9 pre htx hts hn
     go_enter Tryz.func54,Tryz.ntmps54
     go_wp2_with fail
     refine(SP.out _).mono ?_
     rintro e w1 ⟨rfl,rfl⟩
     go_wp2_with fail
     refine(RA.out _).mono ?_
     rintro e w1 ⟨rfl,hb⟩
     have HB:=zh hb
     clear hb
     go_wp2_with fail
     go_ret
     exact⟨by rw [HV.out];rfl,HB.out.alloc HB.out.size _⟩
    have k1:((tx.size:Int)==(s.size:Int))=false:=zt6 (by omega)
    have k2:(tx.size==s.size)=false:=zt6 (by omega)
    have hv:K=0:=by rw [hK];simp only [];rw [if_neg hn]
    have HV:=zh hv
    clear hK hv hne h0 h100 hc hsp ht h9 pre htx hts hn
    go_enter Tryz.func54,Tryz.ntmps54
    go_wp2_with fail
    refine(SP.out _).mono ?_
    rintro e w1 ⟨rfl,rfl⟩
    go_wp2_with fail
    refine(RA.out _).mono ?_
    rintro e w1 ⟨rfl,hb⟩
    have HB:=zh hb
    clear hb
    go_wp2_with fail
    go_ret
    exact ZERO.out HV.out _ (HB.out.alloc HB.out.size _)
  by_cases h1:1<s.size
  ·obtain⟨x,sl,hx⟩:=two_head s h1
   cases ho:LX.opens (bts s) with
   | false=>exact main ho ⟨x,fun _=>⟨sl,by rw [hx,ho]⟩⟩
   | true =>
    rw [if_pos (.inr ho)] at hK
    rw [ho] at hx
    have HK:=zh hK
    have z4:(1:Int)<(s.size:Int):=by omega
    clear hK hne h0 h100 hc hsp ho main RA h1
    go_enter Tryz.func54,Tryz.ntmps54
    go_wp2_with fail
    refine(SP.out _).mono ?_
    rintro e w1 ⟨rfl,rfl⟩
    go_wp2_with fail
    go_ret
    exact ZERO.out HK.out _ (zs9 _ _)
  refine main ?_ ⟨⟨#[]⟩,fun h=>absurd h h1⟩
  cases ho:LX.opens (bts s) with
  | false=>rfl
  | true =>
   obtain⟨_,b⟩:=LX.opens_two ho
   rw [zt4,List.getElem?_eq_none (by rw [ze];omega)] at b
   cases b
end Go.Proofs.YtnkahlloahgifaaGreatDoor.Lx
namespace Go.Proofs.YtnkahlloahgifaaGreatDoor
open Go.RowKit RG Go.Maps RF
structure FlatR (w:World) (fb:Nat) (F:List Nd):Prop where
 at':∃ (sv su sn sb sa so:Value) (us ns bs:List Value),w.heap[fb]?=some (.cells #[sv,su,sn,sb,sa,so,.bool true] 42 (0,0))∧StrsAt w sv (vars F) ∧
  SlAt w su F.length us∧SlAt w sn F.length ns∧SlAt w sb F.length bs∧SlAt w sa F.length (nats (List.range F.length)) ∧
  (∀ i,i<F.length→∃ v,us[i]?=some v∧SlAt w v (UR F i).length (nats (UR F i))) ∧
  (∀ i,i<F.length→∃ v,ns[i]?=some v∧SlAt w v (NR F i).length (nats (NR F i))) ∧
  (∀ i,i<F.length→∃ v,bs[i]?=some v∧SlAt w v (BR F i).length (nats (BR F i)))
def EmptyR (w:World) (fb:Nat):Prop:=w.heap[fb]?=some (.cells #[.slice none 0 0,.slice none 0 0,.slice none 0 0,.slice none 0 0,.slice none 0 0,.slice none 0 0,.bool false] 42 (0,0))
theorem FlatR.keep {w w':World}{fb:Nat}{F:List Nd}(h:FlatR w fb F) (hb:Below w.heap.size w w'):FlatR w' fb F:=by
 obtain⟨sv,su,sn,sb,sa,so,us,ns,bs,h0,h1,h2,h3,h4,h5,h6,h7,h8⟩:=h
 have hk:=zd hb
 exact⟨sv,su,sn,sb,sa,so,us,ns,bs,zm hb h0,h1.kept hk,h2.kept hk,h3.kept hk,h4.kept hk,h5.kept hk,
  fun i hi=>by obtain⟨v,a,b⟩:=h6 i hi;exact⟨v,a,b.kept hk⟩,fun i hi=>by obtain⟨v,a,b⟩:=h7 i hi;exact⟨v,a,b.kept hk⟩,fun i hi=>by obtain⟨v,a,b⟩:=h8 i hi;exact⟨v,a,b.kept hk⟩⟩
theorem EmptyR.keep {w w':World}{fb:Nat}(h:EmptyR w fb) (hb:Below w.heap.size w w'):EmptyR w' fb:=zm hb h
def OfRP (w:World) (ps:List Nm) (e:TE) (en:Ending) (w':World):Prop :=
 ∃ fb,en = .returned (.pointer (some ⟨fb,0,none⟩))∧Below w.heap.size w w'∧((RG.Good isNm ps e∧FlatR w' fb (F0 ps e))∨(¬ RG.Good isNm ps e∧EmptyR w' fb))
theorem FlV.read {w:World} {ρ:Nat→Nat}{fb:Nat}{st:St}{sv su sn sb sa so:Value}{us ns bs os:List Value}{na no:Nat}{F:List Nd}(h:FlV w ρ fb st sv su sn sb sa so us ns bs os na no) (hρ:∀ k,w.heap.size≤k→ρ k=0) (hw:Whole F st) (hna:na=st.binds.length) :
  FlatR (w.setCell ⟨fb,6,none⟩ (.bool true)) fb F:=by
 have c:Ch (· = 2) ρ ρ w (w.setCell ⟨fb,6,none⟩ (.bool true)):=(Ch.refl hρ).setCell _ _ fun _=>h.role
 have l1:st.uses.length=F.length:=by rw [hw.uses];simp
 have l2:st.next.length=F.length:=by rw [hw.next];simp
 have l3:st.binds.length=F.length:=by rw [hw.binds];simp
 have e1:∀ i,i<F.length→st.uses[i]?=some (UR F i):=fun i hi=>by rw [hw.uses,List.getElem?_map,List.getElem?_range hi];rfl
 have e2:∀ i,i<F.length→st.next[i]?=some (NR F i):=fun i hi=>by rw [hw.next,List.getElem?_map,List.getElem?_range hi];rfl
 have e3:∀ i,i<F.length→st.binds[i]?=some (BR F i):=fun i hi=>by rw [hw.binds,List.getElem?_map,List.getElem?_range hi];rfl
 refine⟨sv,su,sn,sb,sa,so,us,ns,bs,heap_setCell_same _ _ _ _ _ _ h.obj,?_,?_,?_,?_,?_,fun i hi=>?_,fun i hi=>?_,fun i hi=>?_⟩
 ·have:=(h.vars.keep c (by decide)).sl
  rw [hw.vars] at this;exact this
 ·have:=(h.uses.keep c (by decide)).sl
  rw [l1] at this;exact this
 ·have:=(h.next.keep c (by decide)).sl
  rw [l2] at this;exact this
 ·have:=(h.binds.keep c (by decide)).sl
  rw [l3] at this;exact this
 ·have:=(h.after.keep c (by decide)).sl
  rw [hna,l3] at this;exact this
 ·obtain⟨v,a,b⟩:=h.usesAt i _ (e1 i hi)
  exact⟨v,a,(b.keep c (by decide)).sl⟩
 ·obtain⟨v,a,b⟩:=h.nextAt i _ (e2 i hi)
  exact⟨v,a,(b.keep c (by omega)).sl⟩
 obtain⟨v,a,b⟩:=h.bindsAt i _ (e3 i hi)
 exact⟨v,a,(b.keep c (by decide)).sl⟩
theorem ZA.of_strs {ρ:Nat→Nat}{w:World}{base:Nat}{v:Value}{l:List Nm}(h:w.ownsRow base 9 1 v l.length (strs l)) (hρ:∀ k,base≤k→ρ k=0):ZA w ρ v l.length (strs l):=by
 obtain⟨h1,h2⟩:=id h
 rcases h2 with ⟨rfl,h0⟩|⟨g,cap,cur,rfl,hb,hg,k1,k2,k3,k4⟩
 ·exact⟨strs_length l,none,0,by rw [h0],fun h=>by omega⟩
 refine⟨strs_length l,some ⟨g,0,none⟩,cap,rfl,fun h0=>⟨g,0,rfl,hρ g hb,fun i x hi=>?_⟩⟩
 have hl:=(zq8.1 hi).1
 rw [strs_length] at hl
 rw [Nat.zero_add,World.ownsRow.cellAt h i (by omega)];exact hi
theorem empty_new {w:World}{k:Nat}(hk:k=w.heap.size):EmptyR (w.alloc (.cells #[.slice none 0 0,.slice none 0 0,.slice none 0 0,.slice none 0 0,.slice none 0 0,.slice none 0 0,.bool false] 42)) k:=by rw [hk];exact zs2 w _
theorem rflat0 (w:World):FlR (w.alloc (.cells #[.slice none 0 0,.slice none 0 0,.slice none 0 0,.slice none 0 0,.slice none 0 0,.slice none 0 0,.bool false] 42)) (roleAt (fun _=>0) w.heap.size 2) w.heap.size ⟨[],[],[],[]⟩ :=
 ⟨_,_,_,_,_,_,[],[],[],[],zs2 w _,roleAt_same _ _ _,RR.nil _ _ _ _ _,RR.nil _ _ _ _ _,RR.nil _ _ _ _ _,RR.nil _ _ _ _ _,RR.nil _ _ _ _ _,RR.nil _ _ _ _ _,
  fun i l hi=>by simp at hi,fun i l hi=>by simp at hi,fun i l hi=>by simp at hi⟩
theorem ofR_any {w:World}{v:Value}{ps:List Nm}{e:TE}(h:TFunV w v ps e):Calls Tryz.prog 16 #[v] w (OfRP w ps e):=by
 obtain⟨nm,op,ch,pv,va,num,site,aa,ab,ca,cb,ga,oa,gb,ob,rfl,hp,hat,ha1,ha2,hb1,hb2⟩:=h
 obtain⟨xa,xc,rfl,-⟩:=id hat.at'
 obtain⟨pa,pc,rfl,-⟩:=id hp.at'
 have TX:Hid (TEX w e xa aa ab xc):=⟨hat,fun h=>⟨ga,oa,ha1 h,ha2⟩,fun h=>⟨gb,ob,hb1 h,hb2⟩⟩
 have HP:=zh hp
 have GI:=zh (good_ref (isName:=isNm) (ps:=ps) (e:=e))
 obtain⟨np,hnp⟩:∃ n,n=ps.length:=⟨_,rfl⟩
 rw [← hnp] at HP GI ⊢
 have HNP:=zh hnp
 obtain⟨w0,hw0⟩:∃ x,x=w.alloc (.cells #[.string nm,.bool ch,.slice pa np pc,.int .i64 e.kind,.string e.name,.string op,.int .i64 num,.int .i64 site,.slice xa e.args.length xc,.slice aa e.arms.length ca,.slice ab e.body.length cb] 29):=⟨_,rfl⟩
 have O0:Hid (w0.heap[w.heap.size]?=some (.cells #[.string nm,.bool ch,.slice pa np pc,.int .i64 e.kind,.string e.name,.string op,.int .i64 num,.int .i64 site,.slice xa e.args.length xc,.slice aa e.arms.length ca,.slice ab e.body.length cb] 29 (0,0))):=by show _=_;rw [hw0];exact zs2 w _
 have B0:Hid (Below w.heap.size w w0):=by rw [hw0];exact(zs9 _ _).alloc (zr4 _) _
 have S0:Hid (w0.heap.size=w.heap.size+1):=by show _=_;rw [hw0];simp
 have O1:Hid ((w0.alloc (.cells #[.int .i64 0] 3)).heap[w.heap.size]?=some (.cells #[.string nm,.bool ch,.slice pa np pc,.int .i64 e.kind,.string e.name,.string op,.int .i64 num,.int .i64 site,.slice xa e.args.length xc,.slice aa e.arms.length ca,.slice ab e.body.length cb] 29 (0,0))):=(zt2 w0 _ _ (by rw [S0.out];omega)).trans O0.out
 have B1:Hid (Below w.heap.size w (w0.alloc (.cells #[.int .i64 0] 3))):=B0.out.alloc B0.out.size _
 have C1:Hid ((w0.alloc (.cells #[.int .i64 0] 3)).cell? ⟨w0.heap.size,0,none⟩=some (.int .i64 ((0:Nat):Int))):=by show _=_;rw [zb _ _ 0 _ _ _ (zs2 w0 _)];rfl
 have F1:Hid ((w0.alloc (.cells #[.int .i64 0] 3)).frozen? ⟨w0.heap.size,0,none⟩=false):=zs1 _ _ 0 _ _ (zs2 w0 _)
 have q:∀ i x,#[.string nm,.bool ch,.slice pa np pc,.int .i64 e.kind,.string e.name,.string op,.int .i64 num,.int .i64 site,.slice xa e.args.length xc,.slice aa e.arms.length ca,.slice ab e.body.length cb][i]?=some x→(w0.alloc (.cells #[.int .i64 0] 3)).cell? ⟨w.heap.size,i,none⟩=some x:=fun i x hx=>(zb _ _ _ _ _ _ O1.out).trans hx
 have q2:=q 2 _ rfl
 have q3:=q 3 _ rfl
 have q4:=q 4 _ rfl
 have q5:=q 5 _ rfl
 have q6:=q 6 _ rfl
 have q7:=q 7 _ rfl
 have q8:=q 8 _ rfl
 have q9:=q 9 _ rfl
 have q10:=q 10 _ rfl
 have hbs:w.heap.size<w0.heap.size:=by rw [S0.out];omega
 clear q hp hat ha1 ha2 hb1 hb2 hnp
 by_cases hpl:np≤16
 ·have d1:decide (16<(np:Int))=false:=by simp;omega
  have hnz:(np:Int)≤16:=by omega
  have P16:=zh hpl
  have MS:=zh (measure_any e.size e (zr4 _) (op:=op) (num:=num) (site:=site) (ca:=ca) (cb:=cb) (d:=1) TX.out B1.out (by have:=S0.out;omega) C1.out F1.out (by omega) (by omega) (by omega))
  clear hpl
  go_enter Tryz.func16,Tryz.ntmps16
  go_upto_region 1 with fail
  rw [← hw0]
  clear hw0
  go_wp2_with fail
  refine MS.out.mono ?_
  rintro en w2 ⟨hg,hms⟩
  have B2:Hid (Below w.heap.size w w2):=B1.out.grown hg B1.out.size (fun r e=>by simp at e;have:=S0.out;omega)
  have O2:Hid (w2.heap[w.heap.size]?=some (.cells #[.string nm,.bool ch,.slice pa np pc,.int .i64 e.kind,.string e.name,.string op,.int .i64 num,.int .i64 site,.slice xa e.args.length xc,.slice aa e.arms.length ca,.slice ab e.body.length cb] 29 (0,0))):=(hg.block _ (zq7.1 O1.out).1 (fun e=>by simp at e;have:=S0.out;omega)).trans O1.out
  have W2S:Hid (w.heap.size+2≤w2.heap.size):=by have h1:=hg.size;have h2:=S0.out;simp at h1;show _≤_;omega
  clear q2 q3 q4 q5 q6 q7 q8 q9 q10 hg
  rcases hms with ⟨hsz,rfl,-,-⟩|⟨hsz,rfl⟩
  ·have SZ:Hid (e.size≤20000):=by show _≤_;omega
   clear hsz C1 F1 MS O1 B1
   go_wp2_with fail
   have B3:Hid (Below w.heap.size w (w2.alloc (.cells #[.slice none 0 0,.slice none 0 0,.slice none 0 0,.slice none 0 0,.slice none 0 0,.slice none 0 0,.bool false] 42))):=B2.out.alloc B2.out.size _
   have FL0:=zh (rflat0 w2)
   have O3:Hid ((w2.alloc (.cells #[.slice none 0 0,.slice none 0 0,.slice none 0 0,.slice none 0 0,.slice none 0 0,.slice none 0 0,.bool false] 42)).heap[w.heap.size]?=some (.cells #[.string nm,.bool ch,.slice pa np pc,.int .i64 e.kind,.string e.name,.string op,.int .i64 num,.int .i64 site,.slice xa e.args.length xc,.slice aa e.arms.length ca,.slice ab e.body.length cb] 29 (0,0))):=(zt2 w2 _ _ (zq7.1 O2.out).1).trans O2.out
   obtain⟨w3,hw3⟩:∃ x,x=w2.alloc (.cells #[.slice none 0 0,.slice none 0 0,.slice none 0 0,.slice none 0 0,.slice none 0 0,.slice none 0 0,.bool false] 42):=⟨_,rfl⟩
   have S3:Hid (w3.heap.size=w2.heap.size+1):=by show _=_;rw [hw3];simp
   obtain⟨fb,hfb⟩:∃ x,x=w2.heap.size:=⟨_,rfl⟩
   rw [← hw3,← hfb] at FL0
   rw [← hw3] at O3 B3
   rw [← hfb] at S3
   try rw [← hw3]
   try rw [← hfb]
   obtain⟨ρ0,hρ0⟩:∃ r,r=roleAt (fun _=>0) fb 2:=⟨_,rfl⟩
   rw [← hρ0] at FL0
   have R0:Hid (∀ k,k≠fb→ρ0 k=0):=fun k hk=>by rw [hρ0];exact zv _ _ _ hk
   have R9:Hid (∀ k,ρ0 k≠9):=fun k=>by
    rw [hρ0]
    by_cases e0:k=fb
    ·rw [e0,roleAt_same];decide
    rw [zv _ _ _ e0];show (0:Nat)≠9;decide
   have FBW:Hid (w.heap.size≤fb):=by show _≤_;rw [hfb];exact B2.out.size
   have FBNE:Hid (w.heap.size≠fb):=by show _≠_;rw [hfb];have:=W2S.out;omega
   have N0:Hid (World.ownsRow w3 w3.heap.size 9 1 (.slice none 0 0) 0 (strs (ps.take 0))):=World.ownsRow_nil _ _ _ _
   obtain⟨i9,p1,p2,p3,p4⟩:=info_parts Tryz.info9r
   have HI9:=zh (And.intro p1 (And.intro p2 (And.intro p3 p4)))
   clear hw3 hfb hρ0 O2 p1 p2 p3 p4
   go_loopw [5,6] (fun vn iv wr=>∃ i:Nat,i≤np∧iv = .int .i64 i∧World.ownsRow wr w3.heap.size 9 1 vn i (strs (ps.take i))∧Below w3.heap.size w3 wr) (fun _ iv _=>np - (intOf iv).toNat)
   case atStart=>exact⟨0,Nat.zero_le _,rfl,N0.out,zs9 _ _⟩
   rename World=>V
   obtain⟨i,hi,rfl,hown,hbv⟩:=hrel
   have KI:=zh hi
   have KO:=zh hown
   have BV:=zh hbv
   have O4:=zh (zm hbv O3.out)
   have BW:Hid (Below w.heap.size w V):=B3.out.trans (hbv.mono B3.out.size)
   have z2:V.cell? ⟨w.heap.size,2,none⟩=some (.slice pa np pc):=by rw [zb _ _ 2 _ _ _ O4.out];rfl
   obtain⟨va,vc,hvn⟩:=own_sliceI hown
   subst hvn
   clear hi hown hbv N0
   by_cases hlt:i<np
   ·have hlz:(i:Int)<np:=by omega
    have hi0:(0:Int)≤i:=by omega
    have HLT:=zh hlt
    obtain⟨ad,cc,hsl,hat⟩:=HP.out.at'
    simp only [Value.slice.injEq] at hsl
    obtain⟨rfl,-,rfl⟩:=hsl
    obtain⟨g,o,rfl,hat2⟩:=hat (by rw [← HNP.out];omega)
    obtain⟨x,hx⟩:∃ x,ps[i]?=some x:=⟨_,zq9 (by rw [← HNP.out];exact hlt)⟩
    obtain⟨mb,hcx,-⟩:=hat2 i x hx
    have yx:=zd BW.out _ _ hcx
    have TK:Hid (ps.take (i+1)=ps.take i++[x]):=by show _=_;rw [List.take_add_one,hx];rfl
    have OX:Hid (World.ownsRow (V.alloc (.cells #[.string x] 9)) w3.heap.size 9 1 (.slice va i vc) i (strs (ps.take i))):=owns_keep2 KO.out fun q hq=>zt2 _ _ _ (World.ownsRow.lt KO.out q hq).2
    have NB:Hid (i+1≤maxLen∧(i+1)*16≤140737488355328):=by show _∧_;simp only [maxLen];omega
    have BA:Hid (Below w3.heap.size w3 (V.alloc (.cells #[.string x] 9))):=BV.out.alloc BV.out.size _
    clear hlt hat hat2 hx hcx
    go_wp2_with (at_builtin;refine wpList_append_own _ rfl _ _ 35 rfl w3.heap.size 9 i9 (.string ⟨#[]⟩) 1 16 Tryz.underlying35 HI9.out.1 HI9.out.2.1 HI9.out.2.2.1 HI9.out.2.2.2 rfl (by decide) (.slice va i vc) i (strs (ps.take i)) rfl OX.out ⟨V.heap.size,0,none⟩ 1 1 [.string x] rfl rfl (news1 _ _ _) (fun u hu=>one1 rfl hu) NB.out.1 NB.out.2 BA.out.size ?_)
    intro vo w6 hown hg _
    have B6:Hid (Below w3.heap.size w3 w6):=BA.out.grown hg BA.out.size (fun q e=>(OX.out.lt q e).1)
    have M6:Hid (World.ownsRow w6 w3.heap.size 9 1 vo (i+1) (strs (ps.take (i+1)))):=by
     show World.ownsRow _ _ _ _ _ _ _
     rw [TK.out]
     unfold strs at hown ⊢
     rw [List.map_append];exact hown
    clear hown hg
    go_wp2_with fail
    go_roundw
    case rel=>exact⟨i+1,HLT.out,by go_num,M6.out,B6.out⟩
    case measure=>have:=HLT.out;simp [intOf];omega
   obtain rfl:i=np:=by have:=KI.out;omega
   have hdi:decide (i<i)=false:=by simp
   have etk:ps.take i=ps:=zr3 (by have:=HNP.out;omega)
   have ZN:Hid (ZA V ρ0 (.slice va i vc) ps.length (strs ps)):=by
    have h1:=KO.out
    rw [etk] at h1
    rw [HNP.out] at h1 ⊢
    exact ZA.of_strs h1 fun k hk=>R0.out k (by have:=S3.out;omega)
   have FL1:=zh (FL0.out.below BV.out fun k hk=>R0.out k (by have:=S3.out;omega))
   have RV:Hid (∀ k,V.heap.size≤k→ρ0 k=0):=fun k hk=>R0.out k (by have:=S3.out;have:=BV.out.size;omega)
   have BD:=zh (rbind_any (names:=ps) (sc:=[]) (scv := .pointer none) (of := -1) FL1.out RV.out R9.out ZN.out (by rw [← HNP.out];exact P16.out) rfl (Nat.zero_le _) (Nat.zero_le _) rfl)
   clear hlt etk KO
   go_wp2_with fail
   refine BD.out.mono ?_
   rintro en w5 ⟨ρ5,a5,rfl,hc5,h95,hf5,hs5⟩
   have BW5:Hid (Below w.heap.size w w5):=BW.out.trans (hc5.below BW.out.size fun k hk=>by rw [R0.out k (by have:=FBW.out;omega)];exact BM.no0)
   have RW5:Hid (∀ k,k<w.heap.size→ρ5 k=0):=fun k hk=>(hc5.role k (zt5 hk BW.out.size)).trans (R0.out k (by have:=FBW.out;omega))
   have O5:=zh (hc5.keep O4.out (by rw [R0.out _ FBNE.out];exact BM.no0))
   obtain⟨R,hR⟩:∃ r,r=bodyR e (scope 0 ps []) (st0 ps):=⟨_,rfl⟩
   have HBAL:Bal1 (st0 ps):=⟨rfl,rfl,by show ([]++ps).length≤16*1;rw [List.nil_append,← HNP.out];have:=P16.out;omega⟩
   have BY:Hid (Calls Tryz.prog 52 #[.pointer (some ⟨fb,0,none⟩),teV e op num site xa aa ab xc ca cb,.pointer a5] w5 (ByP w5 ρ5 fb R)):=by
    rw [hR]
    exact body_any e.size e (zr4 _) TX.out BW5.out RW5.out hf5 hc5.fresh h95 hs5 HBAL (by show 0+e.size≤20000;have:=SZ.out;omega)
   have HR:=zh hR
   have HBL:=zh HBAL
   have q3:w5.cell? ⟨w.heap.size,3,none⟩=some (.int .i64 e.kind):=by rw [zb _ _ 3 _ _ _ O5.out];rfl
   have q4:w5.cell? ⟨w.heap.size,4,none⟩=some (.string e.name):=by rw [zb _ _ 4 _ _ _ O5.out];rfl
   have q5:w5.cell? ⟨w.heap.size,5,none⟩=some (.string op):=by rw [zb _ _ 5 _ _ _ O5.out];rfl
   have q6:w5.cell? ⟨w.heap.size,6,none⟩=some (.int .i64 num):=by rw [zb _ _ 6 _ _ _ O5.out];rfl
   have q7:w5.cell? ⟨w.heap.size,7,none⟩=some (.int .i64 site):=by rw [zb _ _ 7 _ _ _ O5.out];rfl
   have q8:w5.cell? ⟨w.heap.size,8,none⟩=some (.slice xa e.args.length xc):=by rw [zb _ _ 8 _ _ _ O5.out];rfl
   have q9:w5.cell? ⟨w.heap.size,9,none⟩=some (.slice aa e.arms.length ca):=by rw [zb _ _ 9 _ _ _ O5.out];rfl
   have q10:w5.cell? ⟨w.heap.size,10,none⟩=some (.slice ab e.body.length cb):=by rw [zb _ _ 10 _ _ _ O5.out];rfl
   have H5:=zh hc5.fresh
   clear hc5 h95 hf5 hs5 z2 BD hR HBAL
   go_wp2_with fail
   refine BY.out.mono ?_
   rintro en w6 ⟨ρ6,hc6,h96,rfl,hr6⟩
   have BW6:Hid (Below w.heap.size w w6):=BW5.out.trans (hc6.below BW5.out.size fun k hk=>by rw [RW5.out k hk];exact OM.no0)
   clear q3 q4 q5 q6 q7 q8 q9 q10 BY
   cases R with
   | none =>
    have NG:Hid (¬ RG.Good isNm ps e):=fun hg=>by obtain⟨st,h1,_⟩:=(GI.out.1 hg).2.2;rw [← HR.out] at h1;cases h1
    clear hc6 h96 hr6
    simp only [Option.isSome_none,Option.isSome_some]
    go_wp2_with fail
    go_ret
    exact⟨_,rfl,BW6.out.alloc BW6.out.size _,.inr ⟨NG.out,empty_new (by first | rfl | simp)⟩⟩
   | some st =>
    obtain⟨sv,su,sn,sb,sa,so,us,ns,bs,os,hf6⟩:=hr6 st rfl
    have HBS:Hid (bodyR e (scope 0 ps []) (st0 ps)=some st):=HR.out.symm
    have BB:=body_bal HBS.out HBL.out
    have VL:Hid (st.vars.length≤400000):=by
     have h1:=BB.1.vars
     have h2:=BB.1.binds
     have h3:st.uses.length=0+e.size:=BB.2
     have h4:=SZ.out
     show _≤_;omega
    obtain⟨va6,vc6,hsv⟩:=hf6.vars.shape
    subst hsv
    obtain⟨nv,hnv⟩:∃ n,n=st.vars.length:=⟨_,rfl⟩
    have HNV:=zh hnv
    have z0:w6.cell? ⟨fb,0,none⟩=some (.slice va6 nv vc6):=by rw [hnv];exact hf6.cell 0 _ rfl
    have SO:Hid (Calls Tryz.prog 53 #[.slice va6 nv vc6] w6 (SoP w6 st.vars)):=by
     rw [hnv]
     exact sort_any st.vars.length st.vars (zr4 _) VL.out (StC.of_own hf6.vars.row)
    have FL6:=zh hf6
    have H6:=zh hc6.fresh
    clear hc6 h96 hr6 hf6 BB hnv
    simp only [Option.isSome_none,Option.isSome_some]
    go_wp2_with fail
    refine SO.out.mono ?_
    rintro en w7 ⟨v7,l7,rfl,hst7,hpm,hpw,hb7⟩
    have FL7:=zh (FL6.out.below hb7 H6.out)
    have H7:Hid (∀ k,w7.heap.size≤k→ρ6 k=0):=fun k hk=>H6.out k (zr5 hb7.size hk)
    have BW7:Hid (Below w.heap.size w w7):=BW6.out.trans (hb7.mono BW6.out.size)
    have ST7:=zh hst7
    have PM:=zh hpm
    have PW:=zh hpw
    obtain⟨ad7,c7,rfl,-⟩:=hst7
    obtain⟨n7,hn7⟩:∃ n,n=l7.length:=⟨_,rfl⟩
    rw [← hn7] at ST7 ⊢
    have HN7:=zh hn7
    have hn7z:(n7:Int)≤400000:=by have h1:=hpm.length_eq;have h2:=VL.out;omega
    clear hpm hpw hb7 hn7 z0 SO FL6
    go_wp2_with fail
    go_loopw [9] (fun iv wr=>∃ i:Nat,i≤n7∧iv = .int .i64 i∧Below w7.heap.size w7 wr∧(∀ (j:Nat) (x:Nm),j<i→l7[j]?=some x→isNm x=true)∧∀ (j:Nat) (a b:Nm),j+1<i→l7[j]?=some a→l7[j+1]?=some b→b≠a) (fun iv _=>n7 - (intOf iv).toNat)
    case atStart=>exact⟨0,Nat.zero_le _,rfl,zs9 _ _,fun j x h=>absurd h (Nat.not_lt_zero _),fun j a b h=>absurd h (Nat.not_lt_zero _)⟩
    rename World=>V
    obtain⟨i,hi,rfl,hbv,hnm,hdf⟩:=hrel
    have KI:=zh hi
    have BV:=zh hbv
    have NM:=zh hnm
    have DF:=zh hdf
    have BWV:Hid (Below w.heap.size w V):=BW7.out.trans (hbv.mono BW7.out.size)
    clear hi hbv hnm hdf
    by_cases hlt:i<n7
    ·have hlz:(i:Int)<n7:=by omega
     have hi0:(0:Int)≤i:=by omega
     have HLT:=zh hlt
     obtain⟨g,o,x,rfl,hx,yx⟩:=(ST7.out.kept (zd BV.out)).read HN7.out hlt
     have HX:=zh hx
     have hgl:g<V.heap.size:=zs3 V _ yx
     have d0:∀ y:Lx.Wg V,y.v.cell? ⟨g,o+i,none⟩=some (.string x):=fun y=>y.cell hgl yx
     obtain⟨kk,hkk⟩:∃ k:Nat,k=Lx.LX.refKind (Lx.bts x):=⟨_,rfl⟩
     have CA:Hid (∀ y:Lx.Wg V,Calls Tryz.prog 54 #[.string x] y.v fun e w'=>e = .returned (.int .i64 (kk:Int))∧∃ z:Lx.Wg V,w'=z.v) :=
      Lx.Wg.call fun y=>by
       have:=Lx.rkind_any y.v x
       unfold Lx.RkPost at this
       rw [← hkk] at this
       exact this
     have IK:Hid (isNm x=true↔kk=2):=by show _↔_;rw [hkk,Lx.LX.refKind_eq];unfold isNm;rw [beq_iff_eq]
     have VM:Hid (x∈st.vars):=PM.out.mem_iff.1 (zr1 HX.out)
     clear hlt hx hkk
     by_cases hk2:kk=2
     ·have dk:((kk:Int) != 2)=false:=by simp [hk2]
      have IX:Hid (isNm x=true):=IK.out.2 hk2
      have NMX:Hid (∀ (j:Nat) (x:Nm),j<i+1→l7[j]?=some x→isNm x=true):=fun j x' h1 h2=>by
       by_cases e0:j=i
       ·subst e0
        rw [HX.out,zt3] at h2
        rw [← h2];exact IX.out
       exact NM.out j x' (by omega) h2
      clear hk2
      by_cases h0:i=0
      ·have DFX:Hid (∀ (j:Nat) (a b:Nm),j+1<i+1→l7[j]?=some a→l7[j+1]?=some b→b≠a):=fun j a b h=>absurd h (by omega)
       have e0:decide ((0:Int)<i)=false:=by simp;omega
       have e1:decide (0<i)=false:=by simp;omega
       clear h0
       go_wp2_with fail
       refine Lx.wp_region_below (by kernel_rfl) (by kernel_rfl) ?_
       repeat
        first
        | go_big_quiet_skip
        | (go_big_quiet_want
           go_big_quiet_op
           first
           | go_big_quiet_on
           | (refine⟨_,fun _=>rfl,?_⟩;go_big_quiet_on)
           | (apply Exists.intro
              refine⟨fun x=>?_,?_⟩
              ·(go_at_call 54;exact CA.out _)
              go_big_quiet_on))
       refine wpQuiet_nil ?_
       intro z
       go_wp2_with fail
       go_roundw
       case rel=>exact⟨i+1,HLT.out,by go_num,BV.out.trans (z.ch.mono BV.out.size),NMX.out,DFX.out⟩
       case measure=>have:=HLT.out;simp [intOf];omega
      obtain⟨j,hj⟩:∃ j,i=j+1:=⟨i - 1,by omega⟩
      have HJ:=zh hj
      have e0:decide ((0:Int)<i)=true:=by simp;omega
      have e1:decide (0<i)=true:=by simp;omega
      obtain⟨g1,o1,y,hg1,hy,yy⟩:=(ST7.out.kept (zd BV.out)).read (k:=j) HN7.out (by have:=HLT.out;omega)
      simp only [zt3] at hg1
      rw [Addr.mk.injEq] at hg1
      obtain⟨rfl,rfl,-⟩:=hg1
      have d1:∀ z:Lx.Wg V,z.v.cell? ⟨g,o+j,none⟩=some (.string y):=fun z=>z.cell hgl yy
      have HY:=zh hy
      have HX':Hid (l7[j+1]?=some x):=by show _=_;rw [← HJ.out];exact HX.out
      have hjz:(j:Int)≤400000:=by omega
      have hj0:(0:Int)≤j:=by omega
      have hjn:(j:Int)<n7:=by omega
      have hwj:IntKind.i64.wrap ((i:Int) - 1)=(j:Int):=by rw [show ((i:Int) - 1)=(j:Int) from by omega];exact Lx.wrap_in _ (by omega)
      clear h0 hj
      clear hy
      by_cases hxy:x=y
      ·have de:(x.toList==y.toList)=true:=by rw [hxy];simp
       have NG:Hid (¬ RG.Good isNm ps e):=fun hg=>by
        obtain⟨st',h1,h2,h3⟩:=(GI.out.1 hg).2.2
        rw [HBS.out,zt3] at h1
        subst h1
        have hnd:=PM.out.nodup_iff.2 h3
        rw [List.Nodup,List.pairwise_iff_getElem] at hnd
        obtain⟨a1,a2⟩:=zq8.1 HY.out
        obtain⟨b1,b2⟩:=zq8.1 HX'.out
        exact hnd j (j+1) a1 b1 (Nat.lt_succ_self j) (by rw [a2,b2,hxy])
       clear hxy
       go_wp2_with fail
       refine Lx.wp_region_below (by kernel_rfl) (by kernel_rfl) ?_
       repeat
        first
        | go_big_quiet_skip
        | (go_big_quiet_want
           go_big_quiet_op
           first
           | go_big_quiet_on
           | (refine⟨_,fun _=>rfl,?_⟩;go_big_quiet_on)
           | (apply Exists.intro
              refine⟨fun x=>?_,?_⟩
              ·(go_at_call 54;exact CA.out _)
              go_big_quiet_on))
       refine wpQuiet_nil ?_
       intro z
       go_wp2_with fail
       go_ret
       exact⟨_,rfl,(BWV.out.trans (z.ch.mono BWV.out.size)).alloc (BWV.out.trans (z.ch.mono BWV.out.size)).size _,.inr ⟨NG.out,empty_new (by first | rfl | simp)⟩⟩
      have de:(x.toList==y.toList)=false:=zt6 fun e0=>hxy (toList_inj e0)
      have DFX:Hid (∀ (q:Nat) (a b:Nm),q+1<i+1→l7[q]?=some a→l7[q+1]?=some b→b≠a):=fun q a b h1 h2 h3=>by
       by_cases e0:q=j
       ·subst e0
        rw [HY.out,zt3] at h2
        rw [HX'.out,zt3] at h3
        rw [← h2,← h3];exact hxy
       exact DF.out q a b (by have:=HJ.out;omega) h2 h3
      clear hxy
      go_wp2_with fail
      refine Lx.wp_region_below (by kernel_rfl) (by kernel_rfl) ?_
      repeat
       first
       | go_big_quiet_skip
       | (go_big_quiet_want
          go_big_quiet_op
          first
          | go_big_quiet_on
          | (refine⟨_,fun _=>rfl,?_⟩;go_big_quiet_on)
          | (apply Exists.intro
             refine⟨fun x=>?_,?_⟩
             ·(go_at_call 54;exact CA.out _)
             go_big_quiet_on))
      refine wpQuiet_nil ?_
      intro z
      go_wp2_with fail
      go_roundw
      case rel=>exact⟨i+1,HLT.out,by go_num,BV.out.trans (z.ch.mono BV.out.size),NMX.out,DFX.out⟩
      case measure=>have:=HLT.out;simp [intOf];omega
     have dk:((kk:Int) != 2)=true:=by simp;omega
     have NG:Hid (¬ RG.Good isNm ps e):=fun hg=>by
      obtain⟨st',h1,h2,h3⟩:=(GI.out.1 hg).2.2
      rw [HBS.out,zt3] at h1
      subst h1
      exact hk2 (IK.out.1 (h2 x VM.out))
     clear hk2
     go_wp2_with fail
     refine Lx.wp_region_below (by kernel_rfl) (by kernel_rfl) ?_
     repeat
      first
      | go_big_quiet_skip
      | (go_big_quiet_want
         go_big_quiet_op
         first
         | go_big_quiet_on
         | (refine⟨_,fun _=>rfl,?_⟩;go_big_quiet_on)
         | (apply Exists.intro
            refine⟨fun x=>?_,?_⟩
            ·(go_at_call 54;exact CA.out _)
            go_big_quiet_on))
     refine wpQuiet_nil ?_
     intro z
     go_wp2_with fail
     go_ret
     exact⟨_,rfl,(BWV.out.trans (z.ch.mono BWV.out.size)).alloc (BWV.out.trans (z.ch.mono BWV.out.size)).size _,.inr ⟨NG.out,empty_new (by first | rfl | simp)⟩⟩
    have hlz:(n7:Int)≤i:=by omega
    have hdi:decide (i<n7)=false:=by simp;omega
    have ND:Hid (st.vars.Nodup):=by
     show _
     refine PM.out.nodup_iff.1 (sorted_nodup PW.out fun j a b h1 h2=>DF.out j a b ?_ h1 h2)
     have:=(zq8.1 h2).1
     have:=HN7.out
     omega
    have AN:Hid (∀ x∈st.vars,isNm x=true):=fun x hx=>by
     obtain⟨j,hj⟩:=List.mem_iff_getElem?.1 (PM.out.mem_iff.2 hx)
     exact NM.out j x (by have:=(zq8.1 hj).1;have:=HN7.out;omega) hj
    have GD:Hid (RG.Good isNm ps e):=GI.out.2 ⟨P16.out,SZ.out,st,HBS.out,AN.out,ND.out⟩
    have FL8:=zh (FL7.out.below BV.out H7.out)
    have WH:Hid (Whole (F0 ps e) st):=body_whole (by have:=body_vars HBS.out;rw [← this.1];exact ND.out) HBS.out
    have c6:V.cell? ⟨fb,6,none⟩=some (.bool false):=FL8.out.cell 6 _ rfl
    have f6:V.frozen? ⟨fb,6,none⟩=false:=FL8.out.froz 6
    have FR:=zh (FL8.out.read (fun k hk=>H7.out k (zr5 BV.out.size hk)) WH.out rfl)
    have BE:Hid (Below w.heap.size w (V.setCell ⟨fb,6,none⟩ (.bool true))):=BWV.out.setCell (by have:=FBW.out;exact this) _
    clear hlt
    go_wp2_with fail
    go_ret
    exact⟨fb,rfl,BE.out,.inl ⟨GD.out,FR.out⟩⟩
  have NG:Hid (¬ RG.Good isNm ps e):=fun hg=>by have:=(GI.out.1 hg).2.1;omega
  clear hsz
  go_wp2_with fail
  go_ret
  exact⟨_,rfl,B2.out.alloc B2.out.size _,.inr ⟨NG.out,empty_new (by first | rfl | simp)⟩⟩
 have d1:decide (16<(np:Int))=true:=by simp;omega
 have NG:Hid (¬ RG.Good isNm ps e):=fun hg=>by have:=(GI.out.1 hg).1;omega
 clear hpl
 go_enter Tryz.func16,Tryz.ntmps16
 go_upto_region 1 with fail
 rw [← hw0]
 clear hw0
 go_wp2_with fail
 go_ret
 exact⟨_,rfl,B1.out.alloc B1.out.size _,.inr ⟨NG.out,empty_new (by first | rfl | simp)⟩⟩
def SmP (w:World) (ps:List Nm) (e:TE) (en:Ending) (w':World):Prop :=
 Below w.heap.size w w'∧∃ b:Bool,en = .returned (.bool b)∧(b=true→RG.Good isNm ps e→e.size≤300∧(vars (F0 ps e)).length≤300)∧(¬ RG.Good isNm ps e→b=true)
theorem small_any {w:World}{v:Value}{ps:List Nm}{e:TE}(h:TFunV w v ps e):Calls Tryz.prog 15 #[v] w (SmP w ps e):=by
 have HV:=zh h
 obtain⟨nm,op,ch,pv,va,num,site,aa,ab,ca,cb,ga,oa,gb,ob,rfl,hp,hat,-⟩:=h
 obtain⟨xa,xc,rfl,-⟩:=id hat.at'
 obtain⟨pa,pc,rfl,-⟩:=id hp.at'
 have OF:=zh (ofR_any (HV.out.kept (zd (show Below w.heap.size w (w.alloc (.cells #[.string nm,.bool ch,.slice pa ps.length pc,.int .i64 e.kind,.string e.name,.string op,.int .i64 num,.int .i64 site,.slice xa e.args.length xc,.slice aa e.arms.length ca,.slice ab e.body.length cb] 29)) from (zs9 _ _).alloc (zr4 _) _))))
 have B0:Hid (Below w.heap.size w (w.alloc (.cells #[.string nm,.bool ch,.slice pa ps.length pc,.int .i64 e.kind,.string e.name,.string op,.int .i64 num,.int .i64 site,.slice xa e.args.length xc,.slice aa e.arms.length ca,.slice ab e.body.length cb] 29))):=(zs9 _ _).alloc (zr4 _) _
 clear hp hat HV
 go_enter Tryz.func15,Tryz.ntmps15
 go_wp2_with fail
 refine OF.out.mono ?_
 rintro en w1 ⟨fb,rfl,hb,⟨hg,hfl⟩|⟨hg,hem⟩⟩
 ·obtain⟨sv,su,sn,sb,sa,so,us,ns,bs,h0,hsv,hsu,-⟩:=hfl.at'
  obtain⟨_,sva,svc,rfl,_⟩:=hsv
  obtain⟨_,sua,suc,rfl,_⟩:=hsu
  obtain⟨nv,hnv⟩:∃ n,n=(vars (F0 ps e)).length:=⟨_,rfl⟩
  obtain⟨nu,hnu⟩:∃ n,n=(F0 ps e).length:=⟨_,rfl⟩
  rw [← hnv,← hnu] at h0
  have c1:w1.cell? ⟨fb,1,none⟩=some (.slice sua nu suc):=by rw [zb _ _ 1 _ _ _ h0];rfl
  have c0:w1.cell? ⟨fb,0,none⟩=some (.slice sva nv svc):=by rw [zb _ _ 0 _ _ _ h0];rfl
  have HB:Hid (Below w.heap.size w w1):=B0.out.trans (hb.mono B0.out.size)
  have HG:=zh hg
  have HNV:=zh hnv
  have HNU:Hid (nu=e.size):=by show _=_;rw [hnu,F0_length]
  clear hb hfl h0 hnv hnu hg OF
  by_cases h1:nu≤300
  ·have d1:decide ((nu:Int)≤300)=true:=by simp;omega
   by_cases h2:nv≤300
   ·have d2:decide ((nv:Int)≤300)=true:=by simp;omega
    have E:Hid (e.size≤300∧(vars (F0 ps e)).length≤300):=by rw [← HNU.out,← HNV.out];exact⟨h1,h2⟩
    clear h1 h2
    go_wp2_with fail
    go_ret
    exact⟨HB.out,true,rfl,fun _ _=>E.out,fun h=>absurd HG.out h⟩
   have d2:decide ((nv:Int)≤300)=false:=by simp;omega
   clear h1 h2
   go_wp2_with fail
   go_ret
   exact⟨HB.out,false,rfl,(fun h=>by cases h),fun h=>absurd HG.out h⟩
  have d1:decide ((nu:Int)≤300)=false:=by simp;omega
  clear h1
  go_wp2_with fail
  go_ret
  exact⟨HB.out,false,rfl,(fun h=>by cases h),fun h=>absurd HG.out h⟩
 have h0:w1.heap[fb]?=_:=hem
 have c1:w1.cell? ⟨fb,1,none⟩=some (.slice none 0 0):=by rw [zb _ _ 1 _ _ _ h0];rfl
 have c0:w1.cell? ⟨fb,0,none⟩=some (.slice none 0 0):=by rw [zb _ _ 0 _ _ _ h0];rfl
 have HB:Hid (Below w.heap.size w w1):=B0.out.trans (hb.mono B0.out.size)
 have HG:=zh hg
 clear hb hem h0 hg OF
 go_wp2_with fail
 go_ret
 exact⟨HB.out,true,rfl,fun _ h=>absurd h HG.out,fun _=>rfl⟩
end Go.Proofs.YtnkahlloahgifaaGreatDoor
namespace Go.Proofs.YtnkahlloahgifaaGreatDoor
open Go.RowKit RG Go.Maps
def TEV (w:World) (vs:Array Value) (e:TE):Prop :=
 ∃ (op:ByteArray) (va:Value) (num site:Int) (aa ab:Option Addr) (ca cb ga oa gb ob:Nat),
  vs = #[.int .i64 e.kind,.string e.name,.string op,.int .i64 num,.int .i64 site,va,.slice aa e.arms.length ca,.slice ab e.body.length cb] ∧
   AtomsAt w va e.args∧(0<e.arms.length→aa=some ⟨ga,oa,none⟩)∧TAAt w e.arms ga oa∧(0<e.body.length→ab=some ⟨gb,ob,none⟩)∧TBAt w e.body gb ob
theorem TEV.kept {w w':World}{vs:Array Value}{e:TE}(h:TEV w vs e) (hb:Kept w w'):TEV w' vs e:=by
 obtain⟨op,va,num,site,aa,ab,ca,cb,ga,oa,gb,ob,h0,h2,h3,h4,h5,h6⟩:=h
 exact⟨op,va,num,site,aa,ab,ca,cb,ga,oa,gb,ob,h0,h2.kept hb,h3,TAAt.kept hb _ _ _ h4,h5,TBAt.kept hb _ _ _ h6⟩
theorem TEV.te {w:World}{vs:Array Value}{e:TE}{b o:Nat}(h:TEV w vs e) (hc:∀ i x,vs[i]?=some x→w.cell? ⟨b,o+i,none⟩=some x):TEAt w e b o:=by
 obtain⟨op,va,num,site,aa,ab,ca,cb,ga,oa,gb,ob,rfl,h2,h3,h4,h5,h6⟩:=h
 obtain⟨k,name,args,arms,body⟩:=e
 rw [TEAt]
 exact⟨op,num,site,_,aa,ab,ca,cb,ga,oa,gb,ob,⟨hc 0 _ rfl,hc 1 _ rfl,hc 2 _ rfl,hc 3 _ rfl⟩,⟨hc 4 _ rfl,hc 5 _ rfl,hc 6 _ rfl,hc 7 _ rfl⟩,h2,h3,h4,h5,h6⟩
def EB (w:World) (b:Nat) (e:TE):Prop:=∃ vs,(∀ i x,vs[i]?=some x→w.cell? ⟨b,i,none⟩=some x)∧TEV w vs e
structure E8 (w:World) (b:Nat) (e:TE) (vs:Array Value) (op:ByteArray) (num site:Int) (xa:Option Addr) (xn xc:Nat) (aa ab:Option Addr) (ca cb:Nat):Prop where
 vs:vs = #[.int .i64 e.kind,.string e.name,.string op,.int .i64 num,.int .i64 site,.slice xa xn xc,.slice aa e.arms.length ca,.slice ab e.body.length cb]
 c0:w.cell? ⟨b,0,none⟩=some (.int .i64 e.kind)
 c1:w.cell? ⟨b,1,none⟩=some (.string e.name)
 c2:w.cell? ⟨b,2,none⟩=some (.string op)
 c3:w.cell? ⟨b,3,none⟩=some (.int .i64 num)
 c4:w.cell? ⟨b,4,none⟩=some (.int .i64 site)
 c5:w.cell? ⟨b,5,none⟩=some (.slice xa xn xc)
 c6:w.cell? ⟨b,6,none⟩=some (.slice aa e.arms.length ca)
 c7:w.cell? ⟨b,7,none⟩=some (.slice ab e.body.length cb)
theorem EB.e8 {w:World}{b:Nat}{e:TE}(h:EB w b e):∃ vs op num site xa xn xc aa ab ca cb,E8 w b e vs op num site xa xn xc aa ab ca cb∧TEV w vs e:=by
 obtain⟨vs,hc,hT⟩:=h
 obtain⟨op,va,num,site,aa,ab,ca,cb,ga,oa,gb,ob,rfl,h2,h3,h4,h5,h6⟩:=id hT
 obtain⟨xa,xc,rfl,-⟩:=id h2.at'
 exact⟨_,op,num,site,xa,_,xc,aa,ab,ca,cb,⟨rfl,hc 0 _ rfl,hc 1 _ rfl,hc 2 _ rfl,hc 3 _ rfl,hc 4 _ rfl,hc 5 _ rfl,hc 6 _ rfl,hc 7 _ rfl⟩,hT⟩
def KB (rb:Nat) (w w':World):Prop:=∀ (a:Addr) (x:Value),a.block≠rb→w.cell? a=some x→w'.cell? a=some x
theorem KB.refl (rb:Nat) (w:World):KB rb w w:=fun _ _ _ h=>h
theorem KB.of {rb:Nat}{w w1 w2:World}(h:Kept w w1) (k:KB rb w1 w2):KB rb w w2:=fun a x hn hx=>k a x hn (h a x hx)
def TX (rb:Nat) (w:World) (vs:Array Value) (e:TE):Prop:=∀ W',KB rb w W'→TEV W' vs e
def EX (rb:Nat) (w:World) (b:Nat) (e:TE):Prop:=∃ vs,(∀ i x,vs[i]?=some x→w.cell? ⟨b,i,none⟩=some x)∧TX rb w vs e
theorem EX.e8 {rb:Nat}{w:World}{b:Nat}{e:TE}(h:EX rb w b e):∃ vs op num site xa xn xc aa ab ca cb,E8 w b e vs op num site xa xn xc aa ab ca cb∧TX rb w vs e:=by
 obtain⟨vs,hc,hX⟩:=h
 obtain⟨op,va,num,site,aa,ab,ca,cb,ga,oa,gb,ob,rfl,h2,h3,h4,h5,h6⟩:=hX w (KB.refl _ _)
 obtain⟨xa,xc,rfl,-⟩:=id h2.at'
 exact⟨_,op,num,site,xa,_,xc,aa,ab,ca,cb,⟨rfl,hc 0 _ rfl,hc 1 _ rfl,hc 2 _ rfl,hc 3 _ rfl,hc 4 _ rfl,hc 5 _ rfl,hc 6 _ rfl,hc 7 _ rfl⟩,hX⟩
theorem te_one {w:World}{b:Nat}{vs:Array Value}{e:TE}(h:TEV w vs e) (hc:∀ i x,vs[i]?=some x→w.cell? ⟨b,i,none⟩=some x):TBAt w (.cons e .nil) b 0:=by
 rw [TBAt]
 refine⟨h.te fun i x hx=>by rw [Nat.zero_add];exact hc i x hx,?_⟩
 rw [TBAt];trivial
theorem EX.mk1 {rb:Nat}{wd W:World}{pa na ba n:Nat}{vs:Array Value}{e:TE}{k num site:Int}{name op:Nm}{xs:List Nm}(hk:Kept wd W) (hX:TX rb wd vs e) (hba:ba≠rb)
  (h1:∀ W',KB rb W W'→AtomsAt W' (.slice (some ⟨na,0,none⟩) n n) xs) (h2:∀ i x,vs[i]?=some x→W.cell? ⟨ba,i,none⟩=some x)
  (h3:∀ i y,#[Value.int .i64 k,.string name,.string op,.int .i64 num,.int .i64 site,.slice (some ⟨na,0,none⟩) n n,.slice none 0 0,.slice (some ⟨ba,0,none⟩) 1 1][i]?=some y→W.cell? ⟨pa,i,none⟩=some y):EX rb W pa (.mk k name xs .nil (.cons e .nil)):=by
 refine⟨_,h3,fun W' hW'=>?_⟩
 refine⟨op,_,num,site,none,some ⟨ba,0,none⟩,0,1,0,0,ba,0,rfl,h1 W' hW',fun h=>absurd h (Nat.lt_irrefl _),?_,fun _=>rfl,?_⟩
 ·show TAAt W' .nil 0 0;rw [TAAt];trivial
 exact te_one (hX W' (KB.of hk hW')) fun i x hx=>hW' _ _ hba (h2 i x hx)
theorem zi {W:World}{rb:Nat}{p:Addr}{v:Value}{xs:List Value}(h:rb≠p.block) (hW:W.cell? p=some v):(W.setCells rb 0 xs).cell? p=some v:=by
 rw [World.cell?_setCells_out rb xs 0 W p (fun e=>absurd e.symm h)];exact hW
theorem cell_drew (X:World) (p:Addr):X.drew.cell? p=X.cell? p:=rfl
theorem in_drew {X:World}{p:Addr}{v:Value}(h:X.cell? p=some v):X.drew.cell? p=some v:=h
theorem alloc_d {X:World}{o:Obj}{p:Addr}{v:Value}(h:X.drew.cell? p=some v):(X.alloc o).drew.cell? p=some v:=by
 rw [cell_drew] at *;exact zs4 o h
theorem TEV.mk0 {W:World}{na n:Nat}{k num site:Int}{name op:Nm}{xs:List Nm}(h1:AtomsAt W (.slice (some ⟨na,0,none⟩) n n) xs) :
  TEV W #[.int .i64 k,.string name,.string op,.int .i64 num,.int .i64 site,.slice (some ⟨na,0,none⟩) n n,.slice none 0 0,.slice none 0 0] (.mk k name xs .nil .nil):=by
 refine⟨op,_,num,site,none,none,0,0,0,0,0,0,rfl,h1,fun h=>absurd h (Nat.lt_irrefl _),?_,fun h=>absurd h (Nat.lt_irrefl _),?_⟩
 ·show TAAt W .nil 0 0;rw [TAAt];trivial
 show TBAt W .nil 0 0;rw [TBAt];trivial
theorem all8 {w:World}{b:Nat}{v0 v1 v2 v3 v4 v5 v6 v7:Value}(h0:w.cell? ⟨b,0,none⟩=some v0) (h1:w.cell? ⟨b,1,none⟩=some v1) (h2:w.cell? ⟨b,2,none⟩=some v2) (h3:w.cell? ⟨b,3,none⟩=some v3)
  (h4:w.cell? ⟨b,4,none⟩=some v4) (h5:w.cell? ⟨b,5,none⟩=some v5) (h6:w.cell? ⟨b,6,none⟩=some v6) (h7:w.cell? ⟨b,7,none⟩=some v7):∀ i x,#[v0,v1,v2,v3,v4,v5,v6,v7][i]?=some x→w.cell? ⟨b,i,none⟩=some x:=fun i x hx=>by
 match i,hx with
 | 0,hx=>simp at hx;subst hx;exact h0
 | 1,hx=>simp at hx;subst hx;exact h1
 | 2,hx=>simp at hx;subst hx;exact h2
 | 3,hx=>simp at hx;subst hx;exact h3
 | 4,hx=>simp at hx;subst hx;exact h4
 | 5,hx=>simp at hx;subst hx;exact h5
 | 6,hx=>simp at hx;subst hx;exact h6
 | 7,hx=>simp at hx;subst hx;exact h7
 | i+8,hx=>simp at hx
def NaP (w:World) (s:Nm) (e:Ending) (w':World):Prop:=e = .returned (.slice (some ⟨w.heap.size,0,none⟩) 1 1)∧w'=w.alloc (.cells #[.string s,.int .i64 0] 146)
theorem name_any (w:World) (s:Nm):Calls Tryz.prog 81 #[.string s] w (NaP w s):=by
 go_enter Tryz.func81,Tryz.ntmps81
 go_wp2_with fail
 go_ret
 exact⟨rfl,rfl⟩
def eEnd:TE := .mk 9 ⟨#[]⟩ [⟨#[107]⟩] .nil .nil
def eAdd:TE := .mk 1 ⟨#[107]⟩ [⟨#[104]⟩,⟨#[115]⟩] .nil (.cons eEnd .nil)
def eRead:TE := .mk 5 ⟨#[115]⟩ [⟨#[114]⟩] .nil (.cons eAdd .nil)
def eMod:TE := .mk 4 ⟨#[114]⟩ [⟨#[116]⟩] .nil (.cons eRead .nil)
def eNil:TE := .mk 9 ⟨#[]⟩ [⟨#[]⟩] .nil .nil
def eSplit:TE := .mk 7 ⟨#[]⟩ [⟨#[99]⟩] (.cons [] eNil (.cons [⟨#[104]⟩,⟨#[116]⟩] eMod .nil)) .nil
def eSum:TE := .mk 5 ⟨#[99]⟩ [⟨#[109]⟩] .nil (.cons eSplit .nil)
def SuP (w:World) (en:Ending) (w':World):Prop:=∃ cs,en = .returned (.agg cs)∧TFunV w' (.agg cs) [⟨#[109]⟩] eSum∧Below w.heap.size w w'
theorem atoms1 {w:World}{b:Nat}{x:Nm}{m:Int}(h0:w.cell? ⟨b,0,none⟩=some (.string x)) (h1:w.cell? ⟨b,1,none⟩=some (.int .i64 m)):AtomsAt w (.slice (some ⟨b,0,none⟩) 1 1) [x] :=
 ⟨⟨_,_,rfl,fun _=>⟨b,0,rfl,fun i n hi=>by
  match i,hi with
  | 0,hi=>simp at hi;subst hi;exact⟨m,h0,h1⟩
  | i+1,hi=>simp at hi⟩⟩⟩
theorem atoms2 {w:World}{b:Nat}{x y:Nm}{m k:Int}(h0:w.cell? ⟨b,0,none⟩=some (.string x)) (h1:w.cell? ⟨b,1,none⟩=some (.int .i64 m)) (h2:w.cell? ⟨b,2,none⟩=some (.string y)) (h3:w.cell? ⟨b,3,none⟩=some (.int .i64 k)):AtomsAt w (.slice (some ⟨b,0,none⟩) 2 2) [x,y] :=
 ⟨⟨_,_,rfl,fun _=>⟨b,0,rfl,fun i n hi=>by
  match i,hi with
  | 0,hi=>simp at hi;subst hi;exact⟨m,h0,h1⟩
  | 1,hi=>simp at hi;subst hi;exact⟨k,h2,h3⟩
  | i+2,hi=>simp at hi⟩⟩⟩
structure SuI (w wc:World):Prop where
 row:∃ cs,cs.size=11∧wc.heap[w.heap.size]?=some (.cells cs 29 (0,0))
 below:Below w.heap.size w wc
 size:w.heap.size<wc.heap.size
theorem SuI.next {w wc W:World}(h:SuI w wc) (hb:Below wc.heap.size wc W):SuI w W:=by
 obtain⟨⟨cs,h1,h2⟩,h3,h4⟩:=h
 exact⟨⟨cs,h1,(hb.block _ h4).trans h2⟩,h3.trans (hb.mono (by omega)),zt5 h4 hb.size⟩
theorem SuI.start (w:World) (cs:Array Value) (h:cs.size=11):SuI w (w.alloc (.cells cs 29)):=⟨⟨cs,h,zs2 w _⟩,(zs9 _ _).alloc (zr4 _) _,by simp⟩
structure A3 (w W:World) (o1 o2 o3:Obj):Prop where
 h0:W.heap[w.heap.size]?=some o1
 h1:W.heap[w.heap.size+1]?=some o2
 h2:W.heap[w.heap.size+1+1]?=some o3
 hb:Below w.heap.size w W
theorem A3.mk3 (w:World) (o1 o2 o3:Obj):A3 w (((w.alloc o1).alloc o2).alloc o3).drew o1 o2 o3:=by
 have e2:=zs2 (w.alloc o1) o2
 have e3:=zs2 ((w.alloc o1).alloc o2) o3
 rw [World.size_alloc] at e2
 rw [World.size_alloc,World.size_alloc] at e3
 refine⟨?_,?_,e3,?_⟩
 ·exact(zt2 _ _ _ (by simp;omega)).trans ((zt2 _ _ _ (by simp)).trans (zs2 w o1))
 ·exact(zt2 _ _ _ (by simp)).trans e2
 exact((((zs9 _ _).alloc (zr4 _) _).alloc (by simp) _).alloc (by simp;omega) _).trans (zj _ _ 1)
theorem A3.mk0 (w:World) (o1 o2 o3:Obj):A3 w (((w.alloc o1).alloc o2).alloc o3) o1 o2 o3 :=
 ⟨(A3.mk3 w o1 o2 o3).h0,(A3.mk3 w o1 o2 o3).h1,(A3.mk3 w o1 o2 o3).h2,(((zs9 _ _).alloc (zr4 _) _).alloc (by simp) _).alloc (by simp;omega) _⟩
theorem row8 {w:World}{b:Nat}{vs:Array Value}{t:TypeId}(h:w.heap[b]?=some (.cells vs t (0,0))):∀ i x,vs[i]?=some x→w.cell? ⟨b,i,none⟩=some x:=fun i x hx=>by rw [zb _ _ _ _ _ _ h];exact hx
theorem arms2 {W:World}{nb hb b:Nat}{vs:Array Value}{e:TE}{k num site:Int}{op:ByteArray}{xa aa ab:Option Addr}{name:Nm}{xn xc an ca bn cb:Nat}(hT:TEV W vs e) (hvs:vs = #[.int .i64 k,.string name,.string op,.int .i64 num,.int .i64 site,.slice xa xn xc,.slice aa an ca,.slice ab bn cb])
  (rA:∀ i x,#[Value.string ⟨#[]⟩,.int .i64 0][i]?=some x→W.cell? ⟨nb,i,none⟩=some x) (rB:∀ i x,#[Value.string ⟨#[104]⟩,.string ⟨#[116]⟩][i]?=some x→W.cell? ⟨hb,i,none⟩=some x)
  (r:∀ i x,#[Value.string ⟨#[78,105,108]⟩,.slice none 0 0,.int .i64 9,.string ⟨#[]⟩,.string ⟨#[]⟩,.int .i64 0,.int .i64 0,.slice (some ⟨nb,0,none⟩) 1 1,.slice none 0 0,.slice none 0 0,.string ⟨#[67,111,110,115]⟩,.slice (some ⟨hb,0,none⟩) 2 2,.int .i64 k,.string name,.string op,.int .i64 num,.int .i64 site,.slice xa xn xc,.slice aa an ca,.slice ab bn cb][i]?=some x→W.cell? ⟨b,i,none⟩=some x) :
  TAAt W (.cons [] eNil (.cons [⟨#[104]⟩,⟨#[116]⟩] e .nil)) b 0:=by
 rw [TAAt]
 refine⟨⟨_,_,r 0 _ rfl,r 1 _ rfl,rfl,none,0,rfl,fun h=>absurd h (Nat.lt_irrefl _)⟩,?_,?_⟩
 ·refine(TEV.mk0 (W:=W) (na:=nb) (n:=1) (k:=9) (num:=0) (site:=0) (name:=⟨#[]⟩) (op:=⟨#[]⟩) (atoms1 (rA 0 _ rfl) (rA 1 _ rfl))).te fun i x hx=>?_
  have hi:=(zq7.1 hx).1
  refine r (0+2+i) x ?_
  simp at hi
  have:i=0∨i=1∨i=2∨i=3∨i=4∨i=5∨i=6∨i=7:=by omega
  rcases this with rfl | rfl | rfl | rfl | rfl | rfl | rfl | rfl<;>exact hx
 rw [TAAt]
 refine⟨⟨_,_,r 10 _ rfl,r 11 _ rfl,rfl,some ⟨hb,0,none⟩,2,rfl,fun _=>⟨hb,0,rfl,fun i x hx=>?_⟩⟩,?_,?_⟩
 ·match i,hx with
  | 0,hx=>simp [strs] at hx;subst hx;exact rB 0 _ rfl
  | 1,hx=>simp [strs] at hx;subst hx;exact rB 1 _ rfl
  | i+2,hx=>simp [strs] at hx
 ·refine hT.te fun i x hx=>?_
  subst hvs
  have hi:=(zq7.1 hx).1
  refine r (0+10+2+i) x ?_
  simp at hi
  have:i=0∨i=1∨i=2∨i=3∨i=4∨i=5∨i=6∨i=7:=by omega
  rcases this with rfl | rfl | rfl | rfl | rfl | rfl | rfl | rfl<;>exact hx
 rw [TAAt];trivial
theorem TX.split {rb:Nat}{W:World}{na ba:Nat}{a:TA}{k num site:Int}{name op:Nm}{x:Nm}(ha:∀ W',KB rb W W'→TAAt W' a ba 0) (hl:a.length=2) (hna:na≠rb) (hA:W.heap[na]?=some (.cells #[.string x,.int .i64 0] 146 (0,0))) :
  TX rb W #[.int .i64 k,.string name,.string op,.int .i64 num,.int .i64 site,.slice (some ⟨na,0,none⟩) 1 1,.slice (some ⟨ba,0,none⟩) 2 2,.slice none 0 0] (.mk k name [x] a .nil):=fun W' hW'=>by
 refine⟨op,_,num,site,some ⟨ba,0,none⟩,none,2,0,ba,0,0,0,?_,atoms1 (hW' _ _ hna (row8 hA 0 _ rfl)) (hW' _ _ hna (row8 hA 1 _ rfl)),fun _=>rfl,ha W' hW',fun h=>absurd h (Nat.lt_irrefl _),?_⟩
 ·show _ = #[Value.int .i64 k,.string name,.string op,.int .i64 num,.int .i64 site,_,.slice _ a.length 2,.slice none 0 0]
  rw [hl]
 show TBAt W' .nil 0 0;rw [TBAt];trivial
theorem SuI.fin {rb:Nat}{w wd W:World}{na ba pa:Nat}{x:Nm}{vs:Array Value}{e:TE}{k num site:Int}{name op:Nm}(hT:TX rb wd vs e) (hS:SuI w wd) (hb:Below wd.heap.size wd W) (hn1:na≠rb) (hn2:ba≠rb) (hA:W.heap[na]?=some (.cells #[.string x,.int .i64 0] 146 (0,0))) (hB:W.heap[ba]?=some (.cells vs 27 (0,0)))
  (hC:W.heap[pa]?=some (.cells #[.int .i64 k,.string name,.string op,.int .i64 num,.int .i64 site,.slice (some ⟨na,0,none⟩) 1 1,.slice none 0 0,.slice (some ⟨ba,0,none⟩) 1 1] 27 (0,0))) :
  ∃ b,Value.pointer (some ⟨pa,0,none⟩) = .pointer (some ⟨b,0,none⟩)∧EX rb W b (.mk k name [x] .nil (.cons e .nil))∧SuI w W :=
 ⟨pa,rfl,EX.mk1 (zd hb) hT hn2 (fun W' hW'=>atoms1 (hW' _ _ hn1 (row8 hA 0 _ rfl)) (hW' _ _ hn1 (row8 hA 1 _ rfl))) (row8 hB) (row8 hC),hS.next hb⟩
theorem SuI.there {w wd W:World}(h:SuI w wd) (hb:Below wd.heap.size wd W):W.there w.heap.size 0 11:=fun j hj=>by
 obtain⟨⟨cs,h1,h2⟩,h3,h4⟩:=h.next hb
 rw [Nat.zero_add]
 exact⟨by rw [zb _ _ _ _ _ _ h2,Array.getElem?_eq_getElem (by omega)];rfl,zs1 _ _ _ _ _ h2⟩
def SuR (w wc:World):Prop:=∃ (pb na ba:Nat),(∀ i x,#[Value.string ⟨#[115,117,109]⟩,.bool true,.slice (some ⟨pb,0,none⟩) 1 1,.int .i64 5,.string ⟨#[99]⟩,.string ⟨#[]⟩,.int .i64 0,.int .i64 1,.slice (some ⟨na,0,none⟩) 1 1,.slice none 0 0,.slice (some ⟨ba,0,none⟩) 1 1][i]?=some x→wc.cell? ⟨w.heap.size,i,none⟩=some x) ∧
 TFunV wc (.agg #[.string ⟨#[115,117,109]⟩,.bool true,.slice (some ⟨pb,0,none⟩) 1 1,.int .i64 5,.string ⟨#[99]⟩,.string ⟨#[]⟩,.int .i64 0,.int .i64 1,.slice (some ⟨na,0,none⟩) 1 1,.slice none 0 0,.slice (some ⟨ba,0,none⟩) 1 1]) [⟨#[109]⟩] eSum∧Below w.heap.size w wc
theorem setCells_below {w W:World}{xs:List Value}(h:Below w.heap.size w W) (hs:w.heap.size<W.heap.size):Below w.heap.size w (W.setCells w.heap.size 0 xs):=h.grown (grown_setCells w.heap.size xs 0 W) (by omega) (fun r e=>by simp at e;omega)
theorem SuI.last {w wd W:World}{pb na ba:Nat}{vs:Array Value}(hT:TX w.heap.size wd vs eSplit) (hS:SuI w wd) (hb:Below wd.heap.size wd W) (hn1:pb≠w.heap.size) (hn2:na≠w.heap.size) (hn3:ba≠w.heap.size)
  (hP:W.heap[pb]?=some (.cells #[.string ⟨#[109]⟩,.bool true] 70 (0,0))) (hA:W.heap[na]?=some (.cells #[.string ⟨#[109]⟩,.int .i64 0] 146 (0,0))) (hB:W.heap[ba]?=some (.cells vs 27 (0,0))) :
  SuR w (W.setCells w.heap.size 0 [.string ⟨#[115,117,109]⟩,.bool true,.slice (some ⟨pb,0,none⟩) 1 1,.int .i64 5,.string ⟨#[99]⟩,.string ⟨#[]⟩,.int .i64 0,.int .i64 1,.slice (some ⟨na,0,none⟩) 1 1,.slice none 0 0,.slice (some ⟨ba,0,none⟩) 1 1]):=by
 have hk:KB w.heap.size W (W.setCells w.heap.size 0 [.string ⟨#[115,117,109]⟩,.bool true,.slice (some ⟨pb,0,none⟩) 1 1,.int .i64 5,.string ⟨#[99]⟩,.string ⟨#[]⟩,.int .i64 0,.int .i64 1,.slice (some ⟨na,0,none⟩) 1 1,.slice none 0 0,.slice (some ⟨ba,0,none⟩) 1 1]):=fun a x hn hx=>zi (Ne.symm hn) hx
 have hR:=World.rangeAt_setCells_same W w.heap.size 0 [.string ⟨#[115,117,109]⟩,.bool true,.slice (some ⟨pb,0,none⟩) 1 1,.int .i64 5,.string ⟨#[99]⟩,.string ⟨#[]⟩,.int .i64 0,.int .i64 1,.slice (some ⟨na,0,none⟩) 1 1,.slice none 0 0,.slice (some ⟨ba,0,none⟩) 1 1] (hS.there hb)
 have hbel:=setCells_below (xs:=[.string ⟨#[115,117,109]⟩,.bool true,.slice (some ⟨pb,0,none⟩) 1 1,.int .i64 5,.string ⟨#[99]⟩,.string ⟨#[]⟩,.int .i64 0,.int .i64 1,.slice (some ⟨na,0,none⟩) 1 1,.slice none 0 0,.slice (some ⟨ba,0,none⟩) 1 1]) (hS.next hb).below (hS.next hb).size
 obtain⟨W',hW'⟩:∃ W',W'=W.setCells w.heap.size 0 [.string ⟨#[115,117,109]⟩,.bool true,.slice (some ⟨pb,0,none⟩) 1 1,.int .i64 5,.string ⟨#[99]⟩,.string ⟨#[]⟩,.int .i64 0,.int .i64 1,.slice (some ⟨na,0,none⟩) 1 1,.slice none 0 0,.slice (some ⟨ba,0,none⟩) 1 1]:=⟨_,rfl⟩
 rw [← hW'] at hk hR hbel ⊢
 refine⟨pb,na,ba,fun i x hx=>?_,⟨⟨#[115,117,109]⟩,⟨#[]⟩,true,_,_,0,1,none,some ⟨ba,0,none⟩,0,1,0,0,ba,0,rfl,⟨_,_,rfl,fun _=>⟨pb,0,rfl,fun i n hi=>?_⟩⟩,atoms1 (hk _ _ hn2 (row8 hA 0 _ rfl)) (hk _ _ hn2 (row8 hA 1 _ rfl)),fun h=>absurd h (Nat.lt_irrefl _),?_,fun _=>rfl,te_one (hT W' (KB.of (zd hb) hk)) (fun i x hx=>hk _ _ hn3 (row8 hB i x hx))⟩,hbel⟩
 ·have:=hR i x (by simpa using hx)
  rw [Nat.zero_add] at this;exact this
 ·match i,hi with
  | 0,hi=>simp at hi;subst hi;exact⟨true,hk _ _ hn1 (row8 hP 0 _ rfl),hk _ _ hn1 (row8 hP 1 _ rfl)⟩
  | i+1,hi=>simp at hi
 show TAAt W' .nil 0 0;rw [TAAt];trivial
theorem Tryz.info29:(Tryz.prog.info? 29).map (·.size)=some 11:=by kernel_rfl
theorem sum_any (w:World):Calls Tryz.prog 49 #[] w (SuP w):=by
 go_enter Tryz.func49,Tryz.ntmps49
 go_upto_region 1 with fail
 go_cut [1] from 7 (fun p wc=>∃ b,p = .pointer (some ⟨b,0,none⟩)∧EX w.heap.size wc b eEnd∧SuI w wc)
 case first =>
  go_wp2_with fail
  refine(name_any _ _).mono ?_
  rintro en w1 ⟨rfl,rfl⟩
  go_wp2_with fail
  go_meet
  refine⟨_,rfl,⟨_,all8 (by go_simp;try rfl) (by go_simp;try rfl) (by go_simp;try rfl) (by go_simp;try rfl) (by go_simp;try rfl) (by go_simp;try rfl) (by go_simp;try rfl) (by go_simp;try rfl),fun W' hW'=>TEV.mk0 (atoms1 (hW' _ _ (by simp) (by go_simp;try rfl)) (hW' _ _ (by simp) (by go_simp;try rfl)))⟩,(SuI.start w _ rfl).next (((zs9 _ _).alloc (zr4 _) _).alloc (by simp) _)⟩
 obtain⟨b1,rfl,hE,hS⟩:=hcut
 obtain⟨vs,op,num,site,xa,xn,xc,aa,ab,ca,cb,h8,hT⟩:=hE.e8
 have HS:=zh hS
 have HT:=zh hT
 obtain⟨rfl,y0,y1,y2,y3,y4,y5,y6,y7⟩:=h8
 rename World=>wd
 have d0:=in_drew y0
 have d1:=in_drew y1
 have d2:=in_drew y2
 have d3:=in_drew y3
 have d4:=in_drew y4
 have d5:=in_drew y5
 have d6:=in_drew y6
 have d7:=in_drew y7
 have hb2:b1<wd.heap.size:=zs3 _ _ y0
 have hsz:=HS.out.size
 clear hS hT hE
 go_upto_region 2 with fail
 go_cut [2] from 9 (fun p we=>∃ b,p = .pointer (some ⟨b,0,none⟩)∧EX w.heap.size we b eAdd∧SuI w we)
 case first =>
  go_wp2_with fail
  go_meet
  have hBW:=(A3.mk0 wd (.cells #[.string ⟨#[104]⟩,.int .i64 0,.string ⟨#[115]⟩,.int .i64 0] 146) (.cells #[.int .i64 eEnd.kind,.string eEnd.name,.string op,.int .i64 num,.int .i64 site,.slice xa xn xc,.slice aa eEnd.arms.length ca,.slice ab eEnd.body.length cb] 27) (.cells #[.int .i64 1,.string ⟨#[107]⟩,.string ⟨#[43]⟩,.int .i64 0,.int .i64 0,.slice (some ⟨wd.heap.size,0,none⟩) 2 2,.slice none 0 0,.slice (some ⟨wd.heap.size+1,0,none⟩) 1 1] 27))
  exact⟨_,rfl,EX.mk1 (zd hBW.hb) HT.out (by omega) (fun W' hW'=>atoms2 (hW' _ _ (by simp;omega) (row8 hBW.h0 0 _ rfl)) (hW' _ _ (by simp;omega) (row8 hBW.h0 1 _ rfl)) (hW' _ _ (by simp;omega) (row8 hBW.h0 2 _ rfl)) (hW' _ _ (by simp;omega) (row8 hBW.h0 3 _ rfl))) (row8 hBW.h1) (row8 hBW.h2),HS.out.next hBW.hb⟩
 obtain⟨b2,rfl,hE,hS⟩:=hcut
 clear y0 y1 y2 y3 y4 y5 y6 y7 d0 d1 d2 d3 d4 d5 d6 d7 hb2 hsz HT HS wd
 obtain⟨vs,op,num,site,xa,xn,xc,aa,ab,ca,cb,h8,hT⟩:=hE.e8
 have HS:=zh hS
 have HT:=zh hT
 obtain⟨rfl,y0,y1,y2,y3,y4,y5,y6,y7⟩:=h8
 rename World=>wd
 have d0:=in_drew y0
 have d1:=in_drew y1
 have d2:=in_drew y2
 have d3:=in_drew y3
 have d4:=in_drew y4
 have d5:=in_drew y5
 have d6:=in_drew y6
 have d7:=in_drew y7
 have hb2:b2<wd.heap.size:=zs3 _ _ y0
 have hsz:=HS.out.size
 clear hS hT hE
 go_upto_region 3 with fail
 have hn1:b2≠wd.heap.size:=by omega
 have hn2:b2≠wd.heap.size+1:=by omega
 have hn3:b2≠wd.heap.size+1+1:=by omega
 go_cut [3] from 15 (fun p we=>∃ b,p = .pointer (some ⟨b,0,none⟩)∧EX w.heap.size we b eRead∧SuI w we)
 case first =>
  go_region_held3 (fun w'=>w'.cell? ⟨b2,0,none⟩=some (.int .i64 eAdd.kind)∧w'.cell? ⟨b2,1,none⟩=some (.string eAdd.name)∧w'.cell? ⟨b2,2,none⟩=some (.string op)∧w'.cell? ⟨b2,3,none⟩=some (.int .i64 num)∧w'.cell? ⟨b2,4,none⟩=some (.int .i64 site)∧w'.cell? ⟨b2,5,none⟩=some (.slice xa xn xc)∧w'.cell? ⟨b2,6,none⟩=some (.slice aa eAdd.arms.length ca)∧w'.cell? ⟨b2,7,none⟩=some (.slice ab eAdd.body.length cb)) (refine⟨?_,?_,?_,?_,?_,?_,?_,?_⟩<;>(repeat (first | assumption | refine zs4 _ ?_ | (rw [World.cell?_setCell_far _ _ _ _ (by simp;omega)])))) ((go_at_call 81;refine(name_any _ _).mono ?_;rintro e w' ⟨rfl,rfl⟩))
  all_goals go_wp2_with fail
  all_goals go_meet
  all_goals
   first
    | exact SuI.fin HT.out HS.out (A3.mk3 wd _ _ _).hb (by omega) (by omega) (A3.mk3 wd _ _ _).h0 (A3.mk3 wd _ _ _).h1 (A3.mk3 wd _ _ _).h2
    | exact SuI.fin HT.out HS.out (A3.mk3 wd _ _ _).hb (by omega) (by omega) (A3.mk3 wd _ _ _).h0 (A3.mk3 wd _ _ _).h2 (A3.mk3 wd _ _ _).h1
    | exact SuI.fin HT.out HS.out (A3.mk3 wd _ _ _).hb (by omega) (by omega) (A3.mk3 wd _ _ _).h1 (A3.mk3 wd _ _ _).h0 (A3.mk3 wd _ _ _).h2
    | exact SuI.fin HT.out HS.out (A3.mk3 wd _ _ _).hb (by omega) (by omega) (A3.mk3 wd _ _ _).h1 (A3.mk3 wd _ _ _).h2 (A3.mk3 wd _ _ _).h0
    | exact SuI.fin HT.out HS.out (A3.mk3 wd _ _ _).hb (by omega) (by omega) (A3.mk3 wd _ _ _).h2 (A3.mk3 wd _ _ _).h0 (A3.mk3 wd _ _ _).h1
    | exact SuI.fin HT.out HS.out (A3.mk3 wd _ _ _).hb (by omega) (by omega) (A3.mk3 wd _ _ _).h2 (A3.mk3 wd _ _ _).h1 (A3.mk3 wd _ _ _).h0
 obtain⟨b3,rfl,hE,hS⟩:=hcut
 clear y0 y1 y2 y3 y4 y5 y6 y7 d0 d1 d2 d3 d4 d5 d6 d7 hb2 hsz HT HS hn1 hn2 hn3 wd
 obtain⟨vs,op,num,site,xa,xn,xc,aa,ab,ca,cb,h8,hT⟩:=hE.e8
 have HS:=zh hS
 have HT:=zh hT
 obtain⟨rfl,y0,y1,y2,y3,y4,y5,y6,y7⟩:=h8
 rename World=>wd
 have d0:=in_drew y0
 have d1:=in_drew y1
 have d2:=in_drew y2
 have d3:=in_drew y3
 have d4:=in_drew y4
 have d5:=in_drew y5
 have d6:=in_drew y6
 have d7:=in_drew y7
 have hb2:b3<wd.heap.size:=zs3 _ _ y0
 have hsz:=HS.out.size
 clear hS hT hE
 go_upto_region 4 with fail
 have hn1:b3≠wd.heap.size:=by omega
 have hn2:b3≠wd.heap.size+1:=by omega
 have hn3:b3≠wd.heap.size+1+1:=by omega
 go_cut [4] from 19 (fun p we=>∃ b,p = .pointer (some ⟨b,0,none⟩)∧EX w.heap.size we b eMod∧SuI w we)
 case first =>
  go_region_held3 (fun w'=>w'.cell? ⟨b3,0,none⟩=some (.int .i64 eRead.kind)∧w'.cell? ⟨b3,1,none⟩=some (.string eRead.name)∧w'.cell? ⟨b3,2,none⟩=some (.string op)∧w'.cell? ⟨b3,3,none⟩=some (.int .i64 num)∧w'.cell? ⟨b3,4,none⟩=some (.int .i64 site)∧w'.cell? ⟨b3,5,none⟩=some (.slice xa xn xc)∧w'.cell? ⟨b3,6,none⟩=some (.slice aa eRead.arms.length ca)∧w'.cell? ⟨b3,7,none⟩=some (.slice ab eRead.body.length cb)) (refine⟨?_,?_,?_,?_,?_,?_,?_,?_⟩<;>(repeat (first | assumption | refine zs4 _ ?_ | (rw [World.cell?_setCell_far _ _ _ _ (by simp;omega)])))) ((go_at_call 81;refine(name_any _ _).mono ?_;rintro e w' ⟨rfl,rfl⟩))
  all_goals go_wp2_with fail
  all_goals go_meet
  all_goals
   first
    | exact SuI.fin HT.out HS.out (A3.mk3 wd _ _ _).hb (by omega) (by omega) (A3.mk3 wd _ _ _).h0 (A3.mk3 wd _ _ _).h1 (A3.mk3 wd _ _ _).h2
    | exact SuI.fin HT.out HS.out (A3.mk3 wd _ _ _).hb (by omega) (by omega) (A3.mk3 wd _ _ _).h0 (A3.mk3 wd _ _ _).h2 (A3.mk3 wd _ _ _).h1
    | exact SuI.fin HT.out HS.out (A3.mk3 wd _ _ _).hb (by omega) (by omega) (A3.mk3 wd _ _ _).h1 (A3.mk3 wd _ _ _).h0 (A3.mk3 wd _ _ _).h2
    | exact SuI.fin HT.out HS.out (A3.mk3 wd _ _ _).hb (by omega) (by omega) (A3.mk3 wd _ _ _).h1 (A3.mk3 wd _ _ _).h2 (A3.mk3 wd _ _ _).h0
    | exact SuI.fin HT.out HS.out (A3.mk3 wd _ _ _).hb (by omega) (by omega) (A3.mk3 wd _ _ _).h2 (A3.mk3 wd _ _ _).h0 (A3.mk3 wd _ _ _).h1
    | exact SuI.fin HT.out HS.out (A3.mk3 wd _ _ _).hb (by omega) (by omega) (A3.mk3 wd _ _ _).h2 (A3.mk3 wd _ _ _).h1 (A3.mk3 wd _ _ _).h0
 obtain⟨b4,rfl,hE,hS⟩:=hcut
 clear y0 y1 y2 y3 y4 y5 y6 y7 d0 d1 d2 d3 d4 d5 d6 d7 hb2 hsz HT HS hn1 hn2 hn3 wd
 obtain⟨vs,op,num,site,xa,xn,xc,aa,ab,ca,cb,h8,hT⟩:=hE.e8
 have HS:=zh hS
 have HT:=zh hT
 obtain⟨rfl,y0,y1,y2,y3,y4,y5,y6,y7⟩:=h8
 rename World=>wd
 have d0:=in_drew y0
 have d1:=in_drew y1
 have d2:=in_drew y2
 have d3:=in_drew y3
 have d4:=in_drew y4
 have d5:=in_drew y5
 have d6:=in_drew y6
 have d7:=in_drew y7
 have hb2:b4<wd.heap.size:=zs3 _ _ y0
 have hsz:=HS.out.size
 clear hS hT hE
 go_upto_region 5 with fail
 go_cut [5] from 23 (fun p we=>∃ b,p = .slice (some ⟨b,0,none⟩) 2 2∧(∀ W',KB w.heap.size we W'→TAAt W' (.cons [] eNil (.cons [⟨#[104]⟩,⟨#[116]⟩] eMod .nil)) b 0)∧SuI w we)
 case first =>
  go_wp2_with fail
  go_meet
  refine⟨_,rfl,fun W' hW'=>arms2 (HT.out W' (KB.of (zd (A3.mk0 wd _ _ _).hb) hW')) rfl (fun i x hx=>hW' _ _ ?_ (row8 (A3.mk0 wd _ _ _).h0 i x hx)) (fun i x hx=>hW' _ _ ?_ (row8 (A3.mk0 wd _ _ _).h1 i x hx)) (fun i x hx=>hW' _ _ ?_ (row8 (A3.mk0 wd _ _ _).h2 i x hx)),HS.out.next (A3.mk0 wd _ _ _).hb⟩
  ·simp;omega
  ·simp;omega
  simp;omega
 obtain⟨b5,rfl,hE,hS⟩:=hcut
 clear y0 y1 y2 y3 y4 y5 y6 y7 d0 d1 d2 d3 d4 d5 d6 d7 hb2 hsz HT HS wd
 rename World=>wd
 have HE:=zh hE
 have HS:=zh hS
 have hsz:=HS.out.size
 clear hE hS
 go_upto_region 6 with fail
 go_cut [6] from 31 (fun p we=>∃ b,p = .pointer (some ⟨b,0,none⟩)∧EX w.heap.size we b eSplit∧SuI w we∧b≠w.heap.size)
 case first =>
  go_wp2_with fail
  refine(name_any _ _).mono ?_
  rintro en w1 ⟨rfl,rfl⟩
  go_wp2_with fail
  go_meet
  have hBW:=((zs9 wd.heap.size wd).alloc (zr4 _) (.cells #[.string ⟨#[99]⟩,.int .i64 0] 146)).alloc (by simp) (.cells #[.int .i64 7,.string ⟨#[]⟩,.string ⟨#[]⟩,.int .i64 0,.int .i64 0,.slice (some ⟨wd.heap.size,0,none⟩) 1 1,.slice (some ⟨b5,0,none⟩) 2 2,.slice none 0 0] 27)
  have e2:=zs2 (wd.alloc (.cells #[.string ⟨#[99]⟩,.int .i64 0] 146)) (.cells #[.int .i64 7,.string ⟨#[]⟩,.string ⟨#[]⟩,.int .i64 0,.int .i64 0,.slice (some ⟨wd.heap.size,0,none⟩) 1 1,.slice (some ⟨b5,0,none⟩) 2 2,.slice none 0 0] 27)
  rw [World.size_alloc] at e2
  exact⟨_,rfl,⟨_,row8 e2,TX.split (fun W' hW'=>HE.out W' (KB.of (zd hBW) hW')) rfl (by omega) ((zt2 _ _ _ (by simp)).trans (zs2 wd _))⟩,HS.out.next hBW,by omega⟩
 obtain⟨b6,rfl,hE,hS,hwb0⟩:=hcut
 clear HE HS hsz wd
 obtain⟨vs,op,num,site,xa,xn,xc,aa,ab,ca,cb,h8,hT⟩:=hE.e8
 have HS:=zh hS
 have HT:=zh hT
 obtain⟨rfl,y0,y1,y2,y3,y4,y5,y6,y7⟩:=h8
 rename World=>wd
 have d0:=in_drew y0
 have d1:=in_drew y1
 have d2:=in_drew y2
 have d3:=in_drew y3
 have d4:=in_drew y4
 have d5:=in_drew y5
 have d6:=in_drew y6
 have d7:=in_drew y7
 have hb2:b6<wd.heap.size:=zs3 _ _ y0
 have hsz:=HS.out.size
 clear hS hT hE
 go_upto_region 7 with fail
 have hn1:b6≠wd.heap.size:=by omega
 have hn2:b6≠wd.heap.size+1:=by omega
 have hn3:b6≠wd.heap.size+1+1:=by omega
 have hwb:w.heap.size≠b6:=fun e=>hwb0 e.symm
 clear hwb0
 go_cut [0] from 34 (fun p we=>p = .pointer (some ⟨w.heap.size,0,none⟩)∧SuR w we)
 case first =>
  refine wp_region_held_drew (S:=(fun w'=>w'.cell? ⟨b6,0,none⟩=some (.int .i64 eSplit.kind)∧w'.cell? ⟨b6,1,none⟩=some (.string eSplit.name)∧w'.cell? ⟨b6,2,none⟩=some (.string op)∧w'.cell? ⟨b6,3,none⟩=some (.int .i64 num)∧w'.cell? ⟨b6,4,none⟩=some (.int .i64 site)∧w'.cell? ⟨b6,5,none⟩=some (.slice xa xn xc)∧w'.cell? ⟨b6,6,none⟩=some (.slice aa eSplit.arms.length ca)∧w'.cell? ⟨b6,7,none⟩=some (.slice ab eSplit.body.length cb))) (by kernel_rfl) ⟨d0,d1,d2,d3,d4,d5,d6,d7⟩ (fun hHeld=>?_)
  obtain⟨k0,k1,k2,k3,k4,k5,k6,k7⟩:=hHeld
  refine zs5 (i:=0) (v:=?_) rfl (by kernel_rfl) (by kernel_rfl) (by kernel_rfl) (fun _ _ _ h=>h) (Or.inl ⟨by rfl,?_⟩) ⟨k0,k1,k2,k3,k4,k5,k6,k7⟩ ?_
  rotate_left
  ·intro wz hSw
   obtain⟨zk0,zk1,zk2,zk3,zk4,zk5,zk6,zk7⟩:=hSw
   try simp only [zq1,zq2,zq3]
   go_simp
   try with_reducible rfl
  try simp only [Act.put,zq1,zq2,zq3,zq4,zq5,zq6]
  refine zs5 (i:=3) (v:=?_) rfl (by kernel_rfl) (by kernel_rfl) (by kernel_rfl) (fun _ _ _ h=>h) (Or.inl ⟨by rfl,?_⟩) ⟨k0,k1,k2,k3,k4,k5,k6,k7⟩ ?_
  rotate_left
  ·intro wz hSw
   obtain⟨zk0,zk1,zk2,zk3,zk4,zk5,zk6,zk7⟩:=hSw
   try simp only [zq1,zq2,zq3]
   go_simp
   try with_reducible rfl
  try simp only [Act.put,zq1,zq2,zq3,zq4,zq5,zq6]
  refine zs6 (rs:=[1,2,4]) (by kernel_rfl) (by simp) ?_
  refine zs7 rfl (fun K hK=>?_) ?_
  ·try simp only [zq1,zq2,zq3]
   go_simp
   refine hK.out _ _ ?hs (fun hHeld=>?_)
   case hs=>first | exact⟨alloc_d k0,alloc_d k1,alloc_d k2,alloc_d k3,alloc_d k4,alloc_d k5,alloc_d k6,alloc_d k7⟩ | exact⟨zs4 _ k0,zs4 _ k1,zs4 _ k2,zs4 _ k3,zs4 _ k4,zs4 _ k5,zs4 _ k6,zs4 _ k7⟩
   clear hK K k0 k1 k2 k3 k4 k5 k6 k7
   obtain⟨k0,k1,k2,k3,k4,k5,k6,k7⟩:=hHeld
   try simp only [Act.put,zq1,zq2,zq3,zq4,zq5,zq6]
   refine zs6 (rs:=[2,4]) (by kernel_rfl) (by simp) ?_
   refine zs7 rfl (fun K hK=>?_) ?_
   ·try simp only [zq1,zq2,zq3]
    go_simp
    go_at_call 81
    refine(name_any _ _).mono ?_
    rintro e w' ⟨rfl,rfl⟩
    (try simp only [])
    refine hK.out _ _ ?hs (fun hHeld=>?_)
    case hs=>first | exact⟨alloc_d k0,alloc_d k1,alloc_d k2,alloc_d k3,alloc_d k4,alloc_d k5,alloc_d k6,alloc_d k7⟩ | exact⟨zs4 _ k0,zs4 _ k1,zs4 _ k2,zs4 _ k3,zs4 _ k4,zs4 _ k5,zs4 _ k6,zs4 _ k7⟩
    clear hK K k0 k1 k2 k3 k4 k5 k6 k7
    obtain⟨k0,k1,k2,k3,k4,k5,k6,k7⟩:=hHeld
    try simp only [Act.put,zq1,zq2,zq3,zq4,zq5,zq6]
    refine zs6 (rs:=[4]) (by kernel_rfl) (by simp) ?_
    refine zs7 rfl (fun K hK=>?_) ?_
    ·try simp only [zq1,zq2,zq3]
     go_simp
     refine hK.out _ _ ?hs (fun hHeld=>?_)
     case hs=>first | exact⟨alloc_d k0,alloc_d k1,alloc_d k2,alloc_d k3,alloc_d k4,alloc_d k5,alloc_d k6,alloc_d k7⟩ | exact⟨zs4 _ k0,zs4 _ k1,zs4 _ k2,zs4 _ k3,zs4 _ k4,zs4 _ k5,zs4 _ k6,zs4 _ k7⟩
     clear hK K k0 k1 k2 k3 k4 k5 k6 k7
     obtain⟨k0,k1,k2,k3,k4,k5,k6,k7⟩:=hHeld
     try simp only [Act.put,zq1,zq2,zq3,zq4,zq5,zq6]
     refine zs5 (i:=5) (v:=?_) rfl (by kernel_rfl) (by kernel_rfl) (by kernel_rfl) (fun _ _ _ h=>h) (Or.inl ⟨by rfl,?_⟩) ⟨k0,k1,k2,k3,k4,k5,k6,k7⟩ ?_
     rotate_left
     ·intro wz hSw
      obtain⟨zk0,zk1,zk2,zk3,zk4,zk5,zk6,zk7⟩:=hSw
      try simp only [zq1,zq2,zq3]
      go_simp
      try with_reducible rfl
     try simp only [Act.put,zq1,zq2,zq3,zq4,zq5,zq6]
     refine zs5 (i:=6) (v:=?_) rfl (by kernel_rfl) (by kernel_rfl) (by kernel_rfl) (fun _ _ _ h=>h) (Or.inl ⟨by rfl,?_⟩) ⟨k0,k1,k2,k3,k4,k5,k6,k7⟩ ?_
     rotate_left
     ·intro wz hSw
      obtain⟨zk0,zk1,zk2,zk3,zk4,zk5,zk6,zk7⟩:=hSw
      try simp only [zq1,zq2,zq3]
      go_simp
      try with_reducible rfl
     try simp only [Act.put,zq1,zq2,zq3,zq4,zq5,zq6]
     refine zs6 (rs:=[7]) (by kernel_rfl) (by simp) ?_
     refine zs7 rfl (fun K hK=>?_) zs8
     rw [if_pos (by rfl)]
     try simp only [zq1,zq2,zq3]
     refine wp_store_mid 29 _ _ rfl w.heap.size 0 _ rfl rfl (HS.out.there (A3.mk3 wd _ _ _).hb) Tryz.info29 (by simp [Value.oneCell']) ?_
     refine hK.out _ _ ?hs (fun _=>?_)
     case hs=>exact⟨zi hwb k0,zi hwb k1,zi hwb k2,zi hwb k3,zi hwb k4,zi hwb k5,zi hwb k6,zi hwb k7⟩
     clear hK K
     refine wpAnyH_done (by kernel_rfl) ?_ _
     simp only [Act.put]
     go_wp2_with fail
     go_meet
     refine⟨rfl,?_⟩
     first
      | exact SuI.last HT.out HS.out (A3.mk3 wd _ _ _).hb (by omega) (by omega) (by omega) (A3.mk3 wd _ _ _).h0 (A3.mk3 wd _ _ _).h1 (A3.mk3 wd _ _ _).h2
      | exact SuI.last HT.out HS.out (A3.mk3 wd _ _ _).hb (by omega) (by omega) (by omega) (A3.mk3 wd _ _ _).h0 (A3.mk3 wd _ _ _).h2 (A3.mk3 wd _ _ _).h1
      | exact SuI.last HT.out HS.out (A3.mk3 wd _ _ _).hb (by omega) (by omega) (by omega) (A3.mk3 wd _ _ _).h1 (A3.mk3 wd _ _ _).h0 (A3.mk3 wd _ _ _).h2
      | exact SuI.last HT.out HS.out (A3.mk3 wd _ _ _).hb (by omega) (by omega) (by omega) (A3.mk3 wd _ _ _).h1 (A3.mk3 wd _ _ _).h2 (A3.mk3 wd _ _ _).h0
      | exact SuI.last HT.out HS.out (A3.mk3 wd _ _ _).hb (by omega) (by omega) (by omega) (A3.mk3 wd _ _ _).h2 (A3.mk3 wd _ _ _).h0 (A3.mk3 wd _ _ _).h1
      | exact SuI.last HT.out HS.out (A3.mk3 wd _ _ _).hb (by omega) (by omega) (by omega) (A3.mk3 wd _ _ _).h2 (A3.mk3 wd _ _ _).h1 (A3.mk3 wd _ _ _).h0
    exact zs8
   refine zs7 rfl (fun K hK=>?_) ?_
   ·try simp only [zq1,zq2,zq3]
    go_simp
    refine hK.out _ _ ?hs (fun hHeld=>?_)
    case hs=>first | exact⟨alloc_d k0,alloc_d k1,alloc_d k2,alloc_d k3,alloc_d k4,alloc_d k5,alloc_d k6,alloc_d k7⟩ | exact⟨zs4 _ k0,zs4 _ k1,zs4 _ k2,zs4 _ k3,zs4 _ k4,zs4 _ k5,zs4 _ k6,zs4 _ k7⟩
    clear hK K k0 k1 k2 k3 k4 k5 k6 k7
    obtain⟨k0,k1,k2,k3,k4,k5,k6,k7⟩:=hHeld
    try simp only [Act.put,zq1,zq2,zq3,zq4,zq5,zq6]
    refine zs6 (rs:=[2]) (by kernel_rfl) (by simp) ?_
    refine zs7 rfl (fun K hK=>?_) ?_
    ·try simp only [zq1,zq2,zq3]
     go_simp
     go_at_call 81
     refine(name_any _ _).mono ?_
     rintro e w' ⟨rfl,rfl⟩
     (try simp only [])
     refine hK.out _ _ ?hs (fun hHeld=>?_)
     case hs=>first | exact⟨alloc_d k0,alloc_d k1,alloc_d k2,alloc_d k3,alloc_d k4,alloc_d k5,alloc_d k6,alloc_d k7⟩ | exact⟨zs4 _ k0,zs4 _ k1,zs4 _ k2,zs4 _ k3,zs4 _ k4,zs4 _ k5,zs4 _ k6,zs4 _ k7⟩
     clear hK K k0 k1 k2 k3 k4 k5 k6 k7
     obtain⟨k0,k1,k2,k3,k4,k5,k6,k7⟩:=hHeld
     try simp only [Act.put,zq1,zq2,zq3,zq4,zq5,zq6]
     refine zs5 (i:=5) (v:=?_) rfl (by kernel_rfl) (by kernel_rfl) (by kernel_rfl) (fun _ _ _ h=>h) (Or.inl ⟨by rfl,?_⟩) ⟨k0,k1,k2,k3,k4,k5,k6,k7⟩ ?_
     rotate_left
     ·intro wz hSw
      obtain⟨zk0,zk1,zk2,zk3,zk4,zk5,zk6,zk7⟩:=hSw
      try simp only [zq1,zq2,zq3]
      go_simp
      try with_reducible rfl
     try simp only [Act.put,zq1,zq2,zq3,zq4,zq5,zq6]
     refine zs5 (i:=6) (v:=?_) rfl (by kernel_rfl) (by kernel_rfl) (by kernel_rfl) (fun _ _ _ h=>h) (Or.inl ⟨by rfl,?_⟩) ⟨k0,k1,k2,k3,k4,k5,k6,k7⟩ ?_
     rotate_left
     ·intro wz hSw
      obtain⟨zk0,zk1,zk2,zk3,zk4,zk5,zk6,zk7⟩:=hSw
      try simp only [zq1,zq2,zq3]
      go_simp
      try with_reducible rfl
     try simp only [Act.put,zq1,zq2,zq3,zq4,zq5,zq6]
     refine zs6 (rs:=[7]) (by kernel_rfl) (by simp) ?_
     refine zs7 rfl (fun K hK=>?_) zs8
     rw [if_pos (by rfl)]
     try simp only [zq1,zq2,zq3]
     refine wp_store_mid 29 _ _ rfl w.heap.size 0 _ rfl rfl (HS.out.there (A3.mk3 wd _ _ _).hb) Tryz.info29 (by simp [Value.oneCell']) ?_
     refine hK.out _ _ ?hs (fun _=>?_)
     case hs=>exact⟨zi hwb k0,zi hwb k1,zi hwb k2,zi hwb k3,zi hwb k4,zi hwb k5,zi hwb k6,zi hwb k7⟩
     clear hK K
     refine wpAnyH_done (by kernel_rfl) ?_ _
     simp only [Act.put]
     go_wp2_with fail
     go_meet
     refine⟨rfl,?_⟩
     first
      | exact SuI.last HT.out HS.out (A3.mk3 wd _ _ _).hb (by omega) (by omega) (by omega) (A3.mk3 wd _ _ _).h0 (A3.mk3 wd _ _ _).h1 (A3.mk3 wd _ _ _).h2
      | exact SuI.last HT.out HS.out (A3.mk3 wd _ _ _).hb (by omega) (by omega) (by omega) (A3.mk3 wd _ _ _).h0 (A3.mk3 wd _ _ _).h2 (A3.mk3 wd _ _ _).h1
      | exact SuI.last HT.out HS.out (A3.mk3 wd _ _ _).hb (by omega) (by omega) (by omega) (A3.mk3 wd _ _ _).h1 (A3.mk3 wd _ _ _).h0 (A3.mk3 wd _ _ _).h2
      | exact SuI.last HT.out HS.out (A3.mk3 wd _ _ _).hb (by omega) (by omega) (by omega) (A3.mk3 wd _ _ _).h1 (A3.mk3 wd _ _ _).h2 (A3.mk3 wd _ _ _).h0
      | exact SuI.last HT.out HS.out (A3.mk3 wd _ _ _).hb (by omega) (by omega) (by omega) (A3.mk3 wd _ _ _).h2 (A3.mk3 wd _ _ _).h0 (A3.mk3 wd _ _ _).h1
      | exact SuI.last HT.out HS.out (A3.mk3 wd _ _ _).hb (by omega) (by omega) (by omega) (A3.mk3 wd _ _ _).h2 (A3.mk3 wd _ _ _).h1 (A3.mk3 wd _ _ _).h0
    exact zs8
   exact zs8
  refine zs7 rfl (fun K hK=>?_) ?_
  ·try simp only [zq1,zq2,zq3]
   go_simp
   go_at_call 81
   refine(name_any _ _).mono ?_
   rintro e w' ⟨rfl,rfl⟩
   (try simp only [])
   refine hK.out _ _ ?hs (fun hHeld=>?_)
   case hs=>first | exact⟨alloc_d k0,alloc_d k1,alloc_d k2,alloc_d k3,alloc_d k4,alloc_d k5,alloc_d k6,alloc_d k7⟩ | exact⟨zs4 _ k0,zs4 _ k1,zs4 _ k2,zs4 _ k3,zs4 _ k4,zs4 _ k5,zs4 _ k6,zs4 _ k7⟩
   clear hK K k0 k1 k2 k3 k4 k5 k6 k7
   obtain⟨k0,k1,k2,k3,k4,k5,k6,k7⟩:=hHeld
   try simp only [Act.put,zq1,zq2,zq3,zq4,zq5,zq6]
   refine zs6 (rs:=[1,4]) (by kernel_rfl) (by simp) ?_
   refine zs7 rfl (fun K hK=>?_) ?_
   ·try simp only [zq1,zq2,zq3]
    go_simp
    refine hK.out _ _ ?hs (fun hHeld=>?_)
    case hs=>first | exact⟨alloc_d k0,alloc_d k1,alloc_d k2,alloc_d k3,alloc_d k4,alloc_d k5,alloc_d k6,alloc_d k7⟩ | exact⟨zs4 _ k0,zs4 _ k1,zs4 _ k2,zs4 _ k3,zs4 _ k4,zs4 _ k5,zs4 _ k6,zs4 _ k7⟩
    clear hK K k0 k1 k2 k3 k4 k5 k6 k7
    obtain⟨k0,k1,k2,k3,k4,k5,k6,k7⟩:=hHeld
    try simp only [Act.put,zq1,zq2,zq3,zq4,zq5,zq6]
    refine zs6 (rs:=[4]) (by kernel_rfl) (by simp) ?_
    refine zs7 rfl (fun K hK=>?_) ?_
    ·try simp only [zq1,zq2,zq3]
     go_simp
     refine hK.out _ _ ?hs (fun hHeld=>?_)
     case hs=>first | exact⟨alloc_d k0,alloc_d k1,alloc_d k2,alloc_d k3,alloc_d k4,alloc_d k5,alloc_d k6,alloc_d k7⟩ | exact⟨zs4 _ k0,zs4 _ k1,zs4 _ k2,zs4 _ k3,zs4 _ k4,zs4 _ k5,zs4 _ k6,zs4 _ k7⟩
     clear hK K k0 k1 k2 k3 k4 k5 k6 k7
     obtain⟨k0,k1,k2,k3,k4,k5,k6,k7⟩:=hHeld
     try simp only [Act.put,zq1,zq2,zq3,zq4,zq5,zq6]
     refine zs5 (i:=5) (v:=?_) rfl (by kernel_rfl) (by kernel_rfl) (by kernel_rfl) (fun _ _ _ h=>h) (Or.inl ⟨by rfl,?_⟩) ⟨k0,k1,k2,k3,k4,k5,k6,k7⟩ ?_
     rotate_left
     ·intro wz hSw
      obtain⟨zk0,zk1,zk2,zk3,zk4,zk5,zk6,zk7⟩:=hSw
      try simp only [zq1,zq2,zq3]
      go_simp
      try with_reducible rfl
     try simp only [Act.put,zq1,zq2,zq3,zq4,zq5,zq6]
     refine zs5 (i:=6) (v:=?_) rfl (by kernel_rfl) (by kernel_rfl) (by kernel_rfl) (fun _ _ _ h=>h) (Or.inl ⟨by rfl,?_⟩) ⟨k0,k1,k2,k3,k4,k5,k6,k7⟩ ?_
     rotate_left
     ·intro wz hSw
      obtain⟨zk0,zk1,zk2,zk3,zk4,zk5,zk6,zk7⟩:=hSw
      try simp only [zq1,zq2,zq3]
      go_simp
      try with_reducible rfl
     try simp only [Act.put,zq1,zq2,zq3,zq4,zq5,zq6]
     refine zs6 (rs:=[7]) (by kernel_rfl) (by simp) ?_
     refine zs7 rfl (fun K hK=>?_) zs8
     rw [if_pos (by rfl)]
     try simp only [zq1,zq2,zq3]
     refine wp_store_mid 29 _ _ rfl w.heap.size 0 _ rfl rfl (HS.out.there (A3.mk3 wd _ _ _).hb) Tryz.info29 (by simp [Value.oneCell']) ?_
     refine hK.out _ _ ?hs (fun _=>?_)
     case hs=>exact⟨zi hwb k0,zi hwb k1,zi hwb k2,zi hwb k3,zi hwb k4,zi hwb k5,zi hwb k6,zi hwb k7⟩
     clear hK K
     refine wpAnyH_done (by kernel_rfl) ?_ _
     simp only [Act.put]
     go_wp2_with fail
     go_meet
     refine⟨rfl,?_⟩
     first
      | exact SuI.last HT.out HS.out (A3.mk3 wd _ _ _).hb (by omega) (by omega) (by omega) (A3.mk3 wd _ _ _).h0 (A3.mk3 wd _ _ _).h1 (A3.mk3 wd _ _ _).h2
      | exact SuI.last HT.out HS.out (A3.mk3 wd _ _ _).hb (by omega) (by omega) (by omega) (A3.mk3 wd _ _ _).h0 (A3.mk3 wd _ _ _).h2 (A3.mk3 wd _ _ _).h1
      | exact SuI.last HT.out HS.out (A3.mk3 wd _ _ _).hb (by omega) (by omega) (by omega) (A3.mk3 wd _ _ _).h1 (A3.mk3 wd _ _ _).h0 (A3.mk3 wd _ _ _).h2
      | exact SuI.last HT.out HS.out (A3.mk3 wd _ _ _).hb (by omega) (by omega) (by omega) (A3.mk3 wd _ _ _).h1 (A3.mk3 wd _ _ _).h2 (A3.mk3 wd _ _ _).h0
      | exact SuI.last HT.out HS.out (A3.mk3 wd _ _ _).hb (by omega) (by omega) (by omega) (A3.mk3 wd _ _ _).h2 (A3.mk3 wd _ _ _).h0 (A3.mk3 wd _ _ _).h1
      | exact SuI.last HT.out HS.out (A3.mk3 wd _ _ _).hb (by omega) (by omega) (by omega) (A3.mk3 wd _ _ _).h2 (A3.mk3 wd _ _ _).h1 (A3.mk3 wd _ _ _).h0
    exact zs8
   refine zs7 rfl (fun K hK=>?_) ?_
   ·try simp only [zq1,zq2,zq3]
    go_simp
    refine hK.out _ _ ?hs (fun hHeld=>?_)
    case hs=>first | exact⟨alloc_d k0,alloc_d k1,alloc_d k2,alloc_d k3,alloc_d k4,alloc_d k5,alloc_d k6,alloc_d k7⟩ | exact⟨zs4 _ k0,zs4 _ k1,zs4 _ k2,zs4 _ k3,zs4 _ k4,zs4 _ k5,zs4 _ k6,zs4 _ k7⟩
    clear hK K k0 k1 k2 k3 k4 k5 k6 k7
    obtain⟨k0,k1,k2,k3,k4,k5,k6,k7⟩:=hHeld
    try simp only [Act.put,zq1,zq2,zq3,zq4,zq5,zq6]
    refine zs5 (i:=5) (v:=?_) rfl (by kernel_rfl) (by kernel_rfl) (by kernel_rfl) (fun _ _ _ h=>h) (Or.inl ⟨by rfl,?_⟩) ⟨k0,k1,k2,k3,k4,k5,k6,k7⟩ ?_
    rotate_left
    ·intro wz hSw
     obtain⟨zk0,zk1,zk2,zk3,zk4,zk5,zk6,zk7⟩:=hSw
     try simp only [zq1,zq2,zq3]
     go_simp
     try with_reducible rfl
    try simp only [Act.put,zq1,zq2,zq3,zq4,zq5,zq6]
    refine zs6 (rs:=[1]) (by kernel_rfl) (by simp) ?_
    refine zs7 rfl (fun K hK=>?_) ?_
    ·try simp only [zq1,zq2,zq3]
     go_simp
     refine hK.out _ _ ?hs (fun hHeld=>?_)
     case hs=>first | exact⟨alloc_d k0,alloc_d k1,alloc_d k2,alloc_d k3,alloc_d k4,alloc_d k5,alloc_d k6,alloc_d k7⟩ | exact⟨zs4 _ k0,zs4 _ k1,zs4 _ k2,zs4 _ k3,zs4 _ k4,zs4 _ k5,zs4 _ k6,zs4 _ k7⟩
     clear hK K k0 k1 k2 k3 k4 k5 k6 k7
     obtain⟨k0,k1,k2,k3,k4,k5,k6,k7⟩:=hHeld
     try simp only [Act.put,zq1,zq2,zq3,zq4,zq5,zq6]
     refine zs5 (i:=6) (v:=?_) rfl (by kernel_rfl) (by kernel_rfl) (by kernel_rfl) (fun _ _ _ h=>h) (Or.inl ⟨by rfl,?_⟩) ⟨k0,k1,k2,k3,k4,k5,k6,k7⟩ ?_
     rotate_left
     ·intro wz hSw
      obtain⟨zk0,zk1,zk2,zk3,zk4,zk5,zk6,zk7⟩:=hSw
      try simp only [zq1,zq2,zq3]
      go_simp
      try with_reducible rfl
     try simp only [Act.put,zq1,zq2,zq3,zq4,zq5,zq6]
     refine zs6 (rs:=[7]) (by kernel_rfl) (by simp) ?_
     refine zs7 rfl (fun K hK=>?_) zs8
     rw [if_pos (by rfl)]
     try simp only [zq1,zq2,zq3]
     refine wp_store_mid 29 _ _ rfl w.heap.size 0 _ rfl rfl (HS.out.there (A3.mk3 wd _ _ _).hb) Tryz.info29 (by simp [Value.oneCell']) ?_
     refine hK.out _ _ ?hs (fun _=>?_)
     case hs=>exact⟨zi hwb k0,zi hwb k1,zi hwb k2,zi hwb k3,zi hwb k4,zi hwb k5,zi hwb k6,zi hwb k7⟩
     clear hK K
     refine wpAnyH_done (by kernel_rfl) ?_ _
     simp only [Act.put]
     go_wp2_with fail
     go_meet
     refine⟨rfl,?_⟩
     first
      | exact SuI.last HT.out HS.out (A3.mk3 wd _ _ _).hb (by omega) (by omega) (by omega) (A3.mk3 wd _ _ _).h0 (A3.mk3 wd _ _ _).h1 (A3.mk3 wd _ _ _).h2
      | exact SuI.last HT.out HS.out (A3.mk3 wd _ _ _).hb (by omega) (by omega) (by omega) (A3.mk3 wd _ _ _).h0 (A3.mk3 wd _ _ _).h2 (A3.mk3 wd _ _ _).h1
      | exact SuI.last HT.out HS.out (A3.mk3 wd _ _ _).hb (by omega) (by omega) (by omega) (A3.mk3 wd _ _ _).h1 (A3.mk3 wd _ _ _).h0 (A3.mk3 wd _ _ _).h2
      | exact SuI.last HT.out HS.out (A3.mk3 wd _ _ _).hb (by omega) (by omega) (by omega) (A3.mk3 wd _ _ _).h1 (A3.mk3 wd _ _ _).h2 (A3.mk3 wd _ _ _).h0
      | exact SuI.last HT.out HS.out (A3.mk3 wd _ _ _).hb (by omega) (by omega) (by omega) (A3.mk3 wd _ _ _).h2 (A3.mk3 wd _ _ _).h0 (A3.mk3 wd _ _ _).h1
      | exact SuI.last HT.out HS.out (A3.mk3 wd _ _ _).hb (by omega) (by omega) (by omega) (A3.mk3 wd _ _ _).h2 (A3.mk3 wd _ _ _).h1 (A3.mk3 wd _ _ _).h0
    exact zs8
   exact zs8
  refine zs7 rfl (fun K hK=>?_) ?_
  ·try simp only [zq1,zq2,zq3]
   go_simp
   refine hK.out _ _ ?hs (fun hHeld=>?_)
   case hs=>first | exact⟨alloc_d k0,alloc_d k1,alloc_d k2,alloc_d k3,alloc_d k4,alloc_d k5,alloc_d k6,alloc_d k7⟩ | exact⟨zs4 _ k0,zs4 _ k1,zs4 _ k2,zs4 _ k3,zs4 _ k4,zs4 _ k5,zs4 _ k6,zs4 _ k7⟩
   clear hK K k0 k1 k2 k3 k4 k5 k6 k7
   obtain⟨k0,k1,k2,k3,k4,k5,k6,k7⟩:=hHeld
   try simp only [Act.put,zq1,zq2,zq3,zq4,zq5,zq6]
   refine zs6 (rs:=[1,2]) (by kernel_rfl) (by simp) ?_
   refine zs7 rfl (fun K hK=>?_) ?_
   ·try simp only [zq1,zq2,zq3]
    go_simp
    refine hK.out _ _ ?hs (fun hHeld=>?_)
    case hs=>first | exact⟨alloc_d k0,alloc_d k1,alloc_d k2,alloc_d k3,alloc_d k4,alloc_d k5,alloc_d k6,alloc_d k7⟩ | exact⟨zs4 _ k0,zs4 _ k1,zs4 _ k2,zs4 _ k3,zs4 _ k4,zs4 _ k5,zs4 _ k6,zs4 _ k7⟩
    clear hK K k0 k1 k2 k3 k4 k5 k6 k7
    obtain⟨k0,k1,k2,k3,k4,k5,k6,k7⟩:=hHeld
    try simp only [Act.put,zq1,zq2,zq3,zq4,zq5,zq6]
    refine zs6 (rs:=[2]) (by kernel_rfl) (by simp) ?_
    refine zs7 rfl (fun K hK=>?_) ?_
    ·try simp only [zq1,zq2,zq3]
     go_simp
     go_at_call 81
     refine(name_any _ _).mono ?_
     rintro e w' ⟨rfl,rfl⟩
     (try simp only [])
     refine hK.out _ _ ?hs (fun hHeld=>?_)
     case hs=>first | exact⟨alloc_d k0,alloc_d k1,alloc_d k2,alloc_d k3,alloc_d k4,alloc_d k5,alloc_d k6,alloc_d k7⟩ | exact⟨zs4 _ k0,zs4 _ k1,zs4 _ k2,zs4 _ k3,zs4 _ k4,zs4 _ k5,zs4 _ k6,zs4 _ k7⟩
     clear hK K k0 k1 k2 k3 k4 k5 k6 k7
     obtain⟨k0,k1,k2,k3,k4,k5,k6,k7⟩:=hHeld
     try simp only [Act.put,zq1,zq2,zq3,zq4,zq5,zq6]
     refine zs5 (i:=5) (v:=?_) rfl (by kernel_rfl) (by kernel_rfl) (by kernel_rfl) (fun _ _ _ h=>h) (Or.inl ⟨by rfl,?_⟩) ⟨k0,k1,k2,k3,k4,k5,k6,k7⟩ ?_
     rotate_left
     ·intro wz hSw
      obtain⟨zk0,zk1,zk2,zk3,zk4,zk5,zk6,zk7⟩:=hSw
      try simp only [zq1,zq2,zq3]
      go_simp
      try with_reducible rfl
     try simp only [Act.put,zq1,zq2,zq3,zq4,zq5,zq6]
     refine zs5 (i:=6) (v:=?_) rfl (by kernel_rfl) (by kernel_rfl) (by kernel_rfl) (fun _ _ _ h=>h) (Or.inl ⟨by rfl,?_⟩) ⟨k0,k1,k2,k3,k4,k5,k6,k7⟩ ?_
     rotate_left
     ·intro wz hSw
      obtain⟨zk0,zk1,zk2,zk3,zk4,zk5,zk6,zk7⟩:=hSw
      try simp only [zq1,zq2,zq3]
      go_simp
      try with_reducible rfl
     try simp only [Act.put,zq1,zq2,zq3,zq4,zq5,zq6]
     refine zs6 (rs:=[7]) (by kernel_rfl) (by simp) ?_
     refine zs7 rfl (fun K hK=>?_) zs8
     rw [if_pos (by rfl)]
     try simp only [zq1,zq2,zq3]
     refine wp_store_mid 29 _ _ rfl w.heap.size 0 _ rfl rfl (HS.out.there (A3.mk3 wd _ _ _).hb) Tryz.info29 (by simp [Value.oneCell']) ?_
     refine hK.out _ _ ?hs (fun _=>?_)
     case hs=>exact⟨zi hwb k0,zi hwb k1,zi hwb k2,zi hwb k3,zi hwb k4,zi hwb k5,zi hwb k6,zi hwb k7⟩
     clear hK K
     refine wpAnyH_done (by kernel_rfl) ?_ _
     simp only [Act.put]
     go_wp2_with fail
     go_meet
     refine⟨rfl,?_⟩
     first
      | exact SuI.last HT.out HS.out (A3.mk3 wd _ _ _).hb (by omega) (by omega) (by omega) (A3.mk3 wd _ _ _).h0 (A3.mk3 wd _ _ _).h1 (A3.mk3 wd _ _ _).h2
      | exact SuI.last HT.out HS.out (A3.mk3 wd _ _ _).hb (by omega) (by omega) (by omega) (A3.mk3 wd _ _ _).h0 (A3.mk3 wd _ _ _).h2 (A3.mk3 wd _ _ _).h1
      | exact SuI.last HT.out HS.out (A3.mk3 wd _ _ _).hb (by omega) (by omega) (by omega) (A3.mk3 wd _ _ _).h1 (A3.mk3 wd _ _ _).h0 (A3.mk3 wd _ _ _).h2
      | exact SuI.last HT.out HS.out (A3.mk3 wd _ _ _).hb (by omega) (by omega) (by omega) (A3.mk3 wd _ _ _).h1 (A3.mk3 wd _ _ _).h2 (A3.mk3 wd _ _ _).h0
      | exact SuI.last HT.out HS.out (A3.mk3 wd _ _ _).hb (by omega) (by omega) (by omega) (A3.mk3 wd _ _ _).h2 (A3.mk3 wd _ _ _).h0 (A3.mk3 wd _ _ _).h1
      | exact SuI.last HT.out HS.out (A3.mk3 wd _ _ _).hb (by omega) (by omega) (by omega) (A3.mk3 wd _ _ _).h2 (A3.mk3 wd _ _ _).h1 (A3.mk3 wd _ _ _).h0
    exact zs8
   refine zs7 rfl (fun K hK=>?_) ?_
   ·try simp only [zq1,zq2,zq3]
    go_simp
    go_at_call 81
    refine(name_any _ _).mono ?_
    rintro e w' ⟨rfl,rfl⟩
    (try simp only [])
    refine hK.out _ _ ?hs (fun hHeld=>?_)
    case hs=>first | exact⟨alloc_d k0,alloc_d k1,alloc_d k2,alloc_d k3,alloc_d k4,alloc_d k5,alloc_d k6,alloc_d k7⟩ | exact⟨zs4 _ k0,zs4 _ k1,zs4 _ k2,zs4 _ k3,zs4 _ k4,zs4 _ k5,zs4 _ k6,zs4 _ k7⟩
    clear hK K k0 k1 k2 k3 k4 k5 k6 k7
    obtain⟨k0,k1,k2,k3,k4,k5,k6,k7⟩:=hHeld
    try simp only [Act.put,zq1,zq2,zq3,zq4,zq5,zq6]
    refine zs5 (i:=5) (v:=?_) rfl (by kernel_rfl) (by kernel_rfl) (by kernel_rfl) (fun _ _ _ h=>h) (Or.inl ⟨by rfl,?_⟩) ⟨k0,k1,k2,k3,k4,k5,k6,k7⟩ ?_
    rotate_left
    ·intro wz hSw
     obtain⟨zk0,zk1,zk2,zk3,zk4,zk5,zk6,zk7⟩:=hSw
     try simp only [zq1,zq2,zq3]
     go_simp
     try with_reducible rfl
    try simp only [Act.put,zq1,zq2,zq3,zq4,zq5,zq6]
    refine zs6 (rs:=[1]) (by kernel_rfl) (by simp) ?_
    refine zs7 rfl (fun K hK=>?_) ?_
    ·try simp only [zq1,zq2,zq3]
     go_simp
     refine hK.out _ _ ?hs (fun hHeld=>?_)
     case hs=>first | exact⟨alloc_d k0,alloc_d k1,alloc_d k2,alloc_d k3,alloc_d k4,alloc_d k5,alloc_d k6,alloc_d k7⟩ | exact⟨zs4 _ k0,zs4 _ k1,zs4 _ k2,zs4 _ k3,zs4 _ k4,zs4 _ k5,zs4 _ k6,zs4 _ k7⟩
     clear hK K k0 k1 k2 k3 k4 k5 k6 k7
     obtain⟨k0,k1,k2,k3,k4,k5,k6,k7⟩:=hHeld
     try simp only [Act.put,zq1,zq2,zq3,zq4,zq5,zq6]
     refine zs5 (i:=6) (v:=?_) rfl (by kernel_rfl) (by kernel_rfl) (by kernel_rfl) (fun _ _ _ h=>h) (Or.inl ⟨by rfl,?_⟩) ⟨k0,k1,k2,k3,k4,k5,k6,k7⟩ ?_
     rotate_left
     ·intro wz hSw
      obtain⟨zk0,zk1,zk2,zk3,zk4,zk5,zk6,zk7⟩:=hSw
      try simp only [zq1,zq2,zq3]
      go_simp
      try with_reducible rfl
     try simp only [Act.put,zq1,zq2,zq3,zq4,zq5,zq6]
     refine zs6 (rs:=[7]) (by kernel_rfl) (by simp) ?_
     refine zs7 rfl (fun K hK=>?_) zs8
     rw [if_pos (by rfl)]
     try simp only [zq1,zq2,zq3]
     refine wp_store_mid 29 _ _ rfl w.heap.size 0 _ rfl rfl (HS.out.there (A3.mk3 wd _ _ _).hb) Tryz.info29 (by simp [Value.oneCell']) ?_
     refine hK.out _ _ ?hs (fun _=>?_)
     case hs=>exact⟨zi hwb k0,zi hwb k1,zi hwb k2,zi hwb k3,zi hwb k4,zi hwb k5,zi hwb k6,zi hwb k7⟩
     clear hK K
     refine wpAnyH_done (by kernel_rfl) ?_ _
     simp only [Act.put]
     go_wp2_with fail
     go_meet
     refine⟨rfl,?_⟩
     first
      | exact SuI.last HT.out HS.out (A3.mk3 wd _ _ _).hb (by omega) (by omega) (by omega) (A3.mk3 wd _ _ _).h0 (A3.mk3 wd _ _ _).h1 (A3.mk3 wd _ _ _).h2
      | exact SuI.last HT.out HS.out (A3.mk3 wd _ _ _).hb (by omega) (by omega) (by omega) (A3.mk3 wd _ _ _).h0 (A3.mk3 wd _ _ _).h2 (A3.mk3 wd _ _ _).h1
      | exact SuI.last HT.out HS.out (A3.mk3 wd _ _ _).hb (by omega) (by omega) (by omega) (A3.mk3 wd _ _ _).h1 (A3.mk3 wd _ _ _).h0 (A3.mk3 wd _ _ _).h2
      | exact SuI.last HT.out HS.out (A3.mk3 wd _ _ _).hb (by omega) (by omega) (by omega) (A3.mk3 wd _ _ _).h1 (A3.mk3 wd _ _ _).h2 (A3.mk3 wd _ _ _).h0
      | exact SuI.last HT.out HS.out (A3.mk3 wd _ _ _).hb (by omega) (by omega) (by omega) (A3.mk3 wd _ _ _).h2 (A3.mk3 wd _ _ _).h0 (A3.mk3 wd _ _ _).h1
      | exact SuI.last HT.out HS.out (A3.mk3 wd _ _ _).hb (by omega) (by omega) (by omega) (A3.mk3 wd _ _ _).h2 (A3.mk3 wd _ _ _).h1 (A3.mk3 wd _ _ _).h0
    exact zs8
   exact zs8
  exact zs8
 obtain⟨rfl,pb,na,ba,hc,hV,hB⟩:=hcut
 have z0:=hc 0 _ rfl
 have z1:=hc 1 _ rfl
 have z2:=hc 2 _ rfl
 have z3:=hc 3 _ rfl
 have z4:=hc 4 _ rfl
 have z5:=hc 5 _ rfl
 have z6:=hc 6 _ rfl
 have z7:=hc 7 _ rfl
 have z8:=hc 8 _ rfl
 have z9:=hc 9 _ rfl
 have z10:=hc 10 _ rfl
 have HV:=zh hV
 have HB:=zh hB
 clear hc hV hB
 go_wp2_with fail
 refine bodyPost_ret (v := .agg #[.string ⟨#[115,117,109]⟩,.bool true,.slice (some ⟨pb,0,none⟩) 1 1,.int .i64 5,.string ⟨#[99]⟩,.string ⟨#[]⟩,.int .i64 0,.int .i64 1,.slice (some ⟨na,0,none⟩) 1 1,.slice none 0 0,.slice (some ⟨ba,0,none⟩) 1 1]) (by simp [results,Tryz.results49,go_sem,z0,z1,z2,z3,z4,z5,z6,z7,z8,z9,z10];try rfl) rfl ?_
 exact⟨_,rfl,HV.out,HB.out⟩
end Go.Proofs.YtnkahlloahgifaaGreatDoor
namespace RG
theorem lay_few:∀ (f n:Nat) (l:List (List Nm×TE)),sizes l≤f→(∀ d∈layS n l,nodeOk d.e=true)→(∀ p∈l,p.1.length≤16)→(vars (layS n l)).length≤16*sizes l
 | f,n,[],_,_,_=>by rw [layS_nil];simp [vars]
 | 0,n,(bs,e) :: r,hf,_,_=>by rw [zg] at hf;have:=e.size_pos;simp at hf;omega
 | f+1,n,(bs,e) :: r,hf,hd,hp=>by
  rw [zg] at hf
  simp only [] at hf
  rw [layS_cons] at hd ⊢
  have hs:=e.size_kids
  have hok:=hd _ List.mem_cons_self
  unfold nodeOk at hok
  simp only [Bool.and_eq_true,List.all_eq_true,decide_eq_true_eq] at hok
  have ih:=lay_few f (n+1) (e.kids++r) (by rw [zr];omega) (fun d h=>hd d (List.mem_cons_of_mem _ h)) (fun p h=>by
   rcases List.mem_append.1 h with h | h
   ·exact hok.2 p h
   exact hp p (List.mem_cons_of_mem _ h))
  have h0:=hp _ List.mem_cons_self
  simp only [] at h0
  rw [vars_cons,List.length_append,zg]
  rw [zr] at ih
  simp only []
  omega
theorem Good.few {isName:Nm→Bool}{ps:List Nm}{e:TE}(h:Good isName ps e):(vars (F0 ps e)).length≤320000:=by
 have hs:sizes [(ps,e)]=e.size:=by rw [zg,zw];rfl
 have:=lay_few e.size 0 [(ps,e)] (by rw [hs];exact Nat.le_refl _) h.form (fun p hp=>by simp at hp;rw [hp];exact h.params)
 rw [hs] at this
 have:=h.size
 unfold F0
 omega
theorem nodup_sub_len:∀ {a b:List Int},a.Nodup→(∀ x∈a,x∈b)→a.length≤b.length:=fun {a b} h1 h2=>by
 by_cases h:b.length≤a.length
 ·have:=(RM.perm_of_sub h1 h2 h).length_eq;omega
 omega
theorem vars_take_succ {F:List Nd}{i:Nat}(hi:i<F.length):vars (F.take (i+1))=vars (F.take i)++(nd F i).binds:=by
 unfold vars
 rw [List.take_add_one,nd_some hi,List.flatMap_append]
 simp
theorem named_le {F:List Nd}(q:Nm→Bool):(named F q).length≤(vars F).length:=List.length_filter_le _ _
end RG
namespace Go.Proofs.YtnkahlloahgifaaGreatDoor
open Go.RowKit RG Go.Maps
open Go.WideMaps (keyOf_string_mk)
theorem pmap_run {w:World}{b:Nat}{F:List Nd}(h:PMap w b (vars F)) {x:Nm}(hx:x∈vars F):(Instr.lookup 116 (.map (some b)) (.string x) false).run Tryz.prog w = .ok (.int .i64 (place F x:Nat)) w:=by
 obtain⟨D,h1,h2,h3,h4⟩:=h
 obtain⟨g1,g2,g3⟩:=h3 _ _ (place_at hx)
 obtain⟨c,hrun,hat,_⟩:=h1.lookup_int keyed9 Tryz.underlying116 Tryz.underlying3 (zero3 w) (keyOf_string_mk Tryz.underlying9 g1)
 rw [g3] at hat
 simp at hat
 rw [← hat] at hrun
 exact hrun
structure AlS (w:World) (g:Nat) (F:List Nd) (regs:List Nat) (done:List Nm) (f:Nat→Value):Prop where
 row:w.rowIs g 61 ((vars F).length*2) f
 len:regs.length=(vars F).length
 reg:∀ p,p<(vars F).length→f (p*2+1) = .int .i64 ((regs.getD p 0:Nat):Int)
 nam:∀ x∈done,x∈vars F→f (place F x*2) = .string x
 small:∀ r∈regs,r≤1000000
section
variable {w w':World} {g:Nat} {F:List Nd} {regs:List Nat} {done:List Nm} {f:Nat→Value}
theorem AlS.keep (h:AlS w g F regs done f) (hb:w'.heap[g]?=w.heap[g]?):AlS w' g F regs done f:=⟨h.row.of_block hb,h.len,h.reg,h.nam,h.small⟩
theorem getD_small (h:∀ r∈regs,r≤1000000) (p:Nat):regs.getD p 0≤1000000:=by
 rw [zt4]
 cases hq:regs[p]? with
 | none=>simp
 | some r=>exact h r (zr1 hq)
theorem AlS.put (h:AlS w g F regs done f) {x:Nm}(hx:x∈vars F) {r:Nat}(hr:r≤1000000):∃ f',AlS ((w.setCell ⟨g,place F x*2,none⟩ (.string x)).setCell ⟨g,place F x*2+1,none⟩ (.int .i64 (r:Int))) g F (regs.set (place F x) r) (done++[x]) f':=by
 have hp:=place_lt hx
 refine⟨_,⟨(h.row.set _ _).set _ _,by rw [List.length_set];exact h.len,fun p hpl=>?_,fun y hy hyv=>?_,fun q hq=>?_⟩⟩
 ·show (if p*2+1=place F x*2+1 then _ else if p*2+1=place F x*2 then _ else f (p*2+1))=_
  by_cases e:p=place F x
  ·subst e
   rw [if_pos rfl,zt4,List.getElem?_set_self (by rw [h.len];exact hp)];rfl
  rw [if_neg (by omega),if_neg (by omega),h.reg p hpl,zt4,zt4,List.getElem?_set_ne (fun h=>e h.symm)]
 ·show (if place F y*2=place F x*2+1 then _ else if place F y*2=place F x*2 then _ else f (place F y*2))=_
  rw [if_neg (by omega)]
  by_cases e:place F y=place F x
  ·rw [if_pos (by omega),place_inj hyv hx e]
  rw [if_neg (by omega)]
  rcases List.mem_append.1 hy with hy | hy
  ·exact h.nam y hy hyv
  simp at hy;subst hy;exact absurd rfl e
 rcases List.mem_or_eq_of_mem_set hq with hq | rfl
 ·exact h.small q hq
 exact hr
theorem AlS.vars (h:AlS w g F regs done f) (hn:(vars F).Nodup) (hd:∀ x∈RG.vars F,x∈done):VarsAt w (.slice (some ⟨g,0,none⟩) (RG.vars F).length (RG.vars F).length) (pairs F regs):=by
 have hl:(pairs F regs).length=(RG.vars F).length:=List.length_map _
 refine⟨some ⟨g,0,none⟩,(RG.vars F).length,by rw [hl],fun h0=>⟨g,0,rfl,fun i m hi=>?_⟩⟩
 obtain⟨x,r⟩:=m
 obtain⟨h1,h2⟩:=pairs_at hi
 have hil:=(zq8.1 h1).1
 have hxv:=zr1 h1
 have hpl:=place_of hn h1
 rw [Nat.zero_add]
 constructor
 ·rw [h.row.cell (by omega)]
  have:=h.nam x (hd x hxv) hxv
  rw [hpl] at this
  rw [this]
 rw [h.row.cell (by omega),h.reg i hil,h2]
 unfold regIn
 rw [hpl]
end
def Tx (F:List Nd) (i:Nat) (regs:List Nat) (todo:Int→Bool):List Nat:=((named F (cross F i)).filter fun x => !todo (place F x:Nat)).map fun x=>regs.getD (place F x) 0
theorem Tx_start (F:List Nd) (i:Nat) (regs:List Nat) (todo:Int→Bool) (h:∀ x∈named F (cross F i),todo (place F x:Nat)=true):Tx F i regs todo=[]:=by
 unfold Tx
 rw [List.filter_eq_nil_iff.2 (fun x hx=>by rw [h x hx];decide)];rfl
theorem Tx_end (F:List Nd) (i:Nat) (regs:List Nat) (todo:Int→Bool) (h:∀ k,todo k=false):Tx F i regs todo=(named F (cross F i)).map fun x=>regs.getD (place F x) 0:=by
 unfold Tx
 rw [List.filter_eq_self.2 (fun x hx=>by rw [h];rfl)]
theorem Tx_len (F:List Nd) (i:Nat) (regs:List Nat) (todo:Int→Bool):(Tx F i regs todo).length≤(vars F).length:=by
 unfold Tx
 rw [List.length_map]
 exact zr5 (List.length_filter_le _ _) (named_le _)
theorem Tx_step {F:List Nd}{i:Nat}{regs:List Nat}{todo:Int→Bool}{y:Nm}(hy:y∈vars F) (hc:cross F i y=true) (ht:todo (place F y:Nat)=true) (t:Int) :
  t∈ofNats (Tx F i regs todo)++[((regs.getD (place F y) 0:Nat):Int)]↔t∈ofNats (Tx F i regs fun k=>todo k && !decide (k=(place F y:Nat))):=by
 unfold ofNats Tx
 simp only [List.mem_append,List.mem_map,List.mem_filter,List.mem_singleton,List.map_map]
 constructor
 ·rintro (⟨x,⟨hx,h1⟩,rfl⟩ | rfl)
  ·exact⟨x,⟨hx,by simp at h1;simp [h1]⟩,rfl⟩
  exact⟨y,⟨mem_named.2 ⟨hy,hc⟩,by simp⟩,rfl⟩
 rintro ⟨x,⟨hx,h1⟩,rfl⟩
 by_cases e:place F x=place F y
 ·right;simp [e]
 left
 have h2:todo (place F x:Nat)=false:=by
  simp at h1
  rcases h1 with h1 | h1
  ·exact h1
  exact absurd (by exact_mod_cast h1) e
 exact⟨x,⟨hx,by rw [h2];rfl⟩,rfl⟩
theorem FnOk.boxedAt {Env:World→Prop}{isName:Nm→Bool}{w W:World}{v:Value}{ps:List Nm}{e:TE}(h:FnOk Env isName w v ps e) (hW:Below (w.alloc (.cells v.cells 29)).heap.size (w.alloc (.cells v.cells 29)) W):Calls Tryz.prog 58 #[.pointer (some ⟨w.heap.size,0,none⟩)] W (fun en w'=>ReadP isName W ps e en w'):=by
 have hb:Below w.heap.size w (w.alloc (.cells v.cells 29)):=(zs9 _ _).alloc (zr4 _) _
 have hk:Kept w W:=(zd hb).trans (zd hW)
 obtain⟨nm,op,ch,pv,va,num,site,aa,ab,ca,cb,ga,oa,gb,ob,rfl,h1,h2,h3,h4,h5,h6⟩:=h.val
 have hn:=zs2 w (.cells (Value.agg #[.string nm,.bool ch,pv,.int .i64 e.kind,.string e.name,.string op,.int .i64 num,.int .i64 site,va,.slice aa e.arms.length ca,.slice ab e.body.length cb]).cells 29)
 have hpv:∃ a n c,pv = .slice a n c:=by obtain⟨ad,c,e,_⟩:=h1.at';exact⟨_,_,_,e⟩
 have hva:∃ a n c,va = .slice a n c:=by obtain⟨ad,c,e,_⟩:=h2.at';exact⟨_,_,_,e⟩
 obtain⟨pa,pn,pc,rfl⟩:=hpv
 obtain⟨xa,xn,xc,rfl⟩:=hva
 have hcs:(Value.agg #[.string nm,.bool ch,.slice pa pn pc,.int .i64 e.kind,.string e.name,.string op,.int .i64 num,.int .i64 site,.slice xa xn xc,.slice aa e.arms.length ca,.slice ab e.body.length cb]).cells = #[.string nm,.bool ch,.slice pa pn pc,.int .i64 e.kind,.string e.name,.string op,.int .i64 num,.int .i64 site,.slice xa xn xc,.slice aa e.arms.length ca,.slice ab e.body.length cb]:=rfl
 refine read_any h.law (h.law.keep _ _ _ (h.law.size _ h.env) h.env (hb.trans (hW.mono hb.size))) ?_ h.sz h.pl
 have hkW:=zd hW
 rw [hcs] at hn
 rw [hcs] at hkW
 have c:∀ i x,#[Value.string nm,.bool ch,.slice pa pn pc,.int .i64 e.kind,.string e.name,.string op,.int .i64 num,.int .i64 site,.slice xa xn xc,.slice aa e.arms.length ca,.slice ab e.body.length cb][i]?=some x→W.cell? ⟨w.heap.size,i,none⟩=some x:=fun i x hx=>hkW _ _ (by rw [zb _ _ _ _ _ _ hn];exact hx)
 refine⟨⟨_,c 2 _ rfl,h1.kept hk⟩,?_⟩
 obtain⟨k,name,args,arms,body⟩:=e
 rw [TEAt]
 exact⟨op,num,site,_,aa,ab,ca,cb,ga,oa,gb,ob,⟨c 3 _ rfl,c 4 _ rfl,c 5 _ rfl,c 6 _ rfl⟩,⟨c 7 _ rfl,c 8 _ rfl,c 9 _ rfl,c 10 _ rfl⟩,h2.kept hk,h3,TAAt.kept hk _ _ _ h4,h5,TBAt.kept hk _ _ _ h6⟩
theorem AlS.made {w:World}{F:List Nd}{n:Nat}(hn:n=(RG.vars F).length):∃ f,AlS (w.alloc (.cells (madeCells #[.string ⟨#[]⟩,.int .i64 0] (n*2)) 61)) w.heap.size F ((RG.vars F).map fun _=>0) [] f:=by
 refine⟨fun i => #[Value.string ⟨#[]⟩,.int .i64 0][i % 2]!,⟨⟨_,zs2 w _,by rw [size_madeCells,hn],fun i hi=>?_⟩,by rw [List.length_map],fun p hp=>?_,fun x hx=>absurd hx (by simp),fun r hr=>by obtain⟨_,_,rfl⟩:=List.mem_map.1 hr;omega⟩⟩
 ·have hi2:i<n*2:=by omega
  simp [madeCells,hi2]
 have e1:(p*2+1) % 2=1:=by omega
 have e2:(((RG.vars F).map fun _=>(0:Nat)).getD p 0)=0:=by rw [zt4,List.getElem?_map];cases (RG.vars F)[p]?<;>rfl
 show #[Value.string ⟨#[]⟩,.int .i64 0][(p*2+1) % 2]! = _
 rw [e1,e2];rfl
def AlP (isName:Nm→Bool) (w:World) (ps:List Nm) (e:TE) (en:Ending) (w':World):Prop :=
 Below w.heap.size w w'∧((RG.Good isName ps e∧∃ v,en = .returned (.tuple #[.agg #[.int .i64 ((alloc (F0 ps e)).2:Nat),v],.int .i64 0])∧VarsAt w' v (pairs (F0 ps e) (alloc (F0 ps e)).1)) ∨
  (¬ RG.Good isName ps e∧en = .returned (.tuple #[.agg #[.int .i64 0,.slice none 0 0],.int .i64 160])))
end Go.Proofs.YtnkahlloahgifaaGreatDoor
namespace Go.Proofs.YtnkahlloahgifaaGreatDoor
open Go.RowKit RG Go.Maps
theorem mvCells_drop:∀ (l:List RM.Mv) (i:Nat),zy (l.drop i)=(zy l).drop (i*2)
 | [],i=>by simp [zy]
 | a :: l,0=>rfl
 | a :: l,i+1=>by
  have e:zy (a :: l) = .int .i64 a.1 :: .int .i64 a.2 :: zy l:=rfl
  rw [List.drop_succ_cons,mvCells_drop l i,e,show (i+1)*2=i*2+1+1 from by omega,List.drop_succ_cons,List.drop_succ_cons]
theorem eraseIdx_eq (l:List RM.Mv) (i:Nat):l.eraseIdx i=l.take i++l.drop (i+1):=List.eraseIdx_eq_take_drop_succ l i
theorem delete_any {w:World}{g:Nat}{v:Value}{l:List RM.Mv}{i j:Nat}(hj:j=i+1) (h:RestAt w g v l) (hi:i<l.length) (hl:l.length≤1000000) :
  Calls Tryz.prog 76 #[v,.int .i64 (i:Int),.int .i64 (j:Int)] w (DfP w g (l.eraseIdx i)):=by
 rcases h with ⟨rfl,_⟩|⟨cp,f,rfl,h1,h2,h3,h4⟩
 ·simp at hi
 obtain⟨i1,hi1,hz0,hz1,hz2⟩:=info_parts Tryz.info81
 obtain⟨n,hn⟩:∃ n,n=l.length:=⟨_,rfl⟩
 rw [← hn] at hi hl h1 ⊢
 have HN:=zh hn
 have hiz:(i:Int)<n:=by omega
 have hi1z:(j:Int)≤n:=by omega
 have hij:(i:Int)≤j:=by omega
 have hj0:(0:Int)≤j:=by omega
 have hjcz:(j:Int)≤cp:=by omega
 have hicz:(i:Int)≤cp:=by omega
 have hnz:(n:Int)≤1000000:=by omega
 have hi0:(0:Int)≤i:=by omega
 have hnc:(n:Int)≤cp:=by omega
 have hne:((i:Int)==j)=false:=by rw [beq_eq_false_iff_ne];omega
 obtain⟨news,hnews⟩:∃ news,news=zy (l.drop j):=⟨_,rfl⟩
 have hlen:news.length=(n - j)*2:=by rw [hnews,mvCells_length,List.length_drop,hn]
 have hcell:∀ c u,(zy l)[c]?=some u→w.cell? ⟨g,c,none⟩=some u:=fun c u hu=>by
  have hc:=(zq8.1 hu).1
  rw [mvCells_length] at hc
  rw [h3.cell (by omega),h4 c u hu]
 obtain⟨A,hA,hsrc⟩:∃ A:Addr,(if cp=j then some (⟨g,0,none⟩:Addr) else some ⟨g,j*2,none⟩)=some A∧Hid (∀ t u,news[t]?=some u→w.drew.cell? (A.add t)=some u):=by
  by_cases hc:cp=j
  ·refine⟨_,if_pos hc,fun t u hu=>?_⟩
   have:=(zq8.1 hu).1
   omega
  refine⟨_,if_neg hc,fun t u hu=>?_⟩
  rw [Addr.add_lit]
  refine hcell _ u ?_
  rw [hnews,mvCells_drop,List.getElem?_drop] at hu
  exact hu
 have s2:Hid (∀ u∈news,u.oneCell'=true):=fun u hu=>by rw [hnews] at hu;exact mvCells_one hu
 have s1:=zh hlen
 have s3:Hid (∀ t,t<news.length→(w.drew.cell? ⟨g,0+i*2+t,none⟩).isSome=true∧w.drew.frozen? ⟨g,0+i*2+t,none⟩=false):=fun t ht=>by
  rw [hlen] at ht
  refine⟨?_,h3.frozen _⟩
  show (w.cell? _).isSome=true
  rw [h3.cell (by omega)];rfl
 obtain⟨W1,hW1⟩:∃ W1,W1=w.drew.setCells g (0+i*2) news:=⟨_,rfl⟩
 obtain⟨f1,hR1,hf1⟩:∃ f1,W1.rowIs g 81 (cp*2) f1∧∀ j,f1 j=if 0+i*2≤j∧j<0+i*2+news.length then news[j - (0+i*2)]?.getD default else f j:=⟨_,by rw [hW1];exact rowIs_setCells news (0+i*2) w.drew f h3.drew,fun j=>rfl⟩
 obtain⟨q,hq⟩:∃ q,i+(n - j)=q:=⟨_,rfl⟩
 have HQ:=zh hq
 have hqn:q<n:=by omega
 have hqj:n - q=j - i:=by omega
 have hcl:∀ ty,(Builtin.clear_ #[74] ty #[.slice (some ⟨g,q*2,none⟩) (n - q) (cp - q)]).run Tryz.prog W1 = .ok (.tuple #[]) (W1.setCells g (q*2) (List.replicate ((n - q)*2) (.int .i64 0))):=fun ty =>
  run_clear2 W1 74 ty Tryz.underlying74 g _ _ _ (by omega) (fun c hc=>by rw [Nat.zero_add] at *;rw [hR1.cell (by omega)];rfl) (fun c hc=>hR1.frozen _)
 have hqc:q<cp:=by omega
 have hqz:(q:Int)≤n:=by omega
 have hq0:(0:Int)≤q:=by omega
 have G1:Hid (w.grownBy W1 (some g)):=by
  show w.grownBy W1 (some g)
  have h:=grown_setCells g news (0+i*2) w.drew
  rw [hW1]
  exact⟨h.os,h.tape,h.output,h.size,h.block⟩
 have hW:Hid (W1=w.drew.setCells g (0+i*2) news):=hW1
 have R1:=zh hR1
 have F1:=zh hf1
 have HNW:=zh hnews
 have HI:=zh (And.intro hi1 (And.intro hz0 (And.intro hz1 hz2)))
 clear hi1 hz0 hz1 hz2 hW1 hR1 hf1 hcell hlen hnews hq hqj
 have H4:=zh h4
 have H3:=zh h3
 have H2:=zh h2
 have H1:Hid (i<j∧j≤n∧n≤cp):=by show _∧_;omega
 have HJ:=zh hj
 have mixed:Tryz.prog.follows .mixedOrders=true:=by kernel_rfl
 clear h2 h3 h4 h1 hj hn
 go_enter Tryz.func76,Tryz.ntmps76
 go_wp2_with fail
 go_region_law_o (refine step_append_room rfl (.tmp 22) (.tmp 25) 74 rfl 81 i1 2 Tryz.underlying74 HI.out.1 HI.out.2.2.1 g 0 i cp (by simp [Act.eval,Act.put]) A (n - j) (cp - j) news (by simp [Act.eval,Act.put]) s1.out hsrc.out s2.out (by have:=H1.out;omega) s3.out ?_;rw [← hW.out,HQ.out])
 go_wp2_with fail
 go_ret
 have hn2:(l.eraseIdx i).length=q:=by
  have h1:=H1.out;have h2:=HN.out;have h3:=HJ.out;have h4:=HQ.out
  rw [List.length_eraseIdx_of_lt (by omega)];omega
 refine⟨_,rfl,.inr ⟨cp,_,by rw [hn2];rfl,by rw [hn2];omega,H2.out,rowIs_setCells _ (q*2) W1 f1 R1.out,fun c u hu=>?_⟩,grown_trans G1.out (grown_setCells g _ (q*2) W1) (fun r e=>by simp at e;exact .inl e.symm)⟩
 have hc:=(zq8.1 hu).1
 rw [mvCells_length,hn2] at hc
 show (if q*2≤c∧_ then _ else f1 c)=u
 rw [if_neg (by omega),F1.out]
 rw [eraseIdx_eq,mvCells_append] at hu
 have htl:(zy (l.take i)).length=i*2:=by rw [mvCells_length,List.length_take];have:=HN.out;omega
 by_cases hci:c<i*2
 ·rw [if_neg (by omega)]
  rw [List.getElem?_append_left (by omega)] at hu
  refine H4.out c u ?_
  have:zy l=zy (l.take i)++zy (l.drop i):=by rw [← mvCells_append,List.take_append_drop]
  rw [this,List.getElem?_append_left (by omega)]
  exact hu
 have hnl:news.length=(n - j)*2:=s1.out
 have:=HQ.out
 rw [if_pos (by omega),Nat.zero_add]
 rw [List.getElem?_append_right (by omega),htl,← HJ.out,← HNW.out] at hu
 rw [hu];rfl
end Go.Proofs.YtnkahlloahgifaaGreatDoor
namespace RM
theorem ord_free {spare:Int}{rest out:List Mv}{i:Nat}{m:Mv}(hF:Fit spare rest) (hi:rest.findIdx (free rest)=i) (hm:rest[i]?=some m) :
  ordN spare (mu rest+1) rest out=ordN spare (mu (rest.eraseIdx i)+1) (rest.eraseIdx i) (out++[m])∧mu (rest.eraseIdx i)<mu rest∧Fit spare (rest.eraseIdx i):=by
 have hl:=(List.getElem?_eq_some_iff.1 hm).1
 have ha:anyFree rest=true:=(findIdx_lt_iff rest).1 (by rw [hi];exact hl)
 have hmu:=mu_erase hl
 refine⟨?_,hmu,hF.erase i⟩
 cases rest with
 | nil=>simp at hl
 | cons x r =>
  rw [ordN_free spare ha,hi]
  have e:(x :: r).getD i (0,0)=m:=by rw [List.getD_eq_getElem?_getD,hm];rfl
  rw [e]
  exact ordN_fuel _ _ _ _ (hF.erase i) hmu (Nat.lt_succ_self _)
theorem ord_turn {spare:Int}{m:Mv}{r out:List Mv}(hF:Fit spare (m :: r)) (h:¬ (m :: r).findIdx (free (m :: r))<(m :: r).length) :
  ordN spare (mu (m :: r)+1) (m :: r) out=ordN spare (mu (turn spare m.1 (m :: r))+1) (turn spare m.1 (m :: r)) (out++[(spare,m.1)])∧mu (turn spare m.1 (m :: r))<mu (m :: r)∧Fit spare (turn spare m.1 (m :: r)):=by
 have ha:anyFree (m :: r)=false:=by
  cases hq:anyFree (m :: r) with
  | false=>rfl
  | true=>exact absurd ((findIdx_lt_iff _).2 hq) h
 have hmu:=mu_turn hF ha
 refine⟨?_,hmu,hF.turn _⟩
 rw [ordN_turn spare ha]
 exact ordN_fuel _ _ _ _ (hF.turn _) hmu (Nat.lt_succ_self _)
def part (spare kept:Int) (k:Nat) (rest:List Mv):List Mv:=(rest.take k).map (fun o=>if o.2=kept then (o.1,spare) else o)++rest.drop k
theorem part_all (spare kept:Int) (rest:List Mv):part spare kept rest.length rest=turn spare kept rest:=by unfold part turn;simp
theorem part_length (spare kept:Int) (k:Nat) (rest:List Mv):(part spare kept k rest).length=rest.length:=by unfold part;simp;omega
theorem part_at {spare kept:Int}{k:Nat}{rest:List Mv}{m:Mv}(h:rest[k]?=some m):(part spare kept k rest)[k]?=some m:=by
 have hk:=(List.getElem?_eq_some_iff.1 h).1
 unfold part
 rw [List.getElem?_append_right (by simp;omega)]
 simp only [List.length_map,List.length_take,List.getElem?_drop]
 rw [show k+(k - min k rest.length)=k from by omega];exact h
theorem part_succ {spare kept:Int}{k:Nat}{rest:List Mv}{m:Mv}(h:rest[k]?=some m):part spare kept (k+1) rest=if m.2=kept then (part spare kept k rest).set k (m.1,spare) else part spare kept k rest:=by
 have hk:=(List.getElem?_eq_some_iff.1 h).1
 have e:rest.drop k=m :: rest.drop (k+1):=by
  rw [List.drop_eq_getElem_cons hk];congr 1;exact(List.getElem?_eq_some_iff.1 h).2
 have hl:((rest.take k).map fun o=>if o.2=kept then (o.1,spare) else o).length=k:=by simp;omega
 unfold part
 rw [List.take_add_one,h,e]
 simp only [Option.toList_some,List.map_append,List.map_cons,List.map_nil,List.append_assoc,List.singleton_append]
 split
 ·rw [List.set_append_right _ _ (by omega),hl,Nat.sub_self];rfl
 rfl
end RM
namespace Go.Proofs.YtnkahlloahgifaaGreatDoor
open Go.RowKit RG Go.Maps
theorem mvCells_set:∀ (l:List RM.Mv) (i:Nat) (m:RM.Mv) (c:Int),l[i]?=some m→zy (l.set i (m.1,c))=(zy l).set (i*2+1) (.int .i64 c)
 | [],i,m,c,h=>by simp at h
 | a :: l,0,m,c,h=>by
  simp at h
  subst h
  rfl
 | a :: l,i+1,m,c,h=>by
  have e:∀ l:List RM.Mv,zy (a :: l) = .int .i64 a.1 :: .int .i64 a.2 :: zy l:=fun _=>rfl
  rw [zq6,e,e,mvCells_set l i m c (by simpa using h),show (i+1)*2+1=i*2+1+1+1 from by omega,zq6,zq6]
theorem RestAt.setFrom {w:World}{g:Nat}{v:Value}{l:List RM.Mv}{i:Nat}{m:RM.Mv}{c:Int}(h:RestAt w g v l) (hm:l[i]?=some m):RestAt (w.setCell ⟨g,i*2+1,none⟩ (.int .i64 c)) g v (l.set i (m.1,c)):=by
 have hi:=(zq8.1 hm).1
 rcases h with ⟨rfl,_⟩|⟨cp,f,rfl,h1,h2,h3,h4⟩
 ·simp at hi
 refine .inr ⟨cp,_,by rw [List.length_set],by rw [List.length_set];exact h1,h2,h3.set (i*2+1) _,fun j u hu=>?_⟩
 rw [mvCells_set l i m c hm] at hu
 show (if j=i*2+1 then _ else f j)=u
 by_cases e:j=i*2+1
 ·subst e
  rw [if_pos rfl]
  rw [List.getElem?_set_self (by rw [mvCells_length];omega)] at hu
  exact Option.some.inj hu
 rw [if_neg e]
 rw [List.getElem?_set_ne (fun h=>e h.symm)] at hu
 exact h4 j u hu
theorem MvOwn.keep {w w':World}{B:Nat}{v:Value}{l:List RM.Mv}(h:MvOwn w B v l) (hk:∀ k,B≤k→k<w.heap.size→w'.heap[k]?=w.heap[k]?):MvOwn w' B v l:=by
 obtain⟨h1,h2⟩:=h
 refine⟨h1,?_⟩
 rcases h2 with h2 | ⟨g,cap,cur,rfl,hb,hg,rest⟩
 ·exact .inl h2
 exact .inr ⟨g,cap,cur,rfl,hb,(hk g hb (zq7.1 hg).1).trans hg,rest⟩
theorem MvOwn.shape {w:World}{B:Nat}{v:Value}{l:List RM.Mv}(h:MvOwn w B v l):∃ a c,v = .slice a l.length c:=by
 rcases h.2 with ⟨rfl,h0⟩|⟨g,cap,cur,rfl,_⟩
 ·exact⟨none,0,by rw [h0]⟩
 exact⟨_,_,rfl⟩
theorem RestAt.shape {w:World}{g:Nat}{v:Value}{l:List RM.Mv}(h:RestAt w g v l):∃ a c,v = .slice a l.length c:=by
 rcases h with ⟨rfl,rfl⟩|⟨cp,f,rfl,_⟩
 ·exact⟨none,0,rfl⟩
 exact⟨_,_,rfl⟩
theorem RestAt.full {w:World}{g:Nat}{v:Value}{l:List RM.Mv}(h:RestAt w g v l) (h0:0<l.length):∃ cp,v = .slice (some ⟨g,0,none⟩) l.length cp∧(∀ (i:Nat) m,l[i]?=some m→w.cell? ⟨g,i*2,none⟩=some (.int .i64 m.1)∧w.cell? ⟨g,i*2+1,none⟩=some (.int .i64 m.2))∧∀ i,w.frozen? ⟨g,i,none⟩=false:=by
 rcases h with ⟨rfl,rfl⟩|⟨cp,f,rfl,h1,h2,h3,h4⟩
 ·simp at h0
 refine⟨cp,rfl,fun i m hm=>?_,fun i=>h3.frozen i⟩
 have hi:=(zq8.1 hm).1
 obtain⟨a,b⟩:=mvCells_at l i m hm
 exact⟨by rw [h3.cell (by omega),h4 _ _ a],by rw [h3.cell (by omega),h4 _ _ b]⟩
end Go.Proofs.YtnkahlloahgifaaGreatDoor
namespace Go.Proofs.YtnkahlloahgifaaGreatDoor
open Go.RowKit RG Go.Maps
def OrP (w:World) (l:List RM.Mv) (spare:Int) (e:Ending) (w':World):Prop :=
 Below w.heap.size w w'∧((RM.areMoves l spare=true∧∃ v,MvsAt w' v (RM.order l spare)∧e = .returned (.tuple #[v,.int .i64 0]))∨(RM.areMoves l spare=false∧e = .returned (.tuple #[.slice none 0 0,.int .i64 1])))
structure OrM (w:World) (B rc g:Nat) (rest out:List RM.Mv) (v vo:Value) (wr:World):Prop where
 cell:wr.cell? ⟨rc,0,none⟩=some v
 froz:wr.frozen? ⟨rc,0,none⟩=false
 rst:RestAt wr g v rest
 ot:MvOwn wr B vo out
 below:Below w.heap.size w wr
 size:B≤wr.heap.size
structure OrC (w:World) (B rc g:Nat):Prop where
 gB:g<B
 rcB:rc<B
 ne:g≠rc
 wg:w.heap.size≤g
 wrc:w.heap.size≤rc
structure OrL (l:List RM.Mv) (spare:Int) (rest out:List RM.Mv):Prop where
 fit:RM.Fit spare rest
 ord:RM.ordN spare (RM.mu rest+1) rest out=RM.order l spare
 few:rest.length≤16
 outs:out.length+RM.mu rest≤40
section
variable {w wr W:World} {B rc g:Nat} {l rest out rest' out':List RM.Mv} {spare:Int} {v vo v' vo':Value}
theorem OrL.start (h:RM.areMoves l spare=true):OrL l spare (RM.rest0 l) []:=by
 have hl:(RM.rest0 l).length≤16:=zr5 (List.length_filter_le _ _) (RM.areMoves_iff.1 h).1
 refine⟨RM.rest0_fit h,rfl,hl,?_⟩
 unfold RM.mu
 split<;>simp<;>omega
theorem OrL.free {i:Nat}{m:RM.Mv}(h:OrL l spare rest out) (hi:rest.findIdx (RM.free rest)=i) (hm:rest[i]?=some m):OrL l spare (rest.eraseIdx i) (out++[m])∧RM.mu (rest.eraseIdx i)<RM.mu rest:=by
 obtain⟨h1,h2,h3⟩:=RM.ord_free (out:=out) h.fit hi hm
 refine⟨⟨h3,h1.symm.trans h.ord,zr5 (List.length_eraseIdx_le _ _) h.few,?_⟩,h2⟩
 have:=h.outs
 rw [zr2,List.length_singleton];omega
theorem OrL.turn {m:RM.Mv}{r:List RM.Mv}(h:OrL l spare (m :: r) out) (hi:¬ (m :: r).findIdx (RM.free (m :: r))<(m :: r).length):OrL l spare (RM.turn spare m.1 (m :: r)) (out++[(spare,m.1)])∧RM.mu (RM.turn spare m.1 (m :: r))<RM.mu (m :: r):=by
 obtain⟨h1,h2,h3⟩:=RM.ord_turn (out:=out) h.fit hi
 refine⟨⟨h3,h1.symm.trans h.ord,by rw [RM.turn_length];exact h.few,?_⟩,h2⟩
 have:=h.outs
 rw [zr2,List.length_singleton];omega
theorem own_ge (h:MvOwn wr B vo out) {k:Nat}(hk:vo.ownBlock=some k):B≤k∧k<wr.heap.size:=World.ownsRow.lt h k hk
theorem OrM.keep (h:OrM w B rc g rest out v vo wr) (hC:OrC w B rc g) (hb:Below wr.heap.size wr W):OrM w B rc g rest out v vo W :=
 ⟨zd hb _ _ h.cell,(World.frozen?_of_block (a:=⟨rc,0,none⟩) (hb.block rc (zs3 _ _ h.cell))).trans h.froz,by
  rcases h.rst with e | ⟨cp,f,e,h1,h2,h3,h4⟩
  ·exact .inl e
  exact .inr ⟨cp,f,e,h1,h2,h3.of_block (hb.block _ h3.lt),h4⟩,h.ot.keep fun k _ hk=>hb.block k hk,h.below.trans (hb.mono h.below.size),zr5 h.size hb.size⟩
theorem OrM.push (h:OrM w B rc g rest out v vo wr) (hC:OrC w B rc g) (hg:wr.grownBy W vo.ownBlock) (ho:MvOwn W B vo' out'):OrM w B rc g rest out' v vo' W:=by
 have hrc:rc<wr.heap.size:=zs3 _ _ h.cell
 have brc:=hg.block rc hrc (fun e=>by have:=(own_ge h.ot e.symm).1;have:=hC.rcB;omega)
 refine⟨(World.cell?_of_block (a:=⟨rc,0,none⟩) brc).trans h.cell,(World.frozen?_of_block (a:=⟨rc,0,none⟩) brc).trans h.froz,?_,ho,h.below.grown hg h.below.size (fun r e=>?_),zr5 h.size hg.size⟩
 ·rcases h.rst with e | ⟨cp,f,e,h1,h2,h3,h4⟩
  ·exact .inl e
  exact .inr ⟨cp,f,e,h1,h2,h3.of_block (hg.block _ h3.lt (fun e=>by have:=(own_ge h.ot e.symm).1;have:=hC.gB;omega)),h4⟩
 have:=(own_ge h.ot e).1;have:=hC.gB;have:=hC.wg;omega
theorem OrM.put (h:OrM w B rc g rest out v vo wr) (hC:OrC w B rc g) (hg:wr.grownBy W (some g)) (hr:RestAt W g v' rest'):OrM w B rc g rest' out v' vo (W.setCell ⟨rc,0,none⟩ v'):=by
 have hrc:rc<wr.heap.size:=zs3 _ _ h.cell
 have brc:=hg.block rc hrc (fun e=>hC.ne (by simpa using e.symm))
 have c1:=(World.cell?_of_block (a:=⟨rc,0,none⟩) brc).trans h.cell
 refine⟨World.cell?_setCell_same _ _ _ c1,?_,hr.keep (zt1 _ _ _ _ hC.ne),h.ot.keep fun k hk hk2=>?_,?_,?_⟩
 ·rw [World.frozen?_setCell];exact(World.frozen?_of_block (a:=⟨rc,0,none⟩) brc).trans h.froz
 ·rw [zt1 _ _ _ _ (by have:=hC.rcB;show k≠rc;omega)]
  exact hg.block k hk2 (fun e=>by have:=hC.gB;simp at e;omega)
 ·exact(h.below.grown hg h.below.size (fun r e=>by have:=hC.wg;simp at e;omega)).setCell (by exact hC.wrc) _
 have h1:=h.size;have h2:=hg.size;simp;omega
theorem OrM.change (h:OrM w B rc g rest out v vo wr) (hC:OrC w B rc g) (hg:wr.grownBy W (some g)) (hr:RestAt W g v rest'):OrM w B rc g rest' out v vo W:=by
 have hrc:rc<wr.heap.size:=zs3 _ _ h.cell
 have brc:=hg.block rc hrc (fun e=>hC.ne (by simpa using e.symm))
 refine⟨(World.cell?_of_block (a:=⟨rc,0,none⟩) brc).trans h.cell,(World.frozen?_of_block (a:=⟨rc,0,none⟩) brc).trans h.froz,hr,h.ot.keep fun k hk hk2=>hg.block k hk2 (fun e=>by have:=hC.gB;simp at e;omega),?_,zr5 h.size hg.size⟩
 exact h.below.grown hg h.below.size (fun r e=>by have:=hC.wg;simp at e;omega)
end
theorem MvOwn.rest' {w:World}{base:Nat}{v:Value}{l:List RM.Mv}(h:MvOwn w base v l):∃ g,base≤g∧RestAt w g v l∧(0<l.length→g<w.heap.size):=by
 obtain⟨h1,h2⟩:=id h
 rcases h2 with ⟨rfl,h0⟩|⟨g,cap,cur,rfl,hb,hg,k1,k2,k3,k4⟩
 ·exact⟨base,zr4 _,.inl ⟨List.eq_nil_of_length_eq_zero h0,rfl⟩,fun h=>by omega⟩
 refine⟨g,hb,.inr ⟨cap,fun i=>cur[i]?.getD default,rfl,k1,k2,⟨cur,hg,k3,fun i hi=>?_⟩,fun j u hu=>?_⟩,fun _=>(zq7.1 hg).1⟩
 ·show cur[i]?=some (cur[i]?.getD default);rw [Array.getElem?_eq_getElem (by omega)];rfl
 have hj:=(zq8.1 hu).1
 rw [mvCells_length] at hj
 rw [← k4,List.getElem?_take_of_lt hj,Array.getElem?_toList] at hu
 show cur[j]?.getD default=u
 rw [hu];rfl
theorem order_any {w:World}{v:Value}{l:List RM.Mv}{spare:Int}(h:MvsAt w v l):Calls Tryz.prog 40 #[v,.int .i64 spare] w (OrP w l spare):=by
 have AM:=zh (areMoves_any (spare:=spare) h)
 have HV:=zh h
 obtain⟨ad,c,rfl,-⟩:=id h
 obtain⟨n,hn⟩:∃ n,n=l.length:=⟨_,rfl⟩
 rw [← hn] at AM HV ⊢
 have HN:=zh hn
 clear h hn
 cases ham:RM.areMoves l spare with
 | false =>
  rw [ham] at AM
  have E:=zh ham
  clear ham
  go_enter Tryz.func40,Tryz.ntmps40
  go_wp2_with (go_at_call 68;refine(AM.out).mono ?_;rintro e w1 ⟨rfl,hb⟩)
  go_ret2
  exact⟨hb,.inr ⟨E.out,rfl⟩⟩
 | true =>
  rw [ham] at AM
  have E:=zh ham
  have HL:Hid (l.length≤16):=(RM.areMoves_iff.1 ham).1
  clear ham
  go_enter Tryz.func40,Tryz.ntmps40
  go_wp2_with (go_at_call 68;refine(AM.out).mono ?_;rintro e w1 ⟨rfl,hb⟩)
  have HB1:=zh hb
  clear hb
  have eg:=same_fun.enter
  refine(clone_any (HV.out.kept (zd HB1.out)) (by have:=HL.out;omega)).mono ?_
  rintro e w2 ⟨v2,rfl,ho2,hb2⟩
  have HO2:=zh ho2
  have HB2:=zh (HB1.out.trans (hb2.mono HB1.out.size))
  clear ho2 hb2
  obtain⟨g,hgb,hrs,hgl⟩:=HO2.out.rest'
  have HGB:=zh hgb
  have HGL:=zh hgl
  have DF:=zh (deleteFunc_any same_fun hrs (by have:=HL.out;omega))
  obtain⟨va,vc,rfl⟩:=hrs.shape
  clear hgb hgl hrs
  obtain⟨n2,hn2⟩:∃ n,n=l.length:=⟨_,rfl⟩
  rw [← hn2] at DF HO2 ⊢
  have HN2:=zh hn2
  clear hn2
  go_wp2_with fail
  refine DF.out.mono ?_
  rintro e w3 ⟨v3,rfl,hr3,hg3⟩
  have HR3:Hid (RestAt w3 g v3 (RM.rest0 l)):=hr3
  have HG3:=zh hg3
  have HB3:Hid (Below w.heap.size w w3):=HB2.out.grown hg3 HB2.out.size (fun r e=>by simp at e;have:=HGB.out;have:=HB1.out.size;omega)
  obtain⟨va3,vc3,hv3⟩:=hr3.shape
  obtain⟨n3,hn3⟩:∃ n,n=(RM.rest0 l).length:=⟨_,rfl⟩
  rw [show (l.filter fun m => !decide (m.1=m.2))=RM.rest0 l from rfl,← hn3] at hv3
  subst hv3
  have HN3:=zh hn3
  clear hr3 hg3 hn3
  by_cases h0:0<n3
  ·have HC:Hid (OrC w (w3.heap.size+1) w3.heap.size g):=by
    show OrC _ _ _ _
    have hlt:g<w3.heap.size:=HR3.out.lt (by rw [← HN3.out];exact h0)
    have h1:=HGB.out;have h2:=HB1.out.size;have h3:=HB3.out.size
    exact⟨by omega,by omega,by omega,by omega,by omega⟩
   have HM0:Hid (OrM w (w3.heap.size+1) w3.heap.size g (RM.rest0 l) [] (.slice va3 n3 vc3) (.slice none 0 0) (w3.alloc (.cells #[.slice va3 n3 vc3] 74))) :=
    ⟨by rw [zb _ _ 0 _ _ _ (zs2 w3 _)];rfl,zs1 _ _ _ _ _ (zs2 w3 _),HR3.out.keep (zt2 _ _ _ (HR3.out.lt (by rw [← HN3.out];exact h0))),World.ownsRow_nil _ _ _ _,HB3.out.alloc HB3.out.size _,by simp⟩
   have HL0:=zh (OrL.start E.out)
   clear h0
   go_wp2_with fail
   go_loopg [6] (RM.mu (RM.rest0 l)) (fun gk vo wr=>∃ rest out v,gk=RM.mu rest∧OrM w (w3.heap.size+1) w3.heap.size g rest out v vo wr∧OrL l spare rest out)
   case atStart=>exact⟨_,_,_,rfl,HM0.out,HL0.out⟩
   obtain⟨rest,out,v,hgk,hm,hl⟩:=hrel
   have KM:=zh hm
   have KL:=zh hl
   have KG:=zh hgk
   obtain⟨nr,hnr⟩:∃ n,n=rest.length:=⟨_,rfl⟩
   have HNR:=zh hnr
   have hnz:(nr:Int)≤16:=by have:=hl.few;omega
   obtain⟨oa,oc,hvo⟩:=hm.ot.shape
   obtain⟨no,hno⟩:∃ n,n=out.length:=⟨_,rfl⟩
   rw [← hno] at hvo
   have HNO:=zh hno
   have hnoz:(no:Int)≤40:=by have:=hl.outs;omega
   by_cases hr0:0<nr
   ·obtain⟨cp,hv,hat,hfr⟩:=hm.rst.full (by omega)
    rw [← hnr] at hv
    subst hv
    have hr0z:(0:Int)<nr:=by omega
    have IX:=zh (indexFunc_any (free_fun w3.heap.size rest (by have:=hl.few;omega)) hm.rst.mvs (by have:=hl.few;omega) ⟨_,hm.cell,hm.rst.mvs⟩)
    have eg73:=(free_fun w3.heap.size rest (by have:=hl.few;omega)).enter
    have c0:=hm.cell
    subst hvo
    by_cases hx:rest.findIdx (RM.free rest)<rest.length
    ·obtain⟨i,hi⟩:∃ i,rest.findIdx (RM.free rest)=i:=⟨_,rfl⟩
     rw [hi] at hx
     obtain⟨⟨a,b⟩,hmv⟩:∃ m,rest[i]?=some m:=⟨_,zq9 hx⟩
     have IX2:Hid (Calls Tryz.prog 72 #[.slice (some ⟨g,0,none⟩) nr cp,.func (.func 73) #[] #[.pointer (some ⟨w3.heap.size,0,none⟩)]] wr fun e w'=>Below wr.heap.size wr w'∧e = .returned (.int .i64 (i:Int))):=by
      refine IX.out.mono ?_
      rintro e w' ⟨hb,he⟩
      rw [hi,if_pos hx] at he
      exact⟨hb,he⟩
     have HIX:=zh hi
     have HMV:=zh hmv
     have HXL:=zh hx
     have hiz:(i:Int)<nr:=by omega
     have hi0:(0:Int)≤i:=by omega
     clear hm hl hgk hnr hno IX hat hfr hi hmv hx
     go_wp2_with fail
     refine IX2.out.mono ?_
     rintro e w4 ⟨hb4,rfl⟩
     have M4:=zh (KM.out.keep HC.out hb4)
     clear hb4 c0
     have c0:=M4.out.cell
     obtain⟨cp',hv,hat,hfr⟩:=M4.out.rst.full (by have:=HNR.out;omega)
     rw [← HNR.out] at hv
     simp only [Value.slice.injEq,true_and] at hv
     subst hv
     obtain⟨y0,y1⟩:=hat i _ HMV.out
     clear hat hfr
     obtain⟨i0,hi1,hz0,hz1,hz2⟩:=info_parts Tryz.info81
     have HI:=zh (And.intro hi1 (And.intro hz0 (And.intro hz1 hz2)))
     have M5:=zh (M4.out.keep HC.out ((zs9 _ w4).alloc (zr4 _) (.cells #[.int .i64 a,.int .i64 b] 81)))
     have O5:Hid (World.ownsRow (w4.alloc (.cells #[.int .i64 a,.int .i64 b] 81)) (w3.heap.size+1) 81 2 (.slice oa no oc) no (zy out)):=by have:=M5.out.ot;unfold MvOwn at this;rw [← HNO.out] at this;exact this
     have N5:Hid (∀ (j:Nat) (u:Value),[Value.int .i64 a,Value.int .i64 b][j]?=some u→(w4.alloc (.cells #[.int .i64 a,.int .i64 b] 81)).cell? ((⟨w4.heap.size,0,none⟩:Addr).add j)=some u):=fun j u hu=>by
      rw [Addr.add_lit,zb _ _ _ _ _ _ (zs2 w4 _),Nat.zero_add]
      match j,hu with
      | 0,hu=>exact hu
      | 1,hu=>exact hu
      | j+2,hu=>simp at hu
     have hno2:no+1≤maxLen∧(no+1)*16≤140737488355328:=by simp only [maxLen];omega
     have HNB:=zh hno2
     clear hi1 hz0 hz1 hz2 hno2
     go_wp2_with (at_builtin;refine wpList_append_own _ rfl _ _ 74 rfl (w3.heap.size+1) 81 i0 (.agg #[.int .i64 0,.int .i64 0]) 2 16 Tryz.underlying74 HI.out.1 HI.out.2.1 HI.out.2.2.1 HI.out.2.2.2 rfl (by decide) (.slice oa no oc) no (zy out) rfl O5.out ⟨w4.heap.size,0,none⟩ 1 1 [.int .i64 a,.int .i64 b] rfl rfl N5.out (fun u hu=>by simp at hu;rcases hu with rfl | rfl<;>rfl) HNB.out.1 HNB.out.2 M5.out.size ?_)
     intro vo' w6 hown hg6 _
     have M6:Hid (OrM w (w3.heap.size+1) w3.heap.size g rest (out++[(a,b)]) (.slice (some ⟨g,0,none⟩) nr cp) vo' w6):=M5.out.push HC.out hg6 (by
      show World.ownsRow _ _ _ _ _ _ _
      rw [zr2,List.length_singleton,← HNO.out,mvCells_append];exact hown)
     clear hown hg6 y0 y1 c0
     have c0:=M6.out.cell
     have DL:=zh (delete_any (j:=i+1) rfl M6.out.rst HXL.out (by have:=KL.out.few;omega))
     rw [show (((i+1:Nat)):Int)=(i:Int)+1 from by push_cast;rfl] at DL
     go_wp2_with fail
     refine DL.out.mono ?_
     rintro e w7 ⟨v7,rfl,hr7,hg7⟩
     have M7:=zh (M6.out.put HC.out hg7 hr7)
     have LF:=zh (KL.out.free HIX.out HMV.out)
     have brc:=hg7.block w3.heap.size (zs3 _ _ c0) (fun e=>HC.out.ne (by simpa using e.symm))
     have c7:=(World.cell?_of_block (a:=⟨w3.heap.size,0,none⟩) brc).trans c0
     have f7:=(World.frozen?_of_block (a:=⟨w3.heap.size,0,none⟩) brc).trans M6.out.froz
     obtain⟨va7,vc7,hv7⟩:=hr7.shape
     obtain⟨n7,hn7⟩:∃ n,n=(rest.eraseIdx i).length:=⟨_,rfl⟩
     rw [← hn7] at hv7
     subst hv7
     clear hr7 hg7 brc c0 hn7
     go_wp2_with fail
     go_roundg (RM.mu (rest.eraseIdx i))
     case measure=>rw [KG.out];exact LF.out.2
     case rel=>exact⟨_,_,_,rfl,M7.out,LF.out.1⟩
    obtain⟨m,r,hmr⟩:∃ m r,rest=m :: r:=by
     cases rest with
     | nil=>have:=HNR.out;simp at this;omega
     | cons m r=>exact⟨m,r,rfl⟩
    subst hmr
    have IX2:Hid (Calls Tryz.prog 72 #[.slice (some ⟨g,0,none⟩) nr cp,.func (.func 73) #[] #[.pointer (some ⟨w3.heap.size,0,none⟩)]] wr fun e w'=>Below wr.heap.size wr w'∧e = .returned (.int .i64 (-1))):=by
     refine IX.out.mono ?_
     rintro e w' ⟨hb,he⟩
     rw [if_neg hx] at he
     exact⟨hb,he⟩
    have LF:=zh (KL.out.turn hx)
    clear hm hl hgk hnr hno IX hat hfr hx
    go_wp2_with fail
    refine IX2.out.mono ?_
    rintro e w4 ⟨hb4,rfl⟩
    have M4:=zh (KM.out.keep HC.out hb4)
    clear hb4 c0
    have c0:=M4.out.cell
    obtain⟨cp',hv,hat,hfr⟩:=M4.out.rst.full (by have:=HNR.out;omega)
    rw [← HNR.out] at hv
    simp only [Value.slice.injEq,true_and] at hv
    subst hv
    obtain⟨y0,y1⟩:=hat 0 m rfl
    clear hat hfr
    obtain⟨i0,hi1,hz0,hz1,hz2⟩:=info_parts Tryz.info81
    have HI:=zh (And.intro hi1 (And.intro hz0 (And.intro hz1 hz2)))
    have M5:=zh (M4.out.keep HC.out ((zs9 _ w4).alloc (zr4 _) (.cells #[.int .i64 spare,.int .i64 m.1] 81)))
    have O5:Hid (World.ownsRow (w4.alloc (.cells #[.int .i64 spare,.int .i64 m.1] 81)) (w3.heap.size+1) 81 2 (.slice oa no oc) no (zy out)):=by have:=M5.out.ot;unfold MvOwn at this;rw [← HNO.out] at this;exact this
    have N5:Hid (∀ (j:Nat) (u:Value),[Value.int .i64 spare,Value.int .i64 m.1][j]?=some u→(w4.alloc (.cells #[.int .i64 spare,.int .i64 m.1] 81)).cell? ((⟨w4.heap.size,0,none⟩:Addr).add j)=some u):=fun j u hu=>by
     rw [Addr.add_lit,zb _ _ _ _ _ _ (zs2 w4 _),Nat.zero_add]
     match j,hu with
     | 0,hu=>exact hu
     | 1,hu=>exact hu
     | j+2,hu=>simp at hu
    have hno2:no+1≤maxLen∧(no+1)*16≤140737488355328:=by simp only [maxLen];omega
    have HNB:=zh hno2
    clear hi1 hz0 hz1 hz2 hno2
    go_wp2_with (at_builtin;refine wpList_append_own _ rfl _ _ 74 rfl (w3.heap.size+1) 81 i0 (.agg #[.int .i64 0,.int .i64 0]) 2 16 Tryz.underlying74 HI.out.1 HI.out.2.1 HI.out.2.2.1 HI.out.2.2.2 rfl (by decide) (.slice oa no oc) no (zy out) rfl O5.out ⟨w4.heap.size,0,none⟩ 1 1 [.int .i64 spare,.int .i64 m.1] rfl rfl N5.out (fun u hu=>by simp at hu;rcases hu with rfl | rfl<;>rfl) HNB.out.1 HNB.out.2 M5.out.size ?_)
    intro vo' w6 hown hg6 _
    have M6:Hid (OrM w (w3.heap.size+1) w3.heap.size g (m :: r) (out++[(spare,m.1)]) (.slice (some ⟨g,0,none⟩) nr cp) vo' w6):=M5.out.push HC.out hg6 (by
     show World.ownsRow _ _ _ _ _ _ _
     rw [zr2,List.length_singleton,← HNO.out,mvCells_append];exact hown)
    clear hown hg6 y0 y1 c0
    have c0:=M6.out.cell
    go_wp2_with fail
    go_loopw [50] (fun iv wl=>∃ k:Nat,k≤nr∧iv = .int .i64 k∧OrM w (w3.heap.size+1) w3.heap.size g (RM.part spare m.1 k (m :: r)) (out++[(spare,m.1)]) (.slice (some ⟨g,0,none⟩) nr cp) vo' wl) (fun iv _=>nr - (intOf iv).toNat)
    case atStart=>exact⟨0,Nat.zero_le _,rfl,M6.out⟩
    obtain⟨k,hk,rfl,hml⟩:=hrel
    have KK:=zh hk
    have ML:=zh hml
    have cl:=hml.cell
    clear hk hml c0
    by_cases hlt:k<nr
    ·have hlz:(k:Int)<nr:=by omega
     have hk0:(0:Int)≤k:=by omega
     obtain⟨⟨a,b⟩,hmv⟩:∃ x,(m :: r)[k]?=some x:=⟨_,zq9 (by have:=HNR.out;omega)⟩
     have hpl:=RM.part_length spare m.1 k (m :: r)
     obtain⟨cp',hv,hat,hfr⟩:=ML.out.rst.full (by have:=HNR.out;omega)
     rw [hpl,← HNR.out] at hv
     simp only [Value.slice.injEq,true_and] at hv
     subst hv
     have HPA:=RM.part_at (spare:=spare) (kept:=m.1) hmv
     obtain⟨y0,y1⟩:=hat k _ HPA
     have f1:=hfr (k*2+1)
     have PS:=RM.part_succ (spare:=spare) (kept:=m.1) hmv
     have HLT:=zh hlt
     have HP:=zh HPA
     simp only [] at y0 y1
     clear hat hfr hpl HPA hmv hlt
     by_cases hbk:b=m.1
     ·have PS2:Hid (RM.part spare m.1 (k+1) (m :: r)=(RM.part spare m.1 k (m :: r)).set k (a,spare)):=by show _=_;rw [PS];exact if_pos hbk
      have db:(b==m.1)=true:=by simp [hbk]
      clear PS hbk
      go_wp2_with fail
      go_roundw
      case rel =>
       refine⟨k+1,HLT.out,by go_num,?_⟩
       rw [PS2.out]
       exact ML.out.change HC.out (grown_setCell wr ⟨g,k*2+1,none⟩ _) (ML.out.rst.setFrom HP.out)
      case measure=>have:=HLT.out;simp [intOf];omega
     have PS2:Hid (RM.part spare m.1 (k+1) (m :: r)=RM.part spare m.1 k (m :: r)):=by show _=_;rw [PS];exact if_neg hbk
     have db:(b==m.1)=false:=by simp [hbk]
     clear PS hbk
     go_wp2_with fail
     go_roundw
     case rel =>
      refine⟨k+1,HLT.out,by go_num,?_⟩
      rw [PS2.out]
      exact ML.out
     case measure=>have:=HLT.out;simp [intOf];omega
    have hkn:k=(m :: r).length:=by have:=KK.out;have:=HNR.out;omega
    have hlz:(nr:Int)≤k:=by omega
    have MT:Hid (OrM w (w3.heap.size+1) w3.heap.size g (RM.turn spare m.1 (m :: r)) (out++[(spare,m.1)]) (.slice (some ⟨g,0,none⟩) nr cp) vo' wr):=by
     have:=ML.out
     rw [hkn,RM.part_all] at this
     exact this
    clear hkn hlt
    go_wp2_with fail
    go_roundg (RM.mu (RM.turn spare m.1 (m :: r)))
    case measure=>rw [KG.out];exact LF.out.2
    case rel=>exact⟨_,_,_,rfl,MT.out,LF.out.1⟩
   have hr1:rest=[]:=List.eq_nil_of_length_eq_zero (by omega)
   obtain⟨va,vc,hv⟩:=hm.rst.shape
   have hn0:nr=0:=by omega
   rw [← hnr,hn0] at hv
   subst hv
   have c0:=hm.cell
   have EO:Hid (out=RM.order l spare):=by have:=hl.ord;rw [hr1] at this;exact this
   have OM:=zh hm.ot.at'
   subst hvo
   clear hm hl hgk hr0
   go_wp2_with fail
   go_ret2
   refine⟨KM.out.below,.inl ⟨E.out,_,?_,rfl⟩⟩
   rw [← EO.out];exact OM.out
  have e3:n3=0:=by omega
  subst e3
  clear h0
  go_wp2_with fail
  go_loopw [6] (fun vo wr=>vo = .slice none 0 0∧wr=w3.alloc (.cells #[.slice va3 0 vc3] 74)) (fun _ _=>0)
  case atStart=>exact⟨rfl,rfl⟩
  obtain⟨rfl,rfl⟩:=hrel
  go_wp2_with fail
  go_ret2
  refine⟨HB3.out.alloc HB3.out.size _,.inl ⟨E.out,_,?_,rfl⟩⟩
  have e0:RM.rest0 l=[]:=List.eq_nil_of_length_eq_zero HN3.out.symm
  have:RM.order l spare=[]:=by unfold RM.order;rw [e0];rfl
  rw [this]
  exact⟨none,0,rfl,fun h=>absurd h (by simp)⟩
end Go.Proofs.YtnkahlloahgifaaGreatDoor
namespace Go.Proofs.YtnkahlloahgifaaGreatDoor
open RG
def xEnd:TE := .mk 9 ⟨#[]⟩ [⟨#[107]⟩] .nil .nil
def xAdd:TE := .mk 1 ⟨#[107]⟩ [⟨#[104]⟩,⟨#[115]⟩] .nil (.cons xEnd .nil)
def xRead:TE := .mk 5 ⟨#[115]⟩ [⟨#[114]⟩] .nil (.cons xAdd .nil)
def xMod:TE := .mk 4 ⟨#[114]⟩ [⟨#[116]⟩] .nil (.cons xRead .nil)
def xNil:TE := .mk 9 ⟨#[]⟩ [⟨#[]⟩] .nil .nil
def xSplit:TE := .mk 7 ⟨#[]⟩ [⟨#[99]⟩] (.cons [] xNil (.cons [⟨#[104]⟩,⟨#[116]⟩] xMod .nil)) .nil
def xSum:TE := .mk 5 ⟨#[99]⟩ [⟨#[109]⟩] .nil (.cons xSplit .nil)
def xF:List Nd:=F0 [⟨#[109]⟩] xSum
theorem xsize:xSum.size=7:=by kernel_rfl
theorem xvars:vars xF=[⟨#[109]⟩,⟨#[99]⟩,⟨#[104]⟩,⟨#[116]⟩,⟨#[114]⟩,⟨#[115]⟩,⟨#[107]⟩]:=by kernel_rfl
theorem xlive:liveAt xF 4=[⟨#[104]⟩,⟨#[114]⟩]:=by kernel_rfl
theorem xc1:conflict xF ⟨#[104]⟩ ⟨#[114]⟩=true:=by kernel_rfl
theorem xc2:conflict xF ⟨#[116]⟩ ⟨#[114]⟩=false:=by kernel_rfl
theorem xwidth:width xF=2:=by kernel_rfl
theorem xalloc:alloc xF=([0,0,0,1,1,1,0],2):=by kernel_rfl
theorem xorder:(RM.order [(0,1),(1,0)] 2).length=3:=by kernel_rfl
theorem xmoves:RM.areMoves [(0,1),(1,0)] 2=true:=by kernel_rfl
theorem xnames:(vars xF).all isNm=true:=by kernel_rfl
theorem xform:xF.all (fun d=>nodeOk d.e)=true:=by kernel_rfl
theorem xscope:xSum.inScope [⟨#[109]⟩]=true:=by kernel_rfl
theorem xsmall:xF.all (fun d=>d.binds.all (fun x=>decide (x.size≤1))&&d.e.args.all (fun x=>decide (x.size≤1)))=true:=by kernel_rfl
theorem xnodup:(vars xF).Nodup:=by rw [xvars];decide
theorem xgood:RG.Good isNm [⟨#[109]⟩] xSum where
 params:=by decide
 size:=by rw [xsize];decide
 form:=List.all_eq_true.1 xform
 names:=List.all_eq_true.1 xnames
 nodup:=xnodup
 inScope:=xscope
theorem xreg:regFind (pairs xF (alloc xF).1) ⟨#[115]⟩=some 1:=by kernel_rfl
theorem xpairs:(pairs xF (alloc xF).1).length=7:=by kernel_rfl
end Go.Proofs.YtnkahlloahgifaaGreatDoor
namespace Go.Proofs.YtnkahlloahgifaaGreatDoor
open Go.RowKit RG Go.Maps
theorem Tryz.info61:(Tryz.prog.info? 61).map (fun i=>(i.zero,i.size,i.bytes))=some (some (.agg #[.string ⟨#[]⟩,.int .i64 0]),2,24):=by kernel_rfl
structure AlI (w w1:World) (A:Ad) (fl g ob:Nat) (F:List Nd) (i:Nat) (regs:List Nat) (most:Nat) (done:List Nm) (wr:World):Prop where
 st:(regs,most)=(List.range i).foldl (allocStep F) ((vars F).map fun _=>0,0)
 row:∃ f,AlS wr g F regs done f
 out:wr.heap[ob]?=some (.cells #[.int .i64 (most:Nat),.slice (some ⟨g,0,none⟩) (vars F).length (vars F).length] 56 (0,0))
 most:most≤1000001
 below:Below w1.heap.size w1 wr
theorem allocate_any {Env:World→Prop}{isName:Nm→Bool}{w:World}{v:Value}{ps:List Nm}{e:TE}(h:FnOk Env isName w v ps e):Calls Tryz.prog 26 #[v] w (AlP isName w ps e):=by
 have RD:=zh h.boxed
 obtain⟨cs,rfl⟩:=h.cells
 have LAW:=zh h
 have B0:Hid (Below w.heap.size w ((w.alloc (.cells cs 29)).alloc (.cells #[.int .i64 0,.slice none 0 0] 56))):=((zs9 _ _).alloc (zr4 _) _).alloc (by simp) _
 have RD2:Hid (Calls Tryz.prog 58 #[.pointer (some ⟨w.heap.size,0,none⟩)] ((w.alloc (.cells cs 29)).alloc (.cells #[.int .i64 0,.slice none 0 0] 56)) (fun en w'=>ReadP isName ((w.alloc (.cells cs 29)).alloc (.cells #[.int .i64 0,.slice none 0 0] 56)) ps e en w')):=h.boxedAt ((zs9 _ _).alloc (zr4 _) _)
 clear h
 go_enter Tryz.func26,Tryz.ntmps26
 go_wp2_with fail
 refine RD2.out.mono ?_
 rintro en w1 ⟨hb,⟨hg,A,fl,rfl,hfl⟩|⟨hng,rfl⟩⟩
 ·have HB1:Hid (Below w.heap.size w w1):=B0.out.trans (hb.mono B0.out.size)
  have HG:=zh hg
  have HF:=zh hfl
  have HW1:Hid (w.heap.size+1<w1.heap.size):=by have:=hb.size;simp at this;show _<_;omega
  have rbw:w1.heap[w.heap.size+1]?=some (.cells #[.int .i64 0,.slice none 0 0] 56):=by
   rw [hb.block _ (by simp)]
   have:=zs2 (w.alloc (.cells cs 29)) (.cells #[.int .i64 0,.slice none 0 0] 56)
   rw [World.size_alloc] at this
   exact this
  have RBW:=zh rbw
  obtain⟨sl,sn,sv,f0,f1,f2,f3⟩:=hfl.at'.flat
  obtain⟨-,ad3,c3',hsv3,-⟩:=id f3
  have c3:w1.cell? ⟨fl,3,none⟩=some (.slice ad3 (vars (F0 ps e)).length c3'):=by rw [zb _ _ 3 _ _ _ f0,hsv3];rfl
  obtain⟨nv,hnv⟩:∃ n,n=(vars (F0 ps e)).length:=⟨_,rfl⟩
  rw [← hnv] at c3
  have HNV:=zh hnv
  have hnvz:(nv:Int)≤320000:=by have:=hg.few;omega
  obtain⟨lc,lg,lo,c1,hlat⟩:=hfl.links
  have HLAT:=zh hlat
  obtain⟨n,hn⟩:∃ n,n=(F0 ps e).length:=⟨_,rfl⟩
  rw [← hn] at c1
  have HN:=zh hn
  have hnz:(n:Int)≤20000:=by have:=hfl.len;omega
  obtain⟨i0,hi0,hz0,hz1,hz2⟩:=info_parts Tryz.info61
  obtain⟨f0',hs0⟩:=AlS.made (w:=w1) hnv
  have hms:=run_make (P:=Tryz.prog) w1 54 61 i0 (.agg #[.string ⟨#[]⟩,.int .i64 0]) Tryz.underlying54 hi0 hz0 .i64 .i64 (nv:Int) (nv:Int) (by omega) (Int.le_refl _) (by rw [hz2];omega) (by omega)
  rw [hz1,Int.toNat_natCast] at hms
  change _=Result.ok _ (w1.alloc (.cells (madeCells #[.string ⟨#[]⟩,.int .i64 0] (nv*2)) 61)) at hms
  obtain⟨MC,hMC⟩:∃ m,m=madeCells #[.string ⟨#[]⟩,.int .i64 0] (nv*2):=⟨_,rfl⟩
  rw [← hMC] at hms hs0
  have S0:=zh hs0
  clear hb hg hfl rbw f0 f1 f2 f3 hsv3 hnv hlat hn hs0 hMC hi0 hz0 hz1 hz2
  have B2:Hid (Below w1.heap.size w1 ((w1.alloc (.cells MC 61)).alloc (.cells #[.int .i64 0,.slice (some ⟨w1.heap.size,0,none⟩) nv nv] 56))):=((zs9 _ _).alloc (zr4 _) _).alloc (by simp) _
  have c1':=zd B2.out _ _ c1
  have I0:Hid (AlI w w1 A fl w1.heap.size (w1.heap.size+1) (F0 ps e) 0 ((vars (F0 ps e)).map fun _=>0) 0 [] ((w1.alloc (.cells MC 61)).alloc (.cells #[.int .i64 0,.slice (some ⟨w1.heap.size,0,none⟩) nv nv] 56))):=by
   refine⟨rfl,⟨f0',S0.out.keep (zt2 _ _ _ (by simp))⟩,?_,by omega,B2.out⟩
   have:=zs2 (w1.alloc (.cells MC 61)) (.cells #[.int .i64 0,.slice (some ⟨w1.heap.size,0,none⟩) nv nv] 56)
   rw [World.size_alloc] at this
   rw [this,HNV.out];rfl
  clear S0 B2
  go_wp2_with fail
  clear c3 hms c1 c1'
  go_loopw [29] (fun iv wr=>∃ (i:Nat) (regs:List Nat) (most:Nat),i≤n∧iv = .int .i64 i∧AlI w w1 A fl w1.heap.size (w1.heap.size+1) (F0 ps e) i regs most (vars ((F0 ps e).take i)) wr) (fun iv _=>n - (intOf iv).toNat)
  case atStart=>exact⟨0,_,_,Nat.zero_le _,rfl,I0.out⟩
  rename World=>wo
  obtain⟨i,regs,most,hi,rfl,hI⟩:=hrel
  have KI:=zh hI
  have KN:=zh hi
  clear hi hI I0
  by_cases hlt:i<n
  ·have hlz:(i:Int)<n:=by omega
   have HLT:=zh hlt
   have hci:=zd KI.out.below _ _ (HLAT.out i (by rw [← HN.out];exact hlt))
   have LK:=zh ((HF.out.link (i:=i) (by rw [← HN.out];exact hlt)).keep KI.out.below)
   have hmm := @run_makeMap Tryz.prog
   have VB:Hid (Below wo.heap.size wo (wo.alloc (.map #[] 0))):=(zs9 _ _).alloc (zr4 _) _
   have HS1:Hid (w1.heap.size+1<wo.heap.size):=(zq7.1 KI.out.out).1
   clear hlt
   go_wp2_with fail
   refine(crossing_any (LK.out.keep VB.out)).mono ?_
   rintro en w2 ⟨cb,rfl,hcb,hs2,hb2⟩
   have HC2:=zh hs2
   have HB2:Hid (Below wo.heap.size wo w2):=VB.out.trans (hb2.mono VB.out.size)
   have HT2:Hid (ISet w2 wo.heap.size (ofNats (Tx (F0 ps e) i regs (ikey (VSet (F0 ps e) (cross (F0 ps e) i)))))):=by
    rw [show Tx (F0 ps e) i regs (ikey (VSet (F0 ps e) (cross (F0 ps e) i)))=[] from Tx_start _ _ _ _ (fun x hx=>ikey_iff.2 ⟨1,vset_mem.2 ⟨x,(mem_named.1 hx).1,(mem_named.1 hx).2,rfl,rfl⟩⟩)]
    exact(ISet.made wo).keep (hb2.block _ (by simp))
   have HCB:Hid (wo.heap.size<cb∧cb<w2.heap.size):=⟨by simp at hcb;omega,IMap.lt hs2⟩
   clear hcb hs2 hb2 hci
   go_wp2_with (at_range;refine wpList_irange Tryz.underlying3 rfl _ 108 rfl Tryz.underlying108 cb (VSet (F0 ps e) (cross (F0 ps e) i)) rfl HC2.out ?_;intro w3 hrg0 hg0 hs0)
   go_frame
   have R0:=zh hrg0
   have HB3:Hid (Below wo.heap.size wo w3):=HB2.out.grown hg0 HB2.out.size (fun r e=>by cases e)
   have HT3:=zh (HT2.out.keep (hg0.block _ HT2.out.lt (by simp)))
   have HS3:Hid (w2.heap.size<w3.heap.size):=by show _<_;rw [hs0];exact Nat.lt_succ_self _
   obtain⟨f,hf⟩:=KI.out.row
   have SF:=zh hf
   have OB:=zh KI.out.out
   obtain⟨tb,htb⟩:∃ b,b=wo.heap.size:=⟨_,rfl⟩
   have HTB:=zh htb
   rw [← htb] at HT3 HCB HB3 HS1 ⊢
   rw [← HNV.out] at OB
   clear hrg0 hg0 hs0 hf htb HT2 HB2 HC2
   go_loopw [9] (fun _ wl=>∃ (todo:Int→Bool) (cnt:Nat),IRg Tryz.prog wl cb w2.heap.size (VSet (F0 ps e) (cross (F0 ps e) i)) todo cnt∧ISet wl tb (ofNats (Tx (F0 ps e) i regs todo))∧Below tb wo wl∧w2.heap.size<wl.heap.size) (fun _ wl=>wl.rangeLeft cb w2.heap.size)
   case atStart=>exact⟨_,_,R0.out,HT3.out,HB3.out,HS3.out⟩
   obtain⟨todo,cnt,hrg,hset,hbl,hsz⟩:=hrel
   have RG1:=zh hrg
   have KT:=zh hset
   have KB:=zh hbl
   have KS:=zh hsz
   clear hrg hset hbl hsz
   go_wp2_with (at_next;refine wpList_inext Tryz.underlying3 rfl _ rfl cb w2.heap.size _ todo cnt rfl RG1.out ?_ ?_)
   ·intro hl0
    have HT4:Hid (ISet wr tb (ofNats ((named (F0 ps e) (cross (F0 ps e) i)).map fun x=>regs.getD (place (F0 ps e) x) 0))):=by have:=KT.out;rw [Tx_end _ _ _ _ hl0] at this;exact this
    have KBW:Hid (Below w1.heap.size w1 wr):=KI.out.below.trans (KB.out.mono (by have:=HS1.out;omega))
    have LK4:=zh ((HF.out.link (i:=i) (by rw [← HN.out];exact HLT.out)).keep KBW.out)
    have SF4:Hid (∃ f,AlS wr w1.heap.size (F0 ps e) regs (vars ((F0 ps e).take i)++(nd (F0 ps e) i).binds.take 0) f):=⟨f,by rw [List.take_zero,List.append_nil];exact SF.out.keep (KB.out.block _ (by have:=HS1.out;omega))⟩
    have OB4:=zh ((KB.out.block _ HS1.out).trans OB.out)
    have HTW:Hid (w1.heap.size+1<tb):=HS1.out
    obtain⟨sv,hsv1,hst⟩:=(HF.out.link (i:=i) (by rw [← HN.out];exact HLT.out)).l0
    have hsv:=zd KBW.out _ _ hsv1
    clear hsv1
    obtain⟨-,sa,sc,rfl,hsl⟩:=hst
    have HSL:=zh hsl
    obtain⟨bs,hbs⟩:∃ b,b=(nd (F0 ps e) i).binds:=⟨_,rfl⟩
    obtain⟨nb,hnb⟩:∃ n,n=bs.length:=⟨_,rfl⟩
    rw [← hbs] at hsv HSL SF4
    rw [← hnb] at hsv HSL
    have HBS:=zh hbs
    have HNB:=zh hnb
    have HBV:Hid (∀ x∈bs,x∈vars (F0 ps e)):=fun x hx=>LK4.out.sub x (by rw [← hbs];exact hx)
    have hnbz:nb≤320000:=by have h1:=binds_le (F:=F0 ps e) (i:=i) (by rw [← HN.out];exact HLT.out);rw [← hbs,← hnb] at h1;have:=HG.out.few;omega
    have HNBZ:=zh hnbz
    have hnbi:(nb:Int)≤320000:=by omega
    have GV0:Hid (giveRegs (F0 ps e) (bs.drop 0) ((named (F0 ps e) (cross (F0 ps e) i)).map fun x=>regs.getD (place (F0 ps e) x) 0) (regs,most)=allocStep (F0 ps e) (regs,most) i):=by show _=_;rw [List.drop_zero,hbs];rfl
    have TL0:Hid (((named (F0 ps e) (cross (F0 ps e) i)).map fun x=>regs.getD (place (F0 ps e) x) 0).length≤320000+0):=by show _≤_;rw [List.length_map];have:=named_le (F:=F0 ps e) (cross (F0 ps e) i);have:=HG.out.few;omega
    have MO4:=zh KI.out.most
    have KST:=zh KI.out.st
    clear hl0 hsl hbs hnb hnbz KB KT KS RG1 R0 HT3 HB3 HS3 SF OB KI
    go_wp2_with fail
    clear hsv
    go_loopw [54] (fun iv wl=>∃ (k:Nat) (regs':List Nat) (most':Nat) (T:List Nat),k≤nb∧iv = .int .i64 k∧(∃ f,AlS wl w1.heap.size (F0 ps e) regs' (vars ((F0 ps e).take i)++bs.take k) f) ∧
     wl.heap[w1.heap.size+1]?=some (.cells #[.int .i64 (most':Nat),.slice (some ⟨w1.heap.size,0,none⟩) nv nv] 56 (0,0))∧most'≤1000001∧Below w1.heap.size w1 wl∧ISet wl tb (ofNats T)∧T.length≤320000+k∧giveRegs (F0 ps e) (bs.drop k) T (regs',most')=allocStep (F0 ps e) (regs,most) i) (fun iv _=>nb - (intOf iv).toNat)
    case atStart=>exact⟨0,_,_,_,Nat.zero_le _,rfl,SF4.out,OB4.out,MO4.out,KBW.out,HT4.out,TL0.out,GV0.out⟩
    obtain⟨k,regs',most',T,hk,rfl,hsf,hob,hmo,hbl,hse,htl,hgv⟩:=hrel
    have KK:=zh hk
    have SF:=zh hsf
    have OB:=zh hob
    have MO:=zh hmo
    have KB:=zh hbl
    have KT:=zh hse
    have TL:=zh htl
    have GV:=zh hgv
    clear hk hsf hob hmo hbl hse htl hgv SF4 OB4 HT4 TL0 GV0
    by_cases hlt:k<nb
    ·have hklz:(k:Int)<nb:=by omega
     obtain⟨g4,o4,rfl,hat⟩:=HSL.out (by omega)
     obtain⟨x,hx⟩:∃ x,bs[k]?=some x:=⟨_,zq9 (by have:=HNB.out;omega)⟩
     have hcx:=zd KB.out _ _ (hat k _ (strs_at hx))
     have HX:=zh hx
     have HXV:=zh (HBV.out x (zr1 hx))
     have HKL:=zh hlt
     have LOW:=zh (lowest_any KT.out (by have:=TL.out;have:=HNBZ.out;omega))
     obtain⟨r,hr⟩:∃ r,r=low T:=⟨_,rfl⟩
     have HR:=zh hr
     rw [← hr] at LOW
     have HRL:Hid (r≤640000):=by show _≤_;have:=(low_spec T).2.2;have:=TL.out;have:=HNBZ.out;omega
     have hrz:(r:Int)≤640000:=by have:=HRL.out;omega
     clear hat hx hlt hr
     go_upto_region 17 with (go_at_call 63;refine LOW.out.mono ?_;rintro e w' ⟨rfl,rfl⟩)
     go_upto_region 18 with (at_mapUpdate;refine wpList_sput rfl _ _ _ rfl tb (ofNats T) rfl KT.out ?_ ?_ r rfl rfl (wf_nat (by omega)) ?_)
     ·have:=TL.out;have:=HNBZ.out;unfold ofNats;rw [List.length_map];omega
     ·intro l hn hl
      have h1:=nodup_sub_len hn hl
      have:=TL.out;have:=HNBZ.out
      unfold ofNats at h1
      rw [List.length_map] at h1;omega
     intro w6 hm6 hg6
     have KT6:Hid (ISet w6 tb (ofNats (T++[low T]))):=by
      have h:ofNats (T++[low T])=ofNats T++[(r:Int)]:=by unfold ofNats;rw [List.map_append,HR.out];rfl
      show ISet _ _ _
      rw [h];exact hm6
     have B6:Hid (Below w1.heap.size w1 w6):=KB.out.grown hg6 KB.out.size (fun r e=>by simp at e;have:=HTW.out;omega)
     have OB6:=zh ((hg6.block _ (zq7.1 OB.out).1 (by have:=HTW.out;simp;omega)).trans OB.out)
     obtain⟨f,hf⟩:=SF.out
     have SF6:=hf.keep (hg6.block _ hf.row.lt (by have:=HTW.out;simp;omega))
     have hpl:=place_lt HXV.out
     have hr6:r≤1000000:=by have:=HRL.out;omega
     obtain⟨f',hf'⟩:=SF6.put HXV.out hr6
     have s0:=SF6.row.cell (i:=place (F0 ps e) x*2) (by omega)
     have s1:=SF6.row.cell (i:=place (F0 ps e) x*2+1) (by omega)
     have sf0:=SF6.row.frozen (place (F0 ps e) x*2)
     have sf1:=SF6.row.frozen (place (F0 ps e) x*2+1)
     have LK6:=(HF.out.link (i:=i) (by rw [← HN.out];exact HLT.out)).keep B6.out
     have p1:(Instr.lookup 116 (.map (some A.pl)) (.string x) false).run Tryz.prog w6.drew = .ok (.int .i64 (place (F0 ps e) x:Nat)) w6.drew:=pmap_run (w:=w6.drew) (LK6.pm.keep rfl) HXV.out
     have p2:w6.cell? ⟨fl,4,none⟩=some (.map (some A.pl)):=LK6.f4
     have p3:w6.cell? ⟨w1.heap.size+1,1,none⟩=some (.slice (some ⟨w1.heap.size,0,none⟩) nv nv):=by rw [zb _ _ 1 _ _ _ OB6.out];rfl
     have p0:w6.cell? ⟨w1.heap.size+1,0,none⟩=some (.int .i64 (most':Nat)):=by rw [zb _ _ 0 _ _ _ OB6.out];rfl
     have pf:∀ q,w6.frozen? ⟨w1.heap.size+1,q,none⟩=false:=fun q=>zs1 _ _ q _ _ OB6.out
     have SF9:=zh hf'
     obtain⟨pl,hpp⟩:∃ q,q=place (F0 ps e) x:=⟨_,rfl⟩
     rw [← HNV.out] at hpl
     rw [← hpp] at hpl s0 s1 sf0 sf1 p1 SF9
     obtain⟨u0,hu0⟩:∃ u,u=f (pl*2):=⟨_,rfl⟩
     obtain⟨u1,hu1⟩:∃ u,u=f (pl*2+1):=⟨_,rfl⟩
     rw [← hu0] at s0
     rw [← hu1] at s1
     have HPP:=zh hpp
     have hplz:(pl:Int)<nv:=by omega
     have hpl0:(0:Int)≤pl:=by omega
     have hmoz:(most':Int)≤1000001:=by have:=MO.out;omega
     clear hm6 hg6 hf SF6 hf' LK6 hpp hpl hcx hu0 hu1
     go_upto_region 18 with fail
     refine wp_region_still_tail 12 (by kernel_rfl) (by kernel_rfl) ?_
     simp only [List.take_succ_cons,List.take_zero,List.drop_succ_cons,List.drop_zero,World.drew_eq]
     iterate 12 still_step
     refine wpStill_nil ?_
     go_wp2_with fail
     have hmax:(if (most':Int)<(r:Int)+1 then (r:Int)+1 else (most':Int))=((max most' (r+1):Nat):Int):=by split<;>omega
     first | rw [hmax] | rw [show max (most':Int) ((r:Int)+1)=((max most' (r+1):Nat):Int) from by omega]
     have ebt:bs.take (k+1)=bs.take k++[x]:=by rw [List.take_add_one,HX.out];rfl
     refine⟨⟨k+1,regs'.set pl r,max most' (r+1),T++[low T],HKL.out,by go_num,⟨f',?_⟩,?_,?_,?_,?_,?_,?_⟩,?_⟩
     ·rw [ebt,← List.append_assoc]
      exact SF9.out.keep (zt1 _ ⟨w1.heap.size+1,0,none⟩ _ w1.heap.size (by simp))
     ·exact heap_setCell_same _ (w1.heap.size+1) 0 _ _ _ ((zt1 _ _ _ _ (by simp)).trans ((zt1 _ _ _ _ (by simp)).trans OB6.out))
     ·have:=MO.out;have:=HRL.out;omega
     ·exact(((B6.out.setCell (zr4 _) _).setCell (zr4 _) _).setCell (Nat.le_succ _) _).trans (zj _ _ 1)
     ·have:=HTW.out
      exact KT6.out.keep ((zt1 _ ⟨w1.heap.size+1,0,none⟩ _ tb (by show tb≠w1.heap.size+1;omega)).trans ((zt1 _ ⟨w1.heap.size,pl*2+1,none⟩ _ tb (by show tb≠w1.heap.size;omega)).trans (zt1 _ ⟨w1.heap.size,pl*2,none⟩ _ tb (by show tb≠w1.heap.size;omega))))
     ·have:=TL.out;rw [zr2,List.length_singleton];omega
     ·have h1:=GV.out
      have h2:bs.drop k=x :: bs.drop (k+1):=by
       rw [List.drop_eq_getElem_cons (by have:=HKL.out;have:=HNB.out;omega)];congr 1;exact(zq8.1 HX.out).2
      rw [h2,giveRegs,← HPP.out,← HR.out] at h1
      rw [← HR.out];exact h1
     have:=HKL.out;simp [intOf];omega
    have hkn:k=nb:=by have:=KK.out;omega
    have hklz:(nb:Int)≤k:=by omega
    have ST5:Hid ((regs',most')=(List.range (i+1)).foldl (allocStep (F0 ps e)) ((vars (F0 ps e)).map fun _=>0,0)):=by
     show _=_
     rw [List.range_succ,List.foldl_append,← KST.out]
     have h1:=GV.out
     rw [hkn,HNB.out,List.drop_length] at h1
     exact h1
    have SF5:Hid (∃ f,AlS wr w1.heap.size (F0 ps e) regs' (vars ((F0 ps e).take (i+1))) f):=by
     obtain⟨f,hf⟩:=SF.out
     refine⟨f,?_⟩
     rw [vars_take_succ (by rw [← HN.out];exact HLT.out),← HBS.out]
     rw [hkn,HNB.out,List.take_length] at hf
     exact hf
    have hdk3:decide (k<nb)=false:=by simp;omega
    clear hkn hlt
    go_wp2_with fail
    go_roundw
    case rel=>exact⟨i+1,regs',most',HLT.out,by go_num,ST5.out,SF5.out,by rw [← HNV.out];exact OB.out,MO.out,KB.out⟩
    case measure=>have:=HLT.out;simp [intOf];omega
   intro x v w5 cnt1 hwx hx htx hrg1 hlt1 hg1 hs1 hen
   obtain⟨y,hyv,hyc,rfl,rfl⟩:=vset_mem.1 hx
   have hpl:=place_lt hyv
   rw [← HNV.out] at hpl
   have htw:tb≤w2.heap.size:=by have:=HCB.out;omega
   have B5:Hid (Below tb wo w5):=KB.out.grown hg1 (by have:=KS.out;omega) (fun r e=>by simp at e;omega)
   have o1:w5.cell? ⟨w1.heap.size+1,1,none⟩=some (.slice (some ⟨w1.heap.size,0,none⟩) nv nv):=by rw [zb _ _ 1 _ _ _ ((B5.out.block _ HS1.out).trans OB.out)];rfl
   have SF5:=SF.out.keep (B5.out.block _ (by have:=HS1.out;omega))
   have s1:=SF5.row.cell (i:=place (F0 ps e) y*2+1) (by rw [← HNV.out];omega)
   rw [SF.out.reg _ (by rw [← HNV.out];exact hpl)] at s1
   obtain⟨pl,hpp⟩:∃ q,q=place (F0 ps e) y:=⟨_,rfl⟩
   obtain⟨rg,hrgy⟩:∃ q,q=regs.getD pl 0:=⟨_,rfl⟩
   rw [← hpp] at hpl s1 hwx hx htx hrg1 hen ⊢
   rw [← hrgy] at s1
   have hplz:(pl:Int)<nv:=by omega
   have hpl0:(0:Int)≤pl:=by omega
   have K4:=zh hrg1
   have K5:=zh hlt1
   have HRG:Hid (rg≤1000000):=by show _≤_;rw [hrgy];exact getD_small SF.out.small pl
   have KT5:=zh (KT.out.keep (hg1.block tb KT.out.lt (by intro e;simp at e;have:=HCB.out;omega)))
   have STP:=zh (fun t=>Tx_step (regs:=regs) hyv hyc (by rw [← hpp];exact htx) t)
   rw [← hpp,← hrgy] at STP
   have HFEW:Hid ((vars (F0 ps e)).length≤320000):=HG.out.few
   have KS5:Hid (w2.heap.size<w5.heap.size):=zt5 KS.out hg1.size
   clear hpl hyv hyc hpp hrgy hrg1 hlt1 hg1 hs1 hwx hx htx SF5
   go_wp2_with (at_mapUpdate;refine wpList_sput rfl _ _ _ rfl tb (ofNats (Tx (F0 ps e) i regs todo)) rfl KT5.out ?_ ?_ rg rfl rfl (wf_nat (by have:=HRG.out;omega)) ?_)
   ·have:=Tx_len (F0 ps e) i regs todo;have:=HFEW.out;unfold ofNats;rw [List.length_map];omega
   ·intro l hn hl
    have h1:=nodup_sub_len hn hl
    have h2:=Tx_len (F0 ps e) i regs todo
    have h3:=HFEW.out
    unfold ofNats at h1
    rw [List.length_map] at h1;omega
   intro w6 hm6 hg6
   have KT6:=zh (hm6.congr fun t=>STP.out t)
   have RG6:=zh (K4.out.kept hg6 (by intro e;simp at e;have:=HCB.out;omega) (by intro e;simp at e;have:=HCB.out;omega))
   have B6:Hid (Below tb wo w6):=B5.out.grown hg6 (by have:=KS5.out;omega) (fun r e=>by simp at e;omega)
   have KS6:Hid (w2.heap.size<w6.heap.size):=zt5 KS5.out hg6.size
   clear hm6 hg6 hen o1 s1
   go_wp2_with fail
   go_roundw
   case rel=>exact⟨_,cnt1,RG6.out,KT6.out,B6.out,KS6.out⟩
   case measure=>rw [RG6.out.left_eq,RG1.out.left_eq];exact K5.out
  have hin:i=n:=by have:=KN.out;omega
  have hlz:(n:Int)≤i:=by omega
  have OB:=zh KI.out.out
  rw [← HNV.out] at OB
  have o0:wo.cell? ⟨w1.heap.size+1,0,none⟩=some (.int .i64 (most:Nat)):=by rw [zb _ _ 0 _ _ _ OB.out];rfl
  have o1:wo.cell? ⟨w1.heap.size+1,1,none⟩=some (.slice (some ⟨w1.heap.size,0,none⟩) nv nv):=by rw [zb _ _ 1 _ _ _ OB.out];rfl
  have rbw:=(KI.out.below.block _ HW1.out).trans RBW.out
  have r0:wo.cell? ⟨w.heap.size+1,0,none⟩=some (.int .i64 0):=by rw [zb _ _ 0 _ _ _ rbw];rfl
  have r1:wo.cell? ⟨w.heap.size+1,1,none⟩=some (.slice none 0 0):=by rw [zb _ _ 1 _ _ _ rbw];rfl
  have rf:∀ q,wo.frozen? ⟨w.heap.size+1,q,none⟩=false:=fun q=>zs1 _ _ q _ _ rbw
  have HIN:=zh hin
  have RB:=zh rbw
  clear hin hlt rbw
  go_wp2_with fail
  obtain⟨WF,hWF⟩:∃ W,W=(wo.setCell ⟨w.heap.size+1,0,none⟩ (.int .i64 (most:Nat))).setCell ⟨w.heap.size+1,1,none⟩ (.slice (some ⟨w1.heap.size,0,none⟩) nv nv):=⟨_,rfl⟩
  rw [← hWF]
  have rw1:WF.heap[w.heap.size+1]?=some (.cells #[.int .i64 (most:Nat),.slice (some ⟨w1.heap.size,0,none⟩) nv nv] 56):=by
   rw [hWF];exact heap_setCell_same _ _ 1 _ _ _ (heap_setCell_same _ _ 0 _ _ _ RB.out)
  have z0:WF.cell? ⟨w.heap.size+1,0,none⟩=some (.int .i64 (most:Nat)):=by rw [zb _ _ 0 _ _ _ rw1];rfl
  have z1:WF.cell? ⟨w.heap.size+1,1,none⟩=some (.slice (some ⟨w1.heap.size,0,none⟩) nv nv):=by rw [zb _ _ 1 _ _ _ rw1];rfl
  refine bodyPost_ret (v := .tuple #[.agg #[.int .i64 (most:Nat),.slice (some ⟨w1.heap.size,0,none⟩) nv nv],.int .i64 0]) (by simp [results,Tryz.results26,go_sem,z0,z1];try rfl) rfl ?_
  have BF:Below w.heap.size w WF:=by
   rw [hWF]
   exact((HB1.out.trans (KI.out.below.mono (by have:=HW1.out;omega))).setCell (Nat.le_succ _) _).setCell (Nat.le_succ _) _
  have hst:=KI.out.st
  rw [HIN.out,HN.out] at hst
  have hal:(regs,most)=alloc (F0 ps e):=hst
  refine⟨BF,.inl ⟨HG.out,_,by rw [← hal],?_⟩⟩
  rw [← hal]
  obtain⟨f,hf⟩:=KI.out.row
  have hf2:=hf.keep (w':=WF) (by rw [hWF];exact(zt1 _ _ _ _ (by have:=HW1.out;show w1.heap.size≠w.heap.size+1;omega)).trans (zt1 _ _ _ _ (by have:=HW1.out;show w1.heap.size≠w.heap.size+1;omega)))
  rw [HNV.out]
  exact hf2.vars HF.out.fo.once (fun x hx=>by rw [HIN.out,HN.out,List.take_length];exact hx)
 have HB:Hid (Below w.heap.size w w1):=B0.out.trans (hb.mono B0.out.size)
 have HG:=zh hng
 have rbw:w1.heap[w.heap.size+1]?=some (.cells #[.int .i64 0,.slice none 0 0] 56):=by
  rw [hb.block _ (by simp)]
  have:=zs2 (w.alloc (.cells cs 29)) (.cells #[.int .i64 0,.slice none 0 0] 56)
  rw [World.size_alloc] at this
  exact this
 have r0:w1.cell? ⟨w.heap.size+1,0,none⟩=some (.int .i64 0):=by rw [zb _ _ 0 _ _ _ rbw];rfl
 have r1:w1.cell? ⟨w.heap.size+1,1,none⟩=some (.slice none 0 0):=by rw [zb _ _ 1 _ _ _ rbw];rfl
 have rf:∀ q,w1.frozen? ⟨w.heap.size+1,q,none⟩=false:=fun q=>zs1 _ _ q _ _ rbw
 have RB:=zh rbw
 clear hb hng rbw
 go_wp2_with fail
 obtain⟨WF,hWF⟩:∃ W,W=(w1.setCell ⟨w.heap.size+1,0,none⟩ (.int .i64 0)).setCell ⟨w.heap.size+1,1,none⟩ (.slice none 0 0):=⟨_,rfl⟩
 rw [← hWF]
 have rw1:WF.heap[w.heap.size+1]?=some (.cells #[.int .i64 0,.slice none 0 0] 56):=by
  rw [hWF];exact heap_setCell_same _ _ 1 _ _ _ (heap_setCell_same _ _ 0 _ _ _ RB.out)
 have z0:WF.cell? ⟨w.heap.size+1,0,none⟩=some (.int .i64 0):=by rw [zb _ _ 0 _ _ _ rw1];rfl
 have z1:WF.cell? ⟨w.heap.size+1,1,none⟩=some (.slice none 0 0):=by rw [zb _ _ 1 _ _ _ rw1];rfl
 refine bodyPost_ret (v := .tuple #[.agg #[.int .i64 0,.slice none 0 0],.int .i64 160]) (by simp [results,Tryz.results26,go_sem,z0,z1];try rfl) rfl ?_
 refine⟨?_,.inr ⟨HG.out,rfl⟩⟩
 rw [hWF]
 exact(HB.out.setCell (Nat.le_succ _) _).setCell (Nat.le_succ _) _
end Go.Proofs.YtnkahlloahgifaaGreatDoor
namespace Go.Proofs.YtnkahlloahgifaaGreatDoor
open Go.RowKit RG Go.Maps
theorem eSum_eq:F0 [⟨#[109]⟩] eSum=xF:=rfl
def CLs (w:World) (b:Nat) (cs:Array Value):Prop:=∀ i x,cs[i]?=some x→w.cell? ⟨b,i,none⟩=some x
theorem CLs.kept {w w':World}{b:Nat}{cs:Array Value}(h:CLs w b cs) (hk:Kept w w'):CLs w' b cs:=fun i x hx=>hk _ _ (h i x hx)
def SnP (w:World) (e:Ending) (w':World):Prop:=e = .returned (.bool true)∧Below w.heap.size w w'
theorem sane_any {w:World}(hE:Lx.Env w):Calls Tryz.prog 14 #[] w (SnP w):=by
 have HE:=zh hE
 clear hE
 go_enter Tryz.func14,Tryz.ntmps14
 go_wp2_with fail
 refine(sum_any w).mono ?_
 rintro en w1 ⟨cs,rfl,hT,hb⟩
 obtain⟨nm,op,ch,pv,va,num,site,aa,ab,ca,cb,ga,oa,gb,ob,hcs,h1,h2,h3,h4,h5,h6⟩:=id hT
 have hpv:∃ a n c,pv = .slice a n c:=by obtain⟨ad,c,e,_⟩:=h1.at';exact⟨_,_,_,e⟩
 have hva:∃ a n c,va = .slice a n c:=by obtain⟨ad,c,e,_⟩:=h2.at';exact⟨_,_,_,e⟩
 obtain⟨pa,pn,pc,rfl⟩:=hpv
 obtain⟨xa,xn,xc,rfl⟩:=hva
 rw [Value.agg.injEq] at hcs
 subst hcs
 have FO:Hid (FnOk Lx.Env isNm w1 (.agg #[.string nm,.bool ch,.slice pa pn pc,.int .i64 eSum.kind,.string eSum.name,.string op,.int .i64 num,.int .i64 site,.slice xa xn xc,.slice aa eSum.arms.length ca,.slice ab eSum.body.length cb]) [⟨#[109]⟩] eSum):=⟨nlaw,nlaw.keep _ _ _ (nlaw.size _ HE.out) HE.out hb,hT,fun d hd=>by
  have:=List.all_eq_true.1 xsmall d hd
  simp only [Bool.and_eq_true,List.all_eq_true,decide_eq_true_eq] at this
  exact⟨fun x hx=>zr5 (this.1 x hx) (by decide),fun x hx=>zr5 (this.2 x hx) (by decide)⟩,by decide⟩
 have HG:Hid (RG.Good isNm [⟨#[109]⟩] eSum):=xgood
 have B1:Hid (Below w.heap.size w (w1.alloc (.cells #[.string nm,.bool ch,.slice pa pn pc,.int .i64 eSum.kind,.string eSum.name,.string op,.int .i64 num,.int .i64 site,.slice xa xn xc,.slice aa eSum.arms.length ca,.slice ab eSum.body.length cb] 29))):=hb.alloc hb.size _
 have C1:Hid (CLs (w1.alloc (.cells #[.string nm,.bool ch,.slice pa pn pc,.int .i64 eSum.kind,.string eSum.name,.string op,.int .i64 num,.int .i64 site,.slice xa xn xc,.slice aa eSum.arms.length ca,.slice ab eSum.body.length cb] 29)) w1.heap.size #[.string nm,.bool ch,.slice pa pn pc,.int .i64 eSum.kind,.string eSum.name,.string op,.int .i64 num,.int .i64 site,.slice xa xn xc,.slice aa eSum.arms.length ca,.slice ab eSum.body.length cb]):=fun i x hx=>by rw [zb _ _ _ _ _ _ (zs2 w1 _)];exact hx
 have K1:Hid (Below w1.heap.size w1 (w1.alloc (.cells #[.string nm,.bool ch,.slice pa pn pc,.int .i64 eSum.kind,.string eSum.name,.string op,.int .i64 num,.int .i64 site,.slice xa xn xc,.slice aa eSum.arms.length ca,.slice ab eSum.body.length cb] 29))):=(zs9 _ _).alloc (zr4 _) _
 clear hT hb h1 h2 h3 h4 h5 h6
 have y0:=C1.out 0 _ rfl
 have y1:=C1.out 1 _ rfl
 have y2:=C1.out 2 _ rfl
 have y3:=C1.out 3 _ rfl
 have y4:=C1.out 4 _ rfl
 have y5:=C1.out 5 _ rfl
 have y6:=C1.out 6 _ rfl
 have y7:=C1.out 7 _ rfl
 have y8:=C1.out 8 _ rfl
 have y9:=C1.out 9 _ rfl
 have y10:=C1.out 10 _ rfl
 go_wp2_with fail
 refine(bound_any (FO.out.keep K1.out)).mono ?_
 rintro en w2 ⟨hb,hq⟩
 rcases hq with ⟨-,l1,rfl,hl1⟩|⟨hng,-⟩
 rotate_left
 ·exact absurd HG.out hng
 have B2:=zh (B1.out.trans (hb.mono B1.out.size))
 have K2:=zh (K1.out.trans (hb.mono K1.out.size))
 have C2:=zh (C1.out.kept (zd hb))
 have L1:=zh hl1
 clear hl1
 clear hb C1 y0 y1 y2 y3 y4 y5 y6 y7 y8 y9 y10
 have y0:=C2.out 0 _ rfl
 have y1:=C2.out 1 _ rfl
 have y2:=C2.out 2 _ rfl
 have y3:=C2.out 3 _ rfl
 have y4:=C2.out 4 _ rfl
 have y5:=C2.out 5 _ rfl
 have y6:=C2.out 6 _ rfl
 have y7:=C2.out 7 _ rfl
 have y8:=C2.out 8 _ rfl
 have y9:=C2.out 9 _ rfl
 have y10:=C2.out 10 _ rfl
 go_wp2_with fail
 refine(live_any sort_law (FO.out.keep K2.out) 4).mono ?_
 rintro en w3 ⟨hb,hq⟩
 rcases hq with ⟨-,i,l2,hi,-,rfl,hl2⟩|⟨-,ho,-⟩|⟨hng,-⟩
 rotate_left
 ·exact absurd ho (by rw [show eSum.size=7 from xsize];decide)
 ·exact absurd HG.out hng
 obtain rfl:i=4:=by omega
 have B3:=zh (B2.out.trans (hb.mono B2.out.size))
 have K3:=zh (K2.out.trans (hb.mono K2.out.size))
 have C3:=zh (C2.out.kept (zd hb))
 have L1:=zh (StrsAt.kept L1.out (zd hb))
 have L2:=zh hl2
 clear hl2 hi
 clear hb C2 y0 y1 y2 y3 y4 y5 y6 y7 y8 y9 y10
 have y0:=C3.out 0 _ rfl
 have y1:=C3.out 1 _ rfl
 have y2:=C3.out 2 _ rfl
 have y3:=C3.out 3 _ rfl
 have y4:=C3.out 4 _ rfl
 have y5:=C3.out 5 _ rfl
 have y6:=C3.out 6 _ rfl
 have y7:=C3.out 7 _ rfl
 have y8:=C3.out 8 _ rfl
 have y9:=C3.out 9 _ rfl
 have y10:=C3.out 10 _ rfl
 go_wp2_with fail
 refine(conflict_any (FO.out.keep K3.out) ⟨#[104]⟩ ⟨#[114]⟩ (by decide) (by decide)).mono ?_
 rintro en w4 ⟨hb,hq⟩
 rcases hq with ⟨-,-,-,he⟩|⟨-,hno,-⟩|⟨hng,-⟩
 rotate_left
 ·exact absurd hno (by rw [eSum_eq,xvars];simp)
 ·exact absurd HG.out hng
 rw [eSum_eq,xc1] at he
 subst he
 have B4:=zh (B3.out.trans (hb.mono B3.out.size))
 have K4:=zh (K3.out.trans (hb.mono K3.out.size))
 have C4:=zh (C3.out.kept (zd hb))
 have L1:=zh (StrsAt.kept L1.out (zd hb))
 have L2:=zh (StrsAt.kept L2.out (zd hb))
 clear hb C3 y0 y1 y2 y3 y4 y5 y6 y7 y8 y9 y10
 have y0:=C4.out 0 _ rfl
 have y1:=C4.out 1 _ rfl
 have y2:=C4.out 2 _ rfl
 have y3:=C4.out 3 _ rfl
 have y4:=C4.out 4 _ rfl
 have y5:=C4.out 5 _ rfl
 have y6:=C4.out 6 _ rfl
 have y7:=C4.out 7 _ rfl
 have y8:=C4.out 8 _ rfl
 have y9:=C4.out 9 _ rfl
 have y10:=C4.out 10 _ rfl
 go_wp2_with fail
 refine(conflict_any (FO.out.keep K4.out) ⟨#[116]⟩ ⟨#[114]⟩ (by decide) (by decide)).mono ?_
 rintro en w5 ⟨hb,hq⟩
 rcases hq with ⟨-,-,-,he⟩|⟨-,hno,-⟩|⟨hng,-⟩
 rotate_left
 ·exact absurd hno (by rw [eSum_eq,xvars];simp)
 ·exact absurd HG.out hng
 rw [eSum_eq,xc2] at he
 subst he
 have B5:=zh (B4.out.trans (hb.mono B4.out.size))
 have K5:=zh (K4.out.trans (hb.mono K4.out.size))
 have C5:=zh (C4.out.kept (zd hb))
 have L1:=zh (StrsAt.kept L1.out (zd hb))
 have L2:=zh (StrsAt.kept L2.out (zd hb))
 clear hb C4 y0 y1 y2 y3 y4 y5 y6 y7 y8 y9 y10
 have y0:=C5.out 0 _ rfl
 have y1:=C5.out 1 _ rfl
 have y2:=C5.out 2 _ rfl
 have y3:=C5.out 3 _ rfl
 have y4:=C5.out 4 _ rfl
 have y5:=C5.out 5 _ rfl
 have y6:=C5.out 6 _ rfl
 have y7:=C5.out 7 _ rfl
 have y8:=C5.out 8 _ rfl
 have y9:=C5.out 9 _ rfl
 have y10:=C5.out 10 _ rfl
 go_wp2_with fail
 refine(width_any (FO.out.keep K5.out)).mono ?_
 rintro en w6 ⟨hb,hq⟩
 rcases hq with ⟨-,he⟩|⟨hng,-⟩
 rotate_left
 ·exact absurd HG.out hng
 rw [eSum_eq,xwidth,show ((2:Nat):Int)=2 from rfl] at he
 subst he
 have B6:=zh (B5.out.trans (hb.mono B5.out.size))
 have K6:=zh (K5.out.trans (hb.mono K5.out.size))
 have C6:=zh (C5.out.kept (zd hb))
 have L1:=zh (StrsAt.kept L1.out (zd hb))
 have L2:=zh (StrsAt.kept L2.out (zd hb))
 clear hb C5 y0 y1 y2 y3 y4 y5 y6 y7 y8 y9 y10
 have y0:=C6.out 0 _ rfl
 have y1:=C6.out 1 _ rfl
 have y2:=C6.out 2 _ rfl
 have y3:=C6.out 3 _ rfl
 have y4:=C6.out 4 _ rfl
 have y5:=C6.out 5 _ rfl
 have y6:=C6.out 6 _ rfl
 have y7:=C6.out 7 _ rfl
 have y8:=C6.out 8 _ rfl
 have y9:=C6.out 9 _ rfl
 have y10:=C6.out 10 _ rfl
 go_wp2_with fail
 refine(allocate_any (FO.out.keep K6.out)).mono ?_
 rintro en w7 ⟨hb,hq⟩
 rcases hq with ⟨-,av,he,hav⟩|⟨hng,-⟩
 rotate_left
 ·exact absurd HG.out hng
 rw [eSum_eq,show (alloc xF).2=2 from by rw [xalloc],show ((2:Nat):Int)=2 from rfl] at he
 rw [eSum_eq] at hav
 obtain⟨aad,aac,hav0,-⟩:=id hav
 rw [xpairs] at hav0
 subst hav0
 subst he
 have B7:=zh (B6.out.trans (hb.mono B6.out.size))
 have K7:=zh (K6.out.trans (hb.mono K6.out.size))
 have C7:=zh (C6.out.kept (zd hb))
 have L1:=zh (StrsAt.kept L1.out (zd hb))
 have L2:=zh (StrsAt.kept L2.out (zd hb))
 have AV:=zh hav
 clear hav
 clear hb C6 y0 y1 y2 y3 y4 y5 y6 y7 y8 y9 y10
 have hbl:w1.heap.size<w7.heap.size:=zs3 _ _ (C7.out 0 _ rfl)
 have y0:=C7.out 0 _ rfl
 have y1:=C7.out 1 _ rfl
 have y2:=C7.out 2 _ rfl
 have y3:=C7.out 3 _ rfl
 have y4:=C7.out 4 _ rfl
 have y5:=C7.out 5 _ rfl
 have y6:=C7.out 6 _ rfl
 have y7:=C7.out 7 _ rfl
 have y8:=C7.out 8 _ rfl
 have y9:=C7.out 9 _ rfl
 have y10:=C7.out 10 _ rfl
 go_wp2_with fail
 have A7:Hid (Below w7.heap.size w7 (w7.alloc (.cells #[.int .i64 2,.slice aad 7 aac] 56))):=(zs9 _ _).alloc (zr4 _) _
 have AC7:Hid (CLs (w7.alloc (.cells #[.int .i64 2,.slice aad 7 aac] 56)) w7.heap.size #[.int .i64 2,.slice aad 7 aac]):=fun i x hx=>by rw [zb _ _ _ _ _ _ (zs2 w7 _)];exact hx
 refine(count_any (FO.out.keep (K7.out.trans (A7.out.mono K7.out.size)))).mono ?_
 rintro en w8 ⟨hb,hq⟩
 rcases hq with ⟨-,he⟩|⟨hng,-⟩
 rotate_left
 ·exact absurd HG.out hng
 rw [show eSum.size=7 from xsize,show ((7:Nat):Int)=7 from rfl] at he
 subst he
 have B8:=zh (B7.out.trans ((A7.out.mono B7.out.size).trans (hb.mono (zr5 B7.out.size A7.out.size))))
 have AC8:=zh (AC7.out.kept (zd hb))
 have L1:=zh (StrsAt.kept (StrsAt.kept L1.out (zd A7.out)) (zd hb))
 have L2:=zh (StrsAt.kept (StrsAt.kept L2.out (zd A7.out)) (zd hb))
 have AV:=zh (VarsAt.kept (VarsAt.kept AV.out (zd A7.out)) (zd hb))
 clear hb C7 AC7 y0 y1 y2 y3 y4 y5 y6 y7 y8 y9 y10
 have N8:Hid (StrsAt (w8.alloc (.cells #[.string ⟨#[109]⟩,.string ⟨#[99]⟩,.string ⟨#[104]⟩,.string ⟨#[116]⟩,.string ⟨#[114]⟩,.string ⟨#[115]⟩,.string ⟨#[107]⟩] 9)) (.slice (some ⟨w8.heap.size,0,none⟩) 7 7) [⟨#[109]⟩,⟨#[99]⟩,⟨#[104]⟩,⟨#[116]⟩,⟨#[114]⟩,⟨#[115]⟩,⟨#[107]⟩]):=⟨rfl,_,_,rfl,fun _=>⟨w8.heap.size,0,rfl,fun i x hx=>by rw [Nat.zero_add,zb _ _ _ _ _ _ (zs2 w8 _)];simpa [YtnkahlloahgifaaGreatDoor.strs] using hx⟩⟩
 have D8:Hid (Below w8.heap.size w8 (w8.alloc (.cells #[.string ⟨#[109]⟩,.string ⟨#[99]⟩,.string ⟨#[104]⟩,.string ⟨#[116]⟩,.string ⟨#[114]⟩,.string ⟨#[115]⟩,.string ⟨#[107]⟩] 9))):=(zs9 _ _).alloc (zr4 _) _
 go_wp2_with fail
 refine(sameTexts_any (StrsAt.kept L1.out (zd D8.out)) N8.out (by rw [eSum_eq,xvars];decide)).mono ?_
 rintro en w9 ⟨hb,rfl⟩
 rw [show decide (vars (F0 [⟨#[109]⟩] eSum)=[⟨#[109]⟩,⟨#[99]⟩,⟨#[104]⟩,⟨#[116]⟩,⟨#[114]⟩,⟨#[115]⟩,⟨#[107]⟩])=true from by rw [eSum_eq,xvars];simp]
 have B9:=zh (B8.out.trans ((D8.out.mono B8.out.size).trans (hb.mono (zr5 B8.out.size D8.out.size))))
 have AC9:=zh ((AC8.out.kept (zd D8.out)).kept (zd hb))
 have L2:=zh (StrsAt.kept (StrsAt.kept L2.out (zd D8.out)) (zd hb))
 have AV:=zh (VarsAt.kept (VarsAt.kept AV.out (zd D8.out)) (zd hb))
 clear hb AC8 N8 L1
 have N9:Hid (StrsAt (w9.alloc (.cells #[.string ⟨#[104]⟩,.string ⟨#[114]⟩] 9)) (.slice (some ⟨w9.heap.size,0,none⟩) 2 2) [⟨#[104]⟩,⟨#[114]⟩]):=⟨rfl,_,_,rfl,fun _=>⟨w9.heap.size,0,rfl,fun i x hx=>by rw [Nat.zero_add,zb _ _ _ _ _ _ (zs2 w9 _)];simpa [YtnkahlloahgifaaGreatDoor.strs] using hx⟩⟩
 have D9:Hid (Below w9.heap.size w9 (w9.alloc (.cells #[.string ⟨#[104]⟩,.string ⟨#[114]⟩] 9))):=(zs9 _ _).alloc (zr4 _) _
 go_wp2_with fail
 refine(sameTexts_any (StrsAt.kept L2.out (zd D9.out)) N9.out (by rw [eSum_eq,xlive];decide)).mono ?_
 rintro en w10 ⟨hb,rfl⟩
 rw [show decide (liveAt (F0 [⟨#[109]⟩] eSum) 4=[⟨#[104]⟩,⟨#[114]⟩])=true from by rw [eSum_eq,xlive];simp]
 have B10:=zh (B9.out.trans ((D9.out.mono B9.out.size).trans (hb.mono (zr5 B9.out.size D9.out.size))))
 have AC10:=zh ((AC9.out.kept (zd D9.out)).kept (zd hb))
 have AV:=zh (VarsAt.kept (VarsAt.kept AV.out (zd D9.out)) (zd hb))
 clear hb AC9 N9 L2
 have z0:=AC10.out 0 _ rfl
 have z1:=AC10.out 1 _ rfl
 go_wp2_with fail
 refine(reg_any ⟨#[115]⟩ AV.out (by rw [xpairs];decide)).mono ?_
 rintro en w11 ⟨hb,rfl⟩
 rw [xreg]
 have B11:=zh (B10.out.trans (hb.mono B10.out.size))
 have AC11:=zh (AC10.out.kept (zd hb))
 clear hb AC10 z0 z1 AV
 have N11:Hid (MvsAt (w11.alloc (.cells #[.int .i64 0,.int .i64 1,.int .i64 1,.int .i64 0] 81)) (.slice (some ⟨w11.heap.size,0,none⟩) 2 2) [(0,1),(1,0)]):=⟨_,_,rfl,fun _=>⟨w11.heap.size,0,rfl,fun i m hm=>by
  have r:=row8 (zs2 w11 (.cells #[.int .i64 0,.int .i64 1,.int .i64 1,.int .i64 0] 81))
  match i,hm with
  | 0,hm=>simp at hm;subst hm;exact⟨r 0 _ rfl,r 1 _ rfl⟩
  | 1,hm=>simp at hm;subst hm;exact⟨r 2 _ rfl,r 3 _ rfl⟩
  | i+2,hm=>simp at hm⟩⟩
 have D11:Hid (Below w11.heap.size w11 (w11.alloc (.cells #[.int .i64 0,.int .i64 1,.int .i64 1,.int .i64 0] 81))):=(zs9 _ _).alloc (zr4 _) _
 go_wp2_with fail
 refine(order_any (spare:=2) N11.out).mono ?_
 rintro en w12 ⟨hb,hq⟩
 rcases hq with ⟨-,o,ho,rfl⟩|⟨hng,-⟩
 rotate_left
 ·rw [xmoves] at hng;cases hng
 obtain⟨oa,oc,hoa,-⟩:=id ho
 rw [xorder] at hoa
 subst hoa
 have B12:=zh (B11.out.trans ((D11.out.mono B11.out.size).trans (hb.mono (zr5 B11.out.size D11.out.size))))
 have z0:=((AC11.out.kept (zd D11.out)).kept (zd hb)) 0 _ rfl
 clear hb ho AC11 N11
 go_wp2_with fail
 go_ret
 exact⟨rfl,B12.out⟩
end Go.Proofs.YtnkahlloahgifaaGreatDoor
namespace Go.Proofs.YtnkahlloahgifaaGreatDoor
open Go.RowKit RG Go.Maps RF
theorem box11 {V:World}{b:Nat}{c0 c1 c2 c3 c4 c5 c6 c7 c8 c9 c10:Value}{T:TypeId}(h:V.heap[b]?=some (.cells #[c0,c1,c2,c3,c4,c5,c6,c7,c8,c9,c10] T (0,0))) :
  V.cell? ⟨b,0,none⟩=some c0∧V.cell? ⟨b,1,none⟩=some c1∧V.cell? ⟨b,2,none⟩=some c2∧V.cell? ⟨b,3,none⟩=some c3∧V.cell? ⟨b,4,none⟩=some c4∧V.cell? ⟨b,5,none⟩=some c5 ∧
  V.cell? ⟨b,6,none⟩=some c6∧V.cell? ⟨b,7,none⟩=some c7∧V.cell? ⟨b,8,none⟩=some c8∧V.cell? ⟨b,9,none⟩=some c9∧V.cell? ⟨b,10,none⟩=some c10:=by
 refine⟨?_,?_,?_,?_,?_,?_,?_,?_,?_,?_,?_⟩<;>exact(zb _ _ _ _ _ _ h).trans rfl
end Go.Proofs.YtnkahlloahgifaaGreatDoor
namespace Go.Proofs.YtnkahlloahgifaaGreatDoor
open Go.RowKit RG Go.Maps RF
def rowB (F:List Nd) (q:Nm→Bool):List Value:=(vars F).map fun x=>Value.bool (q x)
theorem rowB_at {F:List Nd}{q:Nm→Bool}{i:Nat}(hi:i<(vars F).length):(rowB F q)[i]?=some (.bool (q ((vars F).getD i ⟨#[]⟩))):=by
 unfold rowB
 rw [List.getElem?_map,zt4,zq9 hi];rfl
end Go.Proofs.YtnkahlloahgifaaGreatDoor
namespace Go.Proofs.YtnkahlloahgifaaGreatDoor
open Go.RowKit RG Go.Maps RF
structure LivesR (w:World) (v:Value) (F:List Nd):Prop where
 at':∃ (g c:Nat) (rs:Nat→Value),v = .slice (some ⟨g,0,none⟩) F.length c∧(∀ i,i<F.length→w.cell? ⟨g,i,none⟩=some (rs i))∧∀ i,i<F.length→SlAt w (rs i) (vars F).length (rowB F (lv F i))
theorem LivesR.kept {w w':World}{v:Value}{F:List Nd}(h:LivesR w v F) (hk:Kept w w'):LivesR w' v F:=by
 obtain⟨g,c,rs,h1,h2,h3⟩:=h
 exact⟨g,c,rs,h1,fun i hi=>hk _ _ (h2 i hi),fun i hi=>(h3 i hi).kept hk⟩
def RowT (w:World) (b n:Nat) (A:Nat→Bool):Prop:=w.rowIs b 4 n fun p => .bool (A p)
theorem RowT.set {w:World}{b n:Nat}{A A':Nat→Bool}(h:RowT w b n A) (p:Nat) (v:Bool) (hA:∀ q,q<n→A' q=if q=p then v else A q):RowT (w.setCell ⟨b,p,none⟩ (.bool v)) b n A' :=
 (World.rowIs.set h p (.bool v)).congr fun i hi=>by
  rw [hA i hi]
  by_cases e:i=p
  ·rw [if_pos e,if_pos e]
  rw [if_neg e,if_neg e]
theorem RowT.keep {w w':World}{b n:Nat}{A:Nat→Bool}(h:RowT w b n A) (hb:w'.heap[b]?=w.heap[b]?):RowT w' b n A:=World.rowIs.of_block h hb
structure OnlyB (b:Nat) (W w:World):Prop where
 size:W.heap.size≤w.heap.size
 block:∀ k,k<W.heap.size→k≠b→w.heap[k]?=W.heap[k]?
theorem OnlyB.refl (b:Nat) (w:World):OnlyB b w w:=⟨zr4 _,fun _ _ _=>rfl⟩
theorem OnlyB.setCell {b i:Nat}{W w:World}(h:OnlyB b W w) (v:Value):OnlyB b W (w.setCell ⟨b,i,none⟩ v):=⟨by have:=h.size;simpa using this,fun k hk hn=>(zt1 _ _ _ _ hn).trans (h.block k hk hn)⟩
theorem OnlyB.drewN {b n:Nat}{W w:World}(h:OnlyB b W w):OnlyB b W (w.drewN n):=⟨h.size,h.block⟩
theorem OnlyB.cell {b g o:Nat}{W w:World}{v:Value}(h:OnlyB b W w) (hg:g≠b) (hc:W.cell? ⟨g,o,none⟩=some v):w.cell? ⟨g,o,none⟩=some v :=
 (World.cell?_of_block (w:=W) (h.block g (zs3 W _ hc) hg)).trans hc
end Go.Proofs.YtnkahlloahgifaaGreatDoor
namespace Go.Proofs.YtnkahlloahgifaaGreatDoor
open Go.RowKit RG Go.Maps RF
def RowsR (w:World) (g o n:Nat) (R:Nat→List Nat):Prop :=
 ∀ i,i<n→∃ (ad:Option Addr) (c:Nat),w.cell? ⟨g,o+i,none⟩=some (.slice ad (R i).length c)∧SlAt w (.slice ad (R i).length c) (R i).length (nats (R i))
theorem RowsR.kept {w w':World}{g o n:Nat}{R:Nat→List Nat}(h:RowsR w g o n R) (hk:Kept w w'):RowsR w' g o n R:=fun i hi=>by
 obtain⟨ad,c,h1,h2⟩:=h i hi
 exact⟨ad,c,hk _ _ h1,h2.kept hk⟩
structure FlF (w:World) (fb:Nat) (F:List Nd):Prop where
 flat:FlatR w fb F
 fo:Fo F
 len:F.length≤300
 few:(vars F).length≤300
 next:∀ k,k<F.length→(NR F k).length≤20000
structure FlC (w:World) (fb:Nat) (F:List Nd) (sva:Option Addr) (svc ug uo uc ng no nc bg bo bc ag ao ac:Nat) (so:Value):Prop where
 row:w.heap[fb]?=some (.cells #[.slice sva (vars F).length svc,.slice (some ⟨ug,uo,none⟩) F.length uc,.slice (some ⟨ng,no,none⟩) F.length nc,.slice (some ⟨bg,bo,none⟩) F.length bc,.slice (some ⟨ag,ao,none⟩) F.length ac,so,.bool true] 42 (0,0))
 names:∀ p,p<(vars F).length→∃ g o,sva=some ⟨g,o,none⟩∧w.cell? ⟨g,o+p,none⟩=some (.string ((vars F).getD p ⟨#[]⟩))
 uses:RowsR w ug uo F.length (UR F)
 next:RowsR w ng no F.length (NR F)
 binds:RowsR w bg bo F.length (BR F)
 after:∀ m,m<F.length→w.cell? ⟨ag,ao+m,none⟩=some (.int .i64 (m:Nat))
 fo:Fo F
 len:F.length≤300
 few:(vars F).length≤300
 nlen:∀ k,k<F.length→(NR F k).length≤20000
variable {w w':World} {fb:Nat} {F:List Nd} {sva:Option Addr} {svc ug uo uc ng no nc bg bo bc ag ao ac:Nat} {so:Value}
theorem FlF.keep (h:FlF w fb F) (hb:Below w.heap.size w w'):FlF w' fb F:=⟨h.flat.keep hb,h.fo,h.len,h.few,h.next⟩
theorem FlC.keep (h:FlC w fb F sva svc ug uo uc ng no nc bg bo bc ag ao ac so) (hb:Below w.heap.size w w'):FlC w' fb F sva svc ug uo uc ng no nc bg bo bc ag ao ac so :=
 ⟨zm hb h.row,fun p hp=>by obtain⟨g,o,h1,h2⟩:=h.names p hp;exact⟨g,o,h1,zd hb _ _ h2⟩,h.uses.kept (zd hb),h.next.kept (zd hb),h.binds.kept (zd hb),fun m hm=>zd hb _ _ (h.after m hm),h.fo,h.len,h.few,h.nlen⟩
theorem rows_of {us:List Value}{g o n:Nat}{R:Nat→List Nat}(hat:∀ (i:Nat) x,us[i]?=some x→w.cell? ⟨g,o+i,none⟩=some x) (h:∀ i,i<n→∃ v,us[i]?=some v∧SlAt w v (R i).length (nats (R i))):RowsR w g o n R:=fun i hi=>by
 obtain⟨v,h1,h2⟩:=h i hi
 obtain⟨-,ad,c,rfl,-⟩:=id h2
 exact⟨ad,c,hat i _ h1,h2⟩
theorem FlF.cells (h:FlF w fb F):∃ sva svc ug uo uc ng no nc bg bo bc ag ao ac so,FlC w fb F sva svc ug uo uc ng no nc bg bo bc ag ao ac so:=by
 obtain⟨sv,su,sn,sb,sa,so,us,ns,bs,k0,k1,k2,k3,k4,k5,k6,k7,k8⟩:=h.flat.at'
 obtain⟨sva,svc,rfl,sat⟩:=StrsAt.cells k1
 have hp:=h.fo.pos
 obtain⟨-,ug0,uc',rfl,uat0⟩:=k2
 obtain⟨ug,uo,rfl,uat⟩:=uat0 hp
 obtain⟨-,ng0,nc',rfl,nat0⟩:=k3
 obtain⟨ng,no,rfl,nat⟩:=nat0 hp
 obtain⟨-,bg0,bc',rfl,bat0⟩:=k4
 obtain⟨bg,bo,rfl,bat⟩:=bat0 hp
 obtain⟨-,ag0,ac',rfl,aat0⟩:=k5
 obtain⟨ag,ao,rfl,aat⟩:=aat0 hp
 refine⟨_,_,_,_,_,_,_,_,_,_,_,_,_,_,_,k0,fun p hp=>?_,rows_of uat k6,rows_of nat k7,rows_of bat k8,fun m hm=>aat m _ (nats_at (by rw [List.getElem?_range hm])),h.fo,h.len,h.few,h.next⟩
 obtain⟨g,o,e,hat⟩:=sat (by omega)
 exact⟨g,o,e,hat p _ (by rw [zt4,zq9 hp];rfl)⟩
theorem FlF.blen (h:FlF w fb F) {k:Nat}(hk:k<F.length):(BR F k).length≤300:=by
 unfold BR
 rw [List.length_map]
 exact zr5 (nodup_len (h.fo.binds_nodup hk) fun x hx=>binds_vars hk hx) h.few
theorem FlC.blen (h:FlC w fb F sva svc ug uo uc ng no nc bg bo bc ag ao ac so) {k:Nat}(hk:k<F.length):(BR F k).length≤300:=by
 unfold BR
 rw [List.length_map]
 exact zr5 (nodup_len (h.fo.binds_nodup hk) fun x hx=>binds_vars hk hx) h.few
end Go.Proofs.YtnkahlloahgifaaGreatDoor
namespace Go.Proofs.YtnkahlloahgifaaGreatDoor
open Go.RowKit RG Go.Maps RF
variable {w w':World} {fb:Nat} {F:List Nd} {sva:Option Addr} {svc ug uo uc ng no nc bg bo bc ag ao ac:Nat} {so:Value}
structure LvC (w:World) (F:List Nd) (lg:Nat):Prop where
 row:∀ i,i<F.length→0<(vars F).length→∃ g o c,w.cell? ⟨lg,i,none⟩=some (.slice (some ⟨g,o,none⟩) (vars F).length c)∧∀ p,p<(vars F).length→w.cell? ⟨g,o+p,none⟩=some (.bool (lv F i ((vars F).getD p ⟨#[]⟩)))
theorem LvC.keep {lg:Nat}(h:LvC w F lg) (hb:Below w.heap.size w w'):LvC w' F lg:=⟨fun i hi h0=>by
 obtain⟨g,o,c,h1,h2⟩:=h.row i hi h0
 exact⟨g,o,c,zd hb _ _ h1,fun p hp=>zd hb _ _ (h2 p hp)⟩⟩
theorem LivesR.cells {v:Value}(h:LivesR w v F):∃ lg lc,v = .slice (some ⟨lg,0,none⟩) F.length lc∧LvC w F lg:=by
 obtain⟨lg,lc,rs,rfl,l1,l2⟩:=h
 refine⟨lg,lc,rfl,⟨fun i hi h0=>?_⟩⟩
 obtain⟨-,ad,c,e,hat⟩:=l2 i hi
 obtain⟨g,o,rfl,h2⟩:=hat h0
 exact⟨g,o,c,by rw [l1 i hi,e],fun p hp=>h2 p _ (rowB_at hp)⟩
end Go.Proofs.YtnkahlloahgifaaGreatDoor
namespace Go.Proofs.YtnkahlloahgifaaGreatDoor.Lx
open Go.ChangeShapes Go.WideShapes Go.ChangeAt Go.RowKit
def laid7:List (String×DataW Unit):=[("math/bits.deBruijn32tab",Rows.laid_math_bits_deBruijn32tab),("math/bits.deBruijn64tab",Rows.laid_math_bits_deBruijn64tab),("internal/strconv.uint64pow10",Rows.laid_internal_strconv_uint64pow10),("unicode/utf8.acceptRanges",Rows.laid_unicode_utf8_acceptRanges),("strconv.ErrRange",Rows.laid_strconv_ErrRange),("strconv.ErrSyntax",Rows.laid_strconv_ErrSyntax),("unicode/utf8.first",Rows.laid_unicode_utf8_first)]
theorem own:ownKnob Tryz.prog.godebug=none:=by kernel_rfl
theorem gRange:Tryz.prog.globalNamed "strconv.ErrRange" = some 2:=by kernel_rfl
theorem gSyntax:Tryz.prog.globalNamed "strconv.ErrSyntax" = some 1:=by kernel_rfl
theorem gTen:Tryz.prog.globalNamed "internal/strconv.uint64pow10" = some 5:=by kernel_rfl
theorem tRange:(Tryz.prog.globals[2]?).map (·.type)=some 236:=by kernel_rfl
theorem tSyntax:(Tryz.prog.globals[1]?).map (·.type)=some 236:=by kernel_rfl
theorem tTen:(Tryz.prog.globals[5]?).map (·.type)=some 282:=by kernel_rfl
theorem cells126:Tryz.prog.cellsOf 274=1:=by kernel_rfl
theorem cells9:Tryz.prog.cellsOf 9=1:=by kernel_rfl
theorem cells100:Tryz.prog.cellsOf 199=1:=by kernel_rfl
theorem cells131:Tryz.prog.cellsOf 282=20:=by kernel_rfl
theorem star : "*" ++ "errors.errorString" = "*errors.errorString" := by decide
theorem row124 (u:TypeId) (h:Tryz.prog.typeName? 3 u=some "*errors.errorString"):u=272 :=
 typeName_ptr_named (nm := "errors.errorString") (by rw [star];kernel_rfl) (by kernel_rfl) (by decide) u (by rw [star];exact h)
theorem env_of {W:World}(h:laidMetH Tryz.prog laid7 W) (hsh:W.ShapedOpen Tryz.prog):Env W:=by
 rw [MakeChecks.laidMetH_plain _ _ _ (by kernel_rfl)] at h
 have h3:=h.tail.tail
 have h5:=h3.tail.tail
 have h6:=h5.tail
 obtain⟨a2,s2,hv2,_⟩:=laid_sentinel h5 gRange tRange Tryz.underlying236 row124 Tryz.underlying272 Tryz.underlying274 rfl rfl Tryz.underlying9 cells126 cells9
 obtain⟨a1,s1,hv1,_⟩:=laid_sentinel h6 gSyntax tSyntax Tryz.underlying236 row124 Tryz.underlying272 Tryz.underlying274 rfl rfl Tryz.underlying9 cells126 cells9
 refine⟨Lib.tabIs_of_head gTen tTen Tryz.underlying282 Tryz.underlying199 cells100 cells131 h3,?_,?_,?_,?_⟩
 ·exact cell_of_shapedOpen_int (t:=3) (zero := #[.int .i64 0]) hsh (of_decide_eq_true (by kernel_rfl)) (by kernel_rfl) rfl (by kernel_rfl) (by kernel_rfl) Tryz.underlying3
 ·have:=World.var?_cell gSyntax hv1 0
  exact⟨_,_,by simpa using this⟩
 ·have:=World.var?_cell gRange hv2 0
  exact⟨_,_,by simpa using this⟩
 obtain⟨_,hk⟩:=hsh
 obtain⟨o,o0,ho,_⟩:=hk 9 (of_decide_eq_true (by kernel_rfl)) (of_decide_eq_true (by kernel_rfl))
 exact(zq7.1 ho).1
section
variable {H:Type} {enc:TypeId×Value→H} {P:Program}
theorem post_of_below {f:Func}{s:ChangeSpec}{apart fresh handsOn again:Bool}{W W':World}{args:Array Value}{v:Value}{ds gs:List (DataW H)}{before pa pv:List MemPlace}
  (hW:DataW.Whole enc P f.params.toList s.vars apart W args.toList ds gs before)
  (hres:∀ (b:Nat) (sp:Nat→Bool) (hd:Bool),DataW.TrodAll enc P W' b sp hd f.resultTypes.toList (v.resultList f.resultTypes.size) (s.fn H (ds++gs)).results [])
  (hargs:∀ sp:Nat→Bool,(∀ p∈before,sp p.block=true)→DataW.TrodAll enc P W' 0 sp true f.params.toList args.toList (s.fn H (ds++gs)).args pa)
  (hvars:∀ sp:Nat→Bool,(∀ p∈before,sp p.block=true)→DataW.TrodVars enc P W' sp s.vars (s.fn H (ds++gs)).vars pv)
  (hps:before=pa++pv) (hb:Below W.heap.size W W')
  (hok:∀ (j:Nat) (t:TypeId) (r:Value),f.resultTypes[j]?=some t→(v.resultList f.resultTypes.size)[j]?=some r→Value.okWide P W' .any 0 t r) :
  s.post enc P f apart fresh handsOn again W args v W':=by
 have hlt:∀ p∈before,p.block<W.heap.size:=fun p hp=>hW.lt p hp
 have hold:∀ p∈before,(fun b=>decide (b<W.heap.size)) p.block=true:=fun p hp=>by simpa using hlt p hp
 refine⟨ds,gs,before,[],pa,pv,hW,hres _ _ _,hargs _ hold,hvars _ hold,World.keptBut_mono (fun p hp=>⟨hp,?_⟩) (hb.frame (· ∈ before)),fun _=>?_⟩
 ·rw [hps,List.mem_append] at hp
  exact Or.inr hp
 obtain⟨_,_,_,_,_,hz,hn⟩:=hW
 refine⟨hok,_,_,([]++pa)++pv,⟨[]++pa,pv,trodAll_append (hargs _ (fun _ _=>rfl)) (hres _ _ _),hvars _ (fun _ _=>rfl),rfl,?_,?_⟩,?_⟩
 ·intro b off hp
  have hin:MemPlace.cell b off∈before:=by rw [hps];simpa using hp
  rw [hb.frozen (hlt _ hin)]
  exact hz b off hin
 ·intro ha
  have:=hn ha
  rw [hps] at this
  simpa using this
 intro p hp _
 rw [hps]
 simpa using hp
theorem returns_laid {a:Assume}{C:Checked}{os:Os}{f:FuncId}{fn:Func}{s:ChangeSpec}{conds:List PathCond}{apart fresh handsOn again:Bool}{X:World→Array Value→Prop}
  (hX:∀ (w w':World) (args:Array Value),w.heap=w'.heap→X w args→X w' args)
  (own:ownKnob C.prog.godebug=none) (started:os.Started) (noInit:C.prog.inits.idxOf? f=none) (hfn:C.prog.funcs[f]?=some fn)
  (witness:∃ (w:World) (tape:Tape) (i:Input),w.os=os∧(w.forCall tape i).Shaped C.prog∧i.vars=[]∧Input.okWide C.prog (w.forCall tape i) .any w.heap.size f i ∧
   ((s.pre enc C.prog fn conds apart (w.forCall tape i).memory i.args∧X (w.forCall tape i).memory i.args)∧sizedMet enc C.prog fn (OpenSpec.ofChange s) apart (w.forCall tape i).memory i.args)∧a.holds C.prog (lone (Frame.enter C.prog f i.args .normal) [] (w.forCall tape i)))
  (contract:∀ (W:World) (base:Nat) (args:Array Value) (ds gs:List (DataW H)) (before:List MemPlace),
   (∀ (j:Nat) t v,fn.params[j]?=some t→args[j]?=some v→Value.okWide C.prog W .any base t v) →
   DataW.Whole enc C.prog fn.params.toList s.vars apart W args.toList ds gs before →
   (DataW.weightsEach C.prog (fn.params.toList++s.plain.varTypes C.prog) (ds++gs)).all (· ≤ reachBytes)=true→X W args→W.ShapedOpen C.prog →
   Calls C.prog f args W fun e W'=>∃ v,e = .returned v∧s.post enc C.prog fn apart fresh handsOn again W args v W') :
  ReturnsInHanded a C os f .any (fun w args=>(s.pre enc C.prog fn conds apart w args∧X w args)∧sizedMet enc C.prog fn (OpenSpec.ofChange s) apart w args) (s.post enc C.prog fn apart fresh handsOn again):=by
 refine returnsInHanded_of_calls own started noInit witness ?_
 intro w tape i _ hsh _ hok hpre _
 obtain⟨_,_,_,fn',hfn',_,_,_,_,hval⟩:=hok
 have e:fn'=fn:=Option.some.inj (hfn'.symm.trans hfn)
 subst e
 obtain⟨⟨⟨ds,gs,before,hw,hc⟩,hx⟩,hz⟩:=hpre
 have hw':=DataW.Whole.of_heap (w':=w.forCall tape i) (by rfl) hw
 refine(contract (w.forCall tape i) w.heap.size i.args ds gs before hval hw' (hz.weights hw) (hX _ _ _ (by rfl) hx) hsh).mono fun e W' ⟨v,he,hp⟩=>?_
 subst he
 exact ChangeSpec.post_blind hp
end
theorem fits7 (os:Os):(World.holding Tryz.prog os ⟨#[],#[],[]⟩).layFits Tryz.prog laid7 []=true:=by kernel_rfl
theorem ifaces7 (os:Os):(World.holding Tryz.prog os ⟨#[],#[],[]⟩).layIfaces Tryz.prog laid7 (World.laidAll Tryz.prog os laid7)=true:=by kernel_rfl
theorem start_met (os:Os) (args:Array Value):laidMetH Tryz.prog laid7 ((World.laidAll Tryz.prog os laid7).forCall (fun _ _=>0) ⟨#[],args,[]⟩).memory:=by
 rw [MakeChecks.laidMetH_plain _ _ _ (by kernel_rfl)]
 exact laidMet_laidAll _ (fits7 os) (ifaces7 os)
end Go.Proofs.YtnkahlloahgifaaGreatDoor.Lx
namespace Go.Proofs.YtnkahlloahgifaaGreatDoor
open Go.ChangeShapes Go.WideShapes Go.ChangeAt Go.RowKit Go.Deep
theorem laidOut:laidOutB Tryz.prog=true:=by kernel_rfl
theorem addr_plain {W:World}{a:Addr}{v:Value}(h:W.cell? a=some v):a=⟨a.block,a.off,none⟩∧a.block<W.heap.size:=by
 unfold World.cell? at h
 split at h
 ·rename_i c t f hb
  split at h
  ·cases h
  rename_i hs
  refine⟨?_,(zq7.1 hb).1⟩
  obtain⟨b,o,s⟩:=a
  cases s with
  | none=>rfl
  | some k=>exact absurd rfl hs
 cases h
end Go.Proofs.YtnkahlloahgifaaGreatDoor
