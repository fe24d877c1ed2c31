/- Part. -/
import Derived.Test.YtnkahlloahgifaaGreatDoorVShelf
import Derived.WalkSmall
import Derived.Deep.DeepAppendWide
import Derived.WalkKit
import Derived.Deep.RegionLaw
import Derived.Deep.RegionWith
import Derived.OwnWalk
set_option linter.unusedSimpArgs false
set_option linter.unusedVariables false
namespace Go.Proofs.YtnkahlloahgifaaGreatDoor.Lx
open Go.RowKit
def bts (s:ByteArray):List Nat:=s.data.toList.map UInt8.toNat
theorem bts_length (s:ByteArray):(bts s).length=s.size:=by simp only [bts,List.length_map];rfl
theorem bts_get (s:ByteArray) {i:Nat}(h:i<s.size):(bts s)[i]?=some (s[i]'h).toNat:=by
 simp only [bts,List.getElem?_map]
 rw [List.getElem?_eq_getElem (show i<s.data.toList.length from h)]
 rfl
theorem run_byte (s:ByteArray) (i:Int) (j:Nat) (hij:i=j) (h:j<s.size) (m:World):(Instr.index 9 (.string s) (.int .i64 i)).run Tryz.prog m = .ok (.int .u8 ((bts s).getD j 0:Nat)) m:=by
 rw [run_index_string m 9 s .i64 i Tryz.underlying9,dif_pos (by omega)]
 subst hij
 rw [List.getD_eq_getElem?_getD,bts_get s h]
 rfl
structure At (w:World) (b:Nat) (s:ByteArray) (i:Nat):Prop where
 c0:w.cell? ⟨b,0,none⟩=some (.string s)
 c1:w.cell? ⟨b,1,none⟩=some (.int .i64 i)
 lt:b<w.heap.size
 le:i≤s.size
 sz:s.size≤400000
theorem peek_any {w:World}{b:Nat}{s:ByteArray}{i:Nat}(h:At w b s i) (k:Nat) (hk:k≤1000000) :
  Calls Tryz.prog 148 #[.pointer (some ⟨b,0,none⟩),.int .i64 k] w fun e w'=>e = .returned (.int .u8 ((bts s).getD (i+k) 0:Nat))∧∃ m,w'=w.drewN m:=by
 obtain⟨c0,c1,lt,le,sz⟩:=h
 have hi:(i:Int)≤400000:=by omega
 have hk':(k:Int)≤1000000:=by omega
 by_cases hlt:i+k<s.size
 ·have hltz:(i:Int)+(k:Int)<(s.size:Int):=by omega
  have hix:=fun m=>run_byte s ((i:Int)+(k:Int)) (i+k) (by omega) hlt m
  go_enter Tryz.func148,Tryz.ntmps148
  go_wp2_with fail
  go_quiet (fail)
  go_wp2_with fail
  go_quiet (fail)
  go_wp2_with fail
  go_ret
  exact⟨rfl,_,World.drewN_drewN _ _ _⟩
 ·have hltz:(s.size:Int)≤(i:Int)+(k:Int):=by omega
  go_enter Tryz.func148,Tryz.ntmps148
  go_wp2_with fail
  go_quiet (fail)
  go_wp2_with fail
  go_ret
  refine⟨?_,_,rfl⟩
  rw [List.getD_eq_getElem?_getD,List.getElem?_eq_none (by rw [bts_length];omega)]
  rfl
theorem isPrefixOf_map (p l:List UInt8):(p.map UInt8.toNat).isPrefixOf (l.map UInt8.toNat)=p.isPrefixOf l:=by
 induction p generalizing l with
 | nil=>simp
 | cons a t ih =>
  cases l with
  | nil=>rfl
  | cons b r =>
   simp only [List.map_cons,List.isPrefixOf,ih]
   congr 1
   by_cases h:a=b
   ·subst h;simp
   ·rw [beq_false_of_ne h,beq_false_of_ne fun e=>h (UInt8.toNat_inj.1 e)]
theorem extract_bytes (s:ByteArray) (i j:Nat):(s.extract i j).data.toList=(s.data.toList.drop i).take (j - i):=by
 rw [ByteArray.data_extract,Array.toList_extract,List.extract]
theorem bts_extract (s:ByteArray) (i j:Nat):bts (s.extract i j)=((bts s).drop i).take (j - i):=by
 unfold bts
 rw [extract_bytes,List.map_take,List.map_drop]
theorem starts_any {w:World}{b:Nat}{s:ByteArray}{i:Nat}(h:At w b s i) (p:ByteArray) :
  Calls Tryz.prog 146 #[.pointer (some ⟨b,0,none⟩),.string p] w fun e w'=>e = .returned (.bool ((bts p).isPrefixOf ((bts s).drop i)))∧∃ m,w'=w.drewN m:=by
 obtain⟨c0,c1,lt,le,sz⟩:=h
 have hi:(i:Int)≤(s.size:Int):=by omega
 have e:(bts p).isPrefixOf ((bts s).drop i)=Lib.hasPrefix (s.extract i s.size).data.toList p.data.toList:=by
  unfold Lib.hasPrefix
  rw [← isPrefixOf_map]
  show _=(bts p).isPrefixOf (bts (s.extract i s.size))
  rw [bts_extract,List.take_of_length_le (by rw [List.length_drop,bts_length];omega)]
 rw [e]
 clear e
 go_enter Tryz.func146,Tryz.ntmps146
 go_wp2_with fail
 go_quiet ((go_at_call 157;exact Calls.quiet_of_same (Tryz.strings_HasPrefix _ _ _)))
 go_wp2_with fail
 go_ret
 exact⟨rfl,_,rfl⟩
end Go.Proofs.YtnkahlloahgifaaGreatDoor.Lx
namespace Go.Proofs.YtnkahlloahgifaaGreatDoor.Lx
open Go.RowKit
theorem wrap_in (x:Int) (h : -9223372036854775808≤x∧x≤9223372036854775807):IntKind.i64.wrap x=x:=by
 rw [IntKind.wrap_i64];omega
theorem run_drop (p:Nat→Bool) (l:List Nat) (j:Nat) (h:j<l.length):LX.run p (l.drop j)=if p (l.getD j 0) then LX.run p (l.drop (j+1))+1 else 0:=by
 rw [List.drop_eq_getElem_cons h,LX.run]
 rw [List.getD_eq_getElem?_getD,List.getElem?_eq_getElem h]
 rfl
theorem run_end (p:Nat→Bool) (l:List Nat) (j:Nat) (h:l.length≤j):LX.run p (l.drop j)=0:=by
 rw [List.drop_of_length_le h];rfl
theorem run_le (p:Nat→Bool) (l:List Nat):LX.run p l≤l.length:=by
 induction l with
 | nil=>exact Nat.le_refl _
 | cons c t ih =>
  rw [LX.run]
  split
  ·simp;exact ih
  ·simp
set_option maxHeartbeats 1000000 in
set_option maxRecDepth 20000 in
theorem run_space {w:World}{b:Nat}{s:ByteArray}{i:Nat}(h:At w b s i) (k:Nat) (hk:k≤500000) :
  Calls Tryz.prog 144 #[.pointer (some ⟨b,0,none⟩),.int .i64 k,.func (.func 145) #[] #[]] w fun e w'=>e = .returned (.int .i64 (LX.run LX.space ((bts s).drop (i+k))))∧∃ m,w'=w.drewN m:=by
 obtain⟨c0,c1,lt,le,sz⟩:=h
 have hi:(i:Int)≤400000:=by omega
 have hk':(k:Int)≤500000:=by omega
 have HS:=zh (show i≤s.size∧s.size≤400000 from ⟨le,sz⟩)
 clear le sz
 have eg:∀ (args:Array Value) (w:World),(callFunc 145 args).run Tryz.prog w = .ok (.enter 145 args) w:=enters_of Tryz.func145 (by kernel_rfl) rfl
 go_enter Tryz.func144,Tryz.ntmps144
 go_wp2_with fail
 go_loopg [7] (s.size+1) (fun gk v wr=>∃ n m:Nat,n≤s.size∧gk=s.size+1 - n∧v = .int .i64 n∧wr=w.drewN m∧LX.run LX.space ((bts s).drop (i+k))=n+LX.run LX.space ((bts s).drop (i+k+n)))
 case atStart=>exact⟨0,0,Nat.zero_le _,rfl,rfl,rfl,by simp⟩
 case round =>
  obtain⟨n,m,hn,hgk,rfl,rfl,hrun⟩:=hrel
  have H1:=zh hgk
  have H2:=zh hrun
  have hn4:(n:Int)≤400000:=by have:=HS.out;omega
  clear hgk hrun hn
  have hw1:IntKind.i64.wrap ((i:Int)+(k:Int))=(i:Int)+(k:Int):=wrap_in _ (by omega)
  have hw2:IntKind.i64.wrap ((i:Int)+(k:Int)+(n:Int))=(i:Int)+(k:Int)+(n:Int):=wrap_in _ (by omega)
  by_cases hlt:i+k+n<s.size
  ·have hltz:(i:Int)+(k:Int)+(n:Int)<(s.size:Int):=by omega
   have hix:=fun m=>run_byte s ((i:Int)+(k:Int)+(n:Int)) (i+k+n) (by omega) hlt m
   obtain⟨c,hc⟩:∃ c,c=(bts s).getD (i+k+n) 0:=⟨_,rfl⟩
   rw [← hc] at hix
   have HL:=zh hlt
   have HC:=zh hc
   clear hlt hc
   cases hp:LX.space c with
   | true =>
    have law:Hid (∀ W:World,Calls Tryz.prog 145 #[.int .u8 c] W fun e w'=>e = .returned (.bool true)∧w'=W):=fun W=>by have:=space_any W c;rw [hp] at this;exact this
    have HP:=zh hp
    clear hp
    go_wp2_with fail
    refine wp_region_quiet_lit (by kernel_rfl) (by kernel_rfl) ?_
    repeat (quiet_step ((go_at_call 145;exact(law.out _).mono fun e w'' ⟨he,hw⟩=>⟨he,_,hw⟩)))
    refine wpQuiet_nil ?_
    intro _ hw'
    obtain⟨nq,hw''⟩:=hw'
    subst hw''
    go_wp2_with fail
    go_roundg (s.size+1 - (n+1))
    case measure=>have:=H1.out;have:=HL.out;omega
    case rel =>
     refine⟨n+1,_,by have:=HL.out;omega,rfl,by go_num,by first | rfl | exact World.drewN_drewN _ _ _,?_⟩
     have e:=run_drop LX.space (bts s) (i+k+n) (by rw [bts_length];exact HL.out)
     rw [← HC.out,if_pos HP.out] at e
     rw [H2.out,e]
     have e2:i+k+(n+1)=i+k+n+1:=by omega
     rw [e2]
     omega
   | false =>
    have law:Hid (∀ W:World,Calls Tryz.prog 145 #[.int .u8 c] W fun e w'=>e = .returned (.bool false)∧w'=W):=fun W=>by have:=space_any W c;rw [hp] at this;exact this
    have HP:=zh hp
    clear hp
    go_wp2_with fail
    refine wp_region_quiet_lit (by kernel_rfl) (by kernel_rfl) ?_
    repeat (quiet_step ((go_at_call 145;exact(law.out _).mono fun e w'' ⟨he,hw⟩=>⟨he,_,hw⟩)))
    refine wpQuiet_nil ?_
    intro _ hw'
    obtain⟨nq,hw''⟩:=hw'
    subst hw''
    go_wp2_with fail
    go_ret
    refine⟨?_,_,by first | rfl | exact World.drewN_drewN _ _ _⟩
    have e:=run_drop LX.space (bts s) (i+k+n) (by rw [bts_length];exact HL.out)
    rw [← HC.out,if_neg (by rw [HP.out];decide)] at e
    rw [H2.out,e]
    rfl
  ·have hltz:(s.size:Int)≤(i:Int)+(k:Int)+(n:Int):=by omega
   have hdec:¬ (i:Int)+(k:Int)+(n:Int)<(s.size:Int):=by omega
   have hdec2:decide ((i:Int)+(k:Int)+(n:Int)<(s.size:Int))=false:=decide_eq_false hdec
   clear hdec
   have HL:=zh hlt
   clear hlt
   go_wp2_with fail
   go_quiet (fail)
   go_wp2_with fail
   go_ret
   refine⟨?_,_,by first | rfl | exact World.drewN_drewN _ _ _⟩
   have e:=run_end LX.space (bts s) (i+k+n) (by rw [bts_length];have:=HL.out;omega)
   rw [H2.out,e]
   rfl
set_option maxHeartbeats 1000000 in
set_option maxRecDepth 20000 in
theorem run_digit {w:World}{b:Nat}{s:ByteArray}{i:Nat}(h:At w b s i) (k:Nat) (hk:k≤500000) :
  Calls Tryz.prog 144 #[.pointer (some ⟨b,0,none⟩),.int .i64 k,.func (.func 149) #[] #[]] w fun e w'=>e = .returned (.int .i64 (LX.run LX.digit ((bts s).drop (i+k))))∧∃ m,w'=w.drewN m:=by
 obtain⟨c0,c1,lt,le,sz⟩:=h
 have hi:(i:Int)≤400000:=by omega
 have hk':(k:Int)≤500000:=by omega
 have HS:=zh (show i≤s.size∧s.size≤400000 from ⟨le,sz⟩)
 clear le sz
 have eg:∀ (args:Array Value) (w:World),(callFunc 149 args).run Tryz.prog w = .ok (.enter 149 args) w:=enters_of Tryz.func149 (by kernel_rfl) rfl
 go_enter Tryz.func144,Tryz.ntmps144
 go_wp2_with fail
 go_loopg [7] (s.size+1) (fun gk v wr=>∃ n m:Nat,n≤s.size∧gk=s.size+1 - n∧v = .int .i64 n∧wr=w.drewN m∧LX.run LX.digit ((bts s).drop (i+k))=n+LX.run LX.digit ((bts s).drop (i+k+n)))
 case atStart=>exact⟨0,0,Nat.zero_le _,rfl,rfl,rfl,by simp⟩
 case round =>
  obtain⟨n,m,hn,hgk,rfl,rfl,hrun⟩:=hrel
  have H1:=zh hgk
  have H2:=zh hrun
  have hn4:(n:Int)≤400000:=by have:=HS.out;omega
  clear hgk hrun hn
  have hw1:IntKind.i64.wrap ((i:Int)+(k:Int))=(i:Int)+(k:Int):=wrap_in _ (by omega)
  have hw2:IntKind.i64.wrap ((i:Int)+(k:Int)+(n:Int))=(i:Int)+(k:Int)+(n:Int):=wrap_in _ (by omega)
  by_cases hlt:i+k+n<s.size
  ·have hltz:(i:Int)+(k:Int)+(n:Int)<(s.size:Int):=by omega
   have hix:=fun m=>run_byte s ((i:Int)+(k:Int)+(n:Int)) (i+k+n) (by omega) hlt m
   obtain⟨c,hc⟩:∃ c,c=(bts s).getD (i+k+n) 0:=⟨_,rfl⟩
   rw [← hc] at hix
   have HL:=zh hlt
   have HC:=zh hc
   clear hlt hc
   cases hp:LX.digit c with
   | true =>
    have law:Hid (∀ W:World,Calls Tryz.prog 149 #[.int .u8 c] W fun e w'=>e = .returned (.bool true)∧w'=W):=fun W=>by have:=digit_any W c;rw [hp] at this;exact this
    have HP:=zh hp
    clear hp
    go_wp2_with fail
    refine wp_region_quiet_lit (by kernel_rfl) (by kernel_rfl) ?_
    repeat (quiet_step ((go_at_call 149;exact(law.out _).mono fun e w'' ⟨he,hw⟩=>⟨he,_,hw⟩)))
    refine wpQuiet_nil ?_
    intro _ hw'
    obtain⟨nq,hw''⟩:=hw'
    subst hw''
    go_wp2_with fail
    go_roundg (s.size+1 - (n+1))
    case measure=>have:=H1.out;have:=HL.out;omega
    case rel =>
     refine⟨n+1,_,by have:=HL.out;omega,rfl,by go_num,by first | rfl | exact World.drewN_drewN _ _ _,?_⟩
     have e:=run_drop LX.digit (bts s) (i+k+n) (by rw [bts_length];exact HL.out)
     rw [← HC.out,if_pos HP.out] at e
     rw [H2.out,e]
     have e2:i+k+(n+1)=i+k+n+1:=by omega
     rw [e2]
     omega
   | false =>
    have law:Hid (∀ W:World,Calls Tryz.prog 149 #[.int .u8 c] W fun e w'=>e = .returned (.bool false)∧w'=W):=fun W=>by have:=digit_any W c;rw [hp] at this;exact this
    have HP:=zh hp
    clear hp
    go_wp2_with fail
    refine wp_region_quiet_lit (by kernel_rfl) (by kernel_rfl) ?_
    repeat (quiet_step ((go_at_call 149;exact(law.out _).mono fun e w'' ⟨he,hw⟩=>⟨he,_,hw⟩)))
    refine wpQuiet_nil ?_
    intro _ hw'
    obtain⟨nq,hw''⟩:=hw'
    subst hw''
    go_wp2_with fail
    go_ret
    refine⟨?_,_,by first | rfl | exact World.drewN_drewN _ _ _⟩
    have e:=run_drop LX.digit (bts s) (i+k+n) (by rw [bts_length];exact HL.out)
    rw [← HC.out,if_neg (by rw [HP.out];decide)] at e
    rw [H2.out,e]
    rfl
  ·have hltz:(s.size:Int)≤(i:Int)+(k:Int)+(n:Int):=by omega
   have hdec:¬ (i:Int)+(k:Int)+(n:Int)<(s.size:Int):=by omega
   have hdec2:decide ((i:Int)+(k:Int)+(n:Int)<(s.size:Int))=false:=decide_eq_false hdec
   clear hdec
   have HL:=zh hlt
   clear hlt
   go_wp2_with fail
   go_quiet (fail)
   go_wp2_with fail
   go_ret
   refine⟨?_,_,by first | rfl | exact World.drewN_drewN _ _ _⟩
   have e:=run_end LX.digit (bts s) (i+k+n) (by rw [bts_length];have:=HL.out;omega)
   rw [H2.out,e]
   rfl
set_option maxHeartbeats 1000000 in
set_option maxRecDepth 20000 in
theorem run_part {w:World}{b:Nat}{s:ByteArray}{i:Nat}(h:At w b s i) (k:Nat) (hk:k≤500000) :
  Calls Tryz.prog 144 #[.pointer (some ⟨b,0,none⟩),.int .i64 k,.func (.func 155) #[] #[]] w fun e w'=>e = .returned (.int .i64 (LX.run LX.part ((bts s).drop (i+k))))∧∃ m,w'=w.drewN m:=by
 obtain⟨c0,c1,lt,le,sz⟩:=h
 have hi:(i:Int)≤400000:=by omega
 have hk':(k:Int)≤500000:=by omega
 have HS:=zh (show i≤s.size∧s.size≤400000 from ⟨le,sz⟩)
 clear le sz
 have eg:∀ (args:Array Value) (w:World),(callFunc 155 args).run Tryz.prog w = .ok (.enter 155 args) w:=enters_of Tryz.func155 (by kernel_rfl) rfl
 go_enter Tryz.func144,Tryz.ntmps144
 go_wp2_with fail
 go_loopg [7] (s.size+1) (fun gk v wr=>∃ n m:Nat,n≤s.size∧gk=s.size+1 - n∧v = .int .i64 n∧wr=w.drewN m∧LX.run LX.part ((bts s).drop (i+k))=n+LX.run LX.part ((bts s).drop (i+k+n)))
 case atStart=>exact⟨0,0,Nat.zero_le _,rfl,rfl,rfl,by simp⟩
 case round =>
  obtain⟨n,m,hn,hgk,rfl,rfl,hrun⟩:=hrel
  have H1:=zh hgk
  have H2:=zh hrun
  have hn4:(n:Int)≤400000:=by have:=HS.out;omega
  clear hgk hrun hn
  have hw1:IntKind.i64.wrap ((i:Int)+(k:Int))=(i:Int)+(k:Int):=wrap_in _ (by omega)
  have hw2:IntKind.i64.wrap ((i:Int)+(k:Int)+(n:Int))=(i:Int)+(k:Int)+(n:Int):=wrap_in _ (by omega)
  by_cases hlt:i+k+n<s.size
  ·have hltz:(i:Int)+(k:Int)+(n:Int)<(s.size:Int):=by omega
   have hix:=fun m=>run_byte s ((i:Int)+(k:Int)+(n:Int)) (i+k+n) (by omega) hlt m
   obtain⟨c,hc⟩:∃ c,c=(bts s).getD (i+k+n) 0:=⟨_,rfl⟩
   rw [← hc] at hix
   have HL:=zh hlt
   have HC:=zh hc
   clear hlt hc
   cases hp:LX.part c with
   | true =>
    have law:Hid (∀ W:World,Calls Tryz.prog 155 #[.int .u8 c] W fun e w'=>e = .returned (.bool true)∧w'=W):=fun W=>by have:=part_any W c;rw [hp] at this;exact this
    have HP:=zh hp
    clear hp
    go_wp2_with fail
    refine wp_region_quiet_lit (by kernel_rfl) (by kernel_rfl) ?_
    repeat (quiet_step ((go_at_call 155;exact(law.out _).mono fun e w'' ⟨he,hw⟩=>⟨he,_,hw⟩)))
    refine wpQuiet_nil ?_
    intro _ hw'
    obtain⟨nq,hw''⟩:=hw'
    subst hw''
    go_wp2_with fail
    go_roundg (s.size+1 - (n+1))
    case measure=>have:=H1.out;have:=HL.out;omega
    case rel =>
     refine⟨n+1,_,by have:=HL.out;omega,rfl,by go_num,by first | rfl | exact World.drewN_drewN _ _ _,?_⟩
     have e:=run_drop LX.part (bts s) (i+k+n) (by rw [bts_length];exact HL.out)
     rw [← HC.out,if_pos HP.out] at e
     rw [H2.out,e]
     have e2:i+k+(n+1)=i+k+n+1:=by omega
     rw [e2]
     omega
   | false =>
    have law:Hid (∀ W:World,Calls Tryz.prog 155 #[.int .u8 c] W fun e w'=>e = .returned (.bool false)∧w'=W):=fun W=>by have:=part_any W c;rw [hp] at this;exact this
    have HP:=zh hp
    clear hp
    go_wp2_with fail
    refine wp_region_quiet_lit (by kernel_rfl) (by kernel_rfl) ?_
    repeat (quiet_step ((go_at_call 155;exact(law.out _).mono fun e w'' ⟨he,hw⟩=>⟨he,_,hw⟩)))
    refine wpQuiet_nil ?_
    intro _ hw'
    obtain⟨nq,hw''⟩:=hw'
    subst hw''
    go_wp2_with fail
    go_ret
    refine⟨?_,_,by first | rfl | exact World.drewN_drewN _ _ _⟩
    have e:=run_drop LX.part (bts s) (i+k+n) (by rw [bts_length];exact HL.out)
    rw [← HC.out,if_neg (by rw [HP.out];decide)] at e
    rw [H2.out,e]
    rfl
  ·have hltz:(s.size:Int)≤(i:Int)+(k:Int)+(n:Int):=by omega
   have hdec:¬ (i:Int)+(k:Int)+(n:Int)<(s.size:Int):=by omega
   have hdec2:decide ((i:Int)+(k:Int)+(n:Int)<(s.size:Int))=false:=decide_eq_false hdec
   clear hdec
   have HL:=zh hlt
   clear hlt
   go_wp2_with fail
   go_quiet (fail)
   go_wp2_with fail
   go_ret
   refine⟨?_,_,by first | rfl | exact World.drewN_drewN _ _ _⟩
   have e:=run_end LX.part (bts s) (i+k+n) (by rw [bts_length];have:=HL.out;omega)
   rw [H2.out,e]
   rfl
end Go.Proofs.YtnkahlloahgifaaGreatDoor.Lx
namespace Go.Proofs.YtnkahlloahgifaaGreatDoor.Lx
open Go.RowKit
structure Mv (w w':World) (b:Nat) (v:Int):Prop where
 os:w'.os=w.os
 tape:w'.tape=w.tape
 output:w'.output=w.output
 size:w'.heap.size=w.heap.size
 block:∀ k,k≠b→w'.heap[k]?=w.heap[k]?
 cell:∀ c T,w.heap[b]?=some (.cells c T (0,0))→w'.heap[b]?=some (.cells (c.set! 1 (.int .i64 v)) T (0,0))
theorem Mv.drewN {w w':World}{b:Nat}{v:Int}(h:Mv w w' b v) (m:Nat):Mv w (w'.drewN m) b v:=⟨h.os,h.tape,h.output,h.size,h.block,h.cell⟩
theorem Mv.of_set (w:World) (b:Nat) (v:Int):Mv w (w.setCell ⟨b,1,none⟩ (.int .i64 v)) b v :=
 ⟨rfl,rfl,rfl,by simp,fun k hk=>Below.heap_setCell w _ _ k hk,fun c T h=>heap_setCell_same w b 1 _ _ _ h⟩
theorem Mv.trans {w w1 w2:World}{b:Nat}{u v:Int}(h:Mv w w1 b u) (k:Mv w1 w2 b v):Mv w w2 b v :=
 ⟨k.os.trans h.os,k.tape.trans h.tape,k.output.trans h.output,k.size.trans h.size,fun q hq=>(k.block q hq).trans (h.block q hq),fun c T hc=>by
  have:=k.cell _ T (h.cell c T hc)
  simpa using this⟩
def Sc (w:World) (b:Nat) (s:ByteArray) (i:Nat) (mb:Nat) (cv:Value):Prop :=
 w.heap[b]?=some (.cells #[.string s,.int .i64 i,.map (some mb),cv] 222 (0,0))∧i≤s.size∧s.size≤400000
theorem Sc.at' {w:World}{b:Nat}{s:ByteArray}{i mb:Nat}{cv:Value}(h:Sc w b s i mb cv):At w b s i :=
 ⟨by rw [cell_of_row w b 0 _ _ _ h.1];rfl,by rw [cell_of_row w b 1 _ _ _ h.1];rfl,(Array.getElem?_eq_some_iff.1 h.1).1,h.2.1,h.2.2⟩
theorem Sc.mv {w w':World}{b:Nat}{s:ByteArray}{i j mb:Nat}{cv:Value}(h:Sc w b s i mb cv) (k:Mv w w' b j) (hj:j≤s.size):Sc w' b s j mb cv :=
 ⟨k.cell _ _ h.1,hj,h.2.2⟩
def thrown (i e:Int):Ending := .panicked [{ v := .iface 203 (.agg #[.int .i64 i,.int .i64 e]),recovered:=false }]
theorem prefix2 {a b:Nat}{l:List Nat}(h:[a,b].isPrefixOf l=true):∃ t,l=a :: b :: t:=by
 match l,h with
 | [],h=>simp [List.isPrefixOf] at h
 | [x],h=>simp [List.isPrefixOf] at h
 | x :: y :: t,h=>simp [List.isPrefixOf] at h;obtain⟨rfl,rfl⟩:=h;exact⟨t,rfl⟩
theorem cmt_open (l:List Nat) (d n:Nat) (h:[40,42].isPrefixOf l=true):LX.cmt l d n=if 100≤d then .deep n else LX.cmt (l.drop 2) (d+1) (n+2):=by
 obtain⟨t,rfl⟩:=prefix2 h
 rw [LX.cmt,if_pos ⟨rfl,rfl⟩];rfl
theorem cmt_close (l:List Nat) (d n:Nat) (h:[42,41].isPrefixOf l=true):LX.cmt l d n=if d=1 then .fin (n+2) else LX.cmt (l.drop 2) (d - 1) (n+2):=by
 obtain⟨t,rfl⟩:=prefix2 h
 rw [LX.cmt,if_neg (by decide),if_pos ⟨rfl,rfl⟩];rfl
theorem cmt_skip (l:List Nat) (d n:Nat) (h1:[40,42].isPrefixOf l=false) (h2:[42,41].isPrefixOf l=false):LX.cmt l d n=LX.cmt (l.drop 1) d (n+1):=by
 match l,h1,h2 with
 | [],_,_=>rfl
 | [x],_,_=>rfl
 | x :: y :: t,h1,h2 =>
  rw [LX.cmt,if_neg,if_neg]
  ·rfl
  ·rintro ⟨rfl,rfl⟩;simp [List.isPrefixOf] at h2
  ·rintro ⟨rfl,rfl⟩;simp [List.isPrefixOf] at h1
theorem opens_prefix {l:List Nat}(h:LX.opens l=true):[40,42].isPrefixOf l=true:=by
 match l,h with
 | [],h=>exact absurd h (by decide)
 | [x],h=>exact absurd h (by simp [LX.opens])
 | x :: y :: t,h =>
  by_cases e:x=40∧y=42
  ·obtain⟨rfl,rfl⟩:=e;simp [List.isPrefixOf]
  ·unfold LX.opens at h
   split at h
   ·rename_i heq;simp at heq;exact absurd ⟨heq.1,heq.2.1⟩ e
   ·exact absurd h (by decide)
theorem prefix2_length {a b:Nat}{l:List Nat}(h:[a,b].isPrefixOf l=true):2≤l.length:=by
 obtain⟨t,rfl⟩:=prefix2 h
 simp
def CPost (w:World) (b:Nat) (s:ByteArray) (i:Nat):LX.CR→Ending→World→Prop
 | .fin n,e,w'=>e = .returned (.tuple #[])∧Mv w w' b (i+n:Nat)∧i+n≤s.size
 | .deep n,e,w'=>e=thrown (i+n:Nat) 6∧∃ v,Mv w w' b v
 | .never,e,w'=>e=thrown i 12∧∃ v,Mv w w' b v
set_option maxHeartbeats 4000000 in
set_option maxRecDepth 20000 in
theorem comment_any {w:World}{b:Nat}{s:ByteArray}{i mb:Nat}{cv:Value}(h:Sc w b s i mb cv) (ho:LX.opens ((bts s).drop i)=true) :
  Calls Tryz.prog 147 #[.pointer (some ⟨b,0,none⟩)] w (CPost w b s i (LX.cmt ((bts s).drop i) 0 0)):=by
 obtain⟨c0,c1,lt,le,sz⟩:=h.at'
 have hi:(i:Int)≤400000:=by omega
 have hi2:i≤s.size:=le
 obtain⟨r,hr⟩:∃ r,r=LX.cmt ((bts s).drop i) 0 0:=⟨_,rfl⟩
 rw [← hr]
 have HS:=zh h
 have HO:=zh (opens_prefix ho)
 have HR:=zh hr
 have HZ:=zh sz
 clear h ho le sz hr
 go_enter Tryz.func147,Tryz.ntmps147
 go_wp2_with fail
 go_loopg [3] (s.size - i) (fun gk v wr=>∃ j d:Nat,i≤j∧j≤s.size∧gk=s.size - j∧v = .int .i64 d∧d≤100∧(∃ m,Mv w wr b m∧Sc wr b s j mb cv)∧(1≤d∨j=i)∧r=LX.cmt ((bts s).drop j) d (j - i))
 case atStart=>exact⟨i,0,Nat.le_refl _,hi2,rfl,rfl,by decide,⟨i,⟨rfl,rfl,rfl,rfl,fun _ _=>rfl,fun c T hc=>by
  rw [HS.out.1] at hc
  simp only [Option.some.injEq,Obj.cells.injEq] at hc
  obtain⟨rfl,rfl,_⟩:=hc
  rw [HS.out.1];rfl⟩,HS.out⟩,.inr rfl,by rw [Nat.sub_self];exact HR.out⟩
 case round =>
  obtain⟨j,d,hij,hjs,hgk,rfl,hd,⟨mv,hmv,hsc⟩,hdj,hrj⟩:=hrel
  obtain⟨e0,e1,elt,ele,esz⟩:=hsc.at'
  have ef:wr.frozen? ⟨b,1,none⟩=false:=frozen_of_row wr b 1 _ _ hsc.1
  have H1:=zh hgk
  have H2:=zh hmv
  have H3:=zh hsc
  have H4:=zh hdj
  have H5:=zh hrj
  have H6:=zh (And.intro hij hjs)
  have hj4:(j:Int)≤400000:=by omega
  have hd4:(d:Int)≤100:=by omega
  have hd0:(0:Int)≤(d:Int):=by omega
  have lt':=lt
  clear c0 c1 lt HS hgk hmv hsc hdj hrj ele esz hd
  by_cases hend:j=s.size
  ·have hlz:(s.size:Int)≤(j:Int):=by omega
   have HE:=zh hend
   clear hend hij hjs
   go_wp2_with fail
   go_quiet (fail)
   go_wp2_with fail
   refine⟨rfl,?_⟩
   have er:r = .never:=by
    rw [H5.out,List.drop_of_length_le (by rw [bts_length,HE.out];exact Nat.le_refl _)];rfl
   rw [er]
   exact⟨rfl,mv,H2.out.drewN _⟩
  ·have hlz:(j:Int)<(s.size:Int):=by omega
   have HLT:=zh (show j<s.size by omega)
   clear hend hij hjs
   cases hb1:[40,42].isPrefixOf ((bts s).drop j) with
   | true =>
    have S1:Hid (∀ m,Calls Tryz.prog 146 #[.pointer (some ⟨b,0,none⟩),.string ⟨#[40,42]⟩] (wr.drewN m) fun e w'=>e = .returned (.bool true)∧∃ q,w'=(wr.drewN m).drewN q):=fun m=>by
     have:=starts_any (w:=wr.drewN m) ⟨e0,e1,elt,H6.out.2,HZ.out⟩ ⟨#[40,42]⟩
     rw [show bts ⟨#[40,42]⟩=[40,42] from rfl,hb1] at this
     exact this
    have HB:=zh hb1
    have HLEN:Hid (j+2≤s.size):=by
     have:=prefix2_length hb1
     rw [List.length_drop,bts_length] at this
     show _≤_
     omega
    clear hb1
    go_wp2_with fail
    go_quiet (fail)
    go_wp2_with fail
    refine(S1.out _).mono ?_
    rintro e w2 ⟨rfl,q,rfl⟩
    by_cases hdd:100≤d
    ·have hdz:(100:Int)≤(d:Int):=by omega
     go_wp2_with fail
     refine⟨rfl,?_⟩
     have er:r = .deep (j - i):=by rw [H5.out,cmt_open _ _ _ HB.out,if_pos hdd]
     rw [er]
     refine⟨?_,mv,H2.out.drewN _⟩
     have e3:i+(j - i)=j:=by have:=H6.out.1;omega
     rw [e3]
     rfl
    ·have hdz:(d:Int)<100:=by omega
     have HDD:=zh hdd
     clear hdd
     go_wp2_with fail
     go_roundg (s.size - (j+2))
     case measure=>have:=H1.out;have:=HLT.out;omega
     case rel =>
      have e2:((j+2:Nat):Int)=(j:Int)+2:=by push_cast;rfl
      have hmv2:=(H2.out.drewN (nq+q)).trans (Mv.of_set (wr.drewN (nq+q)) b ((j:Int)+2))
      have hsc2:Sc ((wr.drewN (nq+q)).setCell ⟨b,1,none⟩ (.int .i64 ((j:Int)+2))) b s (j+2) mb cv:=by
       have h0:Sc (wr.drewN (nq+q)) b s j mb cv:=H3.out
       refine h0.mv ?_ HLEN.out
       rw [e2];exact Mv.of_set _ _ _
      refine⟨j+2,d+1,by have:=H6.out.1;omega,HLEN.out,rfl,by push_cast;rfl,by omega,⟨_,hmv2,hsc2⟩,.inl (by omega),?_⟩
      rw [H5.out,cmt_open _ _ _ HB.out,if_neg HDD.out,List.drop_drop]
      congr 1
      have:=H6.out.1
      omega
   | false =>
    have S1:Hid (∀ m,Calls Tryz.prog 146 #[.pointer (some ⟨b,0,none⟩),.string ⟨#[40,42]⟩] (wr.drewN m) fun e w'=>e = .returned (.bool false)∧∃ q,w'=(wr.drewN m).drewN q):=fun m=>by
     have:=starts_any (w:=wr.drewN m) ⟨e0,e1,elt,H6.out.2,HZ.out⟩ ⟨#[40,42]⟩
     rw [show bts ⟨#[40,42]⟩=[40,42] from rfl,hb1] at this
     exact this
    have hd1:1≤d:=by
     rcases H4.out with h | h
     ·exact h
     ·rw [h,HO.out] at hb1;exact absurd hb1 (by decide)
    obtain⟨d',rfl⟩:∃ d',d=d'+1:=⟨d - 1,by omega⟩
    have HB:=zh hb1
    clear hb1 hd1
    cases hb2:[42,41].isPrefixOf ((bts s).drop j) with
    | true =>
     have S2:Hid (∀ m,Calls Tryz.prog 146 #[.pointer (some ⟨b,0,none⟩),.string ⟨#[42,41]⟩] (wr.drewN m) fun e w'=>e = .returned (.bool true)∧∃ q,w'=(wr.drewN m).drewN q):=fun m=>by
      have:=starts_any (w:=wr.drewN m) ⟨e0,e1,elt,H6.out.2,HZ.out⟩ ⟨#[42,41]⟩
      rw [show bts ⟨#[42,41]⟩=[42,41] from rfl,hb2] at this
      exact this
     have HB2:=zh hb2
     have HLEN:Hid (j+2≤s.size):=by
      have:=prefix2_length hb2
      rw [List.length_drop,bts_length] at this
      show _≤_
      omega
     clear hb2
     go_wp2_with fail
     go_quiet (fail)
     go_wp2_with fail
     refine(S1.out _).mono ?_
     rintro e w2 ⟨rfl,q,rfl⟩
     go_wp2_with fail
     refine(S2.out _).mono ?_
     rintro e w2 ⟨rfl,q2,rfl⟩
     by_cases hdd:d'=0
     ·subst hdd
      go_wp2_with fail
      (try simp only [Exit.inBlock,Exit.then])
      refine bodyPost_ret (results_none rfl _ _ _) rfl ?_
      have er:r = .fin (j - i+2):=by rw [H5.out,cmt_close _ _ _ HB2.out,if_pos rfl]
      rw [er]
      have e3:i+(j - i+2)=j+2:=by have:=H6.out.1;omega
      refine⟨rfl,?_,by rw [e3];exact HLEN.out⟩
      rw [e3,show ((j+2:Nat):Int)=(j:Int)+2 from by push_cast;rfl]
      exact(H2.out.drewN _).trans (Mv.of_set _ _ _)
     ·have hdz:¬ (d':Int)=0:=by omega
      have HDD:=zh hdd
      clear hdd
      go_wp2_with fail
      go_roundg (s.size - (j+2))
      case measure=>have:=H1.out;have:=HLT.out;omega
      case rel =>
       have e2:((j+2:Nat):Int)=(j:Int)+2:=by push_cast;rfl
       have hmv2:=(H2.out.drewN (nq+q+q2)).trans (Mv.of_set (wr.drewN (nq+q+q2)) b ((j:Int)+2))
       have hsc2:Sc ((wr.drewN (nq+q+q2)).setCell ⟨b,1,none⟩ (.int .i64 ((j:Int)+2))) b s (j+2) mb cv:=by
        have h0:Sc (wr.drewN (nq+q+q2)) b s j mb cv:=H3.out
        refine h0.mv ?_ HLEN.out
        rw [e2];exact Mv.of_set _ _ _
       refine⟨j+2,d',by have:=H6.out.1;omega,HLEN.out,rfl,rfl,by omega,⟨_,hmv2,hsc2⟩,.inl (by have:=HDD.out;omega),?_⟩
       rw [H5.out,cmt_close _ _ _ HB2.out,if_neg (by have:=HDD.out;omega),List.drop_drop]
       congr 1
       have:=H6.out.1
       omega
    | false =>
     have S2:Hid (∀ m,Calls Tryz.prog 146 #[.pointer (some ⟨b,0,none⟩),.string ⟨#[42,41]⟩] (wr.drewN m) fun e w'=>e = .returned (.bool false)∧∃ q,w'=(wr.drewN m).drewN q):=fun m=>by
      have:=starts_any (w:=wr.drewN m) ⟨e0,e1,elt,H6.out.2,HZ.out⟩ ⟨#[42,41]⟩
      rw [show bts ⟨#[42,41]⟩=[42,41] from rfl,hb2] at this
      exact this
     have HB2:=zh hb2
     clear hb2
     go_wp2_with fail
     go_quiet (fail)
     go_wp2_with fail
     refine(S1.out _).mono ?_
     rintro e w2 ⟨rfl,q,rfl⟩
     go_wp2_with fail
     refine(S2.out _).mono ?_
     rintro e w2 ⟨rfl,q2,rfl⟩
     go_wp2_with fail
     go_roundg (s.size - (j+1))
     case measure=>have:=H1.out;have:=HLT.out;omega
     case rel =>
      have e2:((j+1:Nat):Int)=(j:Int)+1:=by push_cast;rfl
      have hmv2:=(H2.out.drewN (nq+q+q2)).trans (Mv.of_set (wr.drewN (nq+q+q2)) b ((j:Int)+1))
      have hsc2:Sc ((wr.drewN (nq+q+q2)).setCell ⟨b,1,none⟩ (.int .i64 ((j:Int)+1))) b s (j+1) mb cv:=by
       have h0:Sc (wr.drewN (nq+q+q2)) b s j mb cv:=H3.out
       refine h0.mv ?_ HLT.out
       rw [e2];exact Mv.of_set _ _ _
      refine⟨j+1,d'+1,by have:=H6.out.1;omega,HLT.out,rfl,by push_cast;rfl,by omega,⟨_,hmv2,hsc2⟩,.inl (by omega),?_⟩
      rw [H5.out,cmt_skip _ _ _ HB.out HB2.out,List.drop_drop]
      congr 1
      have:=H6.out.1
      omega
end Go.Proofs.YtnkahlloahgifaaGreatDoor.Lx

namespace Go.Proofs.YtnkahlloahgifaaGreatDoor.Lx
open Go.RowKit
theorem append_one {P:Program}(w:World) (base:Nat) (t ty e:TypeId) (i:TypeInfo) (z:Value) (size bytes:Nat) (ht:P.underlying t=some (.slice e)) (hi:P.info? e=some i) (hz:i.zero=some z)
  (hsize:i.size=size) (hby:i.bytes=bytes) (hzs:z.cells.size=size) (hsz:0<size)
  (v:Value) (n:Nat) (xs:List Value) (hown:w.ownsRow base e size v n xs)
  (a:Addr) (c:Nat) (news:List Value) (hl:news.length=size) (hnews:∀ j u,news[j]?=some u→w.cell? (a.add j)=some u) (h1:∀ u∈news,u.oneCell'=true)
  (hn:n<1000000000) (hbt:bytes≤1000) (hbase:base≤w.heap.size) :
  ∃ v' w',(Builtin.append_ #[t,t] ty #[v,.slice (some a) 1 c]).run P w = .ok v' w'∧w'.ownsRow base e size v' (n+1) (xs++news)∧w.grownBy w' v.ownBlock ∧
   (v'.ownBlock=some w.heap.size∨(v'.ownBlock=v.ownBlock∧v.ownBlock.isSome=true)):=by
 have hb2:((n+1)+(n+1) / 4+192)*bytes≤281474976710656:=by
  have h:((n+1)+(n+1) / 4+192)*bytes≤2000000000*1000:=Nat.mul_le_mul (by omega) hbt
  omega
 obtain⟨v',w',hr,h2,h3,h4⟩:=run_append_own_wide (P:=P) w base t ty e i z size bytes ht hi hz hsize hby hzs hsz v n xs hown a 1 c news (by omega) hnews h1 (by simp only [maxLen];omega) hb2 hbase
 refine⟨v',w',hr,h2,h3,?_⟩
 subst hsize
 subst hby
 rcases hown.2 with ⟨rfl,rfl⟩|⟨g,cap,cur,rfl,hbg,hg,hnc,hcm,hcs,htake⟩
 ·have hrun:=run_append_nil (P:=P) w t ty e i z ht hi hz a 1 c news (by omega) hnews (by omega) (by omega) (by omega)
  rw [hr] at hrun
  cases hrun
  exact .inl rfl
 ·by_cases hroom:n+1≤cap
  ·have hrun:=run_append_room (P:=P) w t ty e i ht hi g n cap cur hg a 1 c news (by omega) hnews h1 hroom (by
    rw [hcs,hl]
    have:(n+1)*i.size≤cap*i.size:=Nat.mul_le_mul_right _ hroom
    rw [Nat.add_mul] at this
    omega)
   rw [hr] at hrun
   cases hrun
   exact .inr ⟨rfl,rfl⟩
  ·have holds:∀ j u,xs[j]?=some u→w.cell? ((⟨g,0,none⟩:Addr).add j)=some u:=by
    intro j u hu
    have hj:j<n*i.size:=by rw [← hown.1];exact(List.getElem?_eq_some_iff.1 hu).1
    rw [Addr.add_lit,cell_of_row w g (0+j) cur e (0,0) hg,Nat.zero_add,← Array.getElem?_toList]
    rw [← htake,List.getElem?_take,if_pos hj] at hu
    exact hu
   have hrun:=run_append_grow (P:=P) w t ty e i z ht hi hz ⟨g,0,none⟩ n cap xs hown.1 holds a 1 c news (by omega) hnews (by omega) (by omega)
    (growslice_fits_wide (by omega) hb2)
   rw [hr] at hrun
   cases hrun
   exact .inl rfl
end Go.Proofs.YtnkahlloahgifaaGreatDoor.Lx

namespace Go.Proofs.YtnkahlloahgifaaGreatDoor.Lx
namespace LX
inductive PR where
 | to (n:Nat) (cs:List (Nat×Nat))
 | bad (place e:Nat)
def PR.add (c:List (Nat×Nat)):PR→PR
 | .to n cs => .to n (c++cs)
 | .bad p e => .bad p e
def passN:Nat→List Nat→Nat→PR
 | 0,_,p => .to p []
 | f+1,l,p =>
  if opens (l.drop (run space l)) then
   match cmt (l.drop (run space l)) 0 0 with
   | .fin n=>(passN f ((l.drop (run space l)).drop n) (p+run space l+n)).add [(p+run space l,p+run space l+n)]
   | .deep n => .bad (p+run space l+n) 6
   | .never => .bad (p+run space l) 12
  else .to (p+run space l) []
theorem PR.add_add (a b:List (Nat×Nat)) (r:PR):(r.add b).add a=r.add (a++b):=by
 cases r<;>simp [PR.add]
theorem PR.add_nil (r:PR):r.add []=r:=by cases r<;>rfl
theorem cmt_fin {l:List Nat}{d n m:Nat}:cmt l d n = .fin m→n<m:=by
 fun_induction cmt l d n with
 | case1=>intro h;cases h
 | case2=>intro h;cases h
 | case3=>intro h;cases h
 | case4 _ _ _ _ _ _ _ ih=>intro h;have:=ih h;omega
 | case5=>intro h;cases h;omega
 | case6 _ _ _ _ _ _ _ _ ih=>intro h;have:=ih h;omega
 | case7 _ _ _ _ _ _ _ ih=>intro h;have:=ih h;omega
end LX
open Go.RowKit
structure Fr (w w':World) (b:Nat) (cv cv':Value):Prop where
 os:w'.os=w.os
 tape:w'.tape=w.tape
 output:w'.output=w.output
 size:w.heap.size≤w'.heap.size
 block:∀ k,k<w.heap.size→k≠b→cv.ownBlock≠some k→w'.heap[k]?=w.heap[k]?
 own:cv'.ownBlock=cv.ownBlock∨∃ k,cv'.ownBlock=some k∧w.heap.size≤k
theorem Fr.refl (w:World) (b:Nat) (cv:Value):Fr w w b cv cv:=⟨rfl,rfl,rfl,Nat.le_refl _,fun _ _ _ _=>rfl,.inl rfl⟩
theorem Fr.trans {w w1 w2:World}{b:Nat}{cv c1 c2:Value}(h:Fr w w1 b cv c1) (k:Fr w1 w2 b c1 c2):Fr w w2 b cv c2:=by
 refine⟨k.os.trans h.os,k.tape.trans h.tape,k.output.trans h.output,Nat.le_trans h.size k.size,fun q hq hb hc=>?_,?_⟩
 ·refine(k.block q (Nat.lt_of_lt_of_le hq h.size) hb fun e=>?_).trans (h.block q hq hb hc)
  rcases h.own with e2 | ⟨p,e2,hp⟩
  ·exact hc (e2.symm.trans e)
  ·rw [e2] at e;simp at e;omega
 ·rcases k.own with e | ⟨p,e,hp⟩
  ·rcases h.own with e2 | ⟨p,e2,hp⟩
   ·exact .inl (e.trans e2)
   ·exact .inr ⟨p,e.trans e2,hp⟩
  ·exact .inr ⟨p,e,Nat.le_trans h.size hp⟩
theorem Fr.drewN {w w':World}{b:Nat}{cv cv':Value}(h:Fr w w' b cv cv') (m:Nat):Fr w (w'.drewN m) b cv cv':=⟨h.os,h.tape,h.output,h.size,h.block,h.own⟩
theorem Mv.fr {w w':World}{b:Nat}{v:Int}(h:Mv w w' b v) (cv:Value):Fr w w' b cv cv :=
 ⟨h.os,h.tape,h.output,Nat.le_of_eq h.size.symm,fun k _ hb _=>h.block k hb,.inl rfl⟩
def flatP:List (Nat×Nat)→List Value
 | []=>[]
 | (p,q) :: t => .int .i64 p :: .int .i64 q :: flatP t
theorem flatP_append (a b:List (Nat×Nat)):flatP (a++b)=flatP a++flatP b:=by
 induction a with
 | nil=>rfl
 | cons x r ih=>obtain⟨p,q⟩:=x;simp [flatP,ih]
structure Cm (w:World) (b:Nat) (cv:Value) (cs:List (Nat×Nat)):Prop where
 row:w.ownsRow 0 228 2 cv cs.length (flatP cs)
 ne:cv.ownBlock≠some b
theorem Cm.shape {w:World}{b:Nat}{cv:Value}{cs:List (Nat×Nat)}(h:Cm w b cv cs):∃ a c,cv = .slice a cs.length c:=by
 rcases h.row.2 with ⟨rfl,h0⟩|⟨g,cap,cur,rfl,_⟩
 ·rw [h0];exact⟨_,_,rfl⟩
 ·exact⟨_,_,rfl⟩
theorem Cm.keep {w w':World}{b:Nat}{cv:Value}{cs:List (Nat×Nat)}(h:Cm w b cv cs) (hk:∀ k,k<w.heap.size→cv.ownBlock=some k→w'.heap[k]?=w.heap[k]?):Cm w' b cv cs:=by
 obtain⟨⟨h1,h2⟩,h3⟩:=h
 rcases h2 with h2 | ⟨g,cap,cur,rfl,hb,hg,rest⟩
 ·exact⟨⟨h1,.inl h2⟩,h3⟩
 ·exact⟨⟨h1,.inr ⟨g,cap,cur,rfl,hb,(hk g (Array.getElem?_eq_some_iff.1 hg).1 rfl).trans hg,rest⟩⟩,h3⟩
theorem Tryz.info228:(Tryz.prog.info? 228).map (fun i=>(i.zero,i.size,i.bytes))=some (some (.agg #[.int .i64 0,.int .i64 0]),2,16):=by kernel_rfl
theorem step_append_run {P:Program}{ops:Array Oper}{o:Oper}{a:Act}{w w':World}{K:Act→World→Prop}{Q:Exit→Act→World→Prop}{E:Prop}
  (hg:o.guard=none) (s x:Operand) (t:TypeId) (hop:o.op=Op.call { callee:=Callee.builtin Builtin.append,args := #[s,x],argTypes := #[t,t] })
  {v xv v':Value} (hs:a.eval s=v) (hx:a.eval x=xv) (hr:(Builtin.append_ #[t,t] o.type #[v,xv]).run P w = .ok v' w') (hK:K (a.put o.dst v') w') :
  if Region.wanted o (yielded ops a.tmps)=true then Oper.wp P o a w K Q else E:=by
 have hw:Region.wanted o (yielded ops a.tmps)=true:=by simp [Region.wanted,hg]
 rw [if_pos hw]
 unfold Oper.wp execOp
 simp only [hop,resolve,invoke,builtin,Sem.run_bind,Sem.run_pure,Result.andThen_ok,List.map_toArray,List.map_cons,List.map_nil,hs,hx,hr]
 exact hK
def PPost (w:World) (b:Nat) (s:ByteArray) (mb:Nat) (cv:Value) (cs0:List (Nat×Nat)):LX.PR→Ending→World→Prop
 | .to n cs,e,w'=>e = .returned (.tuple #[])∧∃ cv',Sc w' b s n mb cv'∧Cm w' b cv' (cs0++cs)∧Fr w w' b cv cv'
 | .bad p er,e,w'=>e=thrown p er∧∃ cv',Fr w w' b cv cv'
theorem Mv.of_drew {w w':World}{b m:Nat}{v:Int}(h:Mv (w.drewN m) w' b v):Mv w w' b v:=⟨h.os,h.tape,h.output,h.size,h.block,h.cell⟩
theorem passN_step (f:Nat) (s:ByteArray) (j k p:Nat) (hk:k=LX.run LX.space ((bts s).drop j)) (hp:p=j+k) :
  LX.passN (f+1) ((bts s).drop j) j=if LX.opens ((bts s).drop p) then
   match LX.cmt ((bts s).drop p) 0 0 with
   | .fin n=>(LX.passN f ((bts s).drop (p+n)) (p+n)).add [(p,p+n)]
   | .deep n => .bad (p+n) 6
   | .never => .bad p 12
  else .to p []:=by
 subst hp
 rw [LX.passN,← hk]
 simp only [List.drop_drop]
theorem opens_eq (l:List Nat):LX.opens l=[40,42].isPrefixOf l:=by
 cases h:[40,42].isPrefixOf l with
 | true=>obtain⟨t,rfl⟩:=prefix2 h;rfl
 | false =>
  cases h2:LX.opens l with
  | false=>rfl
  | true=>rw [opens_prefix h2] at h;exact absurd h (by decide)
set_option maxHeartbeats 4000000 in
set_option maxRecDepth 20000 in
theorem pass_any {w:World}{b:Nat}{s:ByteArray}{i mb:Nat}{cv:Value}{cs0:List (Nat×Nat)}(h:Sc w b s i mb cv) (hc:Cm w b cv cs0) (hcl:cs0.length≤i) :
  Calls Tryz.prog 142 #[.pointer (some ⟨b,0,none⟩)] w (PPost w b s mb cv cs0 (LX.passN (s.size+1) ((bts s).drop i) i)):=by
 obtain⟨r,hr⟩:∃ r,r=LX.passN (s.size+1) ((bts s).drop i) i:=⟨_,rfl⟩
 rw [← hr]
 have hi2:=h.2.1
 have HZ:=Lib.hid h.2.2
 have HS:=Lib.hid h
 have HC:=Lib.hid hc
 have HR:=Lib.hid hr
 have HL:=Lib.hid hcl
 clear h hc hr hcl
 go_enter Tryz.func142,Tryz.ntmps142
 go_wp2_with fail
 go_loopg [2] (s.size - i) (fun gk v2 wr=>∃ (j f:Nat) (cs:List (Nat×Nat)) (cv':Value),i≤j∧j≤s.size∧gk=s.size - j∧s.size - j<f∧Sc wr b s j mb cv'∧Cm wr b cv' (cs0++cs)∧(cs0++cs).length≤j∧Fr w wr b cv cv'∧r=(LX.passN f ((bts s).drop j) j).add cs)
 case atStart=>exact⟨i,s.size+1,[],cv,Nat.le_refl _,hi2,rfl,by omega,HS.out,by simpa using HC.out,by simpa using HL.out,Fr.refl _ _ _,by rw [LX.PR.add_nil];exact HR.out⟩
 case round =>
  obtain⟨j,f,cs,cv',hij,hjs,hgk,hf,hsc,hcm,hcl,hfr,hrj⟩:=hrel
  obtain⟨f',rfl⟩:∃ f',f=f'+1:=⟨f - 1,by omega⟩
  obtain⟨e0,e1,elt,ele,esz⟩:=hsc.at'
  have ef:∀ q,wr.frozen? ⟨b,q,none⟩=false:=fun q=>frozen_of_row wr b q _ _ hsc.1
  obtain⟨k,hk⟩:∃ k,k=LX.run LX.space ((bts s).drop j):=⟨_,rfl⟩
  have hkl:j+k≤s.size:=by
   have:=run_le LX.space ((bts s).drop j)
   rw [List.length_drop,bts_length] at this
   omega
  have hj4:(j:Int)+(k:Int)≤400000:=by have:=HZ.out;omega
  have R1:Hid (Calls Tryz.prog 144 #[.pointer (some ⟨b,0,none⟩),.int .i64 0,.func (.func 145) #[] #[]] wr.drew fun e w'=>e = .returned (.int .i64 k)∧∃ q,w'=wr.drew.drewN q):=by
   have:=run_space (w:=wr.drew) ⟨e0,e1,elt,ele,esz⟩ 0 (by decide)
   rw [Nat.add_zero,← hk] at this
   exact this
  have H1:=Lib.hid hgk
  have H2:=Lib.hid hf
  have H3:=Lib.hid hsc
  have H4:=Lib.hid hcm
  have H5:=Lib.hid hcl
  have H6:=Lib.hid hfr
  have H7:=Lib.hid hrj
  have H8:=Lib.hid hk
  have H9:=Lib.hid (And.intro hij (And.intro hjs hkl))
  clear hgk hf hsc hcm hcl hfr hrj hk hij hjs ele esz hkl
  have hwr:IntKind.i64.wrap ((j:Int)+(k:Int))=(j:Int)+(k:Int):=wrap_in _ (by omega)
  go_wp2_with fail
  go_region_with (go_at_call 144;refine(R1.out).mono ?_;rintro e w2 ⟨rfl,q,rfl⟩)
  all_goals
   obtain⟨w1,hw1⟩:∃ v,v=(wr.drewN (1+q)).setCell ⟨b,1,none⟩ (.int .i64 ((j:Int)+(k:Int))):=⟨_,rfl⟩
   rw [← hw1]
   have mv1:Mv wr w1 b ((j+k:Nat):Int):=by
    rw [hw1,show ((j+k:Nat):Int)=(j:Int)+(k:Int) from by push_cast;rfl]
    exact(Mv.of_set (wr.drewN (1+q)) b _).of_drew
   have T1:Hid (Sc w1 b s (j+k) mb cv'):=H3.out.mv mv1 H9.out.2.2
   have T2:Hid (Cm w1 b cv' (cs0++cs)):=H4.out.keep fun p hp hb=>mv1.block p fun e=>H4.out.ne (by rw [hb,e])
   have T3:Hid (Fr w w1 b cv cv'):=H6.out.trans (mv1.fr cv')
   obtain⟨p,hp⟩:∃ p,p=j+k:=⟨_,rfl⟩
   rw [← hp] at T1
   have T4:=Lib.hid hp
   obtain⟨d0,d1,dlt,dle,dsz⟩:=T1.out.at'
   have df:∀ q,w1.frozen? ⟨b,q,none⟩=false:=fun q=>frozen_of_row w1 b q _ _ T1.out.1
   have d3:w1.cell? ⟨b,3,none⟩=some cv':=by rw [cell_of_row w1 b 3 _ _ _ T1.out.1];rfl
   have hpz:(p:Int)≤400000:=by omega
   have AT:Hid (At w1 b s p):=T1.out.at'
   clear hw1 mv1 e0 e1 elt ef hwr R1 hp hj4 dle dsz
   cases hop:LX.opens ((bts s).drop p) with
   | false =>
    have S1:Hid (Calls Tryz.prog 146 #[.pointer (some ⟨b,0,none⟩),.string ⟨#[40,42]⟩] w1 fun e w'=>e = .returned (.bool false)∧∃ q,w'=w1.drewN q):=by
     have:=starts_any AT.out ⟨#[40,42]⟩
     rw [show bts ⟨#[40,42]⟩=[40,42] from rfl,← opens_eq,hop] at this
     exact this
    have HOP:=Lib.hid hop
    clear hop
    go_wp2_with fail
    refine(S1.out).mono ?_
    rintro e w2 ⟨rfl,q2,rfl⟩
    go_wp2_with fail
    (try simp only [Exit.inBlock,Exit.then])
    refine bodyPost_ret (results_none rfl _ _ _) rfl ?_
    have er:r = .to p cs:=by
     rw [H7.out,passN_step _ s j k p H8.out T4.out,if_neg (by rw [HOP.out];decide)]
     simp [LX.PR.add]
    rw [er]
    exact⟨rfl,cv',T1.out,T2.out.keep fun _ _ _=>rfl,T3.out.drewN _⟩
   | true =>
    have S1:Hid (Calls Tryz.prog 146 #[.pointer (some ⟨b,0,none⟩),.string ⟨#[40,42]⟩] w1 fun e w'=>e = .returned (.bool true)∧∃ q,w'=w1.drewN q):=by
     have:=starts_any AT.out ⟨#[40,42]⟩
     rw [show bts ⟨#[40,42]⟩=[40,42] from rfl,← opens_eq,hop] at this
     exact this
    have HOP:=Lib.hid hop
    clear hop
    go_wp2_with fail
    refine(S1.out).mono ?_
    rintro e w2 ⟨rfl,q2,rfl⟩
    go_wp2_with fail
    have T1':Sc (w1.drewN q2) b s p mb cv':=T1.out
    refine(comment_any T1' HOP.out).mono ?_
    cases hcm2:LX.cmt ((bts s).drop p) 0 0 with
    | never =>
     rintro e w3 ⟨rfl,v,hmv⟩
     unfold thrown
     go_wp2_with fail
     refine⟨rfl,?_⟩
     have er:r = .bad p 12:=by
      rw [H7.out,passN_step _ s j k p H8.out T4.out,if_pos HOP.out,hcm2]
      rfl
     rw [er]
     exact⟨rfl,cv',T3.out.trans (hmv.of_drew.fr cv')⟩
    | deep n =>
     rintro e w3 ⟨rfl,v,hmv⟩
     unfold thrown
     go_wp2_with fail
     refine⟨rfl,?_⟩
     have er:r = .bad (p+n) 6:=by
      rw [H7.out,passN_step _ s j k p H8.out T4.out,if_pos HOP.out,hcm2]
      rfl
     rw [er]
     exact⟨rfl,cv',T3.out.trans (hmv.of_drew.fr cv')⟩
    | fin n =>
     rintro e w3 ⟨rfl,hmv,hle⟩
     have mv3:=hmv.of_drew
     have U1:Hid (Sc w3 b s (p+n) mb cv'):=T1.out.mv mv3 hle
     have U2:Hid (Cm w3 b cv' (cs0++cs)):=T2.out.keep fun x hx hb=>mv3.block x fun e=>T2.out.ne (by rw [hb,e])
     have U3:Hid (Fr w w3 b cv cv'):=T3.out.trans (mv3.fr cv')
     have U4:Hid (0<n):=LX.cmt_fin hcm2
     have U5:Hid (r=((LX.passN f' ((bts s).drop (p+n)) (p+n)).add [(p,p+n)]).add cs):=by
      show r=_
      rw [H7.out,passN_step _ s j k p H8.out T4.out,if_pos HOP.out,hcm2]
     have U6:=Lib.hid hle
     obtain⟨g0,g1,glt,gle,gsz⟩:=U1.out.at'
     have g1':w3.cell? ⟨b,1,none⟩=some (.int .i64 ((p:Int)+(n:Int))):=by rw [g1];push_cast;rfl
     have gf:∀ q,w3.frozen? ⟨b,q,none⟩=false:=fun q=>frozen_of_row w3 b q _ _ U1.out.1
     have g3:w3.cell? ⟨b,3,none⟩=some cv':=by rw [cell_of_row w3 b 3 _ _ _ U1.out.1];rfl
     obtain⟨i0,hi0,hz0,hz1,hz2⟩:=info_parts Tryz.info228
     obtain⟨W,hW⟩:∃ W,W=w3.drew.alloc (.cells #[.int .i64 p,.int .i64 ((p:Int)+(n:Int))] 228):=⟨_,rfl⟩
     have hWh:W.heap[w3.heap.size]?=some (.cells #[.int .i64 p,.int .i64 ((p:Int)+(n:Int))] 228 (0,0)):=by rw [hW];exact heap_alloc_new w3.drew _
     have hWs:W.heap.size=w3.heap.size+1:=by rw [hW];simp
     have hWk:∀ x,x<w3.heap.size→W.heap[x]?=w3.heap[x]?:=fun x hx=>by rw [hW];exact Below.heap_alloc w3.drew _ _ hx
     have cmW:Cm W b cv' (cs0++cs):=U2.out.keep fun x hx _=>hWk x hx
     obtain⟨v',w4,hrun,hrow,hgr,hob⟩:=append_one (P:=Tryz.prog) W 0 220 220 228 i0 (.agg #[.int .i64 0,.int .i64 0]) 2 16 Tryz.underlying220 hi0 hz0 hz1 hz2 rfl (by decide) cv' (cs0++cs).length (flatP (cs0++cs)) cmW.row ⟨w3.heap.size,0,none⟩ 1 [.int .i64 p,.int .i64 ((p:Int)+(n:Int))] rfl
      (fun x u hx=>by
       rw [Addr.add_lit,cell_of_row _ _ _ _ _ _ hWh]
       match x,hx with
       | 0,hx=>simpa using hx
       | 1,hx=>simpa using hx
       | x+2,hx=>simp at hx)
      (fun u hu=>by simp at hu;rcases hu with rfl | rfl<;>rfl) (by have:=H5.out;have:=H9.out.2.1;have:=HZ.out;omega) (by decide) (Nat.zero_le _)
     obtain⟨va,vc,hv'⟩:∃ a c,v' = .slice a ((cs0++cs).length+1) c:=by
      rcases hrow.2 with ⟨_,h0⟩|⟨g,cap,cur,e,_⟩
      ·omega
      ·exact⟨_,_,e⟩
     obtain⟨ca,cc,hcv⟩:=U2.out.shape
     have b4:w4.heap[b]?=w3.heap[b]?:=(hgr.block b (by omega) (fun e=>U2.out.ne e.symm)).trans (hWk b glt)
     have b40:w4.cell? ⟨b,3,none⟩=some cv':=by rw [World.cell?_of_block (w:=w3) b4];exact g3
     have b4f:w4.frozen? ⟨b,3,none⟩=false:=by rw [World.frozen?_of_block (w:=w3) b4];exact gf 3
     have b4l:b<w4.heap.size:=Nat.lt_of_lt_of_le (by omega) hgr.size
     rw [hW] at hrun
     have V1:=Lib.hid hrun
     have V2:=Lib.hid hrow
     have V3:=Lib.hid hgr
     have V4:=Lib.hid hob
     have V5:=Lib.hid b4
     have V6:=Lib.hid (And.intro hWs hWk)
     have V7:Hid (w3.os=W.os∧w3.tape=W.tape∧w3.output=W.output):=by rw [hW];exact⟨rfl,rfl,rfl⟩
     have hnz:(p:Int)+(n:Int)≤400000:=by omega
     obtain⟨nn,hnn⟩:∃ nn,nn=(cs0++cs).length:=⟨_,rfl⟩
     rw [← hnn] at hv' hcv
     have V8:=Lib.hid hnn
     clear hnn
     subst hv'
     subst hcv
     clear hW g1 hmv hle hcm2 mv3 gle gsz hi0 hz0 hz1 hz2 hWh hWs hWk cmW hrun hrow hgr hob b4 d0 d1 dlt df d3 S1
     go_wp2_with fail
     go_region_law (refine step_append_run rfl _ _ 220 rfl rfl rfl V1.out ?_)
     all_goals
      go_wp2_with fail
      go_roundg (s.size - (p+n))
      case measure=>have:=H1.out;have:=U4.out;have:=U6.out;have:=T4.out;omega
      case rel =>
       have hlen:(cs0++(cs++[(p,p+n)])).length=(cs0++cs).length+1:=by simp;omega
       have hfl:flatP (cs0++(cs++[(p,p+n)]))=flatP (cs0++cs)++[.int .i64 p,.int .i64 ((p:Int)+(n:Int))]:=by
        rw [← List.append_assoc,flatP_append]
        simp only [flatP]
        push_cast
        rfl
       have hne:(Value.slice va (nn+1) vc).ownBlock≠some b:=by
        rcases V4.out with e | ⟨e,_⟩
        ·rw [e,V6.out.1];intro e2;simp at e2;omega
        ·rw [e];exact U2.out.ne
       have hkk:∀ x,x≠b→(w4.setCell ⟨b,3,none⟩ (.slice va (nn+1) vc)).heap[x]?=w4.heap[x]?:=fun x hx=>Below.heap_setCell w4 _ _ x hx
       have hcm:Cm w4 b (.slice va (nn+1) vc) (cs0++(cs++[(p,p+n)])):=⟨by rw [hlen,hfl];exact V2.out,hne⟩
       refine⟨p+n,f',cs++[(p,p+n)],.slice va (nn+1) vc,by have:=H9.out.1;have:=T4.out;omega,U6.out,rfl,by have:=H2.out;have:=U4.out;have:=T4.out;have:=U6.out;omega,⟨?_,U6.out,HZ.out⟩,hcm.keep (fun x _ hx=>hkk x fun e=>hne (by rw [hx,e])),by rw [hlen];have:=H5.out;have:=U4.out;have:=T4.out;omega,?_,?_⟩
       ·have:=heap_setCell_same w4 b 3 _ _ (.slice va (nn+1) vc) (V5.out.trans U1.out.1)
        simpa using this
       ·refine U3.out.trans ⟨V3.out.os.trans V7.out.1.symm,V3.out.tape.trans V7.out.2.1.symm,V3.out.output.trans V7.out.2.2.symm,?_,fun x hx hxb hxc=>?_,?_⟩
        ·have h1:=V3.out.size
         have h2:=V6.out.1
         simp
         omega
        ·rw [hkk x hxb,V3.out.block x (by have:=V6.out.1;omega) (fun e=>hxc e.symm)]
         exact V6.out.2 x hx
        ·rcases V4.out with e | ⟨e,_⟩
         ·exact .inr ⟨_,e,by rw [V6.out.1];omega⟩
         ·exact .inl e
       ·rw [U5.out,LX.PR.add_add]
end Go.Proofs.YtnkahlloahgifaaGreatDoor.Lx
