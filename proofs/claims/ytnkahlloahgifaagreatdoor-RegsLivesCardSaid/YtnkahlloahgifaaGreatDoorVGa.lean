/- Part. -/
import Derived.Test.YtnkahlloahgifaaGreatDoorVB
import Derived.Test.YtnkahlloahgifaaGreatDoorVEg
import Derived.Test.YtnkahlloahgifaaGreatDoorVPr
set_option maxHeartbeats 16000000
set_option maxRecDepth 100000
set_option linter.unusedSimpArgs false
set_option linter.unusedVariables false
namespace Go.Proofs.YtnkahlloahgifaaGreatDoor
open Go.RowKit RG Go.Maps RF
def rowB (F:List Nd) (q:Nm→Bool):List Value:=(vars F).map fun x=>Value.bool (q x)
theorem rowB_at {F:List Nd}{q:Nm→Bool}{i:Nat}(hi:i<(vars F).length):(rowB F q)[i]?=some (.bool (q ((vars F).getD i ⟨#[]⟩))):=by
 unfold rowB
 rw [List.getElem?_map,zt4,zq9 hi];rfl
theorem risingR_any {w:World}{v:Value}{F:List Nd}{q:Nm→Bool}(h:SlAt w v (vars F).length (rowB F q)) (hvn:(vars F).length≤1000000) :
  Calls Tryz.prog 57 #[v] w fun e w'=>Below w.heap.size w w'∧∃ u,e = .returned u∧SlAt w' u (posn F q (vars F).length).length (nats (posn F q (vars F).length)):=by
 obtain⟨-,la,lc,rfl,lat⟩:=h
 obtain⟨n,hnn⟩:∃ n,n=(vars F).length:=⟨_,rfl⟩
 rw [← hnn] at hvn lat ⊢
 have LAT:=zh lat
 have HN:=zh hnn
 have hnz:(n:Int)≤1000000:=by omega
 have NZ:=zh hvn
 obtain⟨i3,p1,p2,p3,p4⟩:=info_parts Tryz.info3u
 have HI3:=zh (And.intro p1 (And.intro p2 (And.intro p3 p4)))
 clear lat hnn hvn p1 p2 p3 p4
 go_enter Tryz.func57,Tryz.ntmps57
 go_wp2_with fail
 go_loopw [3,4] (fun ov iv wr=>∃ i:Nat,i≤n∧iv = .int .i64 i∧World.ownsRow wr w.heap.size 3 1 ov (posn F q i).length (nats (posn F q i))∧Below w.heap.size w wr) (fun _ iv _=>n - (intOf iv).toNat)
 case atStart=>exact⟨0,Nat.zero_le _,rfl,World.ownsRow_nil _ _ _ _,zs9 _ _⟩
 rename World=>V
 obtain⟨i,hi,rfl,hown,hbv⟩:=hrel
 have KI:=zh hi
 have KO:=zh hown
 have BV:=zh hbv
 obtain⟨oa,oc,hov⟩:=own_sliceI hown
 subst hov
 obtain⟨out,hout⟩:∃ out,out=posn F q i:=⟨_,rfl⟩
 have HO:=zh hout
 rw [← hout] at KO ⊢
 obtain⟨no',hno⟩:∃ no',no'=out.length:=⟨_,rfl⟩
 have HNO:=zh hno
 rw [← hno] at KO ⊢
 clear hi hown hbv hno hout
 by_cases hlt:i<n
 ·have hlz:(i:Int)<n:=by omega
  have hi0:(0:Int)≤i:=by omega
  have HLT:=zh hlt
  obtain⟨g,o,rfl,hat⟩:=LAT.out (by omega)
  have y0:=zd BV.out _ _ (hat i _ (rowB_at (by have:=HN.out;omega)))
  have PS:=zh (posn_succ F q i)
  obtain⟨b,hb⟩:∃ b,b=q ((vars F).getD i ⟨#[]⟩):=⟨_,rfl⟩
  rw [← hb,← HO.out] at PS
  rw [← hb] at y0
  clear hlt hat hb
  cases b with
  | false =>
   have P2:Hid (posn F q (i+1)=out):=PS.out
   clear PS
   go_wp2_with fail
   go_roundw
   case rel=>exact⟨i+1,HLT.out,by go_num,by rw [P2.out,← HNO.out];exact KO.out,BV.out⟩
   case measure=>have:=HLT.out;simp [intOf];omega
  | true =>
   have P2:Hid (posn F q (i+1)=out++[i]):=PS.out
   have OX:Hid (World.ownsRow (V.alloc (.cells #[.int .i64 i] 3)) w.heap.size 3 1 (.slice oa no' oc) no' (nats out)):=owns_keep2 KO.out fun q hq=>zt2 _ _ _ (World.ownsRow.lt KO.out q hq).2
   have NB:Hid (no'+1≤maxLen∧(no'+1)*8≤140737488355328):=by have h1:=posn_len F q i;rw [← HO.out,← HNO.out] at h1;have:=NZ.out;have:=HLT.out;show _∧_;simp only [maxLen];omega
   have BA:Hid (Below w.heap.size w (V.alloc (.cells #[.int .i64 i] 3))):=BV.out.alloc BV.out.size _
   clear PS
   go_wp2_with (at_builtin;refine wpList_append_own _ rfl _ _ 40 rfl w.heap.size 3 i3 (.int .i64 0) 1 8 Tryz.underlying40 HI3.out.1 HI3.out.2.1 HI3.out.2.2.1 HI3.out.2.2.2 rfl (by decide) (.slice oa no' oc) no' (nats out) rfl OX.out ⟨V.heap.size,0,none⟩ 1 1 [.int .i64 i] rfl rfl (news1 _ _ _) (fun u hu=>by simp at hu;rw [hu];rfl) NB.out.1 NB.out.2 BA.out.size ?_)
   intro vo w6 hown hg _
   have B6:Hid (Below w.heap.size w w6):=BA.out.grown hg BA.out.size (fun q e=>(OX.out.lt q e).1)
   have M6:Hid (World.ownsRow w6 w.heap.size 3 1 vo (posn F q (i+1)).length (nats (posn F q (i+1)))):=by
    show World.ownsRow _ _ _ _ _ _ _
    rw [P2.out,zr2,← HNO.out,nats_append]
    exact hown
   clear hown hg
   go_wp2_with fail
   go_roundw
   case rel=>exact⟨i+1,HLT.out,by go_num,M6.out,B6.out⟩
   case measure=>have:=HLT.out;simp [intOf];omega
 obtain rfl:i=n:=by have:=KI.out;omega
 have hdi:decide (i<i)=false:=by simp
 clear hlt
 go_wp2_with fail
 go_ret
 exact⟨BV.out,_,rfl,by rw [← HO.out];exact owns_nats KO.out HNO.out⟩
theorem hasN_any {w:World}{v:Value}{l:List Nat}(x:Nat) (h:SlAt w v l.length (nats l)) (hl:l.length≤1000000000000):Calls Tryz.prog 62 #[v,.int .i64 (x:Nat)] w fun en w'=>Below w.heap.size w w'∧en = .returned (.bool (decide (x∈l))):=by
 obtain⟨-,aa,ac,rfl,hat⟩:=h
 have HAT:=zh hat
 obtain⟨n,hn⟩:∃ n,n=l.length:=⟨_,rfl⟩
 rw [← hn] at hl ⊢
 have HN:=zh hn
 have hnz:(n:Int)≤1000000000000:=by omega
 clear hat hn hl
 go_enter Tryz.func62,Tryz.ntmps62
 go_wp2_with fail
 go_loopw [5] (fun iv wr=>∃ k:Nat,k≤n∧iv = .int .i64 k∧Below w.heap.size w wr∧x∉l.take k) (fun iv _=>n - (intOf iv).toNat)
 case atStart=>exact⟨0,Nat.zero_le _,rfl,zs9 _ _,by simp⟩
 obtain⟨k,hk,rfl,hb,hq⟩:=hrel
 have HK:=zh hk
 have HB:=zh hb
 have HQ:=zh hq
 clear hk hb hq
 by_cases hlt:k<n
 ·obtain⟨g,o,rfl,hat⟩:=HAT.out (by have:=HN.out;omega)
  obtain⟨y,hy⟩:∃ y,l[k]?=some y:=⟨_,zq9 (by have:=HN.out;omega)⟩
  have y0:=zd HB.out _ _ (hat k _ (nats_at hy))
  have HY:=zh hy
  have HLT:=zh hlt
  have hlz:(k:Int)<n:=by omega
  have hk0:(0:Int)≤k:=by omega
  clear hat hy
  by_cases hxy:y=x
  ·have d1:((y:Int)==(x:Int))=true:=by simp [hxy]
   have E2:Hid (decide (x∈l)=true):=by show _=_;rw [decide_eq_true_eq,← hxy];exact zr1 HY.out
   clear hxy hlt
   go_wp2_with fail
   go_ret
   exact⟨HB.out,by rw [E2.out];rfl⟩
  have d1:((y:Int)==(x:Int))=false:=by simp;omega
  have d2:(y==x)=false:=by simp [hxy]
  have E2:Hid (x∉l.take (k+1)):=by
   show ¬ _
   rw [List.take_add_one,HY.out]
   intro hm
   rcases List.mem_append.1 hm with hm | hm
   ·exact HQ.out hm
   simp at hm;exact hxy hm.symm
  clear hxy hlt
  go_wp2_with fail
  go_roundw
  case rel=>exact⟨k+1,HLT.out,by go_num,HB.out,E2.out⟩
  case measure=>have:=HLT.out;simp [intOf];omega
 have hlz:(n:Int)≤k:=by omega
 have E2:Hid (decide (x∈l)=false):=by
  show _=_
  rw [decide_eq_false_iff_not]
  have h1:=HQ.out
  rw [zr3 (by have:=HN.out;omega)] at h1
  exact h1
 clear hlt
 go_wp2_with fail
 go_ret
 exact⟨HB.out,by rw [E2.out];rfl⟩
end Go.Proofs.YtnkahlloahgifaaGreatDoor
