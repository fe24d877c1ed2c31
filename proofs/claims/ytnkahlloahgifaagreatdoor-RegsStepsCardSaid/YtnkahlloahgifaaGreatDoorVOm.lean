/- Part. -/
import Derived.Test.YtnkahlloahgifaaGreatDoorVEg
import Derived.Test.YtnkahlloahgifaaGreatDoorVPq
import Derived.Test.YtnkahlloahgifaaGreatDoorVEc
import Derived.Test.YtnkahlloahgifaaGreatDoorRows
import Derived.Test.YtnkahlloahgifaaGreatDoorTie
import Derived.Test.YtnkahlloahgifaaGreatDoorCards
import Derived.ProofKit
import Derived.OpenShut
import Derived.LaidMore
import Derived.LaidLaws
import Derived.MakeChecks
import Derived.Lay
import Derived.Shelf.Vars
import Derived.Stop.LaidErr
import Derived.Lib.LaidTab
import Derived.HandedShaped
import Derived.SevenTiedAt
import Derived.LaidByTextLater
import Derived.Test.YtnkahlloahgifaaGreatDoorVDa
import Derived.Test.YtnkahlloahgifaaGreatDoorVPl
import Derived.Deep.RegionHeld3
import Derived.Deep.Cut
import Derived.Deep.Slices
import Derived.Deep.Fields
import Derived.ChangeSame
import Derived.Carry
import Derived.SizedLaws
set_option linter.unusedSimpArgs false
set_option linter.unusedVariables false
namespace Go.Proofs.YtnkahlloahgifaaGreatDoor
open Go.RowKit RG Go.Maps RF
set_option maxHeartbeats 8000000 in
set_option maxRecDepth 20000 in
theorem steps_walk {w:World}(hE:Lx.Env w) {v:Value}{ps:List Nm}{e:TE}(h:FnOk Lx.Env isNm w v ps e):Calls Tryz.prog 6 #[v] w (SnP w):=by
 have HK:=zh h
 obtain⟨nm,op,ch,pv,va,num,site,aa,ab,ca,cb,ga,oa,gb,ob,rfl,hp,hat,-⟩:=h.val
 obtain⟨xa,xc,rfl,-⟩:=id hat.at'
 obtain⟨pa,pc,rfl,hpat⟩:=id hp.at'
 have PAT:=zh hpat
 clear h hp hat hpat
 obtain⟨np,hnp⟩:∃ n,n=ps.length:=⟨_,rfl⟩
 obtain⟨na,hna⟩:∃ n,n=e.args.length:=⟨_,rfl⟩
 obtain⟨nc,hnc⟩:∃ n,n=e.arms.length:=⟨_,rfl⟩
 obtain⟨nb,hnb⟩:∃ n,n=e.body.length:=⟨_,rfl⟩
 obtain⟨ek,hek⟩:∃ n,n=e.kind:=⟨_,rfl⟩
 obtain⟨en0,hen⟩:∃ n,n=e.name:=⟨_,rfl⟩
 rw [← hnp,← hna,← hnc,← hnb,← hek,← hen] at HK ⊢
 rw [← hnp] at PAT
 have HNP:=zh hnp
 clear hnp hna hnc hnb hek hen
 have SN:Hid (Calls Tryz.prog 14 #[] (w.alloc (.cells #[.string nm,.bool ch,.slice pa np pc,.int .i64 ek,.string en0,.string op,.int .i64 num,.int .i64 site,.slice xa na xc,.slice aa nc ca,.slice ab nb cb] 29)) (SnP (w.alloc (.cells #[.string nm,.bool ch,.slice pa np pc,.int .i64 ek,.string en0,.string op,.int .i64 num,.int .i64 site,.slice xa na xc,.slice aa nc ca,.slice ab nb cb] 29)))):=sane_any ((HK.out.law.keep _ _ _ (HK.out.law.size _ HK.out.env) HK.out.env ((Below.refl _ _).alloc (Nat.le_refl _) _)))
 have O0:Hid ((w.alloc (.cells #[.string nm,.bool ch,.slice pa np pc,.int .i64 ek,.string en0,.string op,.int .i64 num,.int .i64 site,.slice xa na xc,.slice aa nc ca,.slice ab nb cb] 29)).heap[w.heap.size]?=some (.cells #[.string nm,.bool ch,.slice pa np pc,.int .i64 ek,.string en0,.string op,.int .i64 num,.int .i64 site,.slice xa na xc,.slice aa nc ca,.slice ab nb cb] 29 (0,0))):=heap_alloc_new w _
 have B0:Hid (Below w.heap.size w (w.alloc (.cells #[.string nm,.bool ch,.slice pa np pc,.int .i64 ek,.string en0,.string op,.int .i64 num,.int .i64 site,.slice xa na xc,.slice aa nc ca,.slice ab nb cb] 29))):=(Below.refl _ _).alloc (Nat.le_refl _) _
 clear hE
 go_enter Tryz.func6,Tryz.ntmps6
 go_wp2_with fail
 refine SN.out.mono ?_
 rintro en w1 ⟨rfl,hb⟩
 have B1:Hid (Below w.heap.size w w1):=B0.out.trans (hb.mono B0.out.size)
 have O1:Hid (w1.heap[w.heap.size]?=some (.cells #[.string nm,.bool ch,.slice pa np pc,.int .i64 ek,.string en0,.string op,.int .i64 num,.int .i64 site,.slice xa na xc,.slice aa nc ca,.slice ab nb cb] 29 (0,0))):=(hb.block _ (by simp)).trans O0.out
 have L1:Hid (w.heap.size+1≤w1.heap.size):=by have:=hb.size;simp at this;exact this
 have SM:=zh (small_any (HK.out.keep B1.out).val)
 obtain⟨q0,q1,q2,q3,q4,q5,q6,q7,q8,q9,q10⟩:=box11 O1.out
 clear hb SN O0 B0
 go_wp2_with fail
 refine SM.out.mono ?_
 rintro en w2 ⟨hb,b,rfl,hs1,-⟩
 have B2:Hid (Below w.heap.size w w2):=B1.out.trans (hb.mono B1.out.size)
 have O2:Hid (w2.heap[w.heap.size]?=some (.cells #[.string nm,.bool ch,.slice pa np pc,.int .i64 ek,.string en0,.string op,.int .i64 num,.int .i64 site,.slice xa na xc,.slice aa nc ca,.slice ab nb cb] 29 (0,0))):=(hb.block _ (by have:=L1.out;omega)).trans O1.out
 have L2:Hid (w.heap.size+1≤w2.heap.size):=Nat.le_trans L1.out hb.size
 have S1:=zh hs1
 clear q0 q1 q2 q3 q4 q5 q6 q7 q8 q9 q10 hb hs1 SM
 cases b
 ·go_wp2_with fail
  go_ret
  exact⟨rfl,B2.out⟩
 have CT:=zh (count_any (HK.out.keep B2.out))
 obtain⟨q0,q1,q2,q3,q4,q5,q6,q7,q8,q9,q10⟩:=box11 O2.out
 go_wp2_with fail
 refine CT.out.mono ?_
 rintro en w3 ⟨hb,⟨hg,rfl⟩|⟨-,rfl⟩⟩
 rotate_left
 ·have B3:Hid (Below w.heap.size w w3):=B2.out.trans (hb.mono B2.out.size)
  clear q0 q1 q2 q3 q4 q5 q6 q7 q8 q9 q10 hb CT
  go_wp2_with fail
  go_ret
  exact⟨rfl,B3.out⟩
 have NG:=zh hg
 have SZ:=zh (S1.out (by trivial) hg)
 obtain⟨n,hn⟩:∃ n,n=e.size:=⟨_,rfl⟩
 rw [← hn]
 have HN:=zh hn
 have B3:Hid (Below w.heap.size w w3):=B2.out.trans (hb.mono B2.out.size)
 have O3:Hid (w3.heap[w.heap.size]?=some (.cells #[.string nm,.bool ch,.slice pa np pc,.int .i64 ek,.string en0,.string op,.int .i64 num,.int .i64 site,.slice xa na xc,.slice aa nc ca,.slice ab nb cb] 29 (0,0))):=(hb.block _ (by have:=L2.out;omega)).trans O2.out
 have L3:Hid (w.heap.size+1≤w3.heap.size):=Nat.le_trans L2.out hb.size
 clear q0 q1 q2 q3 q4 q5 q6 q7 q8 q9 q10 hb CT hn hg S1
 have OF:=zh (ofR_any (HK.out.keep B3.out).val)
 obtain⟨q0,q1,q2,q3,q4,q5,q6,q7,q8,q9,q10⟩:=box11 O3.out
 go_wp2_with fail
 refine OF.out.mono ?_
 rintro en w4 ⟨fb,rfl,hb,⟨-,hem⟩|⟨hg,-⟩⟩
 rotate_left
 ·exact absurd NG.out hg
 have B4:Hid (Below w.heap.size w w4):=B3.out.trans (hb.mono B3.out.size)
 have O4:Hid (w4.heap[w.heap.size]?=some (.cells #[.string nm,.bool ch,.slice pa np pc,.int .i64 ek,.string en0,.string op,.int .i64 num,.int .i64 site,.slice xa na xc,.slice aa nc ca,.slice ab nb cb] 29 (0,0))):=(hb.block _ (by have:=L3.out;omega)).trans O3.out
 have L4:Hid (w.heap.size+1≤w4.heap.size):=Nat.le_trans L3.out hb.size
 have EM4:=zh hem
 clear q0 q1 q2 q3 q4 q5 q6 q7 q8 q9 q10 hb hem OF
 have LV:=zh (live_any sort_law (HK.out.keep B4.out) 0)
 obtain⟨q0,q1,q2,q3,q4,q5,q6,q7,q8,q9,q10⟩:=box11 O4.out
 go_wp2_with fail
 refine LV.out.mono ?_
 rintro en w5 ⟨hb,⟨-,i0,v0,hi0,-,rfl,hv0⟩|⟨-,ho,-⟩|⟨hg,-⟩⟩
 rotate_left
 ·have:=e.size_pos;omega
 ·exact absurd NG.out hg
 obtain rfl:i0=0:=by omega
 have B5:Hid (Below w.heap.size w w5):=B4.out.trans (hb.mono B4.out.size)
 have O5:Hid (w5.heap[w.heap.size]?=some (.cells #[.string nm,.bool ch,.slice pa np pc,.int .i64 ek,.string en0,.string op,.int .i64 num,.int .i64 site,.slice xa na xc,.slice aa nc ca,.slice ab nb cb] 29 (0,0))):=(hb.block _ (by have:=L4.out;omega)).trans O4.out
 have L5:Hid (w.heap.size+1≤w5.heap.size):=Nat.le_trans L4.out hb.size
 have EM5:=zh (EM4.out.keep hb)
 have FO:=zh (good_fo NG.out)
 have LEN:Hid ((F0 ps e).length≤300):=by have:=SZ.out.1;rw [← F0_length ps e] at this;exact this
 have VEN:Hid ((vars (F0 ps e)).length≤300):=SZ.out.2
 obtain⟨fa,fc,rfl,hfat⟩:=id hv0.cells
 have FAT:=zh hfat
 obtain⟨nf,hnf⟩:∃ n,n=(liveAt (F0 ps e) 0).length:=⟨_,rfl⟩
 rw [← hnf]
 rw [← hnf] at FAT
 have HNF:=zh hnf
 have NFZ:Hid (nf≤300):=by have h1:(liveAt (F0 ps e) 0).length≤(vars (F0 ps e)).length:=List.length_filter_le _ _;have:=VEN.out;show nf≤300;omega
 have nfz:(nf:Int)≤300:=by have:=NFZ.out;omega
 have npz:(np:Int)≤16:=by have:=NG.out.params;have:=HNP.out;omega
 have FPS:Hid (∀ x∈liveAt (F0 ps e) 0,x∈ps):=fun x hx=>by
  have:=FO.out.first hx
  rw [F0_nd0] at this;exact this
 clear q0 q1 q2 q3 q4 q5 q6 q7 q8 q9 q10 hb hi0 hv0 hfat hnf LV
 go_wp2_with fail
 go_loopw [9] (fun iv wr=>∃ i:Nat,i≤nf∧iv = .int .i64 i∧Below w5.heap.size w5 wr) (fun iv _=>nf - (intOf iv).toNat)
 case atStart=>exact⟨0,Nat.zero_le _,rfl,Below.refl _ _⟩
 case round =>
  rename World=>wo
  obtain⟨i,hi,rfl,hb⟩:=hrel
  have KI:=zh hi
  have KB:=zh hb
  clear hi hb
  by_cases hlt:i<nf
  ·have hlz:(i:Int)<nf:=by omega
   have hi0:(0:Int)≤i:=by omega
   have HLT:=zh hlt
   obtain⟨x,hx⟩:∃ x,(liveAt (F0 ps e) 0)[i]?=some x:=⟨_,List.getElem?_eq_getElem (by have:=HNF.out;omega)⟩
   have HX:=zh hx
   have XP:=zh (FPS.out x (List.mem_of_getElem? hx))
   obtain⟨fg,fo,rfl,fat⟩:=FAT.out (by omega)
   have XC:=zh (fat i x hx)
   clear hlt hx fat
   go_wp2_with fail
   go_loopw [10,11] (fun bv kv wl=>∃ k:Nat,k≤np∧kv = .int .i64 k∧bv = .bool (RG.has (ps.take k) x)∧Below w5.heap.size w5 wl) (fun _ kv _=>np - (intOf kv).toNat)
   case atStart=>exact⟨0,Nat.zero_le _,rfl,rfl,KB.out⟩
   case round =>
    obtain⟨k,hk,rfl,rfl,hb⟩:=hrel
    have KK:=zh hk
    have KB2:=zh hb
    clear hk hb
    have BW:Hid (Below w.heap.size w wr):=B5.out.trans (KB2.out.mono B5.out.size)
    have OW:Hid (wr.heap[w.heap.size]?=some (.cells #[.string nm,.bool ch,.slice pa np pc,.int .i64 ek,.string en0,.string op,.int .i64 num,.int .i64 site,.slice xa na xc,.slice aa nc ca,.slice ab nb cb] 29 (0,0))):=(KB2.out.block _ (by have:=L5.out;omega)).trans O5.out
    have r2:wr.cell? ⟨w.heap.size,2,none⟩=some (.slice pa np pc):=by rw [cell_of_row _ _ 2 _ _ _ OW.out];rfl
    by_cases hlt:k<np
    ·have hkz:(k:Int)<np:=by omega
     have hk0:(0:Int)≤k:=by omega
     have HKT:=zh hlt
     obtain⟨y,hy⟩:∃ y,ps[k]?=some y:=⟨_,List.getElem?_eq_getElem (by have:=HNP.out;omega)⟩
     obtain⟨pg,po,rfl,pat⟩:=PAT.out (by omega)
     obtain⟨m,c0,-⟩:=pat k y hy
     have y0:=kept_below BW.out _ _ c0
     have x0:=kept_below KB2.out _ _ XC.out
     have TK:Hid (RG.has (ps.take (k+1)) x=(RG.has (ps.take k) x||decide (y=x))):=by
      show _=_
      rw [List.take_add_one,hy,has_append]
      simp [RG.has]
     clear hlt hy pat c0
     cases hh:RG.has (ps.take k) x with
     | true =>
      rw [hh] at TK
      clear hh
      go_wp2_with fail
      go_quiet (fail)
      go_wp2_with fail
      go_roundw
      case rel=>exact⟨k+1,HKT.out,by go_num,by rw [TK.out];rfl,KB2.out.trans (below_drewN _ _ _)⟩
      case measure=>have:=HKT.out;simp [intOf];omega
     | false =>
      rw [hh] at TK
      clear hh
      have d1:(y.toList==x.toList)=decide (y=x):=by rw [bytes_beq]
      go_wp2_with fail
      go_quiet (fail)
      go_wp2_with fail
      go_roundw
      case rel=>exact⟨k+1,HKT.out,by go_num,by rw [TK.out,← d1];rfl,KB2.out.trans (below_drewN _ _ _)⟩
      case measure=>have:=HKT.out;simp [intOf];omega
    ·have hkz:(np:Int)≤k:=by omega
     have hdk:decide (k<np)=false:=by simp;omega
     have HH:RG.has (ps.take k) x=true:=by
      rw [List.take_of_length_le (by have:=HNP.out;omega)]
      exact has_iff.2 XP.out
     rw [HH]
     clear hlt HH
     go_wp2_with fail
     go_roundw
     case rel=>exact⟨i+1,HLT.out,by go_num,KB2.out⟩
     case measure=>have:=HLT.out;simp [intOf];omega
  ·have hlz:(nf:Int)≤i:=by omega
   have hdi:decide (i<nf)=false:=by simp;omega
   have hb:=KB.out
   clear hlt FAT FPS HNF NFZ KI
   have Bo:Hid (Below w.heap.size w wo):=B5.out.trans (hb.mono B5.out.size)
   have Oo:Hid (wo.heap[w.heap.size]?=some (.cells #[.string nm,.bool ch,.slice pa np pc,.int .i64 ek,.string en0,.string op,.int .i64 num,.int .i64 site,.slice xa na xc,.slice aa nc ca,.slice ab nb cb] 29 (0,0))):=(hb.block _ (by have:=L5.out;omega)).trans O5.out
   have Lo:Hid (w.heap.size+1≤wo.heap.size):=Nat.le_trans L5.out hb.size
   have EMo:=zh (EM5.out.keep hb)
   have nz:(n:Int)≤300:=by have:=SZ.out.1;have:=HN.out;omega
   clear hb
   go_wp2_with fail
   go_loopw [12] (fun iv wr=>∃ i:Nat,i≤n∧iv = .int .i64 i∧Below wo.heap.size wo wr) (fun iv _=>n - (intOf iv).toNat)
   case atStart=>exact⟨0,Nat.zero_le _,rfl,Below.refl _ _⟩
   case round =>
    rename World=>wm
    obtain⟨j,hj,rfl,hb⟩:=hrel
    have KJ:=zh hj
    have Bm:Hid (Below w.heap.size w wm):=Bo.out.trans (hb.mono Bo.out.size)
    have Om:Hid (wm.heap[w.heap.size]?=some (.cells #[.string nm,.bool ch,.slice pa np pc,.int .i64 ek,.string en0,.string op,.int .i64 num,.int .i64 site,.slice xa na xc,.slice aa nc ca,.slice ab nb cb] 29 (0,0))):=(hb.block _ (by have:=Lo.out;omega)).trans Oo.out
    have Lm:Hid (w.heap.size+1≤wm.heap.size):=Nat.le_trans Lo.out hb.size
    have EMm:=zh (EMo.out.keep hb)
    have KBm:=zh hb
    clear hb hj
    by_cases hlt:j<n
    ·have hjz:(j:Int)<n:=by omega
     have hj0:(0:Int)≤j:=by omega
     have JLT:=zh hlt
     have JF:Hid (j<(F0 ps e).length):=by have:=HN.out;rw [F0_length];show j<e.size;omega
     have LV:=zh (live_any sort_law (HK.out.keep Bm.out) (j:Int))
     clear hlt
     obtain⟨q0,q1,q2,q3,q4,q5,q6,q7,q8,q9,q10⟩:=box11 Om.out
     go_wp2_with fail
     refine LV.out.mono ?_
     rintro en w6 ⟨hb,⟨-,i6,v6,hi6,-,rfl,hv6⟩|⟨-,ho,-⟩|⟨hg,-⟩⟩
     rotate_left
     ·have:=JLT.out;have:=HN.out;omega
     ·exact absurd NG.out hg
     obtain rfl:j=i6:=by omega
     have B6:Hid (Below w.heap.size w w6):=Bm.out.trans (hb.mono Bm.out.size)
     have O6:Hid (w6.heap[w.heap.size]?=some (.cells #[.string nm,.bool ch,.slice pa np pc,.int .i64 ek,.string en0,.string op,.int .i64 num,.int .i64 site,.slice xa na xc,.slice aa nc ca,.slice ab nb cb] 29 (0,0))):=(hb.block _ (by have:=Lm.out;omega)).trans Om.out
     have L6:Hid (w.heap.size+1≤w6.heap.size):=Nat.le_trans Lm.out hb.size
     obtain⟨la,lc,rfl,-⟩:=id hv6.cells
     obtain⟨nl,hnl⟩:∃ n,n=(liveAt (F0 ps e) j).length:=⟨_,rfl⟩
     rw [← hnl] at hv6 ⊢
     have Hnl:=zh hnl
     have V6:=zh hv6
     have KB6:=zh hb
     clear q0 q1 q2 q3 q4 q5 q6 q7 q8 q9 q10 hb hi6 hv6 hnl LV
     have LV:=zh (binds_any (HK.out.keep B6.out) (j:Int))
     obtain⟨q0,q1,q2,q3,q4,q5,q6,q7,q8,q9,q10⟩:=box11 O6.out
     go_wp2_with fail
     refine LV.out.mono ?_
     rintro en w7 ⟨hb,⟨-,i6,v6,hi6,-,rfl,hv6⟩|⟨-,ho,-⟩|⟨hg,-⟩⟩
     rotate_left
     ·have:=JLT.out;have:=HN.out;omega
     ·exact absurd NG.out hg
     obtain rfl:j=i6:=by omega
     have B7:Hid (Below w.heap.size w w7):=B6.out.trans (hb.mono B6.out.size)
     have O7:Hid (w7.heap[w.heap.size]?=some (.cells #[.string nm,.bool ch,.slice pa np pc,.int .i64 ek,.string en0,.string op,.int .i64 num,.int .i64 site,.slice xa na xc,.slice aa nc ca,.slice ab nb cb] 29 (0,0))):=(hb.block _ (by have:=L6.out;omega)).trans O6.out
     have L7:Hid (w.heap.size+1≤w7.heap.size):=Nat.le_trans L6.out hb.size
     obtain⟨ba,bc,rfl,-⟩:=id hv6.cells
     obtain⟨nbb,hnbb⟩:∃ n,n=(bindsAt (F0 ps e) j).length:=⟨_,rfl⟩
     rw [← hnbb] at hv6 ⊢
     have Hnbb:=zh hnbb
     have V7:=zh hv6
     have KB7:=zh hb
     clear q0 q1 q2 q3 q4 q5 q6 q7 q8 q9 q10 hb hi6 hv6 hnbb LV
     have LV:=zh (usesFn_any (HK.out.keep B7.out) (j:Int))
     obtain⟨q0,q1,q2,q3,q4,q5,q6,q7,q8,q9,q10⟩:=box11 O7.out
     go_wp2_with fail
     refine LV.out.mono ?_
     rintro en w8 ⟨hb,⟨-,i6,v6,hi6,-,rfl,hv6⟩|⟨-,ho,-⟩|⟨hg,-⟩⟩
     rotate_left
     ·have:=JLT.out;have:=HN.out;omega
     ·exact absurd NG.out hg
     obtain rfl:j=i6:=by omega
     have B8:Hid (Below w.heap.size w w8):=B7.out.trans (hb.mono B7.out.size)
     have O8:Hid (w8.heap[w.heap.size]?=some (.cells #[.string nm,.bool ch,.slice pa np pc,.int .i64 ek,.string en0,.string op,.int .i64 num,.int .i64 site,.slice xa na xc,.slice aa nc ca,.slice ab nb cb] 29 (0,0))):=(hb.block _ (by have:=L7.out;omega)).trans O7.out
     have L8:Hid (w.heap.size+1≤w8.heap.size):=Nat.le_trans L7.out hb.size
     obtain⟨ua,uc,rfl,-⟩:=id hv6.cells
     obtain⟨nu,hnu⟩:∃ n,n=(usesAt (F0 ps e) j).length:=⟨_,rfl⟩
     rw [← hnu] at hv6 ⊢
     have Hnu:=zh hnu
     have V8:=zh hv6
     have KB8:=zh hb
     clear q0 q1 q2 q3 q4 q5 q6 q7 q8 q9 q10 hb hi6 hv6 hnu LV
     have KBm8:Hid (Below wm.heap.size wm w8):=(KB6.out.trans (KB7.out.mono KB6.out.size)).trans (KB8.out.mono (Nat.le_trans KB6.out.size KB7.out.size))
     have KB68:Hid (Below w6.heap.size w6 w8):=KB7.out.trans (KB8.out.mono KB7.out.size)
     have EM8:=zh (EMm.out.keep KBm8.out)
     have LLN:Hid ((liveAt (F0 ps e) j).length≤1000000000000):=by have h1:(liveAt (F0 ps e) j).length≤(vars (F0 ps e)).length:=List.length_filter_le _ _;have:=VEN.out;show _≤_;omega
     have HUL:Hid (∀ x∈usesAt (F0 ps e) j,RG.has (liveAt (F0 ps e) j) x=true):=fun x hx=>has_iff.2 (FO.out.uses_live JF.out hx)
     have NUZ:Hid (nu≤300):=by
      have h1:=nodup_len (once_nodup (nd (F0 ps e) j).uses [] List.nodup_nil) (m:=vars (F0 ps e)) (fun x hx=>FO.out.bound j JF.out x (mem_usesAt.1 hx))
      have h2:(usesAt (F0 ps e) j).length≤(vars (F0 ps e)).length:=h1
      have:=VEN.out;have:=Hnu.out;show _≤_;omega
     have nuz:(nu:Int)≤300:=by have:=NUZ.out;omega
     have UAT:Hid (0<(usesAt (F0 ps e) j).length→∃ g o,ua=some ⟨g,o,none⟩∧∀ (i:Nat) x,(usesAt (F0 ps e) j)[i]?=some x→w8.cell? ⟨g,o+i,none⟩=some (.string x)):=by
      obtain⟨ad,c,h1,h2⟩:=V8.out.cells
      simp only [Value.slice.injEq] at h1
      obtain⟨rfl,-,rfl⟩:=h1
      exact h2
     go_wp2_with fail
     go_loopw [19] (fun iv wr=>∃ i:Nat,i≤nu∧iv = .int .i64 i∧Below w8.heap.size w8 wr) (fun iv _=>nu - (intOf iv).toNat)
     case atStart=>exact⟨0,Nat.zero_le _,rfl,Below.refl _ _⟩
     case round =>
      rename World=>wu
      obtain⟨k,hk,rfl,hb⟩:=hrel
      have KK:=zh hk
      have Bu:Hid (Below w.heap.size w wu):=B8.out.trans (hb.mono B8.out.size)
      have Ou:Hid (wu.heap[w.heap.size]?=some (.cells #[.string nm,.bool ch,.slice pa np pc,.int .i64 ek,.string en0,.string op,.int .i64 num,.int .i64 site,.slice xa na xc,.slice aa nc ca,.slice ab nb cb] 29 (0,0))):=(hb.block _ (by have:=L8.out;omega)).trans O8.out
      have Lu:Hid (w.heap.size+1≤wu.heap.size):=Nat.le_trans L8.out hb.size
      have KBu:=zh hb
      have EMu:=zh (EM8.out.keep hb)
      have KB6u:Hid (Below w6.heap.size w6 wu):=KB68.out.trans (hb.mono KB68.out.size)
      have KB7u:Hid (Below w7.heap.size w7 wu):=KB8.out.trans (hb.mono KB8.out.size)
      clear hb hk
      by_cases hlt:k<nu
      ·have hkz:(k:Int)<nu:=by omega
       have hk0:(0:Int)≤k:=by omega
       have KLT:=zh hlt
       obtain⟨ug,uo,rfl,uat⟩:=UAT.out (by have:=Hnu.out;omega)
       obtain⟨x,hx⟩:∃ x,(usesAt (F0 ps e) j)[k]?=some x:=⟨_,List.getElem?_eq_getElem (by have:=Hnu.out;omega)⟩
       have x0:=kept_below KBu.out _ _ (uat k x hx)
       have HS:=zh (hasR_any x (V6.out.kept (kept_below KB6u.out)) LLN.out)
       have HT:=zh (HUL.out x (List.mem_of_getElem? hx))
       clear hlt hx uat
       go_wp2_with fail
       refine HS.out.mono ?_
       rintro en w9 ⟨hb,rfl⟩
       rw [HT.out]
       have KB9:Hid (Below w8.heap.size w8 w9):=KBu.out.trans (hb.mono KBu.out.size)
       clear hb HS
       go_wp2_with fail
       go_roundw
       case rel=>exact⟨k+1,KLT.out,by go_num,KB9.out⟩
       case measure=>have:=KLT.out;simp [intOf];omega
      ·have hkz:(nu:Int)≤k:=by omega
       have hdk:decide (k<nu)=false:=by simp;omega
       obtain⟨sv,su,sn,sb,sa,so,us,ns,bs,k0,-,-,k3,-,k5,-,k7,-⟩:=EMu.out.at'
       obtain⟨-,ng0,nc',rfl,nat0⟩:=k3
       obtain⟨ng,no,rfl,nat2⟩:=nat0 (by have:=JF.out;omega)
       obtain⟨vn,hvn,hvn2⟩:=k7 j JF.out
       obtain⟨-,ag0,ac',rfl,aat0⟩:=k5
       obtain⟨ag,ao,rfl,aat⟩:=aat0 (by have:=JF.out;omega)
       have z1:wu.cell? ⟨fb,2,none⟩=some (.slice (some ⟨ng,no,none⟩) n nc'):=by rw [cell_of_row _ _ 2 _ _ _ k0,F0_length,HN.out];rfl
       have Z4:Hid (wu.cell? ⟨fb,4,none⟩=some (.slice (some ⟨ag,ao,none⟩) n ac')):=by show _=_;rw [cell_of_row _ _ 4 _ _ _ k0,F0_length,HN.out];rfl
       have AAT:Hid (∀ m,m<n→wu.cell? ⟨ag,ao+m,none⟩=some (.int .i64 (m:Nat))):=fun m hm=>aat m _ (nats_at (by rw [List.getElem?_range (by rw [F0_length];have:=HN.out;omega)]))
       have z2:=nat2 j _ hvn
       obtain⟨-,va,vc,hvs,vat0⟩:=id hvn2
       subst hvs
       have VAT:Hid (0<(NR (F0 ps e) j).length→∃ g o,va=some ⟨g,o,none⟩∧∀ (i:Nat) u,(nats (NR (F0 ps e) j))[i]?=some u→wu.cell? ⟨g,o+i,none⟩=some u):=vat0
       obtain⟨nn,hnn⟩:∃ n,n=(NR (F0 ps e) j).length:=⟨_,rfl⟩
       rw [← hnn] at z2 VAT
       have HNN:=zh hnn
       have NNZ:Hid (nn≤20000):=by
        have h1:=next_few (ps:=ps) (e:=e) JF.out
        have h2:(NR (F0 ps e) j).length≤(F0 ps e).length:=h1
        have:=LEN.out;show _≤_;omega
       have nnz:(nn:Int)≤20000:=by have:=NNZ.out;omega
       have LEAF:Hid (nn=0→nl=nu):=fun h=>by
        have h1:(nd (F0 ps e) j).next=[]:=List.length_eq_zero_iff.1 (by have:=HNN.out;show (NR (F0 ps e) j).length=0;omega)
        have h2:=FO.out.leaf JF.out h1
        have:=Hnl.out;have:=Hnu.out;omega
       clear hlt k0 k7 nat0 nat2 hvn hvn2 aat0 aat vat0 hnn
       by_cases hz:nn=0
       ·have hlu:=LEAF.out hz
        subst hz
        subst hlu
        go_wp2_with fail
        go_loopw [21] (fun iv wr=>iv = .int .i64 0∧Below wu.heap.size wu wr) (fun _ _=>0)
        case atStart=>exact⟨rfl,Below.refl _ _⟩
        case round =>
         obtain⟨rfl,hb⟩:=hrel
         have KE:Hid (Below wo.heap.size wo wr):=KBm.out.trans (((KBm8.out.trans (KBu.out.mono KBm8.out.size)).trans (hb.mono (Nat.le_trans KBm8.out.size KBu.out.size))).mono KBm.out.size)
         clear hb
         go_wp2_with fail
         go_roundw
         case rel=>exact⟨j+1,JLT.out,by go_num,KE.out⟩
         case measure=>have:=JLT.out;simp [intOf];omega
       ·have dz:((nn:Int)==0)=false:=by simp;omega
        have dz2:(nn==0)=false:=by simp;omega
        clear hz LEAF
        go_wp2_with fail
        go_loopw [21] (fun iv wr=>∃ i:Nat,i≤nn∧iv = .int .i64 i∧Below wu.heap.size wu wr) (fun iv _=>nn - (intOf iv).toNat)
        case atStart=>exact⟨0,Nat.zero_le _,rfl,Below.refl _ _⟩
        case round =>
         rename World=>wx
         obtain⟨t,ht,rfl,hb⟩:=hrel
         have KT:=zh ht
         have Bx:Hid (Below w.heap.size w wx):=Bu.out.trans (hb.mono Bu.out.size)
         have Ox:Hid (wx.heap[w.heap.size]?=some (.cells #[.string nm,.bool ch,.slice pa np pc,.int .i64 ek,.string en0,.string op,.int .i64 num,.int .i64 site,.slice xa na xc,.slice aa nc ca,.slice ab nb cb] 29 (0,0))):=(hb.block _ (by have:=Lu.out;omega)).trans Ou.out
         have Lx:Hid (w.heap.size+1≤wx.heap.size):=Nat.le_trans Lu.out hb.size
         have KBx:=zh hb
         have KB6x:Hid (Below w6.heap.size w6 wx):=KB6u.out.trans (hb.mono KB6u.out.size)
         have KB7x:Hid (Below w7.heap.size w7 wx):=KB7u.out.trans (hb.mono KB7u.out.size)
         clear hb ht
         by_cases hlt:t<nn
         ·have htz:(t:Int)<nn:=by omega
          have ht0:(0:Int)≤t:=by omega
          have TLT:=zh hlt
          obtain⟨vg,vo,rfl,vat⟩:=VAT.out (by have:=HNN.out;omega)
          obtain⟨m,hm⟩:∃ m,(NR (F0 ps e) j)[t]?=some m:=⟨_,List.getElem?_eq_getElem (by have:=HNN.out;omega)⟩
          have MM:Hid (m∈(nd (F0 ps e) j).next):=List.mem_of_getElem? hm
          have hmn:m<n:=by have h1:=(FO.out.nxt j JF.out m MM.out).2;rw [F0_length] at h1;have:=HN.out;omega
          have hmz:(m:Int)<n:=by omega
          have hm0:(0:Int)≤m:=by omega
          have a1:=kept_below KBx.out _ _ (vat t _ (nats_at hm))
          have a2:=kept_below KBx.out _ _ (AAT.out m hmn)
          have a3:=kept_below KBx.out _ _ Z4.out
          obtain⟨q0,q1,q2,q3,q4,q5,q6,q7,q8,q9,q10⟩:=box11 Ox.out
          have LV:Hid (∀ W,Below wx.heap.size wx W→Calls Tryz.prog 17 #[.agg #[.string nm,.bool ch,.slice pa np pc,.int .i64 ek,.string en0,.string op,.int .i64 num,.int .i64 site,.slice xa na xc,.slice aa nc ca,.slice ab nb cb],.int .i64 (m:Nat)] W (fun en w'=>Below W.heap.size W w'∧∃ v,en = .returned (.tuple #[v,.int .i64 0])∧StrsAt w' v (liveAt (F0 ps e) m))):=fun W hW=>by
           refine(live_any sort_law (HK.out.keep (Bx.out.trans (hW.mono Bx.out.size))) (m:Int)).mono ?_
           rintro en w' ⟨hb,⟨-,i6,v6,hi6,-,rfl,hv6⟩|⟨-,ho,-⟩|⟨hg,-⟩⟩
           ·obtain rfl:m=i6:=by omega
            exact⟨hb,v6,rfl,hv6⟩
           ·have:=HN.out;omega
           ·exact absurd NG.out hg
          clear hlt hm vat hmn
          go_upto_region 40 with fail
          go_region_held3 (fun w'=>w'.cell? ⟨w.heap.size,0,none⟩=some (.string nm)∧w'.cell? ⟨w.heap.size,1,none⟩=some (.bool ch)∧w'.cell? ⟨w.heap.size,2,none⟩=some (.slice pa np pc)∧w'.cell? ⟨w.heap.size,3,none⟩=some (.int .i64 ek)∧w'.cell? ⟨w.heap.size,4,none⟩=some (.string en0)∧w'.cell? ⟨w.heap.size,5,none⟩=some (.string op)∧w'.cell? ⟨w.heap.size,6,none⟩=some (.int .i64 num)∧w'.cell? ⟨w.heap.size,7,none⟩=some (.int .i64 site)∧w'.cell? ⟨w.heap.size,8,none⟩=some (.slice xa na xc)∧w'.cell? ⟨w.heap.size,9,none⟩=some (.slice aa nc ca)∧w'.cell? ⟨w.heap.size,10,none⟩=some (.slice ab nb cb)∧w'.cell? ⟨fb,4,none⟩=some (.slice (some ⟨ag,ao,none⟩) n ac')∧w'.cell? ⟨vg,vo+t,none⟩=some (.int .i64 (m:Nat))∧w'.cell? ⟨ag,ao+m,none⟩=some (.int .i64 (m:Nat))) ((go_split_ands;(refine⟨?_,?_,?_,?_,?_,?_,?_,?_,?_,?_,?_,?_,?_,?_⟩<;>(first | assumption | exact kept_below hb9 _ _ (by assumption))))) ((go_at_call 17;refine(LV.out _ ((Below.refl _ _).drew)).mono ?_;rintro e9 w9 ⟨hb9,v9,rfl,hv9⟩))
          all_goals
           obtain⟨ma,mc,rfl,mat⟩:=hv9.cells
           have MAT:=zh mat
           obtain⟨nm9,hnm9⟩:∃ n,n=(liveAt (F0 ps e) m).length:=⟨_,rfl⟩
           rw [← hnm9]
           rw [← hnm9] at MAT
           have HNM:=zh hnm9
           have KB9:Hid (Below wx.heap.size wx w9):=(Below.refl _ _).drew.trans hb9
           have STP:Hid (∀ y∈liveAt (F0 ps e) m,y∈liveAt (F0 ps e) j∨y∈bindsAt (F0 ps e) j):=fun y hy=>FO.out.step JF.out MM.out hy
           have nmz:(nm9:Int)≤300:=by have h1:(liveAt (F0 ps e) m).length≤(vars (F0 ps e)).length:=List.length_filter_le _ _;have:=VEN.out;have:=HNM.out;omega
           have BLN:Hid ((bindsAt (F0 ps e) j).length≤1000000000000):=by
            have BF:∀ k,k<(F0 ps e).length→(nd (F0 ps e) k).binds.length≤1000000:=fun k hk=>Nat.le_trans (binds_le hk) (by have:=VEN.out;omega)
            have h1:=binds_few BF (nd (F0 ps e) j).next (fun k hk=>(FO.out.nxt j JF.out k hk).2)
            have h2:=Nat.le_trans (next_few JF.out) LEN.out
            exact Nat.le_trans h1 (Nat.le_trans (Nat.mul_le_mul_right 1000000 h2) (by decide))
           clear hb9 hv9 mat hnm9 q0 q1 q2 q3 q4 q5 q6 q7 q8 q9 q10 a1 a2 a3 LV
           go_wp2_with fail
           go_loopw [24] (fun iv wr=>∃ i:Nat,i≤nm9∧iv = .int .i64 i∧Below w9.heap.size w9 wr) (fun iv _=>nm9 - (intOf iv).toNat)
           case atStart=>exact⟨0,Nat.zero_le _,rfl,Below.refl _ _⟩
           case round =>
            rename World=>wy
            obtain⟨c,hc,rfl,hb⟩:=hrel
            have KC:=zh hc
            have KBy:=zh hb
            have KBxy:Hid (Below wx.heap.size wx wy):=KB9.out.trans (hb.mono KB9.out.size)
            have KB6y:Hid (Below w6.heap.size w6 wy):=KB6x.out.trans (KBxy.out.mono KB6x.out.size)
            clear hb hc
            by_cases hlt:c<nm9
            ·have hcz:(c:Int)<nm9:=by omega
             have hc0:(0:Int)≤c:=by omega
             have CLT:=zh hlt
             obtain⟨mg,mo,rfl,mat⟩:=MAT.out (by omega)
             obtain⟨y,hy⟩:∃ y,(liveAt (F0 ps e) m)[c]?=some y:=⟨_,List.getElem?_eq_getElem (by have:=HNM.out;omega)⟩
             have Y9:=zh (mat c y hy)
             have y0:=kept_below KBy.out _ _ Y9.out
             have ST1:=zh (STP.out y (List.mem_of_getElem? hy))
             have HS:=zh (hasR_any y (V6.out.kept (kept_below KB6y.out)) LLN.out)
             clear hlt hy mat
             go_wp2_with fail
             refine HS.out.mono ?_
             rintro en w10 ⟨hb,rfl⟩
             have KB10:Hid (Below w9.heap.size w9 w10):=KBy.out.trans (hb.mono KBy.out.size)
             have KB7z:Hid (Below w7.heap.size w7 w10):=KB7x.out.trans ((KBxy.out.trans (hb.mono KBxy.out.size)).mono KB7x.out.size)
             clear hb HS y0
             cases hh:RG.has (liveAt (F0 ps e) j) y with
             | true =>
              clear hh
              go_wp2_with fail
              go_roundw
              case rel=>exact⟨c+1,CLT.out,by go_num,KB10.out⟩
              case measure=>have:=CLT.out;simp [intOf];omega
             | false =>
              have HB2:Hid (RG.has (bindsAt (F0 ps e) j) y=true):=by
               rcases ST1.out with h | h
               ·rw [has_iff.2 h] at hh;cases hh
               ·exact has_iff.2 h
              clear hh
              have y0:=kept_below KB10.out _ _ Y9.out
              have HS:=zh (hasR_any y (V7.out.kept (kept_below KB7z.out)) BLN.out)
              go_wp2_with fail
              refine HS.out.mono ?_
              rintro en w11 ⟨hb,rfl⟩
              rw [HB2.out]
              have KB11:Hid (Below w9.heap.size w9 w11):=KB10.out.trans (hb.mono KB10.out.size)
              clear hb HS y0
              go_wp2_with fail
              go_roundw
              case rel=>exact⟨c+1,CLT.out,by go_num,KB11.out⟩
              case measure=>have:=CLT.out;simp [intOf];omega
            ·have hcz:(nm9:Int)≤c:=by omega
             have hdc:decide (c<nm9)=false:=by simp;omega
             have KE:Hid (Below wu.heap.size wu wy):=KBx.out.trans (KBxy.out.mono KBx.out.size)
             clear hlt
             go_wp2_with fail
             go_roundw
             case rel=>exact⟨t+1,TLT.out,by go_num,KE.out⟩
             case measure=>have:=TLT.out;simp [intOf];omega
         ·have htz:(nn:Int)≤t:=by omega
          have hdt:decide (t<nn)=false:=by simp;omega
          have KE:Hid (Below wo.heap.size wo wx):=KBm.out.trans (((KBm8.out.trans (KBu.out.mono KBm8.out.size)).trans (KBx.out.mono (Nat.le_trans KBm8.out.size KBu.out.size))).mono KBm.out.size)
          clear hlt
          go_wp2_with fail
          go_roundw
          case rel=>exact⟨j+1,JLT.out,by go_num,KE.out⟩
          case measure=>have:=JLT.out;simp [intOf];omega
    ·have hjz:(n:Int)≤j:=by omega
     clear hlt
     go_wp2_with fail
     go_ret
     exact⟨rfl,Bm.out⟩
end Go.Proofs.YtnkahlloahgifaaGreatDoor

namespace Go.Proofs.YtnkahlloahgifaaGreatDoor.Lx
open Go.ChangeShapes Go.WideShapes Go.ChangeAt Go.RowKit
def laid7:List (String×DataW Unit):=[("math/bits.deBruijn32tab",Rows.laid_math_bits_deBruijn32tab),("math/bits.deBruijn64tab",Rows.laid_math_bits_deBruijn64tab),("internal/strconv.uint64pow10",Rows.laid_internal_strconv_uint64pow10),("unicode/utf8.acceptRanges",Rows.laid_unicode_utf8_acceptRanges),("strconv.ErrRange",Rows.laid_strconv_ErrRange),("strconv.ErrSyntax",Rows.laid_strconv_ErrSyntax),("unicode/utf8.first",Rows.laid_unicode_utf8_first)]
theorem own:ownKnob Tryz.prog.godebug=none:=by kernel_rfl
theorem gRange:Tryz.prog.globalNamed "strconv.ErrRange" = some 2:=by kernel_rfl
theorem gSyntax:Tryz.prog.globalNamed "strconv.ErrSyntax" = some 1:=by kernel_rfl
theorem gTen:Tryz.prog.globalNamed "internal/strconv.uint64pow10" = some 5:=by kernel_rfl
theorem tRange:(Tryz.prog.globals[2]?).map (·.type)=some 236:=by kernel_rfl
theorem tSyntax:(Tryz.prog.globals[1]?).map (·.type)=some 236:=by kernel_rfl
theorem tTen:(Tryz.prog.globals[5]?).map (·.type)=some 282:=by kernel_rfl
theorem cells126:Tryz.prog.cellsOf 274=1:=by kernel_rfl
theorem cells9:Tryz.prog.cellsOf 9=1:=by kernel_rfl
theorem cells100:Tryz.prog.cellsOf 199=1:=by kernel_rfl
theorem cells131:Tryz.prog.cellsOf 282=20:=by kernel_rfl
theorem star : "*" ++ "errors.errorString" = "*errors.errorString" := by decide
theorem row124 (u:TypeId) (h:Tryz.prog.typeName? 3 u=some "*errors.errorString"):u=272 :=
 typeName_ptr_named (nm := "errors.errorString") (by rw [star];kernel_rfl) (by kernel_rfl) (by decide) u (by rw [star];exact h)
theorem env_of {W:World}(h:laidMetH Tryz.prog laid7 W) (hsh:W.ShapedOpen Tryz.prog):Env W:=by
 rw [MakeChecks.laidMetH_plain _ _ _ (by kernel_rfl)] at h
 have h3:=h.tail.tail
 have h5:=h3.tail.tail
 have h6:=h5.tail
 obtain⟨a2,s2,hv2,_⟩:=laid_sentinel h5 gRange tRange Tryz.underlying236 row124 Tryz.underlying272 Tryz.underlying274 rfl rfl Tryz.underlying9 cells126 cells9
 obtain⟨a1,s1,hv1,_⟩:=laid_sentinel h6 gSyntax tSyntax Tryz.underlying236 row124 Tryz.underlying272 Tryz.underlying274 rfl rfl Tryz.underlying9 cells126 cells9
 refine⟨Lib.tabIs_of_head gTen tTen Tryz.underlying282 Tryz.underlying199 cells100 cells131 h3,?_,?_,?_,?_⟩
 ·exact cell_of_shapedOpen_int (t:=3) (zero := #[.int .i64 0]) hsh (of_decide_eq_true (by kernel_rfl)) (by kernel_rfl) rfl (by kernel_rfl) (by kernel_rfl) Tryz.underlying3
 ·have:=World.var?_cell gSyntax hv1 0
  exact⟨_,_,by simpa using this⟩
 ·have:=World.var?_cell gRange hv2 0
  exact⟨_,_,by simpa using this⟩
 ·obtain⟨_,hk⟩:=hsh
  obtain⟨o,o0,ho,_⟩:=hk 9 (of_decide_eq_true (by kernel_rfl)) (of_decide_eq_true (by kernel_rfl))
  exact(Array.getElem?_eq_some_iff.1 ho).1
section
variable {H:Type} {enc:TypeId×Value→H} {P:Program}
theorem post_of_below {f:Func}{s:ChangeSpec}{apart fresh handsOn again:Bool}{W W':World}{args:Array Value}{v:Value}{ds gs:List (DataW H)}{before pa pv:List MemPlace}
  (hW:DataW.Whole enc P f.params.toList s.vars apart W args.toList ds gs before)
  (hres:∀ (b:Nat) (sp:Nat→Bool) (hd:Bool),DataW.TrodAll enc P W' b sp hd f.resultTypes.toList (v.resultList f.resultTypes.size) (s.fn H (ds++gs)).results [])
  (hargs:∀ sp:Nat→Bool,(∀ p∈before,sp p.block=true)→DataW.TrodAll enc P W' 0 sp true f.params.toList args.toList (s.fn H (ds++gs)).args pa)
  (hvars:∀ sp:Nat→Bool,(∀ p∈before,sp p.block=true)→DataW.TrodVars enc P W' sp s.vars (s.fn H (ds++gs)).vars pv)
  (hps:before=pa++pv) (hb:Below W.heap.size W W')
  (hok:∀ (j:Nat) (t:TypeId) (r:Value),f.resultTypes[j]?=some t→(v.resultList f.resultTypes.size)[j]?=some r→Value.okWide P W' .any 0 t r) :
  s.post enc P f apart fresh handsOn again W args v W':=by
 have hlt:∀ p∈before,p.block<W.heap.size:=fun p hp=>hW.lt p hp
 have hold:∀ p∈before,(fun b=>decide (b<W.heap.size)) p.block=true:=fun p hp=>by simpa using hlt p hp
 refine⟨ds,gs,before,[],pa,pv,hW,hres _ _ _,hargs _ hold,hvars _ hold,World.keptBut_mono (fun p hp=>⟨hp,?_⟩) (hb.frame (· ∈ before)),fun _=>?_⟩
 ·rw [hps,List.mem_append] at hp
  exact Or.inr hp
 ·obtain⟨_,_,_,_,_,hz,hn⟩:=hW
  refine⟨hok,_,_,([]++pa)++pv,⟨[]++pa,pv,trodAll_append (hargs _ (fun _ _=>rfl)) (hres _ _ _),hvars _ (fun _ _=>rfl),rfl,?_,?_⟩,?_⟩
  ·intro b off hp
   have hin:MemPlace.cell b off∈before:=by rw [hps];simpa using hp
   rw [hb.frozen (hlt _ hin)]
   exact hz b off hin
  ·intro ha
   have:=hn ha
   rw [hps] at this
   simpa using this
  ·intro p hp _
   rw [hps]
   simpa using hp
theorem returns_laid {a:Assume}{C:Checked}{os:Os}{f:FuncId}{fn:Func}{s:ChangeSpec}{conds:List PathCond}{apart fresh handsOn again:Bool}{X:World→Array Value→Prop}
  (hX:∀ (w w':World) (args:Array Value),w.heap=w'.heap→X w args→X w' args)
  (own:ownKnob C.prog.godebug=none) (started:os.Started) (noInit:C.prog.inits.idxOf? f=none) (hfn:C.prog.funcs[f]?=some fn)
  (witness:∃ (w:World) (tape:Tape) (i:Input),w.os=os∧(w.forCall tape i).Shaped C.prog∧i.vars=[]∧Input.okWide C.prog (w.forCall tape i) .any w.heap.size f i ∧
   ((s.pre enc C.prog fn conds apart (w.forCall tape i).memory i.args∧X (w.forCall tape i).memory i.args)∧sizedMet enc C.prog fn (OpenSpec.ofChange s) apart (w.forCall tape i).memory i.args)∧a.holds C.prog (lone (Frame.enter C.prog f i.args .normal) [] (w.forCall tape i)))
  (contract:∀ (W:World) (base:Nat) (args:Array Value) (ds gs:List (DataW H)) (before:List MemPlace),
   (∀ (j:Nat) t v,fn.params[j]?=some t→args[j]?=some v→Value.okWide C.prog W .any base t v) →
   DataW.Whole enc C.prog fn.params.toList s.vars apart W args.toList ds gs before →
   (DataW.weightsEach C.prog (fn.params.toList++s.plain.varTypes C.prog) (ds++gs)).all (· ≤ reachBytes)=true→X W args→W.ShapedOpen C.prog →
   Calls C.prog f args W fun e W'=>∃ v,e = .returned v∧s.post enc C.prog fn apart fresh handsOn again W args v W') :
  ReturnsInHanded a C os f .any (fun w args=>(s.pre enc C.prog fn conds apart w args∧X w args)∧sizedMet enc C.prog fn (OpenSpec.ofChange s) apart w args) (s.post enc C.prog fn apart fresh handsOn again):=by
 refine returnsInHanded_of_calls own started noInit witness ?_
 intro w tape i _ hsh _ hok hpre _
 obtain⟨_,_,_,fn',hfn',_,_,_,_,hval⟩:=hok
 have e:fn'=fn:=Option.some.inj (hfn'.symm.trans hfn)
 subst e
 obtain⟨⟨⟨ds,gs,before,hw,hc⟩,hx⟩,hz⟩:=hpre
 have hw':=DataW.Whole.of_heap (w':=w.forCall tape i) (by rfl) hw
 refine(contract (w.forCall tape i) w.heap.size i.args ds gs before hval hw' (hz.weights hw) (hX _ _ _ (by rfl) hx) hsh).mono fun e W' ⟨v,he,hp⟩=>?_
 subst he
 exact ChangeSpec.post_blind hp
end
theorem fits7 (os:Os):(World.holding Tryz.prog os ⟨#[],#[],[]⟩).layFits Tryz.prog laid7 []=true:=by kernel_rfl
theorem ifaces7 (os:Os):(World.holding Tryz.prog os ⟨#[],#[],[]⟩).layIfaces Tryz.prog laid7 (World.laidAll Tryz.prog os laid7)=true:=by kernel_rfl
theorem start_met (os:Os) (args:Array Value):laidMetH Tryz.prog laid7 ((World.laidAll Tryz.prog os laid7).forCall (fun _ _=>0) ⟨#[],args,[]⟩).memory:=by
 rw [MakeChecks.laidMetH_plain _ _ _ (by kernel_rfl)]
 exact laidMet_laidAll _ (fits7 os) (ifaces7 os)
end Go.Proofs.YtnkahlloahgifaaGreatDoor.Lx

namespace Go.Proofs.YtnkahlloahgifaaGreatDoor
open Go.ChangeShapes Go.WideShapes Go.ChangeAt Go.RowKit Go.Deep
section
variable {H:Type} {enc:TypeId×Value→H} {P:Program} {w:World} {base:Nat} {spare:Nat→Bool} {held:Bool}
end
theorem laidOut:laidOutB Tryz.prog=true:=by kernel_rfl
theorem addr_plain {W:World}{a:Addr}{v:Value}(h:W.cell? a=some v):a=⟨a.block,a.off,none⟩∧a.block<W.heap.size:=by
 unfold World.cell? at h
 split at h
 ·rename_i c t f hb
  split at h
  ·cases h
  ·rename_i hs
   refine⟨?_,(Array.getElem?_eq_some_iff.1 hb).1⟩
   obtain⟨b,o,s⟩:=a
   cases s with
   | none=>rfl
   | some k=>exact absurd rfl hs
 ·cases h
end Go.Proofs.YtnkahlloahgifaaGreatDoor
