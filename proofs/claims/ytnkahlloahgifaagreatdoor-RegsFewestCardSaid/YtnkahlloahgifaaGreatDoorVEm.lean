/- Part. -/
import Derived.Test.YtnkahlloahgifaaGreatDoorVEg
import Derived.Test.YtnkahlloahgifaaGreatDoorVPq
import Derived.Test.YtnkahlloahgifaaGreatDoorVEj
import Derived.Test.YtnkahlloahgifaaGreatDoorVDf
set_option linter.unusedSimpArgs false
set_option linter.unusedVariables false
namespace Go.Proofs.YtnkahlloahgifaaGreatDoor
open Go.RowKit RG Go.Maps RF
set_option maxHeartbeats 8000000 in
set_option maxRecDepth 20000 in
theorem fewest_bad {w:World}(hE:Lx.Env w) {v:Value}{ps:List Nm}{e:TE}(h:FnOk Lx.Env isNm w v ps e) (hgood:¬ RG.Good isNm ps e) {oregs:Int}{u:Value}{vs:List (Nm×Int)}(hu:VarsAt w u vs):Calls Tryz.prog 13 #[v,.agg #[.int .i64 oregs,u]] w (SnP w):=by
 have HK:=zh h
 obtain⟨ova,ovc,rfl,-⟩:=id hu
 have HU:=zh hu
 obtain⟨nm,op,ch,pv,va,num,site,aa,ab,ca,cb,ga,oa,gb,ob,rfl,hp,hat,-⟩:=h.val
 obtain⟨xa,xc,rfl,-⟩:=id hat.at'
 obtain⟨pa,pc,rfl,-⟩:=id hp.at'
 have GD:=zh hgood
 clear h hp hat hu hgood
 obtain⟨np,hnp⟩:∃ n,n=ps.length:=⟨_,rfl⟩
 obtain⟨na,hna⟩:∃ n,n=e.args.length:=⟨_,rfl⟩
 obtain⟨nc,hnc⟩:∃ n,n=e.arms.length:=⟨_,rfl⟩
 obtain⟨nb,hnb⟩:∃ n,n=e.body.length:=⟨_,rfl⟩
 obtain⟨ek,hek⟩:∃ n,n=e.kind:=⟨_,rfl⟩
 obtain⟨en0,hen⟩:∃ n,n=e.name:=⟨_,rfl⟩
 obtain⟨onv,hon⟩:∃ n,n=vs.length:=⟨_,rfl⟩
 rw [← hnp,← hna,← hnc,← hnb,← hek,← hen] at HK ⊢
 rw [← hon] at HU ⊢
 clear hnp hna hnc hnb hek hen hon
 have B0:Hid (Below w.heap.size w ((w.alloc (.cells #[.string nm,.bool ch,.slice pa np pc,.int .i64 ek,.string en0,.string op,.int .i64 num,.int .i64 site,.slice xa na xc,.slice aa nc ca,.slice ab nb cb] 29)).alloc (.cells #[.int .i64 oregs,.slice ova onv ovc] 56))):=((Below.refl _ _).alloc (zr4 _) _).alloc (by simp) _
 have SN:Hid (Calls Tryz.prog 14 #[] ((w.alloc (.cells #[.string nm,.bool ch,.slice pa np pc,.int .i64 ek,.string en0,.string op,.int .i64 num,.int .i64 site,.slice xa na xc,.slice aa nc ca,.slice ab nb cb] 29)).alloc (.cells #[.int .i64 oregs,.slice ova onv ovc] 56)) (SnP ((w.alloc (.cells #[.string nm,.bool ch,.slice pa np pc,.int .i64 ek,.string en0,.string op,.int .i64 num,.int .i64 site,.slice xa na xc,.slice aa nc ca,.slice ab nb cb] 29)).alloc (.cells #[.int .i64 oregs,.slice ova onv ovc] 56)))):=sane_any (HK.out.law.keep _ _ _ (HK.out.law.size _ HK.out.env) HK.out.env B0.out)
 have O0:Hid (((w.alloc (.cells #[.string nm,.bool ch,.slice pa np pc,.int .i64 ek,.string en0,.string op,.int .i64 num,.int .i64 site,.slice xa na xc,.slice aa nc ca,.slice ab nb cb] 29)).alloc (.cells #[.int .i64 oregs,.slice ova onv ovc] 56)).heap[w.heap.size]?=some (.cells #[.string nm,.bool ch,.slice pa np pc,.int .i64 ek,.string en0,.string op,.int .i64 num,.int .i64 site,.slice xa na xc,.slice aa nc ca,.slice ab nb cb] 29 (0,0))):=(Below.heap_alloc _ _ _ (by simp)).trans (heap_alloc_new w _)
 have P0:Hid (((w.alloc (.cells #[.string nm,.bool ch,.slice pa np pc,.int .i64 ek,.string en0,.string op,.int .i64 num,.int .i64 site,.slice xa na xc,.slice aa nc ca,.slice ab nb cb] 29)).alloc (.cells #[.int .i64 oregs,.slice ova onv ovc] 56)).heap[w.heap.size+1]?=some (.cells #[.int .i64 oregs,.slice ova onv ovc] 56 (0,0))):=by
  have:=heap_alloc_new (w.alloc (.cells #[.string nm,.bool ch,.slice pa np pc,.int .i64 ek,.string en0,.string op,.int .i64 num,.int .i64 site,.slice xa na xc,.slice aa nc ca,.slice ab nb cb] 29)) (.cells #[.int .i64 oregs,.slice ova onv ovc] 56)
  rw [World.size_alloc] at this
  exact this
 clear hE
 go_enter Tryz.func13,Tryz.ntmps13
 go_wp2_with fail
 refine SN.out.mono ?_
 rintro en w1 ⟨rfl,hb⟩
 have B1:Hid (Below w.heap.size w w1):=B0.out.trans (hb.mono B0.out.size)
 have O1:Hid (w1.heap[w.heap.size]?=some (.cells #[.string nm,.bool ch,.slice pa np pc,.int .i64 ek,.string en0,.string op,.int .i64 num,.int .i64 site,.slice xa na xc,.slice aa nc ca,.slice ab nb cb] 29 (0,0))):=(hb.block _ (by simp;omega)).trans O0.out
 have P1:Hid (w1.heap[w.heap.size+1]?=some (.cells #[.int .i64 oregs,.slice ova onv ovc] 56 (0,0))):=(hb.block _ (by simp)).trans P0.out
 have L1:Hid (w.heap.size+2≤w1.heap.size):=by have:=hb.size;simp at this;exact this
 have SM:=zh (small_any (HK.out.keep B1.out).val)
 obtain⟨q0,q1,q2,q3,q4,q5,q6,q7,q8,q9,q10⟩:=box11 O1.out
 clear hb SN O0 P0 B0
 go_wp2_with fail
 refine SM.out.mono ?_
 rintro en w2 ⟨hb,b,rfl,hs1,-⟩
 have B2:Hid (Below w.heap.size w w2):=B1.out.trans (hb.mono B1.out.size)
 have O2:Hid (w2.heap[w.heap.size]?=some (.cells #[.string nm,.bool ch,.slice pa np pc,.int .i64 ek,.string en0,.string op,.int .i64 num,.int .i64 site,.slice xa na xc,.slice aa nc ca,.slice ab nb cb] 29 (0,0))):=(hb.block _ (by have:=L1.out;omega)).trans O1.out
 have P2:Hid (w2.heap[w.heap.size+1]?=some (.cells #[.int .i64 oregs,.slice ova onv ovc] 56 (0,0))):=(hb.block _ (by have:=L1.out;omega)).trans P1.out
 have L2:Hid (w.heap.size+2≤w2.heap.size):=zr5 L1.out hb.size
 have S1:=zh hs1
 clear q0 q1 q2 q3 q4 q5 q6 q7 q8 q9 q10 hb hs1 SM
 cases b
 ·go_wp2_with fail
  go_ret
  exact⟨rfl,B2.out⟩
 have AL:=zh (allocate_any (HK.out.keep B2.out))
 obtain⟨q0,q1,q2,q3,q4,q5,q6,q7,q8,q9,q10⟩:=box11 O2.out
 go_wp2_with fail
 refine AL.out.mono ?_
 rintro en w3 ⟨hb,⟨hg,av,rfl,hav⟩|⟨hng,rfl⟩⟩
 ·exact absurd hg GD.out
 have B3:Hid (Below w.heap.size w w3):=B2.out.trans (hb.mono B2.out.size)
 have O3:Hid (w3.heap[w.heap.size]?=some (.cells #[.string nm,.bool ch,.slice pa np pc,.int .i64 ek,.string en0,.string op,.int .i64 num,.int .i64 site,.slice xa na xc,.slice aa nc ca,.slice ab nb cb] 29 (0,0))):=(hb.block _ (by have:=L2.out;omega)).trans O2.out
 have P3:Hid (w3.heap[w.heap.size+1]?=some (.cells #[.int .i64 oregs,.slice ova onv ovc] 56 (0,0))):=(hb.block _ (by have:=L2.out;omega)).trans P2.out
 have L3:Hid (w.heap.size+2≤w3.heap.size):=zr5 L2.out hb.size
 have NG:=zh hng
 clear q0 q1 q2 q3 q4 q5 q6 q7 q8 q9 q10 hb hng AL
 have Bx:Hid (Below w.heap.size w (w3.alloc (.cells #[.int .i64 0,.slice none 0 0] 56))):=B3.out.alloc B3.out.size _
 have WD:=zh (width_any (HK.out.keep Bx.out))
 obtain⟨w4,hw4⟩:∃ W,W=w3.alloc (.cells #[.int .i64 0,.slice none 0 0] 56):=⟨_,rfl⟩
 have hb:Below w3.heap.size w3 w4:=by rw [hw4];exact(Below.refl _ _).alloc (zr4 _) _
 rw [← hw4] at WD Bx
 have B4:Hid (Below w.heap.size w w4):=B3.out.trans (hb.mono B3.out.size)
 have O4:Hid (w4.heap[w.heap.size]?=some (.cells #[.string nm,.bool ch,.slice pa np pc,.int .i64 ek,.string en0,.string op,.int .i64 num,.int .i64 site,.slice xa na xc,.slice aa nc ca,.slice ab nb cb] 29 (0,0))):=(hb.block _ (by have:=L3.out;omega)).trans O3.out
 have P4:Hid (w4.heap[w.heap.size+1]?=some (.cells #[.int .i64 oregs,.slice ova onv ovc] 56 (0,0))):=(hb.block _ (by have:=L3.out;omega)).trans P3.out
 have L4:Hid (w.heap.size+2≤w4.heap.size):=zr5 L3.out hb.size
 obtain⟨q0,q1,q2,q3,q4,q5,q6,q7,q8,q9,q10⟩:=box11 O4.out
 clear hb
 go_upto_region 5 with fail
 rw [← hw4]
 clear hw4
 go_wp2_with fail
 refine WD.out.mono ?_
 rintro en w5 ⟨hb,⟨hg,-⟩|⟨-,rfl⟩⟩
 ·exact absurd hg NG.out
 have B5:Hid (Below w.heap.size w w5):=B4.out.trans (hb.mono B4.out.size)
 have O5:Hid (w5.heap[w.heap.size]?=some (.cells #[.string nm,.bool ch,.slice pa np pc,.int .i64 ek,.string en0,.string op,.int .i64 num,.int .i64 site,.slice xa na xc,.slice aa nc ca,.slice ab nb cb] 29 (0,0))):=(hb.block _ (by have:=L4.out;omega)).trans O4.out
 have P5:Hid (w5.heap[w.heap.size+1]?=some (.cells #[.int .i64 oregs,.slice ova onv ovc] 56 (0,0))):=(hb.block _ (by have:=L4.out;omega)).trans P4.out
 have L5:Hid (w.heap.size+2≤w5.heap.size):=zr5 L4.out hb.size
 clear q0 q1 q2 q3 q4 q5 q6 q7 q8 q9 q10 hb WD
 have CR:=zh (crowdFn_any sort_law (HK.out.keep B5.out))
 obtain⟨q0,q1,q2,q3,q4,q5,q6,q7,q8,q9,q10⟩:=box11 O5.out
 go_wp2_with fail
 refine CR.out.mono ?_
 rintro en w6 ⟨hb,⟨hg,-⟩|⟨-,rfl⟩⟩
 ·exact absurd hg NG.out
 have B6:Hid (Below w.heap.size w w6):=B5.out.trans (hb.mono B5.out.size)
 clear q0 q1 q2 q3 q4 q5 q6 q7 q8 q9 q10 hb CR
 go_wp2_with fail
 go_ret
 exact⟨rfl,B6.out⟩
end Go.Proofs.YtnkahlloahgifaaGreatDoor

namespace Go.Proofs.YtnkahlloahgifaaGreatDoor
open Go.RowKit RG Go.Maps RF
set_option maxHeartbeats 8000000 in
set_option maxRecDepth 20000 in
theorem fewest_good {w:World}(hE:Lx.Env w) {v:Value}{ps:List Nm}{e:TE}(h:FnOk Lx.Env isNm w v ps e) (hgood:RG.Good isNm ps e) {oregs:Int}{u:Value}{vs:List (Nm×Int)}(hu:VarsAt w u vs):Calls Tryz.prog 13 #[v,.agg #[.int .i64 oregs,u]] w (SnP w):=by
 have HK:=zh h
 obtain⟨ova,ovc,rfl,-⟩:=id hu
 have HU:=zh hu
 obtain⟨nm,op,ch,pv,va,num,site,aa,ab,ca,cb,ga,oa,gb,ob,rfl,hp,hat,-⟩:=h.val
 obtain⟨xa,xc,rfl,-⟩:=id hat.at'
 obtain⟨pa,pc,rfl,-⟩:=id hp.at'
 have GD:=zh hgood
 clear h hp hat hu hgood
 obtain⟨np,hnp⟩:∃ n,n=ps.length:=⟨_,rfl⟩
 obtain⟨na,hna⟩:∃ n,n=e.args.length:=⟨_,rfl⟩
 obtain⟨nc,hnc⟩:∃ n,n=e.arms.length:=⟨_,rfl⟩
 obtain⟨nb,hnb⟩:∃ n,n=e.body.length:=⟨_,rfl⟩
 obtain⟨ek,hek⟩:∃ n,n=e.kind:=⟨_,rfl⟩
 obtain⟨en0,hen⟩:∃ n,n=e.name:=⟨_,rfl⟩
 obtain⟨onv,hon⟩:∃ n,n=vs.length:=⟨_,rfl⟩
 rw [← hnp,← hna,← hnc,← hnb,← hek,← hen] at HK ⊢
 rw [← hon] at HU ⊢
 clear hnp hna hnc hnb hek hen hon
 have B0:Hid (Below w.heap.size w ((w.alloc (.cells #[.string nm,.bool ch,.slice pa np pc,.int .i64 ek,.string en0,.string op,.int .i64 num,.int .i64 site,.slice xa na xc,.slice aa nc ca,.slice ab nb cb] 29)).alloc (.cells #[.int .i64 oregs,.slice ova onv ovc] 56))):=((Below.refl _ _).alloc (zr4 _) _).alloc (by simp) _
 have SN:Hid (Calls Tryz.prog 14 #[] ((w.alloc (.cells #[.string nm,.bool ch,.slice pa np pc,.int .i64 ek,.string en0,.string op,.int .i64 num,.int .i64 site,.slice xa na xc,.slice aa nc ca,.slice ab nb cb] 29)).alloc (.cells #[.int .i64 oregs,.slice ova onv ovc] 56)) (SnP ((w.alloc (.cells #[.string nm,.bool ch,.slice pa np pc,.int .i64 ek,.string en0,.string op,.int .i64 num,.int .i64 site,.slice xa na xc,.slice aa nc ca,.slice ab nb cb] 29)).alloc (.cells #[.int .i64 oregs,.slice ova onv ovc] 56)))):=sane_any (HK.out.law.keep _ _ _ (HK.out.law.size _ HK.out.env) HK.out.env B0.out)
 have O0:Hid (((w.alloc (.cells #[.string nm,.bool ch,.slice pa np pc,.int .i64 ek,.string en0,.string op,.int .i64 num,.int .i64 site,.slice xa na xc,.slice aa nc ca,.slice ab nb cb] 29)).alloc (.cells #[.int .i64 oregs,.slice ova onv ovc] 56)).heap[w.heap.size]?=some (.cells #[.string nm,.bool ch,.slice pa np pc,.int .i64 ek,.string en0,.string op,.int .i64 num,.int .i64 site,.slice xa na xc,.slice aa nc ca,.slice ab nb cb] 29 (0,0))):=(Below.heap_alloc _ _ _ (by simp)).trans (heap_alloc_new w _)
 have P0:Hid (((w.alloc (.cells #[.string nm,.bool ch,.slice pa np pc,.int .i64 ek,.string en0,.string op,.int .i64 num,.int .i64 site,.slice xa na xc,.slice aa nc ca,.slice ab nb cb] 29)).alloc (.cells #[.int .i64 oregs,.slice ova onv ovc] 56)).heap[w.heap.size+1]?=some (.cells #[.int .i64 oregs,.slice ova onv ovc] 56 (0,0))):=by
  have:=heap_alloc_new (w.alloc (.cells #[.string nm,.bool ch,.slice pa np pc,.int .i64 ek,.string en0,.string op,.int .i64 num,.int .i64 site,.slice xa na xc,.slice aa nc ca,.slice ab nb cb] 29)) (.cells #[.int .i64 oregs,.slice ova onv ovc] 56)
  rw [World.size_alloc] at this
  exact this
 clear hE
 go_enter Tryz.func13,Tryz.ntmps13
 go_wp2_with fail
 refine SN.out.mono ?_
 rintro en w1 ⟨rfl,hb⟩
 have B1:Hid (Below w.heap.size w w1):=B0.out.trans (hb.mono B0.out.size)
 have O1:Hid (w1.heap[w.heap.size]?=some (.cells #[.string nm,.bool ch,.slice pa np pc,.int .i64 ek,.string en0,.string op,.int .i64 num,.int .i64 site,.slice xa na xc,.slice aa nc ca,.slice ab nb cb] 29 (0,0))):=(hb.block _ (by simp;omega)).trans O0.out
 have P1:Hid (w1.heap[w.heap.size+1]?=some (.cells #[.int .i64 oregs,.slice ova onv ovc] 56 (0,0))):=(hb.block _ (by simp)).trans P0.out
 have L1:Hid (w.heap.size+2≤w1.heap.size):=by have:=hb.size;simp at this;exact this
 have SM:=zh (small_any (HK.out.keep B1.out).val)
 obtain⟨q0,q1,q2,q3,q4,q5,q6,q7,q8,q9,q10⟩:=box11 O1.out
 clear hb SN O0 P0 B0
 go_wp2_with fail
 refine SM.out.mono ?_
 rintro en w2 ⟨hb,b,rfl,hs1,-⟩
 have B2:Hid (Below w.heap.size w w2):=B1.out.trans (hb.mono B1.out.size)
 have O2:Hid (w2.heap[w.heap.size]?=some (.cells #[.string nm,.bool ch,.slice pa np pc,.int .i64 ek,.string en0,.string op,.int .i64 num,.int .i64 site,.slice xa na xc,.slice aa nc ca,.slice ab nb cb] 29 (0,0))):=(hb.block _ (by have:=L1.out;omega)).trans O1.out
 have P2:Hid (w2.heap[w.heap.size+1]?=some (.cells #[.int .i64 oregs,.slice ova onv ovc] 56 (0,0))):=(hb.block _ (by have:=L1.out;omega)).trans P1.out
 have L2:Hid (w.heap.size+2≤w2.heap.size):=zr5 L1.out hb.size
 have S1:=zh hs1
 clear q0 q1 q2 q3 q4 q5 q6 q7 q8 q9 q10 hb hs1 SM
 cases b
 ·go_wp2_with fail
  go_ret
  exact⟨rfl,B2.out⟩
 have AL:=zh (allocate_any (HK.out.keep B2.out))
 obtain⟨q0,q1,q2,q3,q4,q5,q6,q7,q8,q9,q10⟩:=box11 O2.out
 go_wp2_with fail
 refine AL.out.mono ?_
 rintro en w3 ⟨hb,⟨hg,av,rfl,hav⟩|⟨hng,rfl⟩⟩
 rotate_left
 ·exact absurd GD.out hng
 have B3:Hid (Below w.heap.size w w3):=B2.out.trans (hb.mono B2.out.size)
 have O3:Hid (w3.heap[w.heap.size]?=some (.cells #[.string nm,.bool ch,.slice pa np pc,.int .i64 ek,.string en0,.string op,.int .i64 num,.int .i64 site,.slice xa na xc,.slice aa nc ca,.slice ab nb cb] 29 (0,0))):=(hb.block _ (by have:=L2.out;omega)).trans O2.out
 have P3:Hid (w3.heap[w.heap.size+1]?=some (.cells #[.int .i64 oregs,.slice ova onv ovc] 56 (0,0))):=(hb.block _ (by have:=L2.out;omega)).trans P2.out
 have L3:Hid (w.heap.size+2≤w3.heap.size):=zr5 L2.out hb.size
 have HG:=zh hg
 have SZ:=zh (S1.out (by trivial) hg)
 have FO:=zh (good_fo hg)
 obtain⟨ava,avc,rfl,-⟩:=id hav
 have HA3:=zh hav
 obtain⟨most,hmo⟩:∃ m,m=(alloc (F0 ps e)).2:=⟨_,rfl⟩
 obtain⟨npr,hnpr⟩:∃ m,m=(pairs (F0 ps e) (alloc (F0 ps e)).1).length:=⟨_,rfl⟩
 rw [← hnpr] at HA3
 rw [← hmo,← hnpr]
 have HMO:=zh hmo
 have VEN:Hid ((vars (F0 ps e)).length≤300):=SZ.out.2
 have MW:Hid (most=width (F0 ps e)):=by show _=_;rw [HMO.out];exact alloc_regs FO.out (by have:=VEN.out;omega)
 obtain⟨w4,hw4⟩:∃ W,W=w3.alloc (.cells #[.int .i64 (most:Nat),.slice ava npr avc] 56):=⟨_,rfl⟩
 have N4:Hid (w4.heap[w3.heap.size]?=some (.cells #[.int .i64 (most:Nat),.slice ava npr avc] 56 (0,0))):=by show _=_;rw [hw4];exact heap_alloc_new w3 _
 have N4L:Hid (w3.heap.size<w4.heap.size):=by show _<_;rw [hw4];simp
 clear q0 q1 q2 q3 q4 q5 q6 q7 q8 q9 q10 hb hg hav hmo hnpr AL
 have hb:Below w3.heap.size w3 w4:=by rw [hw4];exact(Below.refl _ _).alloc (zr4 _) _
 have HA4:=zh (HA3.out.kept (zd hb))
 have B4:Hid (Below w.heap.size w w4):=B3.out.trans (hb.mono B3.out.size)
 have O4:Hid (w4.heap[w.heap.size]?=some (.cells #[.string nm,.bool ch,.slice pa np pc,.int .i64 ek,.string en0,.string op,.int .i64 num,.int .i64 site,.slice xa na xc,.slice aa nc ca,.slice ab nb cb] 29 (0,0))):=(hb.block _ (by have:=L3.out;omega)).trans O3.out
 have P4:Hid (w4.heap[w.heap.size+1]?=some (.cells #[.int .i64 oregs,.slice ova onv ovc] 56 (0,0))):=(hb.block _ (by have:=L3.out;omega)).trans P3.out
 have L4:Hid (w.heap.size+2≤w4.heap.size):=zr5 L3.out hb.size
 obtain⟨q0,q1,q2,q3,q4,q5,q6,q7,q8,q9,q10⟩:=box11 O4.out
 clear hb HA3
 have WD:=zh (width_any (HK.out.keep B4.out))
 go_upto_region 5 with fail
 rw [← hw4]
 clear hw4
 go_wp2_with fail
 refine WD.out.mono ?_
 rintro en w5 ⟨hb,⟨-,rfl⟩|⟨hng,-⟩⟩
 rotate_left
 ·exact absurd HG.out hng
 rw [← MW.out]
 have B5:Hid (Below w.heap.size w w5):=B4.out.trans (hb.mono B4.out.size)
 have O5:Hid (w5.heap[w.heap.size]?=some (.cells #[.string nm,.bool ch,.slice pa np pc,.int .i64 ek,.string en0,.string op,.int .i64 num,.int .i64 site,.slice xa na xc,.slice aa nc ca,.slice ab nb cb] 29 (0,0))):=(hb.block _ (by have:=L4.out;omega)).trans O4.out
 have P5:Hid (w5.heap[w.heap.size+1]?=some (.cells #[.int .i64 oregs,.slice ova onv ovc] 56 (0,0))):=(hb.block _ (by have:=L4.out;omega)).trans P4.out
 have L5:Hid (w.heap.size+2≤w5.heap.size):=zr5 L4.out hb.size
 have KB5:=zh hb
 clear q0 q1 q2 q3 q4 q5 q6 q7 q8 q9 q10 hb WD
 have CR:=zh (crowdFn_any sort_law (HK.out.keep B5.out))
 obtain⟨q0,q1,q2,q3,q4,q5,q6,q7,q8,q9,q10⟩:=box11 O5.out
 go_wp2_with fail
 refine CR.out.mono ?_
 rintro en w6 ⟨hb,⟨-,lv,rfl,hlv⟩|⟨hng,-⟩⟩
 rotate_left
 ·exact absurd HG.out hng
 obtain⟨la,lc,rfl,hlat⟩:=hlv.cells
 have LAT:=zh hlat
 have LW:Hid ((crowd (F0 ps e)).length=most):=by show _=_;rw [MW.out];rfl
 rw [LW.out]
 rw [LW.out] at LAT
 have B6:Hid (Below w.heap.size w w6):=B5.out.trans (hb.mono B5.out.size)
 have O6:Hid (w6.heap[w.heap.size]?=some (.cells #[.string nm,.bool ch,.slice pa np pc,.int .i64 ek,.string en0,.string op,.int .i64 num,.int .i64 site,.slice xa na xc,.slice aa nc ca,.slice ab nb cb] 29 (0,0))):=(hb.block _ (by have:=L5.out;omega)).trans O5.out
 have P6:Hid (w6.heap[w.heap.size+1]?=some (.cells #[.int .i64 oregs,.slice ova onv ovc] 56 (0,0))):=(hb.block _ (by have:=L5.out;omega)).trans P5.out
 have L6:Hid (w.heap.size+2≤w6.heap.size):=zr5 L5.out hb.size
 have KB46:Hid (Below w4.heap.size w4 w6):=KB5.out.trans (hb.mono KB5.out.size)
 have N6:Hid (w6.heap[w3.heap.size]?=some (.cells #[.int .i64 (most:Nat),.slice ava npr avc] 56 (0,0))):=(KB46.out.block _ N4L.out).trans N4.out
 have CK:=zh (check_any (HK.out.keep B6.out) (regs:=(most:Nat)) (HA4.out.kept (zd KB46.out)))
 have RT:Hid (right (F0 ps e) ps.length ((most:Nat):Int) (pairs (F0 ps e) (alloc (F0 ps e)).1)=true):=by
  show _=_
  rw [HMO.out]
  exact alloc_right FO.out (by rw [F0_nd0]) (by have:=VEN.out;omega)
 have MZ:Hid (most≤300):=by
  have h1:=nodup_len (crowd_nodup FO.out) (m:=vars (F0 ps e)) (fun x hx=>by
   obtain⟨⟨i,-,h2⟩,-⟩:=crowd_spec FO.out
   rw [h2] at hx
   exact(mem_around.1 hx).1)
  have:=LW.out;have:=VEN.out;show most≤300;omega
 have mz:(most:Int)≤300:=by have:=MZ.out;omega
 have n0:w6.cell? ⟨w3.heap.size,0,none⟩=some (.int .i64 (most:Nat)):=by rw [cell_of_row _ _ 0 _ _ _ N6.out];rfl
 have n1:w6.cell? ⟨w3.heap.size,1,none⟩=some (.slice ava npr avc):=by rw [cell_of_row _ _ 1 _ _ _ N6.out];rfl
 clear q0 q1 q2 q3 q4 q5 q6 q7 q8 q9 q10 hb hlv hlat CR
 obtain⟨q0,q1,q2,q3,q4,q5,q6,q7,q8,q9,q10⟩:=box11 O6.out
 go_wp2_with fail
 refine CK.out.mono ?_
 rintro en w7 ⟨hb,⟨-,rfl⟩|⟨hng,-⟩⟩
 rotate_left
 ·exact absurd HG.out hng
 rw [RT.out,if_pos rfl]
 have B7:Hid (Below w.heap.size w w7):=B6.out.trans (hb.mono B6.out.size)
 have O7:Hid (w7.heap[w.heap.size]?=some (.cells #[.string nm,.bool ch,.slice pa np pc,.int .i64 ek,.string en0,.string op,.int .i64 num,.int .i64 site,.slice xa na xc,.slice aa nc ca,.slice ab nb cb] 29 (0,0))):=(hb.block _ (by have:=L6.out;omega)).trans O6.out
 have P7:Hid (w7.heap[w.heap.size+1]?=some (.cells #[.int .i64 oregs,.slice ova onv ovc] 56 (0,0))):=(hb.block _ (by have:=L6.out;omega)).trans P6.out
 have L7:Hid (w.heap.size+2≤w7.heap.size):=zr5 L6.out hb.size
 have N7:Hid (w7.heap[w3.heap.size]?=some (.cells #[.int .i64 (most:Nat),.slice ava npr avc] 56 (0,0))):=(hb.block _ (by have:=N4L.out;have:=KB46.out.size;omega)).trans N6.out
 have KB67:=zh hb
 clear q0 q1 q2 q3 q4 q5 q6 q7 q8 q9 q10 hb n0 n1 CK N6
 have n0:w7.cell? ⟨w3.heap.size,0,none⟩=some (.int .i64 (most:Nat)):=by rw [cell_of_row _ _ 0 _ _ _ N7.out];rfl
 go_wp2_with fail
 clear n0
 go_loopw [12] (fun iv wr=>∃ i:Nat,i≤most∧iv = .int .i64 i∧Below w7.heap.size w7 wr) (fun iv _=>most - (intOf iv).toNat)
 case atStart=>exact⟨0,Nat.zero_le _,rfl,Below.refl _ _⟩
 case round =>
  rename World=>wo
  obtain⟨i,hi,rfl,hb⟩:=hrel
  have KI:=zh hi
  have KB:=zh hb
  have Bo:Hid (Below w.heap.size w wo):=B7.out.trans (hb.mono B7.out.size)
  have Oo:Hid (wo.heap[w.heap.size]?=some (.cells #[.string nm,.bool ch,.slice pa np pc,.int .i64 ek,.string en0,.string op,.int .i64 num,.int .i64 site,.slice xa na xc,.slice aa nc ca,.slice ab nb cb] 29 (0,0))):=(hb.block _ (by have:=L7.out;omega)).trans O7.out
  have Po:Hid (wo.heap[w.heap.size+1]?=some (.cells #[.int .i64 oregs,.slice ova onv ovc] 56 (0,0))):=(hb.block _ (by have:=L7.out;omega)).trans P7.out
  have Lo:Hid (w.heap.size+2≤wo.heap.size):=zr5 L7.out hb.size
  clear hi hb
  have KB6o:Hid (Below w6.heap.size w6 wo):=KB67.out.trans (KB.out.mono KB67.out.size)
  by_cases hlt:i<most∧i<40
  ·have hlz:(i:Int)<most:=by omega
   have hi40:(i:Int)<40:=by omega
   have hi0:(0:Int)≤i:=by omega
   have HLT:=zh hlt.1
   obtain⟨x,hx⟩:∃ x,(crowd (F0 ps e))[i]?=some x:=⟨_,zq9 (by have:=LW.out;omega)⟩
   have HX:=zh hx
   have d1:decide ((i:Int)<most)=true:=by simp;omega
   have d2:decide ((i:Int)<40)=true:=by simp;omega
   have d3:decide (i<most)=true:=by simp;omega
   clear hlt hx
   go_wp2_with fail
   go_loopw [13] (fun iv wr=>∃ k:Nat,k≤i∧iv = .int .i64 k∧Below wo.heap.size wo wr) (fun iv _=>i - (intOf iv).toNat)
   case atStart=>exact⟨0,Nat.zero_le _,rfl,Below.refl _ _⟩
   case round =>
    rename World=>wk
    obtain⟨k,hk,rfl,hb⟩:=hrel
    have KK:=zh hk
    have Bk:Hid (Below w.heap.size w wk):=Bo.out.trans (hb.mono Bo.out.size)
    have Ok:Hid (wk.heap[w.heap.size]?=some (.cells #[.string nm,.bool ch,.slice pa np pc,.int .i64 ek,.string en0,.string op,.int .i64 num,.int .i64 site,.slice xa na xc,.slice aa nc ca,.slice ab nb cb] 29 (0,0))):=(hb.block _ (by have:=Lo.out;omega)).trans Oo.out
    have Pk:Hid (wk.heap[w.heap.size+1]?=some (.cells #[.int .i64 oregs,.slice ova onv ovc] 56 (0,0))):=(hb.block _ (by have:=Lo.out;omega)).trans Po.out
    have Lk:Hid (w.heap.size+2≤wk.heap.size):=zr5 Lo.out hb.size
    have KBk:=zh hb
    have KB6k:Hid (Below w6.heap.size w6 wk):=KB6o.out.trans (hb.mono KB6o.out.size)
    clear hk hb
    by_cases hlt:k<i
    ·have hkz:(k:Int)<i:=by omega
     have hkm:(k:Int)<most:=by omega
     have hk0:(0:Int)≤k:=by omega
     have KLT:=zh hlt
     obtain⟨y,hy⟩:∃ y,(crowd (F0 ps e))[k]?=some y:=⟨_,zq9 (by have:=LW.out;omega)⟩
     obtain⟨lg,lo,rfl,lat⟩:=LAT.out (by omega)
     have xcell:=zd KB6k.out _ _ (lat i x HX.out)
     have ycell:=zd KB6k.out _ _ (lat k y hy)
     have NE:Hid (x≠y):=fun h=>by
      have:=(List.getElem?_inj (by have:=LW.out;have:=HLT.out;omega) (crowd_nodup FO.out)).1 (HX.out.trans ((congrArg some h).trans hy.symm))
      omega
     have XV:Hid (x∈vars (F0 ps e)):=by
      have h1:=zr1 HX.out
      obtain⟨⟨i,-,h2⟩,-⟩:=crowd_spec FO.out
      rw [h2] at h1
      exact(mem_around.1 h1).1
     have YV:Hid (y∈vars (F0 ps e)):=by
      have h1:=zr1 hy
      obtain⟨⟨i,-,h2⟩,-⟩:=crowd_spec FO.out
      rw [h2] at h1
      exact(mem_around.1 h1).1
     have CXY:=zh (crowd_clash FO.out (zr1 HX.out) (zr1 hy) NE.out)
     have CYX:=zh (crowd_clash FO.out (zr1 hy) (zr1 HX.out) (fun h=>NE.out h.symm))
     have NSZ:Hid (∀ z∈vars (F0 ps e),z.size≤maxLen):=fun z hz=>by
      obtain⟨d,hd,hz⟩:=List.mem_flatMap.1 hz
      exact(HK.out.sz d hd).1 z hz
     have CF:Hid (∀ W (a b:Nm),Below wk.heap.size wk W→a∈vars (F0 ps e)→b∈vars (F0 ps e)→conflict (F0 ps e) a b=true→Calls Tryz.prog 21 #[.agg #[.string nm,.bool ch,.slice pa np pc,.int .i64 ek,.string en0,.string op,.int .i64 num,.int .i64 site,.slice xa na xc,.slice aa nc ca,.slice ab nb cb],.string a,.string b] W (fun en w'=>en = .returned (.tuple #[.bool true,.int .i64 0])∧Below W.heap.size W w')):=fun W a b hW ha hb hc=>by
      refine(conflict_any (HK.out.keep (Bk.out.trans (hW.mono Bk.out.size))) a b (NSZ.out a ha) (NSZ.out b hb)).mono ?_
      rintro en w' ⟨hb',⟨-,-,-,rfl⟩|⟨-,ho,-⟩|⟨hg,-⟩⟩
      ·exact⟨by rw [hc],hb'⟩
      ·exact absurd ho (by simp [ha,hb])
      ·exact absurd HG.out hg
     clear hlt hy lat
     obtain⟨q0,q1,q2,q3,q4,q5,q6,q7,q8,q9,q10⟩:=box11 Ok.out
     go_upto_region 19 with fail
     go_region_held3 (fun w'=>w'.cell? ⟨w.heap.size,0,none⟩=some (.string nm)∧w'.cell? ⟨w.heap.size,1,none⟩=some (.bool ch)∧w'.cell? ⟨w.heap.size,2,none⟩=some (.slice pa np pc)∧w'.cell? ⟨w.heap.size,3,none⟩=some (.int .i64 ek)∧w'.cell? ⟨w.heap.size,4,none⟩=some (.string en0)∧w'.cell? ⟨w.heap.size,5,none⟩=some (.string op)∧w'.cell? ⟨w.heap.size,6,none⟩=some (.int .i64 num)∧w'.cell? ⟨w.heap.size,7,none⟩=some (.int .i64 site)∧w'.cell? ⟨w.heap.size,8,none⟩=some (.slice xa na xc)∧w'.cell? ⟨w.heap.size,9,none⟩=some (.slice aa nc ca)∧w'.cell? ⟨w.heap.size,10,none⟩=some (.slice ab nb cb)∧w'.cell? ⟨lg,lo+i,none⟩=some (.string x)∧w'.cell? ⟨lg,lo+k,none⟩=some (.string y)) ((go_split_ands;(refine⟨?_,?_,?_,?_,?_,?_,?_,?_,?_,?_,?_,?_,?_⟩<;>(first | assumption | exact zd hb9 _ _ (by assumption))))) ((go_at_call 21;refine(CF.out _ x y ((Below.refl _ _).drew) XV.out YV.out CXY.out).mono ?_;rintro e9 w9 ⟨rfl,hb9⟩))
     all_goals
      have hb:Below wk.heap.size wk w9:=(Below.refl _ _).drew.trans hb9
      have O9:Hid (w9.heap[w.heap.size]?=some (.cells #[.string nm,.bool ch,.slice pa np pc,.int .i64 ek,.string en0,.string op,.int .i64 num,.int .i64 site,.slice xa na xc,.slice aa nc ca,.slice ab nb cb] 29 (0,0))):=(hb.block _ (by have:=Lk.out;omega)).trans Ok.out
      have KB9:=zh hb
      have xcell9:=zd hb _ _ xcell
      have ycell9:=zd hb _ _ ycell
      clear q0 q1 q2 q3 q4 q5 q6 q7 q8 q9 q10 hb hb9 xcell ycell
      obtain⟨q0,q1,q2,q3,q4,q5,q6,q7,q8,q9,q10⟩:=box11 O9.out
      go_upto_region 20 with fail
      go_region_held3 (fun w'=>w'.cell? ⟨w.heap.size,0,none⟩=some (.string nm)∧w'.cell? ⟨w.heap.size,1,none⟩=some (.bool ch)∧w'.cell? ⟨w.heap.size,2,none⟩=some (.slice pa np pc)∧w'.cell? ⟨w.heap.size,3,none⟩=some (.int .i64 ek)∧w'.cell? ⟨w.heap.size,4,none⟩=some (.string en0)∧w'.cell? ⟨w.heap.size,5,none⟩=some (.string op)∧w'.cell? ⟨w.heap.size,6,none⟩=some (.int .i64 num)∧w'.cell? ⟨w.heap.size,7,none⟩=some (.int .i64 site)∧w'.cell? ⟨w.heap.size,8,none⟩=some (.slice xa na xc)∧w'.cell? ⟨w.heap.size,9,none⟩=some (.slice aa nc ca)∧w'.cell? ⟨w.heap.size,10,none⟩=some (.slice ab nb cb)∧w'.cell? ⟨lg,lo+i,none⟩=some (.string x)∧w'.cell? ⟨lg,lo+k,none⟩=some (.string y)) ((go_split_ands;(refine⟨?_,?_,?_,?_,?_,?_,?_,?_,?_,?_,?_,?_,?_⟩<;>(first | assumption | exact zd hb9 _ _ (by assumption))))) ((go_at_call 21;refine(CF.out _ y x (KB9.out.trans (Below.refl _ _).drew) YV.out XV.out CYX.out).mono ?_;rintro e9 w10 ⟨rfl,hb9⟩))
      all_goals
       have KB10:Hid (Below wo.heap.size wo w10):=KBk.out.trans ((KB9.out.trans ((show Below w9.heap.size w9 w10 from (Below.refl _ _).drew.trans hb9).mono KB9.out.size)).mono KBk.out.size)
       clear q0 q1 q2 q3 q4 q5 q6 q7 q8 q9 q10 hb9 xcell9 ycell9
       go_wp2_with fail
       go_roundw
       case rel=>exact⟨k+1,KLT.out,by go_num,KB10.out⟩
       case measure=>have:=KLT.out;simp [intOf];omega
    ·have hkz:(i:Int)≤k:=by omega
     have hdk:decide (k<i)=false:=by simp;omega
     have KE:Hid (Below w7.heap.size w7 wk):=KB.out.trans (KBk.out.mono KB.out.size)
     clear hlt
     go_wp2_with fail
     go_roundw
     case rel=>exact⟨i+1,HLT.out,by go_num,KE.out⟩
     case measure=>have:=HLT.out;simp [intOf];omega
  ·have END:Hid (∀ V:Value,True):=fun _=>trivial
   have CK:=zh (check_any (HK.out.keep Bo.out) (regs:=oregs) (HU.out.kept (zd Bo.out)))
   have s0:wo.cell? ⟨w.heap.size+1,0,none⟩=some (.int .i64 oregs):=by rw [cell_of_row _ _ 0 _ _ _ Po.out];rfl
   have s1:wo.cell? ⟨w.heap.size+1,1,none⟩=some (.slice ova onv ovc):=by rw [cell_of_row _ _ 1 _ _ _ Po.out];rfl
   obtain⟨q0,q1,q2,q3,q4,q5,q6,q7,q8,q9,q10⟩:=box11 Oo.out
   have HEND:Hid (¬ (i<most∧i<40)):=hlt
   have hcond:(decide ((i:Int)<most)&&decide ((i:Int)<40))=false:=by
    simp;intro;omega
   clear hlt END
   by_cases h1:i<most
   ·have d1:decide ((i:Int)<most)=true:=by simp;omega
    have d3:decide (i<most)=true:=by simp;omega
    have d2:decide ((i:Int)<40)=false:=by have:=HEND.out;simp;omega
    clear h1 hcond
    go_wp2_with fail
    refine CK.out.mono ?_
    rintro en w8 ⟨hb,⟨-,rfl⟩|⟨hng,-⟩⟩
    rotate_left
    ·exact absurd HG.out hng
    have B8:Hid (Below w.heap.size w w8):=Bo.out.trans (hb.mono Bo.out.size)
    have P8:=(hb.block _ (by have:=Lo.out;omega)).trans Po.out
    have s0:w8.cell? ⟨w.heap.size+1,0,none⟩=some (.int .i64 oregs):=by rw [cell_of_row _ _ 0 _ _ _ P8];rfl
    clear hb P8 s1 CK
    by_cases hr:right (F0 ps e) ps.length oregs vs=true
    ·have RW:Hid (((most:Nat):Int)≤oregs):=by show _≤_;rw [MW.out];exact right_width FO.out hr
     have dr:decide (((most:Nat):Int)≤oregs)=true:=by have:=RW.out;simp;omega
     rw [if_pos hr]
     clear hr
     go_wp2_with fail
     go_ret
     exact⟨rfl,B8.out⟩
    ·rw [if_neg hr]
     clear hr
     go_wp2_with fail
     go_ret
     exact⟨rfl,B8.out⟩
   ·have d1:decide ((i:Int)<most)=false:=by simp;omega
    have d3:decide (i<most)=false:=by simp;omega
    clear h1 hcond
    go_wp2_with fail
    refine CK.out.mono ?_
    rintro en w8 ⟨hb,⟨-,rfl⟩|⟨hng,-⟩⟩
    rotate_left
    ·exact absurd HG.out hng
    have B8:Hid (Below w.heap.size w w8):=Bo.out.trans (hb.mono Bo.out.size)
    have P8:=(hb.block _ (by have:=Lo.out;omega)).trans Po.out
    have s0:w8.cell? ⟨w.heap.size+1,0,none⟩=some (.int .i64 oregs):=by rw [cell_of_row _ _ 0 _ _ _ P8];rfl
    clear hb P8 s1 CK
    by_cases hr:right (F0 ps e) ps.length oregs vs=true
    ·have RW:Hid (((most:Nat):Int)≤oregs):=by show _≤_;rw [MW.out];exact right_width FO.out hr
     have dr:decide (((most:Nat):Int)≤oregs)=true:=by have:=RW.out;simp;omega
     rw [if_pos hr]
     clear hr
     go_wp2_with fail
     go_ret
     exact⟨rfl,B8.out⟩
    ·rw [if_neg hr]
     clear hr
     go_wp2_with fail
     go_ret
     exact⟨rfl,B8.out⟩
end Go.Proofs.YtnkahlloahgifaaGreatDoor
