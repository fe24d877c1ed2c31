/- Part. -/
import Derived.Test.YtnkahlloahgifaaGreatDoorVEoe
import Derived.Test.YtnkahlloahgifaaGreatDoorVGca
import Derived.Test.YtnkahlloahgifaaGreatDoorVPti
set_option maxHeartbeats 16000000
set_option maxRecDepth 100000
set_option linter.unusedSimpArgs false
set_option linter.unusedVariables false
namespace Go.Proofs.YtnkahlloahgifaaGreatDoor
open Go.RowKit RG Go.Maps RF
def FindP (w:World) (l:List Nm) (x:Nm) (en:Ending) (w':World):Prop :=
 Below w.heap.size w w'∧((∃ k:Nat,en = .returned (.int .i64 k)∧l[k]?=some x)∨(en = .returned (.int .i64 (-1))∧x∉l))
theorem not_take {l:List Nm}{x:Nm}{n:Nat}(hn:n=l.length) (h:x∉l.take n):x∉l:=by
 rw [hn,List.take_length] at h;exact h
theorem find_any {w:World}{v:Value}{l:List Nm}(x:Nm) (h:StrsAt w v l) (hl:l.length≤1000000000000):Calls Tryz.prog 61 #[v,.string x] w (FindP w l x):=by
 obtain⟨aa,ac,rfl,hat⟩:=h.cells
 have HAT:=zh hat
 obtain⟨n,hn⟩:∃ n,n=l.length:=⟨_,rfl⟩
 rw [← hn] at hl ⊢
 have HN:=zh hn
 have hnz:(n:Int)≤1000000000000:=by omega
 clear h hat hn hl
 go_enter Tryz.func61,Tryz.ntmps61
 go_wp2_with fail
 go_loopw [5] (fun iv wr=>∃ k:Nat,k≤n∧iv = .int .i64 k∧Below w.heap.size w wr∧x∉l.take k) (fun iv _=>n - (intOf iv).toNat)
 case atStart=>exact⟨0,Nat.zero_le _,rfl,zs9 _ _,by simp⟩
 obtain⟨k,hk,rfl,hb,hq⟩:=hrel
 have HK:=zh hk
 have HB:=zh hb
 have HQ:=zh hq
 clear hk hb hq
 by_cases hlt:k<n
 ·obtain⟨g,o,rfl,hat⟩:=HAT.out (by have:=HN.out;omega)
  obtain⟨y,hy⟩:∃ y,l[k]?=some y:=⟨_,zq9 (by have:=HN.out;omega)⟩
  have y0:=zd HB.out _ _ (hat k y hy)
  have HY:=zh hy
  have HLT:=zh hlt
  have hlz:(k:Int)<n:=by omega
  have hk0:(0:Int)≤k:=by omega
  clear hat hy
  by_cases hxy:y=x
  ·have d1:(y.toList==x.toList)=true:=by rw [bytes_beq];simp [hxy]
   have E2:Hid (l[k]?=some x):=by show _=_;rw [HY.out,hxy]
   clear hxy hlt
   go_wp2_with fail
   go_ret
   exact⟨HB.out,.inl ⟨k,rfl,E2.out⟩⟩
  have d1:(y.toList==x.toList)=false:=by rw [bytes_beq];simp [hxy]
  have E2:Hid (x∉l.take (k+1)):=by
   show ¬ _
   rw [List.take_add_one,HY.out]
   intro hm
   rcases List.mem_append.1 hm with hm | hm
   ·exact HQ.out hm
   simp at hm;exact hxy hm.symm
  clear hxy hlt
  go_wp2_with fail
  go_roundw
  case rel=>exact⟨k+1,HLT.out,by go_num,HB.out,E2.out⟩
  case measure=>have:=HLT.out;simp [intOf];omega
 have hlz:(n:Int)≤k:=by omega
 have E2:Hid (x∉l):=not_take (show k=l.length by have:=HK.out;have:=HN.out;omega) HQ.out
 clear hlt
 go_wp2_with fail
 go_ret
 exact⟨HB.out,.inr ⟨rfl,E2.out⟩⟩
end Go.Proofs.YtnkahlloahgifaaGreatDoor
namespace Go.Proofs.YtnkahlloahgifaaGreatDoor
open Go.RowKit RG Go.Maps RF
variable {w w':World} {fb:Nat} {F:List Nd} {sva:Option Addr} {svc ug uo uc ng no nc bg bo bc ag ao ac:Nat} {so:Value}
theorem liveR_any {i:Nat}(h:FlF w fb F) (hi:i<F.length) :
  Calls Tryz.prog 20 #[.pointer (some ⟨fb,0,none⟩),.int .i64 (i:Nat)] w fun e w'=>Below w.heap.size w w'∧∃ u,e = .returned u∧SlAt w' u (posn F (lv F i) (vars F).length).length (nats (posn F (lv F i) (vars F).length)):=by
 have LV:=zh h.lives
 have HI:=zh hi
 have HF:=zh h
 obtain⟨n,hn⟩:∃ n,n=F.length:=⟨_,rfl⟩
 have hiz:(i:Int)<n:=by omega
 have hi0:(0:Int)≤i:=by omega
 have nz:(n:Int)≤300:=by have:=h.len;omega
 have HN:=zh hn
 clear h hi hn
 go_enter Tryz.func20,Tryz.ntmps20
 go_wp2_with fail
 refine LV.out.mono ?_
 rintro en w1 ⟨hb1,v,rfl,hv⟩
 have B1:=zh hb1
 obtain⟨lg,lc,rs,rfl,l1,l2⟩:=hv
 have r1:=l1 i HI.out
 have RS:=zh (risingR_any (q:=lv F i) (l2 i HI.out) (zr5 HF.out.few (by omega)))
 obtain⟨rb,hrb⟩:∃ v,v=rs i:=⟨_,rfl⟩
 rw [← hrb] at r1 RS
 rw [← HN.out]
 clear hb1 l1 l2 hrb LV
 go_wp2_with fail
 refine RS.out.mono ?_
 rintro en w2 ⟨hb2,u,rfl,hu⟩
 have B2:Hid (Below w.heap.size w w2):=B1.out.trans (hb2.mono B1.out.size)
 have HU:=zh hu
 clear hb2 hu r1 RS
 go_wp2_with fail
 go_ret
 exact⟨B2.out,_,rfl,HU.out⟩
end Go.Proofs.YtnkahlloahgifaaGreatDoor
namespace Go.Proofs.YtnkahlloahgifaaGreatDoor
open Go.RowKit RG Go.Maps RF
variable {w w':World} {fb:Nat} {F:List Nd} {sva:Option Addr} {svc ug uo uc ng no nc bg bo bc ag ao ac:Nat} {so:Value}
theorem conflictR_any {lt:Value}{p q:Nat}(h:FlF w fb F) (hl:LivesR w lt F) (hp:p<(vars F).length) (hq:q<(vars F).length) :
  Calls Tryz.prog 24 #[.pointer (some ⟨fb,0,none⟩),lt,.int .i64 (p:Nat),.int .i64 (q:Nat)] w fun e w'=>Below w.heap.size w w'∧e = .returned (.bool (conflict F ((vars F).getD p ⟨#[]⟩) ((vars F).getD q ⟨#[]⟩))):=by
 obtain⟨sva,svc,ug,uo,uc,ng,no,nc,bg,bo,bc,ag,ao,ac,so,hC⟩:=h.cells
 obtain⟨lg,lc,rfl,hL⟩:=hl.cells
 have HC:=zh hC
 have HL:=zh hL
 obtain⟨x,hx⟩:∃ x,x=(vars F).getD p ⟨#[]⟩:=⟨_,rfl⟩
 obtain⟨y,hy⟩:∃ y,y=(vars F).getD q ⟨#[]⟩:=⟨_,rfl⟩
 rw [← hx,← hy]
 have HX:=zh hx
 have HY:=zh hy
 have HP:=zh hp
 have HQ:=zh hq
 obtain⟨n,hn⟩:∃ n,n=F.length:=⟨_,rfl⟩
 obtain⟨nv,hnv⟩:∃ n,n=(vars F).length:=⟨_,rfl⟩
 have HN:=zh hn
 have HNV:=zh hnv
 have nz:(n:Int)≤300:=by have:=h.len;omega
 have pz:(p:Int)<nv:=by omega
 have qz:(q:Int)<nv:=by omega
 have p0:(0:Int)≤p:=by omega
 have q0:(0:Int)≤q:=by omega
 have nvz:(nv:Int)≤300:=by have:=h.few;omega
 rw [← hn]
 by_cases hpq:p=q
 ·have e1:((p:Int)==(q:Int))=true:=by simp [hpq]
  have R:Hid (conflict F x y=false):=by
   show _=_
   unfold conflict
   rw [if_pos (by rw [hx,hy,hpq])]
  clear h hC hL hp hq hx hy hn hnv hpq
  go_enter Tryz.func24,Tryz.ntmps24
  go_wp2_with fail
  go_ret
  exact⟨zs9 _ _,by rw [R.out];rfl⟩
 have e1:((p:Int)==(q:Int))=false:=by simp;omega
 have HXY:Hid (x≠y):=fun e=>hpq (by
  have h1:=place_getD h.fo.once hp
  have h2:=place_getD h.fo.once hq
  rw [← hx] at h1
  rw [← hy] at h2
  rw [← h1,← h2,e])
 clear h hC hL hp hq hx hy hn hnv hpq
 go_enter Tryz.func24,Tryz.ntmps24
 go_wp2_with fail
 go_loopw [9] (fun iv wr=>∃ i:Nat,i≤n∧iv = .int .i64 i∧Below w.heap.size w wr∧cfl F x y i=false) (fun iv _=>n - (intOf iv).toNat)
 case atStart=>exact⟨0,Nat.zero_le _,rfl,zs9 _ _,rfl⟩
 obtain⟨i,hi,rfl,hb,hcf⟩:=hrel
 have KI:=zh hi
 have KB:=zh hb
 have KC:=zh hcf
 have c3:wr.cell? ⟨fb,3,none⟩=some (.slice (some ⟨bg,bo,none⟩) n bc):=by rw [zb _ _ 3 _ _ _ (zm hb HC.out.row),HN.out];rfl
 clear hi hb hcf
 by_cases hlt:i<n
 ·have hiz:(i:Int)<n:=by omega
  have hi0:(0:Int)≤i:=by omega
  have HLT:=zh hlt
  have IF:Hid (i<F.length):=by rw [← HN.out];exact hlt
  obtain⟨bad,bcc,b1,b2⟩:=HC.out.binds i IF.out
  have y1:=zd KB.out _ _ b1
  have BL:=zh (HC.out.blen IF.out)
  have hm:Hid (∀ r:Nat,∀ W,Below wr.heap.size wr W→Calls Tryz.prog 62 #[.slice bad (BR F i).length bcc,.int .i64 (r:Nat)] W fun en w'=>Below W.heap.size W w'∧en = .returned (.bool (decide (r∈BR F i)))):=fun r W hW =>
   hasN_any r (b2.kept ((zd KB.out).trans (zd hW))) (by have:=BL.out;omega)
  have DX:Hid (decide (p∈BR F i)=has (nd F i).binds x):=by rw [HX.out];exact HC.out.fo.dec_binds IF.out HP.out
  have DY:Hid (decide (q∈BR F i)=has (nd F i).binds y):=by rw [HY.out];exact HC.out.fo.dec_binds IF.out HQ.out
  have CS:Hid (cfl F x y (i+1)=((has (nd F i).binds x&&has (nd F i).binds y)||((has (nd F i).binds x&&lv F i y)||(has (nd F i).binds y&&lv F i x)))):=by
   show _=_
   rw [cfl_succ,KC.out,Bool.false_or,clash_lives]
  have END:Hid (cfl F x y (i+1)=true→conflict F x y=true):=fun h1=>by
   unfold conflict
   rw [if_neg HXY.out]
   rw [cfl_succ,KC.out,Bool.false_or] at h1
   exact cfl_true IF.out h1
  obtain⟨nb,hnb⟩:∃ n,n=(BR F i).length:=⟨_,rfl⟩
  rw [← hnb] at y1 hm
  clear hlt b1 b2 hnb BL
  go_wp2_with fail
  refine(hm.out p _ (zs9 _ _)).mono ?_
  rintro en w1 ⟨hb1,rfl⟩
  rw [DX.out]
  have B1:=zh hb1
  have d3:=zd hb1 _ _ c3
  have d1:=zd hb1 _ _ y1
  clear hb1 c3 y1
  go_wp2_with fail
  refine(hm.out q _ B1.out).mono ?_
  rintro en w2 ⟨hb2,rfl⟩
  rw [DY.out]
  have B2:Hid (Below wr.heap.size wr w2):=B1.out.trans (hb2.mono B1.out.size)
  have BW:Hid (Below w.heap.size w w2):=KB.out.trans (B2.out.mono KB.out.size)
  have f4:w2.cell? ⟨fb,4,none⟩=some (.slice (some ⟨ag,ao,none⟩) n ac):=by rw [zb _ _ 4 _ _ _ (zm BW.out HC.out.row),HN.out];rfl
  have a4:=zd BW.out _ _ (HC.out.after i IF.out)
  obtain⟨g,o,c,l1,l2⟩:=(HL.out.keep BW.out).row i IF.out (by have:=HP.out;omega)
  have lp:=l2 p HP.out
  have lq:=l2 q HQ.out
  rw [← HX.out] at lp
  rw [← HY.out] at lq
  rw [← HNV.out] at l1
  obtain⟨X,hX⟩:∃ b,b=has (nd F i).binds x:=⟨_,rfl⟩
  obtain⟨Y,hY⟩:∃ b,b=has (nd F i).binds y:=⟨_,rfl⟩
  obtain⟨LX,hLX⟩:∃ b,b=lv F i x:=⟨_,rfl⟩
  obtain⟨LY,hLY⟩:∃ b,b=lv F i y:=⟨_,rfl⟩
  rw [← hX,← hY,← hLX,← hLY] at CS
  rw [← hLX] at lp
  rw [← hLY] at lq
  rw [← hX,← hY]
  clear hb2 d3 d1 l2 DX DY hm hX hY hLX hLY B1 B2
  cases X<;>cases Y<;>cases LX<;>cases LY
  all_goals
   go_wp2_with fail
   first
    | (go_roundw
       case rel=>exact⟨i+1,HLT.out,by go_num,BW.out,CS.out⟩
       case measure=>have:=HLT.out;simp [intOf];omega)
    | (go_ret
       exact⟨BW.out,by rw [END.out CS.out];rfl⟩)
 obtain rfl:i=n:=by have:=KI.out;omega
 have hdi:decide (i<i)=false:=by simp
 have R:Hid (conflict F x y=false):=by
  show _=_
  unfold conflict
  rw [if_neg HXY.out]
  have:=KC.out
  rw [HN.out] at this
  exact this
 clear hlt
 go_wp2_with fail
 go_ret
 exact⟨KB.out,by rw [R.out];rfl⟩
theorem findV_any (x:Nm) (h:FlF w fb F):Calls Tryz.prog 23 #[.pointer (some ⟨fb,0,none⟩),.string x] w (FindP w (vars F) x):=by
 obtain⟨sv,su,sn,sb,sa,so,us,ns,bs,k0,k1,-⟩:=h.flat.at'
 have FD:=zh (find_any x k1 (zr5 h.few (by omega)))
 have c0:w.cell? ⟨fb,0,none⟩=some sv:=by rw [zb _ _ 0 _ _ _ k0];rfl
 obtain⟨sva,svc,rfl,-⟩:=StrsAt.cells k1
 clear h k0 k1
 go_enter Tryz.func23,Tryz.ntmps23
 go_wp2_with fail
 refine FD.out.mono ?_
 intro en w1 hF
 unfold FindP at hF ⊢
 obtain⟨hb,⟨k,rfl,hk⟩|⟨rfl,hk⟩⟩:=hF
 ·have HB:=zh hb
  have HK:=zh hk
  clear hb hk
  go_wp2_with fail
  go_ret
  exact⟨HB.out,.inl ⟨k,rfl,HK.out⟩⟩
 have HB:=zh hb
 have HK:=zh hk
 clear hb hk
 go_wp2_with fail
 go_ret
 exact⟨HB.out,.inr ⟨rfl,HK.out⟩⟩
end Go.Proofs.YtnkahlloahgifaaGreatDoor
namespace Go.Proofs.YtnkahlloahgifaaGreatDoor
open Go.RowKit RG Go.Maps RF
theorem lives_walk {w:World}(hE:Lx.Env w) {v:Value}{ps:List Nm}{e:TE}(h:FnOk Lx.Env isNm w v ps e) {n0 n1 n2:Int}(hn0 : -9223372036854775808≤n0∧n0≤9223372036854775807) (hn1 : -9223372036854775808≤n1∧n1≤9223372036854775807) (hn2 : -9223372036854775808≤n2∧n2≤9223372036854775807):Calls Tryz.prog 3 #[v,.agg #[.int .i64 n0,.int .i64 n1,.int .i64 n2]] w (SnP w):=by
 have HK:=zh h
 have HN1:=zh hn1
 have HN2:=zh hn2
 clear hn0 hn1 hn2
 obtain⟨nm,op,ch,pv,va,num,site,aa,ab,ca,cb,ga,oa,gb,ob,rfl,hp,hat,-⟩:=h.val
 obtain⟨xa,xc,rfl,-⟩:=id hat.at'
 obtain⟨pa,pc,rfl,-⟩:=id hp.at'
 clear h hp hat
 obtain⟨np,hnp⟩:∃ n,n=ps.length:=⟨_,rfl⟩
 obtain⟨na,hna⟩:∃ n,n=e.args.length:=⟨_,rfl⟩
 obtain⟨nc,hnc⟩:∃ n,n=e.arms.length:=⟨_,rfl⟩
 obtain⟨nb,hnb⟩:∃ n,n=e.body.length:=⟨_,rfl⟩
 obtain⟨ek,hek⟩:∃ n,n=e.kind:=⟨_,rfl⟩
 obtain⟨en0,hen⟩:∃ n,n=e.name:=⟨_,rfl⟩
 rw [← hnp,← hna,← hnc,← hnb,← hek,← hen] at HK ⊢
 have HNP:=zh hnp
 clear hnp hna hnc hnb hek hen
 have B0:Hid (Below w.heap.size w ((w.alloc (.cells #[.string nm,.bool ch,.slice pa np pc,.int .i64 ek,.string en0,.string op,.int .i64 num,.int .i64 site,.slice xa na xc,.slice aa nc ca,.slice ab nb cb] 29)).alloc (.cells #[.int .i64 n0,.int .i64 n1,.int .i64 n2] 30))):=((zs9 _ _).alloc (zr4 _) _).alloc (by simp) _
 have SN:Hid (Calls Tryz.prog 14 #[] ((w.alloc (.cells #[.string nm,.bool ch,.slice pa np pc,.int .i64 ek,.string en0,.string op,.int .i64 num,.int .i64 site,.slice xa na xc,.slice aa nc ca,.slice ab nb cb] 29)).alloc (.cells #[.int .i64 n0,.int .i64 n1,.int .i64 n2] 30)) (SnP ((w.alloc (.cells #[.string nm,.bool ch,.slice pa np pc,.int .i64 ek,.string en0,.string op,.int .i64 num,.int .i64 site,.slice xa na xc,.slice aa nc ca,.slice ab nb cb] 29)).alloc (.cells #[.int .i64 n0,.int .i64 n1,.int .i64 n2] 30)))):=sane_any (HK.out.law.keep _ _ _ (HK.out.law.size _ HK.out.env) HK.out.env B0.out)
 have O0:Hid (((w.alloc (.cells #[.string nm,.bool ch,.slice pa np pc,.int .i64 ek,.string en0,.string op,.int .i64 num,.int .i64 site,.slice xa na xc,.slice aa nc ca,.slice ab nb cb] 29)).alloc (.cells #[.int .i64 n0,.int .i64 n1,.int .i64 n2] 30)).heap[w.heap.size]?=some (.cells #[.string nm,.bool ch,.slice pa np pc,.int .i64 ek,.string en0,.string op,.int .i64 num,.int .i64 site,.slice xa na xc,.slice aa nc ca,.slice ab nb cb] 29 (0,0))):=(zt2 _ _ _ (by simp)).trans (zs2 w _)
 have P0:Hid (((w.alloc (.cells #[.string nm,.bool ch,.slice pa np pc,.int .i64 ek,.string en0,.string op,.int .i64 num,.int .i64 site,.slice xa na xc,.slice aa nc ca,.slice ab nb cb] 29)).alloc (.cells #[.int .i64 n0,.int .i64 n1,.int .i64 n2] 30)).heap[w.heap.size+1]?=some (.cells #[.int .i64 n0,.int .i64 n1,.int .i64 n2] 30 (0,0))):=by
  have:=zs2 (w.alloc (.cells #[.string nm,.bool ch,.slice pa np pc,.int .i64 ek,.string en0,.string op,.int .i64 num,.int .i64 site,.slice xa na xc,.slice aa nc ca,.slice ab nb cb] 29)) (.cells #[.int .i64 n0,.int .i64 n1,.int .i64 n2] 30)
  rw [World.size_alloc] at this
  exact this
 clear hE
 go_enter Tryz.func3,Tryz.ntmps3
 go_wp2_with fail
 refine SN.out.mono ?_
 rintro en w1 ⟨rfl,hb⟩
 have B1:Hid (Below w.heap.size w w1):=B0.out.trans (hb.mono B0.out.size)
 have O1:=zh ((hb.block w.heap.size (by simp;omega)).trans O0.out)
 have P1:=zh ((hb.block (w.heap.size+1) (by simp)).trans P0.out)
 have L1:Hid (w.heap.size+2≤w1.heap.size):=by have:=hb.size;simp at this;exact this
 have SM:=zh (small_any (HK.out.keep B1.out).val)
 obtain⟨q0,q1,q2,q3,q4,q5,q6,q7,q8,q9,q10⟩:=box11 O1.out
 clear hb SN O0 P0 B0
 go_wp2_with fail
 refine SM.out.mono ?_
 rintro en w2 ⟨hb,b,rfl,hs1,-⟩
 have B2:Hid (Below w.heap.size w w2):=B1.out.trans (hb.mono B1.out.size)
 have O2:=zh ((hb.block w.heap.size (by have:=L1.out;omega)).trans O1.out)
 have P2:=zh ((hb.block (w.heap.size+1) (by have:=L1.out;omega)).trans P1.out)
 have L2:Hid (w.heap.size+2≤w2.heap.size):=zr5 L1.out hb.size
 have S1:=zh hs1
 clear q0 q1 q2 q3 q4 q5 q6 q7 q8 q9 q10 hb hs1 SM
 cases b
 ·go_wp2_with fail
  go_ret
  exact⟨rfl,B2.out⟩
 have OF:=zh (ofR_any (HK.out.keep B2.out).val)
 obtain⟨q0,q1,q2,q3,q4,q5,q6,q7,q8,q9,q10⟩:=box11 O2.out
 go_wp2_with fail
 refine OF.out.mono ?_
 rintro en w3 ⟨fb,rfl,hb,⟨hg,hem⟩|⟨hng,hem⟩⟩
 rotate_left
 ·skip
  have B3:Hid (Below w.heap.size w w3):=B2.out.trans (hb.mono B2.out.size)
  have O3:=zh ((hb.block w.heap.size (by have:=L2.out;omega)).trans O2.out)
  have P3:=zh ((hb.block (w.heap.size+1) (by have:=L2.out;omega)).trans P2.out)
  have L3:Hid (w.heap.size+2≤w3.heap.size):=zr5 L2.out hb.size
  have NG:=zh hng
  have EM3:=zh hem
  clear q0 q1 q2 q3 q4 q5 q6 q7 q8 q9 q10 hb hng hem OF S1
  have LV:=zh (live_any sort_law (HK.out.keep B3.out) n0)
  obtain⟨q0,q1,q2,q3,q4,q5,q6,q7,q8,q9,q10⟩:=box11 O3.out
  have p0:w3.cell? ⟨w.heap.size+1,0,none⟩=some (.int .i64 n0):=by rw [zb _ _ 0 _ _ _ P3.out];rfl
  go_wp2_with fail
  refine LV.out.mono ?_
  rintro en w4 ⟨hb,⟨hg,-⟩|⟨hg,-⟩|⟨-,rfl⟩⟩
  ·exact absurd hg NG.out
  ·exact absurd hg NG.out
  have B4:Hid (Below w.heap.size w w4):=B3.out.trans (hb.mono B3.out.size)
  have x6:w4.cell? ⟨fb,6,none⟩=some (.bool false):=by rw [zb _ _ 6 _ _ _ (EM3.out.keep hb)];rfl
  clear q0 q1 q2 q3 q4 q5 q6 q7 q8 q9 q10 hb p0 LV
  go_wp2_with fail
  go_ret
  exact⟨rfl,B4.out⟩
 have B3:Hid (Below w.heap.size w w3):=B2.out.trans (hb.mono B2.out.size)
 have O3:=zh ((hb.block w.heap.size (by have:=L2.out;omega)).trans O2.out)
 have P3:=zh ((hb.block (w.heap.size+1) (by have:=L2.out;omega)).trans P2.out)
 have L3:Hid (w.heap.size+2≤w3.heap.size):=zr5 L2.out hb.size
 have HG:=zh hg
 have SZ:=zh (S1.out (by trivial) hg)
 have FO:=zh (good_fo hg)
 have VEN:Hid ((vars (F0 ps e)).length≤300):=SZ.out.2
 have LEN:Hid ((F0 ps e).length≤300):=by have:=SZ.out.1;rw [← F0_length ps e] at this;exact this
 have FL3:Hid (FlF w3 fb (F0 ps e)):=⟨hem,FO.out,LEN.out,VEN.out,fun k hk=>zr5 (next_few hk) (zr5 LEN.out (by omega))⟩
 obtain⟨sva,svc,ug,uo,uc,ng,no,ncc,bg,bo,bc,ag,ao,ac,so,hC⟩:=FL3.out.cells
 have FC3:=zh hC
 obtain⟨n,hn⟩:∃ n,n=(F0 ps e).length:=⟨_,rfl⟩
 obtain⟨nv,hnv⟩:∃ n,n=(vars (F0 ps e)).length:=⟨_,rfl⟩
 have HN:=zh hn
 have HNV:=zh hnv
 have nz:(n:Int)≤300:=by have:=LEN.out;omega
 have nvz:(nv:Int)≤300:=by have:=VEN.out;omega
 clear q0 q1 q2 q3 q4 q5 q6 q7 q8 q9 q10 hb hg hem hC hn hnv OF S1
 have LV:=zh (live_any sort_law (HK.out.keep B3.out) n0)
 obtain⟨q0,q1,q2,q3,q4,q5,q6,q7,q8,q9,q10⟩:=box11 O3.out
 have p0:w3.cell? ⟨w.heap.size+1,0,none⟩=some (.int .i64 n0):=by rw [zb _ _ 0 _ _ _ P3.out];rfl
 go_wp2_with fail
 refine LV.out.mono ?_
 rintro en w4 ⟨hb,hcase⟩
 have B4:Hid (Below w.heap.size w w4):=B3.out.trans (hb.mono B3.out.size)
 have O4:=zh ((hb.block w.heap.size (by have:=L3.out;omega)).trans O3.out)
 have P4:=zh ((hb.block (w.heap.size+1) (by have:=L3.out;omega)).trans P3.out)
 have L4:Hid (w.heap.size+2≤w4.heap.size):=zr5 L3.out hb.size
 have FL4:=zh (FL3.out.keep hb)
 have FC4:=zh (FC3.out.keep hb)
 have x6:w4.cell? ⟨fb,6,none⟩=some (.bool true):=by rw [zb _ _ 6 _ _ _ FC4.out.row];rfl
 have p0:w4.cell? ⟨w.heap.size+1,0,none⟩=some (.int .i64 n0):=by rw [zb _ _ 0 _ _ _ P4.out];rfl
 have c1:w4.cell? ⟨fb,1,none⟩=some (.slice (some ⟨ug,uo,none⟩) n uc):=by rw [zb _ _ 1 _ _ _ FC4.out.row,HN.out];rfl
 clear q0 q1 q2 q3 q4 q5 q6 q7 q8 q9 q10 hb LV
 rcases hcase with ⟨-,i0,v0,hi0,hil0,rfl,hv0⟩|⟨-,ho,rfl⟩|⟨hg,-⟩
 rotate_left
 rotate_left
 ·exact absurd HG.out hg
 ·have I0:=zh hil0
  have hn0a:¬ n0<0:=by omega
  have dn0:decide (n0<0)=false:=by simp;omega
  have dn1:decide ((n:Int)≤n0)=false:=by have:=HN.out;simp;omega
  subst hi0
  have dn2:decide (n≤i0)=false:=by have:=HN.out;simp;omega
  have hii:(i0:Int)<n:=by have:=HN.out;omega
  have hii0:(0:Int)≤i0:=by omega
  obtain⟨va0,vc0,rfl,-⟩:=id hv0.cells
  have SV0:=zh hv0
  obtain⟨nl,hnl⟩:∃ n,n=(liveAt (F0 ps e) i0).length:=⟨_,rfl⟩
  rw [← hnl] at SV0 ⊢
  have HNL:=zh hnl
  clear hv0 hil0 hnl hn0a
  go_upto_region 10 with fail
  go_quiet (fail)
  obtain⟨w5,hw5⟩:∃ W,W=w4.drewN nq:=⟨_,rfl⟩
  have hb:Below w4.heap.size w4 w5:=by rw [hw5];exact zj _ _ _
  have B5:Hid (Below w.heap.size w w5):=B4.out.trans (hb.mono B4.out.size)
  have O5:=zh ((hb.block w.heap.size (by have:=L4.out;omega)).trans O4.out)
  have P5:=zh ((hb.block (w.heap.size+1) (by have:=L4.out;omega)).trans P4.out)
  have L5:Hid (w.heap.size+2≤w5.heap.size):=zr5 L4.out hb.size
  have FL5:=zh (FL4.out.keep hb)
  have FC5:=zh (FC4.out.keep hb)
  have SV5:=zh (SV0.out.kept (zd hb))
  have p0':w5.cell? ⟨w.heap.size+1,0,none⟩=some (.int .i64 (i0:Int)):=by rw [zb _ _ 0 _ _ _ P5.out];rfl
  rw [← hw5]
  clear hb hw5 p0 c1 x6 dn0 dn1
  have LR:=zh (liveR_any FL5.out I0.out)
  go_wp2_with fail
  refine LR.out.mono ?_
  rintro en w6 ⟨hb,u6,rfl,hu6⟩
  have B6:Hid (Below w.heap.size w w6):=B5.out.trans (hb.mono B5.out.size)
  have O6:=zh ((hb.block w.heap.size (by have:=L5.out;omega)).trans O5.out)
  have P6:=zh ((hb.block (w.heap.size+1) (by have:=L5.out;omega)).trans P5.out)
  have L6:Hid (w.heap.size+2≤w6.heap.size):=zr5 L5.out hb.size
  have FL6:=zh (FL5.out.keep hb)
  have FC6:=zh (FC5.out.keep hb)
  have NMD:=zh (namedR_any FL6.out.flat hu6 (fun k hk=>(mem_posn.1 hk).1) (zr5 (posn_len _ _ _) (by have:=VEN.out;omega)) (by have:=VEN.out;omega))
  have NEQ:Hid (namesR (F0 ps e) (posn (F0 ps e) (lv (F0 ps e) i0) (vars (F0 ps e)).length)=liveAt (F0 ps e) i0):=posn_names _ _
  obtain⟨-,ua6,uc6,rfl,-⟩:=id hu6
  obtain⟨n6,hn6⟩:∃ n,n=(posn (F0 ps e) (lv (F0 ps e) i0) (vars (F0 ps e)).length).length:=⟨_,rfl⟩
  rw [← hn6] at NMD ⊢
  have SV6:=zh (SV5.out.kept (zd hb))
  clear hb hu6 hn6 p0' LR
  go_wp2_with fail
  refine NMD.out.mono ?_
  rintro en w7 ⟨hb,u7,rfl,hu7⟩
  have B7:Hid (Below w.heap.size w w7):=B6.out.trans (hb.mono B6.out.size)
  have O7:=zh ((hb.block w.heap.size (by have:=L6.out;omega)).trans O6.out)
  have P7:=zh ((hb.block (w.heap.size+1) (by have:=L6.out;omega)).trans P6.out)
  have L7:Hid (w.heap.size+2≤w7.heap.size):=zr5 L6.out hb.size
  have FL7:=zh (FL6.out.keep hb)
  have FC7:=zh (FC6.out.keep hb)
  rw [NEQ.out] at hu7
  have SV7:=zh (SV6.out.kept (zd hb))
  have ST:Hid (Calls Tryz.prog 18 #[.slice va0 nl vc0,u7] w7 (StP w7 (decide (liveAt (F0 ps e) i0=liveAt (F0 ps e) i0)))):=by
   have h1:=sameTexts_any SV7.out hu7 (by have h1:(liveAt (F0 ps e) i0).length≤(vars (F0 ps e)).length:=List.length_filter_le _ _;have:=VEN.out;omega)
   exact h1
  obtain⟨ua7,uc7,rfl,-⟩:=hu7.cells
  rw [← HNL.out] at ST ⊢
  clear hb hu7 NMD
  go_wp2_with fail
  refine ST.out.mono ?_
  rintro en w8 ⟨hb,rfl⟩
  have B8:Hid (Below w.heap.size w w8):=B7.out.trans (hb.mono B7.out.size)
  have O8:=zh ((hb.block w.heap.size (by have:=L7.out;omega)).trans O7.out)
  have P8:=zh ((hb.block (w.heap.size+1) (by have:=L7.out;omega)).trans P7.out)
  have L8:Hid (w.heap.size+2≤w8.heap.size):=zr5 L7.out hb.size
  have FL8:=zh (FL7.out.keep hb)
  have FC8:=zh (FC7.out.keep hb)
  rw [show decide True=true from by simp]
  clear hb ST
  have c0:w8.cell? ⟨fb,0,none⟩=some (.slice sva nv svc):=by rw [zb _ _ 0 _ _ _ FC8.out.row,HNV.out];rfl
  by_cases hv0:nv=0
  ·have d0:((nv:Int)==0)=true:=by simp [hv0]
   have d0':(nv==0)=true:=by simp [hv0]
   have VN:Hid (vars (F0 ps e)=[]):=List.length_eq_zero_iff.1 (by rw [← HNV.out];exact hv0)
   have CF:=zh (conflict_any (HK.out.keep B8.out) ⟨#[97]⟩ ⟨#[98]⟩ (by decide) (by decide))
   obtain⟨q0,q1,q2,q3,q4,q5,q6,q7,q8,q9,q10⟩:=box11 O8.out
   go_wp2_with fail
   refine CF.out.mono ?_
   rintro en w9 ⟨hb,⟨-,ha,-⟩|⟨-,-,rfl⟩|⟨hg,-⟩⟩
   ·rw [VN.out] at ha;exact absurd ha (by simp)
   rotate_left
   ·exact absurd HG.out hg
   have B9:Hid (Below w.heap.size w w9):=B8.out.trans (hb.mono B8.out.size)
   clear q0 q1 q2 q3 q4 q5 q6 q7 q8 q9 q10 hb CF
   go_wp2_with fail
   go_ret
   exact⟨rfl,B9.out⟩
  have d0:((nv:Int)==0)=false:=by simp;omega
  have d0':(nv==0)=false:=by simp;omega
  have nvp:(0:Int)<nv:=by omega
  obtain⟨i,hi⟩:∃ i:Nat,n1 % (nv:Int)=i:=⟨(n1 % (nv:Int)).toNat,by have:=Int.emod_nonneg n1 (show (nv:Int)≠0 by omega);omega⟩
  have hil:(i:Int)<nv:=by rw [← hi];exact Int.emod_lt_of_pos _ nvp
  obtain⟨j,hj⟩:∃ j:Nat,n2 % (nv:Int)=j:=⟨(n2 % (nv:Int)).toNat,by have:=Int.emod_nonneg n2 (show (nv:Int)≠0 by omega);omega⟩
  have hjl:(j:Int)<nv:=by rw [← hj];exact Int.emod_lt_of_pos _ nvp
  have hi0:(0:Int)≤i:=by omega
  have hj0:(0:Int)≤j:=by omega
  have M1:Hid (∀ W:World,Calls Tryz.prog 22 #[.int .i64 n1,.int .i64 (nv:Int)] W fun e w'=>e = .returned (.int .i64 (i:Int))∧w'=W):=fun W=>by
   have h1:=modR_any W n1 (nv:Int) HN1.out nvp (by omega)
   rw [hi] at h1
   exact h1
  have M2:Hid (∀ W:World,Calls Tryz.prog 22 #[.int .i64 n2,.int .i64 (nv:Int)] W fun e w'=>e = .returned (.int .i64 (j:Int))∧w'=W):=fun W=>by
   have h1:=modR_any W n2 (nv:Int) HN2.out nvp (by omega)
   rw [hj] at h1
   exact h1
  have IL:Hid (i<(vars (F0 ps e)).length∧j<(vars (F0 ps e)).length):=by have:=HNV.out;show _∧_;omega
  obtain⟨x,hx⟩:∃ x,x=(vars (F0 ps e)).getD i ⟨#[]⟩:=⟨_,rfl⟩
  obtain⟨y,hy⟩:∃ y,y=(vars (F0 ps e)).getD j ⟨#[]⟩:=⟨_,rfl⟩
  have HX:=zh hx
  have HY:=zh hy
  have XV:Hid (x∈vars (F0 ps e)):=by show _∈_;rw [hx];exact getD_mem IL.out.1
  have YV:Hid (y∈vars (F0 ps e)):=by show _∈_;rw [hy];exact getD_mem IL.out.2
  obtain⟨xg,xo,rfl,xcell⟩:=FC8.out.names i IL.out.1
  obtain⟨xg',xo',hxe,ycell⟩:=FC8.out.names j IL.out.2
  simp only [zt3,Addr.mk.injEq,and_true] at hxe
  obtain⟨rfl,rfl⟩:=hxe
  rw [← hx] at xcell
  rw [← hy] at ycell
  have XC:=zh xcell
  have YC:=zh ycell
  have NSZ:Hid (∀ z∈vars (F0 ps e),z.size≤maxLen):=fun z hz=>by
   obtain⟨d,hd,hz⟩:=List.mem_flatMap.1 hz
   exact(HK.out.sz d hd).1 z hz
  have p1:w8.cell? ⟨w.heap.size+1,1,none⟩=some (.int .i64 n1):=by rw [zb _ _ 1 _ _ _ P8.out];rfl
  clear hv0 hi hj hx hy xcell ycell
  go_upto_region 18 with fail
  refine wp_region_still_tail 7 (by kernel_rfl) (by kernel_rfl) ?_
  simp only [List.take_succ_cons,List.take_zero,List.drop_succ_cons,List.drop_zero,World.drew_eq]
  iterate 7 still_step
  refine wpStill_nil ?_
  go_wp2_with fail
  refine(M1.out _).mono ?_
  rintro en w' ⟨rfl,rfl⟩
  clear p1
  obtain⟨wa,hwa⟩:∃ W,W=w8.drew:=⟨_,rfl⟩
  rw [← hwa]
  have AB:Hid (Below w8.heap.size w8 wa):=by show Below _ _ _;rw [hwa];exact(zs9 _ _).drew
  have c0:=zd AB.out _ _ c0
  have p2:wa.cell? ⟨w.heap.size+1,2,none⟩=some (.int .i64 n2):=by rw [zb _ _ 2 _ _ _ ((AB.out.block (w.heap.size+1) (by have:=L8.out;omega)).trans P8.out)];rfl
  clear hwa M1
  go_upto_region 19 with fail
  refine wp_region_still_tail 7 (by kernel_rfl) (by kernel_rfl) ?_
  simp only [List.take_succ_cons,List.take_zero,List.drop_succ_cons,List.drop_zero,World.drew_eq]
  iterate 7 still_step
  refine wpStill_nil ?_
  go_wp2_with fail
  refine(M2.out _).mono ?_
  rintro en w' ⟨rfl,rfl⟩
  clear p2
  obtain⟨wb,hwb⟩:∃ W,W=wa.drew:=⟨_,rfl⟩
  rw [← hwb]
  have BBk:Hid (Below w8.heap.size w8 wb):=by show Below _ _ _;rw [hwb];exact AB.out.drew
  clear hwb M2
  have hb:=BBk.out
  have c0:wb.cell? ⟨fb,0,none⟩=some (.slice (some ⟨xg,xo,none⟩) nv svc):=by rw [zb _ _ 0 _ _ _ (FC8.out.keep hb).row,HNV.out];rfl
  have xcell:=zd hb _ _ XC.out
  have ycell:=zd hb _ _ YC.out
  have BWb:Hid (Below w.heap.size w wb):=B8.out.trans (hb.mono B8.out.size)
  have Ob:=zh ((hb.block w.heap.size (by have:=L8.out;omega)).trans O8.out)
  clear hb
  have CF:Hid (∀ W,Below wb.heap.size wb W→Calls Tryz.prog 21 #[.agg #[.string nm,.bool ch,.slice pa np pc,.int .i64 ek,.string en0,.string op,.int .i64 num,.int .i64 site,.slice xa na xc,.slice aa nc ca,.slice ab nb cb],.string x,.string y] W (fun en w'=>en = .returned (.tuple #[.bool (conflict (F0 ps e) x y),.int .i64 0])∧Below W.heap.size W w')):=fun W hW=>by
   refine(conflict_any (HK.out.keep (BWb.out.trans (hW.mono BWb.out.size))) x y (NSZ.out x XV.out) (NSZ.out y YV.out)).mono ?_
   rintro en w' ⟨hb',⟨-,-,-,rfl⟩|⟨-,ho,-⟩|⟨hg,-⟩⟩
   ·exact⟨rfl,hb'⟩
   ·exact absurd ho (by simp [XV.out,YV.out])
   exact absurd HG.out hg
  have CS:Hid (conflict (F0 ps e) x y=conflict (F0 ps e) ((vars (F0 ps e)).getD i ⟨#[]⟩) ((vars (F0 ps e)).getD j ⟨#[]⟩)):=by show _=_;rw [HX.out,HY.out]
  obtain⟨cf,hcf⟩:∃ b,b=conflict (F0 ps e) x y:=⟨_,rfl⟩
  rw [← hcf] at CF CS
  clear hcf
  obtain⟨q0,q1,q2,q3,q4,q5,q6,q7,q8,q9,q10⟩:=box11 Ob.out
  go_upto_region 20 with fail
  go_region_held3 (fun w'=>w'.cell? ⟨w.heap.size,0,none⟩=some (.string nm)∧w'.cell? ⟨w.heap.size,1,none⟩=some (.bool ch)∧w'.cell? ⟨w.heap.size,2,none⟩=some (.slice pa np pc)∧w'.cell? ⟨w.heap.size,3,none⟩=some (.int .i64 ek)∧w'.cell? ⟨w.heap.size,4,none⟩=some (.string en0)∧w'.cell? ⟨w.heap.size,5,none⟩=some (.string op)∧w'.cell? ⟨w.heap.size,6,none⟩=some (.int .i64 num)∧w'.cell? ⟨w.heap.size,7,none⟩=some (.int .i64 site)∧w'.cell? ⟨w.heap.size,8,none⟩=some (.slice xa na xc)∧w'.cell? ⟨w.heap.size,9,none⟩=some (.slice aa nc ca)∧w'.cell? ⟨w.heap.size,10,none⟩=some (.slice ab nb cb)∧w'.cell? ⟨fb,0,none⟩=some (.slice (some ⟨xg,xo,none⟩) nv svc)∧w'.cell? ⟨xg,xo+i,none⟩=some (.string x)∧w'.cell? ⟨xg,xo+j,none⟩=some (.string y)) ((go_split_ands;(refine⟨?_,?_,?_,?_,?_,?_,?_,?_,?_,?_,?_,?_,?_,?_⟩<;>(first | assumption | exact zd hb9 _ _ (by assumption))))) ((go_at_call 21;refine(CF.out _ ((zs9 _ _).drew)).mono ?_;rintro e9 w9 ⟨rfl,hb9⟩))
  rename World=>wc
  have hb:Below wb.heap.size wb wc:=(zs9 _ _).drew.trans hb9
  have BWc:Hid (Below w.heap.size w wc):=BWb.out.trans (hb.mono BWb.out.size)
  have KC:Hid (Below w8.heap.size w8 wc):=BBk.out.trans (hb.mono BBk.out.size)
  have Oc:=zh ((hb.block w.heap.size (by have:=L8.out;have:=BBk.out.size;omega)).trans Ob.out)
  clear q0 q1 q2 q3 q4 q5 q6 q7 q8 q9 q10 hb hb9 c0 xcell ycell CF Ob
  have c0:wc.cell? ⟨fb,0,none⟩=some (.slice (some ⟨xg,xo,none⟩) nv svc):=by rw [zb _ _ 0 _ _ _ (FC8.out.keep KC.out).row,HNV.out];rfl
  have xcell:=zd KC.out _ _ XC.out
  obtain⟨q0,q1,q2,q3,q4,q5,q6,q7,q8,q9,q10⟩:=box11 Oc.out
  by_cases h99:(⟨#[120,39,57,57]⟩:Nm)∈vars (F0 ps e)
  ·have H99:=zh h99
   have CF:Hid (∀ W,Below wc.heap.size wc W→Calls Tryz.prog 21 #[.agg #[.string nm,.bool ch,.slice pa np pc,.int .i64 ek,.string en0,.string op,.int .i64 num,.int .i64 site,.slice xa na xc,.slice aa nc ca,.slice ab nb cb],.string x,.string ⟨#[120,39,57,57]⟩] W (fun en w'=>en = .returned (.tuple #[.bool (conflict (F0 ps e) x ⟨#[120,39,57,57]⟩),.int .i64 0])∧Below W.heap.size W w')):=fun W hW=>by
    refine(conflict_any (HK.out.keep (BWc.out.trans (hW.mono BWc.out.size))) x ⟨#[120,39,57,57]⟩ (NSZ.out x XV.out) (by decide)).mono ?_
    rintro en w' ⟨hb',⟨-,-,-,rfl⟩|⟨-,ho,-⟩|⟨hg,-⟩⟩
    ·exact⟨rfl,hb'⟩
    ·exact absurd ho (by simp [XV.out,H99.out])
    exact absurd HG.out hg
   obtain⟨cq,hcq⟩:∃ b,b=conflict (F0 ps e) x ⟨#[120,39,57,57]⟩:=⟨_,rfl⟩
   rw [← hcq] at CF
   clear h99 hcq
   go_upto_region 21 with fail
   go_region_held3 (fun w'=>w'.cell? ⟨w.heap.size,0,none⟩=some (.string nm)∧w'.cell? ⟨w.heap.size,1,none⟩=some (.bool ch)∧w'.cell? ⟨w.heap.size,2,none⟩=some (.slice pa np pc)∧w'.cell? ⟨w.heap.size,3,none⟩=some (.int .i64 ek)∧w'.cell? ⟨w.heap.size,4,none⟩=some (.string en0)∧w'.cell? ⟨w.heap.size,5,none⟩=some (.string op)∧w'.cell? ⟨w.heap.size,6,none⟩=some (.int .i64 num)∧w'.cell? ⟨w.heap.size,7,none⟩=some (.int .i64 site)∧w'.cell? ⟨w.heap.size,8,none⟩=some (.slice xa na xc)∧w'.cell? ⟨w.heap.size,9,none⟩=some (.slice aa nc ca)∧w'.cell? ⟨w.heap.size,10,none⟩=some (.slice ab nb cb)∧w'.cell? ⟨fb,0,none⟩=some (.slice (some ⟨xg,xo,none⟩) nv svc)∧w'.cell? ⟨xg,xo+i,none⟩=some (.string x)) ((go_split_ands;(refine⟨?_,?_,?_,?_,?_,?_,?_,?_,?_,?_,?_,?_,?_⟩<;>(first | assumption | exact zd hb9 _ _ (by assumption))))) ((go_at_call 21;refine(CF.out _ ((zs9 _ _).drew)).mono ?_;rintro e9 w9 ⟨rfl,hb9⟩))
   rename World=>wd
   have hb:Below wc.heap.size wc wd:=(zs9 _ _).drew.trans hb9
   have KD:Hid (Below w8.heap.size w8 wd):=KC.out.trans (hb.mono KC.out.size)
   clear q0 q1 q2 q3 q4 q5 q6 q7 q8 q9 q10 hb hb9 c0 xcell CF
   have FD:=zh (findV_any ⟨#[120,39,57,57]⟩ (FL8.out.keep KD.out))
   go_wp2_with fail
   refine FD.out.mono ?_
   rintro en we ⟨hbe,⟨t,rfl,-⟩|⟨rfl,hno⟩⟩
   rotate_left
   ·exact absurd H99.out hno
   have t0:(0:Int)≤t:=by omega
   have KE:Hid (Below w8.heap.size w8 we):=KD.out.trans (hbe.mono KD.out.size)
   clear hbe FD
   have LVS:=zh (FL8.out.keep KE.out).lives
   go_wp2_with fail
   refine LVS.out.mono ?_
   rintro en wf ⟨hbf,lt,rfl,hlt⟩
   have KF:Hid (Below w8.heap.size w8 wf):=KE.out.trans (hbf.mono KE.out.size)
   have CN:=zh (conflictR_any (FL8.out.keep KF.out) hlt IL.out.1 IL.out.2)
   rw [← CS.out] at CN
   obtain⟨lg,lc,rfl,-⟩:=hlt.cells
   rw [← HN.out] at CN ⊢
   clear hbf hlt LVS
   go_wp2_with fail
   refine CN.out.mono ?_
   rintro en wg ⟨hbg,rfl⟩
   have KG:Hid (Below w8.heap.size w8 wg):=KF.out.trans (hbg.mono KF.out.size)
   clear hbg CN
   cases cf
   ·go_wp2_with fail
    go_ret
    exact⟨rfl,B8.out.trans (KG.out.mono B8.out.size)⟩
   go_wp2_with fail
   go_ret
   exact⟨rfl,B8.out.trans (KG.out.mono B8.out.size)⟩
  have CF:Hid (∀ W,Below wc.heap.size wc W→Calls Tryz.prog 21 #[.agg #[.string nm,.bool ch,.slice pa np pc,.int .i64 ek,.string en0,.string op,.int .i64 num,.int .i64 site,.slice xa na xc,.slice aa nc ca,.slice ab nb cb],.string x,.string ⟨#[120,39,57,57]⟩] W (fun en w'=>en = .returned (.tuple #[.bool false,.int .i64 3])∧Below W.heap.size W w')):=fun W hW=>by
   refine(conflict_any (HK.out.keep (BWc.out.trans (hW.mono BWc.out.size))) x ⟨#[120,39,57,57]⟩ (NSZ.out x XV.out) (by decide)).mono ?_
   rintro en w' ⟨hb',⟨-,-,h,-⟩|⟨-,ho,rfl⟩|⟨hg,-⟩⟩
   ·exact absurd h h99
   ·exact⟨rfl,hb'⟩
   exact absurd HG.out hg
  clear h99
  go_upto_region 21 with fail
  go_region_held3 (fun w'=>w'.cell? ⟨w.heap.size,0,none⟩=some (.string nm)∧w'.cell? ⟨w.heap.size,1,none⟩=some (.bool ch)∧w'.cell? ⟨w.heap.size,2,none⟩=some (.slice pa np pc)∧w'.cell? ⟨w.heap.size,3,none⟩=some (.int .i64 ek)∧w'.cell? ⟨w.heap.size,4,none⟩=some (.string en0)∧w'.cell? ⟨w.heap.size,5,none⟩=some (.string op)∧w'.cell? ⟨w.heap.size,6,none⟩=some (.int .i64 num)∧w'.cell? ⟨w.heap.size,7,none⟩=some (.int .i64 site)∧w'.cell? ⟨w.heap.size,8,none⟩=some (.slice xa na xc)∧w'.cell? ⟨w.heap.size,9,none⟩=some (.slice aa nc ca)∧w'.cell? ⟨w.heap.size,10,none⟩=some (.slice ab nb cb)∧w'.cell? ⟨fb,0,none⟩=some (.slice (some ⟨xg,xo,none⟩) nv svc)∧w'.cell? ⟨xg,xo+i,none⟩=some (.string x)) ((go_split_ands;(refine⟨?_,?_,?_,?_,?_,?_,?_,?_,?_,?_,?_,?_,?_⟩<;>(first | assumption | exact zd hb9 _ _ (by assumption))))) ((go_at_call 21;refine(CF.out _ ((zs9 _ _).drew)).mono ?_;rintro e9 w9 ⟨rfl,hb9⟩))
  rename World=>wd
  have hb:Below wc.heap.size wc wd:=(zs9 _ _).drew.trans hb9
  have KE:Hid (Below w8.heap.size w8 wd):=KC.out.trans (hb.mono KC.out.size)
  clear q0 q1 q2 q3 q4 q5 q6 q7 q8 q9 q10 hb hb9 c0 xcell CF
  have LVS:=zh (FL8.out.keep KE.out).lives
  go_wp2_with fail
  refine LVS.out.mono ?_
  rintro en wf ⟨hbf,lt,rfl,hlt⟩
  have KF:Hid (Below w8.heap.size w8 wf):=KE.out.trans (hbf.mono KE.out.size)
  have CN:=zh (conflictR_any (FL8.out.keep KF.out) hlt IL.out.1 IL.out.2)
  rw [← CS.out] at CN
  obtain⟨lg,lc,rfl,-⟩:=hlt.cells
  rw [← HN.out] at CN ⊢
  clear hbf hlt LVS
  go_wp2_with fail
  refine CN.out.mono ?_
  rintro en wg ⟨hbg,rfl⟩
  have KG:Hid (Below w8.heap.size w8 wg):=KF.out.trans (hbg.mono KF.out.size)
  clear hbg CN
  cases cf
  ·go_wp2_with fail
   go_ret
   exact⟨rfl,B8.out.trans (KG.out.mono B8.out.size)⟩
  go_wp2_with fail
  go_ret
  exact⟨rfl,B8.out.trans (KG.out.mono B8.out.size)⟩
 rcases ho with ho | ho
 ·have dn0:decide (n0<0)=true:=by simp [ho]
  clear ho
  go_upto_region 10 with fail
  go_quiet (fail)
  obtain⟨w5,hw5⟩:∃ W,W=w4.drewN nq:=⟨_,rfl⟩
  have hb:Below w4.heap.size w4 w5:=by rw [hw5];exact zj _ _ _
  have B5:Hid (Below w.heap.size w w5):=B4.out.trans (hb.mono B4.out.size)
  have O5:=zh ((hb.block w.heap.size (by have:=L4.out;omega)).trans O4.out)
  have P5:=zh ((hb.block (w.heap.size+1) (by have:=L4.out;omega)).trans P4.out)
  have L5:Hid (w.heap.size+2≤w5.heap.size):=zr5 L4.out hb.size
  have FL5:=zh (FL4.out.keep hb)
  have FC5:=zh (FC4.out.keep hb)
  rw [← hw5]
  clear hb hw5 p0 c1 x6 dn0
  have c0:w5.cell? ⟨fb,0,none⟩=some (.slice sva nv svc):=by rw [zb _ _ 0 _ _ _ FC5.out.row,HNV.out];rfl
  by_cases hv0:nv=0
  ·have d0:((nv:Int)==0)=true:=by simp [hv0]
   have d0':(nv==0)=true:=by simp [hv0]
   have VN:Hid (vars (F0 ps e)=[]):=List.length_eq_zero_iff.1 (by rw [← HNV.out];exact hv0)
   have CF:=zh (conflict_any (HK.out.keep B5.out) ⟨#[97]⟩ ⟨#[98]⟩ (by decide) (by decide))
   obtain⟨q0,q1,q2,q3,q4,q5,q6,q7,q8,q9,q10⟩:=box11 O5.out
   go_wp2_with fail
   refine CF.out.mono ?_
   rintro en w9 ⟨hb,⟨-,ha,-⟩|⟨-,-,rfl⟩|⟨hg,-⟩⟩
   ·rw [VN.out] at ha;exact absurd ha (by simp)
   rotate_left
   ·exact absurd HG.out hg
   have B9:Hid (Below w.heap.size w w9):=B5.out.trans (hb.mono B5.out.size)
   clear q0 q1 q2 q3 q4 q5 q6 q7 q8 q9 q10 hb CF
   go_wp2_with fail
   go_ret
   exact⟨rfl,B9.out⟩
  have d0:((nv:Int)==0)=false:=by simp;omega
  have d0':(nv==0)=false:=by simp;omega
  have nvp:(0:Int)<nv:=by omega
  obtain⟨i,hi⟩:∃ i:Nat,n1 % (nv:Int)=i:=⟨(n1 % (nv:Int)).toNat,by have:=Int.emod_nonneg n1 (show (nv:Int)≠0 by omega);omega⟩
  have hil:(i:Int)<nv:=by rw [← hi];exact Int.emod_lt_of_pos _ nvp
  obtain⟨j,hj⟩:∃ j:Nat,n2 % (nv:Int)=j:=⟨(n2 % (nv:Int)).toNat,by have:=Int.emod_nonneg n2 (show (nv:Int)≠0 by omega);omega⟩
  have hjl:(j:Int)<nv:=by rw [← hj];exact Int.emod_lt_of_pos _ nvp
  have hi0:(0:Int)≤i:=by omega
  have hj0:(0:Int)≤j:=by omega
  have M1:Hid (∀ W:World,Calls Tryz.prog 22 #[.int .i64 n1,.int .i64 (nv:Int)] W fun e w'=>e = .returned (.int .i64 (i:Int))∧w'=W):=fun W=>by
   have h1:=modR_any W n1 (nv:Int) HN1.out nvp (by omega)
   rw [hi] at h1
   exact h1
  have M2:Hid (∀ W:World,Calls Tryz.prog 22 #[.int .i64 n2,.int .i64 (nv:Int)] W fun e w'=>e = .returned (.int .i64 (j:Int))∧w'=W):=fun W=>by
   have h1:=modR_any W n2 (nv:Int) HN2.out nvp (by omega)
   rw [hj] at h1
   exact h1
  have IL:Hid (i<(vars (F0 ps e)).length∧j<(vars (F0 ps e)).length):=by have:=HNV.out;show _∧_;omega
  obtain⟨x,hx⟩:∃ x,x=(vars (F0 ps e)).getD i ⟨#[]⟩:=⟨_,rfl⟩
  obtain⟨y,hy⟩:∃ y,y=(vars (F0 ps e)).getD j ⟨#[]⟩:=⟨_,rfl⟩
  have HX:=zh hx
  have HY:=zh hy
  have XV:Hid (x∈vars (F0 ps e)):=by show _∈_;rw [hx];exact getD_mem IL.out.1
  have YV:Hid (y∈vars (F0 ps e)):=by show _∈_;rw [hy];exact getD_mem IL.out.2
  obtain⟨xg,xo,rfl,xcell⟩:=FC5.out.names i IL.out.1
  obtain⟨xg',xo',hxe,ycell⟩:=FC5.out.names j IL.out.2
  simp only [zt3,Addr.mk.injEq,and_true] at hxe
  obtain⟨rfl,rfl⟩:=hxe
  rw [← hx] at xcell
  rw [← hy] at ycell
  have XC:=zh xcell
  have YC:=zh ycell
  have NSZ:Hid (∀ z∈vars (F0 ps e),z.size≤maxLen):=fun z hz=>by
   obtain⟨d,hd,hz⟩:=List.mem_flatMap.1 hz
   exact(HK.out.sz d hd).1 z hz
  have p1:w5.cell? ⟨w.heap.size+1,1,none⟩=some (.int .i64 n1):=by rw [zb _ _ 1 _ _ _ P5.out];rfl
  clear hv0 hi hj hx hy xcell ycell
  go_upto_region 18 with fail
  refine wp_region_still_tail 7 (by kernel_rfl) (by kernel_rfl) ?_
  simp only [List.take_succ_cons,List.take_zero,List.drop_succ_cons,List.drop_zero,World.drew_eq]
  iterate 7 still_step
  refine wpStill_nil ?_
  go_wp2_with fail
  refine(M1.out _).mono ?_
  rintro en w' ⟨rfl,rfl⟩
  clear p1
  obtain⟨wa,hwa⟩:∃ W,W=w5.drew:=⟨_,rfl⟩
  rw [← hwa]
  have AB:Hid (Below w5.heap.size w5 wa):=by show Below _ _ _;rw [hwa];exact(zs9 _ _).drew
  have c0:=zd AB.out _ _ c0
  have p2:wa.cell? ⟨w.heap.size+1,2,none⟩=some (.int .i64 n2):=by rw [zb _ _ 2 _ _ _ ((AB.out.block (w.heap.size+1) (by have:=L5.out;omega)).trans P5.out)];rfl
  clear hwa M1
  go_upto_region 19 with fail
  refine wp_region_still_tail 7 (by kernel_rfl) (by kernel_rfl) ?_
  simp only [List.take_succ_cons,List.take_zero,List.drop_succ_cons,List.drop_zero,World.drew_eq]
  iterate 7 still_step
  refine wpStill_nil ?_
  go_wp2_with fail
  refine(M2.out _).mono ?_
  rintro en w' ⟨rfl,rfl⟩
  clear p2
  obtain⟨wb,hwb⟩:∃ W,W=wa.drew:=⟨_,rfl⟩
  rw [← hwb]
  have BBk:Hid (Below w5.heap.size w5 wb):=by show Below _ _ _;rw [hwb];exact AB.out.drew
  clear hwb M2
  have hb:=BBk.out
  have c0:wb.cell? ⟨fb,0,none⟩=some (.slice (some ⟨xg,xo,none⟩) nv svc):=by rw [zb _ _ 0 _ _ _ (FC5.out.keep hb).row,HNV.out];rfl
  have xcell:=zd hb _ _ XC.out
  have ycell:=zd hb _ _ YC.out
  have BWb:Hid (Below w.heap.size w wb):=B5.out.trans (hb.mono B5.out.size)
  have Ob:=zh ((hb.block w.heap.size (by have:=L5.out;omega)).trans O5.out)
  clear hb
  have CF:Hid (∀ W,Below wb.heap.size wb W→Calls Tryz.prog 21 #[.agg #[.string nm,.bool ch,.slice pa np pc,.int .i64 ek,.string en0,.string op,.int .i64 num,.int .i64 site,.slice xa na xc,.slice aa nc ca,.slice ab nb cb],.string x,.string y] W (fun en w'=>en = .returned (.tuple #[.bool (conflict (F0 ps e) x y),.int .i64 0])∧Below W.heap.size W w')):=fun W hW=>by
   refine(conflict_any (HK.out.keep (BWb.out.trans (hW.mono BWb.out.size))) x y (NSZ.out x XV.out) (NSZ.out y YV.out)).mono ?_
   rintro en w' ⟨hb',⟨-,-,-,rfl⟩|⟨-,ho,-⟩|⟨hg,-⟩⟩
   ·exact⟨rfl,hb'⟩
   ·exact absurd ho (by simp [XV.out,YV.out])
   exact absurd HG.out hg
  have CS:Hid (conflict (F0 ps e) x y=conflict (F0 ps e) ((vars (F0 ps e)).getD i ⟨#[]⟩) ((vars (F0 ps e)).getD j ⟨#[]⟩)):=by show _=_;rw [HX.out,HY.out]
  obtain⟨cf,hcf⟩:∃ b,b=conflict (F0 ps e) x y:=⟨_,rfl⟩
  rw [← hcf] at CF CS
  clear hcf
  obtain⟨q0,q1,q2,q3,q4,q5,q6,q7,q8,q9,q10⟩:=box11 Ob.out
  go_upto_region 20 with fail
  go_region_held3 (fun w'=>w'.cell? ⟨w.heap.size,0,none⟩=some (.string nm)∧w'.cell? ⟨w.heap.size,1,none⟩=some (.bool ch)∧w'.cell? ⟨w.heap.size,2,none⟩=some (.slice pa np pc)∧w'.cell? ⟨w.heap.size,3,none⟩=some (.int .i64 ek)∧w'.cell? ⟨w.heap.size,4,none⟩=some (.string en0)∧w'.cell? ⟨w.heap.size,5,none⟩=some (.string op)∧w'.cell? ⟨w.heap.size,6,none⟩=some (.int .i64 num)∧w'.cell? ⟨w.heap.size,7,none⟩=some (.int .i64 site)∧w'.cell? ⟨w.heap.size,8,none⟩=some (.slice xa na xc)∧w'.cell? ⟨w.heap.size,9,none⟩=some (.slice aa nc ca)∧w'.cell? ⟨w.heap.size,10,none⟩=some (.slice ab nb cb)∧w'.cell? ⟨fb,0,none⟩=some (.slice (some ⟨xg,xo,none⟩) nv svc)∧w'.cell? ⟨xg,xo+i,none⟩=some (.string x)∧w'.cell? ⟨xg,xo+j,none⟩=some (.string y)) ((go_split_ands;(refine⟨?_,?_,?_,?_,?_,?_,?_,?_,?_,?_,?_,?_,?_,?_⟩<;>(first | assumption | exact zd hb9 _ _ (by assumption))))) ((go_at_call 21;refine(CF.out _ ((zs9 _ _).drew)).mono ?_;rintro e9 w9 ⟨rfl,hb9⟩))
  rename World=>wc
  have hb:Below wb.heap.size wb wc:=(zs9 _ _).drew.trans hb9
  have BWc:Hid (Below w.heap.size w wc):=BWb.out.trans (hb.mono BWb.out.size)
  have KC:Hid (Below w5.heap.size w5 wc):=BBk.out.trans (hb.mono BBk.out.size)
  have Oc:=zh ((hb.block w.heap.size (by have:=L5.out;have:=BBk.out.size;omega)).trans Ob.out)
  clear q0 q1 q2 q3 q4 q5 q6 q7 q8 q9 q10 hb hb9 c0 xcell ycell CF Ob
  have c0:wc.cell? ⟨fb,0,none⟩=some (.slice (some ⟨xg,xo,none⟩) nv svc):=by rw [zb _ _ 0 _ _ _ (FC5.out.keep KC.out).row,HNV.out];rfl
  have xcell:=zd KC.out _ _ XC.out
  obtain⟨q0,q1,q2,q3,q4,q5,q6,q7,q8,q9,q10⟩:=box11 Oc.out
  by_cases h99:(⟨#[120,39,57,57]⟩:Nm)∈vars (F0 ps e)
  ·have H99:=zh h99
   have CF:Hid (∀ W,Below wc.heap.size wc W→Calls Tryz.prog 21 #[.agg #[.string nm,.bool ch,.slice pa np pc,.int .i64 ek,.string en0,.string op,.int .i64 num,.int .i64 site,.slice xa na xc,.slice aa nc ca,.slice ab nb cb],.string x,.string ⟨#[120,39,57,57]⟩] W (fun en w'=>en = .returned (.tuple #[.bool (conflict (F0 ps e) x ⟨#[120,39,57,57]⟩),.int .i64 0])∧Below W.heap.size W w')):=fun W hW=>by
    refine(conflict_any (HK.out.keep (BWc.out.trans (hW.mono BWc.out.size))) x ⟨#[120,39,57,57]⟩ (NSZ.out x XV.out) (by decide)).mono ?_
    rintro en w' ⟨hb',⟨-,-,-,rfl⟩|⟨-,ho,-⟩|⟨hg,-⟩⟩
    ·exact⟨rfl,hb'⟩
    ·exact absurd ho (by simp [XV.out,H99.out])
    exact absurd HG.out hg
   obtain⟨cq,hcq⟩:∃ b,b=conflict (F0 ps e) x ⟨#[120,39,57,57]⟩:=⟨_,rfl⟩
   rw [← hcq] at CF
   clear h99 hcq
   go_upto_region 21 with fail
   go_region_held3 (fun w'=>w'.cell? ⟨w.heap.size,0,none⟩=some (.string nm)∧w'.cell? ⟨w.heap.size,1,none⟩=some (.bool ch)∧w'.cell? ⟨w.heap.size,2,none⟩=some (.slice pa np pc)∧w'.cell? ⟨w.heap.size,3,none⟩=some (.int .i64 ek)∧w'.cell? ⟨w.heap.size,4,none⟩=some (.string en0)∧w'.cell? ⟨w.heap.size,5,none⟩=some (.string op)∧w'.cell? ⟨w.heap.size,6,none⟩=some (.int .i64 num)∧w'.cell? ⟨w.heap.size,7,none⟩=some (.int .i64 site)∧w'.cell? ⟨w.heap.size,8,none⟩=some (.slice xa na xc)∧w'.cell? ⟨w.heap.size,9,none⟩=some (.slice aa nc ca)∧w'.cell? ⟨w.heap.size,10,none⟩=some (.slice ab nb cb)∧w'.cell? ⟨fb,0,none⟩=some (.slice (some ⟨xg,xo,none⟩) nv svc)∧w'.cell? ⟨xg,xo+i,none⟩=some (.string x)) ((go_split_ands;(refine⟨?_,?_,?_,?_,?_,?_,?_,?_,?_,?_,?_,?_,?_⟩<;>(first | assumption | exact zd hb9 _ _ (by assumption))))) ((go_at_call 21;refine(CF.out _ ((zs9 _ _).drew)).mono ?_;rintro e9 w9 ⟨rfl,hb9⟩))
   rename World=>wd
   have hb:Below wc.heap.size wc wd:=(zs9 _ _).drew.trans hb9
   have KD:Hid (Below w5.heap.size w5 wd):=KC.out.trans (hb.mono KC.out.size)
   clear q0 q1 q2 q3 q4 q5 q6 q7 q8 q9 q10 hb hb9 c0 xcell CF
   have FD:=zh (findV_any ⟨#[120,39,57,57]⟩ (FL5.out.keep KD.out))
   go_wp2_with fail
   refine FD.out.mono ?_
   rintro en we ⟨hbe,⟨t,rfl,-⟩|⟨rfl,hno⟩⟩
   rotate_left
   ·exact absurd H99.out hno
   have t0:(0:Int)≤t:=by omega
   have KE:Hid (Below w5.heap.size w5 we):=KD.out.trans (hbe.mono KD.out.size)
   clear hbe FD
   have LVS:=zh (FL5.out.keep KE.out).lives
   go_wp2_with fail
   refine LVS.out.mono ?_
   rintro en wf ⟨hbf,lt,rfl,hlt⟩
   have KF:Hid (Below w5.heap.size w5 wf):=KE.out.trans (hbf.mono KE.out.size)
   have CN:=zh (conflictR_any (FL5.out.keep KF.out) hlt IL.out.1 IL.out.2)
   rw [← CS.out] at CN
   obtain⟨lg,lc,rfl,-⟩:=hlt.cells
   rw [← HN.out] at CN ⊢
   clear hbf hlt LVS
   go_wp2_with fail
   refine CN.out.mono ?_
   rintro en wg ⟨hbg,rfl⟩
   have KG:Hid (Below w5.heap.size w5 wg):=KF.out.trans (hbg.mono KF.out.size)
   clear hbg CN
   cases cf
   ·go_wp2_with fail
    go_ret
    exact⟨rfl,B5.out.trans (KG.out.mono B5.out.size)⟩
   go_wp2_with fail
   go_ret
   exact⟨rfl,B5.out.trans (KG.out.mono B5.out.size)⟩
  have CF:Hid (∀ W,Below wc.heap.size wc W→Calls Tryz.prog 21 #[.agg #[.string nm,.bool ch,.slice pa np pc,.int .i64 ek,.string en0,.string op,.int .i64 num,.int .i64 site,.slice xa na xc,.slice aa nc ca,.slice ab nb cb],.string x,.string ⟨#[120,39,57,57]⟩] W (fun en w'=>en = .returned (.tuple #[.bool false,.int .i64 3])∧Below W.heap.size W w')):=fun W hW=>by
   refine(conflict_any (HK.out.keep (BWc.out.trans (hW.mono BWc.out.size))) x ⟨#[120,39,57,57]⟩ (NSZ.out x XV.out) (by decide)).mono ?_
   rintro en w' ⟨hb',⟨-,-,h,-⟩|⟨-,ho,rfl⟩|⟨hg,-⟩⟩
   ·exact absurd h h99
   ·exact⟨rfl,hb'⟩
   exact absurd HG.out hg
  clear h99
  go_upto_region 21 with fail
  go_region_held3 (fun w'=>w'.cell? ⟨w.heap.size,0,none⟩=some (.string nm)∧w'.cell? ⟨w.heap.size,1,none⟩=some (.bool ch)∧w'.cell? ⟨w.heap.size,2,none⟩=some (.slice pa np pc)∧w'.cell? ⟨w.heap.size,3,none⟩=some (.int .i64 ek)∧w'.cell? ⟨w.heap.size,4,none⟩=some (.string en0)∧w'.cell? ⟨w.heap.size,5,none⟩=some (.string op)∧w'.cell? ⟨w.heap.size,6,none⟩=some (.int .i64 num)∧w'.cell? ⟨w.heap.size,7,none⟩=some (.int .i64 site)∧w'.cell? ⟨w.heap.size,8,none⟩=some (.slice xa na xc)∧w'.cell? ⟨w.heap.size,9,none⟩=some (.slice aa nc ca)∧w'.cell? ⟨w.heap.size,10,none⟩=some (.slice ab nb cb)∧w'.cell? ⟨fb,0,none⟩=some (.slice (some ⟨xg,xo,none⟩) nv svc)∧w'.cell? ⟨xg,xo+i,none⟩=some (.string x)) ((go_split_ands;(refine⟨?_,?_,?_,?_,?_,?_,?_,?_,?_,?_,?_,?_,?_⟩<;>(first | assumption | exact zd hb9 _ _ (by assumption))))) ((go_at_call 21;refine(CF.out _ ((zs9 _ _).drew)).mono ?_;rintro e9 w9 ⟨rfl,hb9⟩))
  rename World=>wd
  have hb:Below wc.heap.size wc wd:=(zs9 _ _).drew.trans hb9
  have KE:Hid (Below w5.heap.size w5 wd):=KC.out.trans (hb.mono KC.out.size)
  clear q0 q1 q2 q3 q4 q5 q6 q7 q8 q9 q10 hb hb9 c0 xcell CF
  have LVS:=zh (FL5.out.keep KE.out).lives
  go_wp2_with fail
  refine LVS.out.mono ?_
  rintro en wf ⟨hbf,lt,rfl,hlt⟩
  have KF:Hid (Below w5.heap.size w5 wf):=KE.out.trans (hbf.mono KE.out.size)
  have CN:=zh (conflictR_any (FL5.out.keep KF.out) hlt IL.out.1 IL.out.2)
  rw [← CS.out] at CN
  obtain⟨lg,lc,rfl,-⟩:=hlt.cells
  rw [← HN.out] at CN ⊢
  clear hbf hlt LVS
  go_wp2_with fail
  refine CN.out.mono ?_
  rintro en wg ⟨hbg,rfl⟩
  have KG:Hid (Below w5.heap.size w5 wg):=KF.out.trans (hbg.mono KF.out.size)
  clear hbg CN
  cases cf
  ·go_wp2_with fail
   go_ret
   exact⟨rfl,B5.out.trans (KG.out.mono B5.out.size)⟩
  go_wp2_with fail
  go_ret
  exact⟨rfl,B5.out.trans (KG.out.mono B5.out.size)⟩
 have dn0:decide (n0<0)=false:=by have:=HN.out;simp;omega
 have dn1:decide ((n:Int)≤n0)=true:=by have h1:=HN.out;rw [F0_length] at h1;simp;omega
 clear ho
 go_upto_region 10 with fail
 go_quiet (fail)
 obtain⟨w5,hw5⟩:∃ W,W=w4.drewN nq:=⟨_,rfl⟩
 have hb:Below w4.heap.size w4 w5:=by rw [hw5];exact zj _ _ _
 have B5:Hid (Below w.heap.size w w5):=B4.out.trans (hb.mono B4.out.size)
 have O5:=zh ((hb.block w.heap.size (by have:=L4.out;omega)).trans O4.out)
 have P5:=zh ((hb.block (w.heap.size+1) (by have:=L4.out;omega)).trans P4.out)
 have L5:Hid (w.heap.size+2≤w5.heap.size):=zr5 L4.out hb.size
 have FL5:=zh (FL4.out.keep hb)
 have FC5:=zh (FC4.out.keep hb)
 rw [← hw5]
 clear hb hw5 p0 c1 x6 dn0 dn1
 have c0:w5.cell? ⟨fb,0,none⟩=some (.slice sva nv svc):=by rw [zb _ _ 0 _ _ _ FC5.out.row,HNV.out];rfl
 by_cases hv0:nv=0
 ·have d0:((nv:Int)==0)=true:=by simp [hv0]
  have d0':(nv==0)=true:=by simp [hv0]
  have VN:Hid (vars (F0 ps e)=[]):=List.length_eq_zero_iff.1 (by rw [← HNV.out];exact hv0)
  have CF:=zh (conflict_any (HK.out.keep B5.out) ⟨#[97]⟩ ⟨#[98]⟩ (by decide) (by decide))
  obtain⟨q0,q1,q2,q3,q4,q5,q6,q7,q8,q9,q10⟩:=box11 O5.out
  go_wp2_with fail
  refine CF.out.mono ?_
  rintro en w9 ⟨hb,⟨-,ha,-⟩|⟨-,-,rfl⟩|⟨hg,-⟩⟩
  ·rw [VN.out] at ha;exact absurd ha (by simp)
  rotate_left
  ·exact absurd HG.out hg
  have B9:Hid (Below w.heap.size w w9):=B5.out.trans (hb.mono B5.out.size)
  clear q0 q1 q2 q3 q4 q5 q6 q7 q8 q9 q10 hb CF
  go_wp2_with fail
  go_ret
  exact⟨rfl,B9.out⟩
 have d0:((nv:Int)==0)=false:=by simp;omega
 have d0':(nv==0)=false:=by simp;omega
 have nvp:(0:Int)<nv:=by omega
 obtain⟨i,hi⟩:∃ i:Nat,n1 % (nv:Int)=i:=⟨(n1 % (nv:Int)).toNat,by have:=Int.emod_nonneg n1 (show (nv:Int)≠0 by omega);omega⟩
 have hil:(i:Int)<nv:=by rw [← hi];exact Int.emod_lt_of_pos _ nvp
 obtain⟨j,hj⟩:∃ j:Nat,n2 % (nv:Int)=j:=⟨(n2 % (nv:Int)).toNat,by have:=Int.emod_nonneg n2 (show (nv:Int)≠0 by omega);omega⟩
 have hjl:(j:Int)<nv:=by rw [← hj];exact Int.emod_lt_of_pos _ nvp
 have hi0:(0:Int)≤i:=by omega
 have hj0:(0:Int)≤j:=by omega
 have M1:Hid (∀ W:World,Calls Tryz.prog 22 #[.int .i64 n1,.int .i64 (nv:Int)] W fun e w'=>e = .returned (.int .i64 (i:Int))∧w'=W):=fun W=>by
  have h1:=modR_any W n1 (nv:Int) HN1.out nvp (by omega)
  rw [hi] at h1
  exact h1
 have M2:Hid (∀ W:World,Calls Tryz.prog 22 #[.int .i64 n2,.int .i64 (nv:Int)] W fun e w'=>e = .returned (.int .i64 (j:Int))∧w'=W):=fun W=>by
  have h1:=modR_any W n2 (nv:Int) HN2.out nvp (by omega)
  rw [hj] at h1
  exact h1
 have IL:Hid (i<(vars (F0 ps e)).length∧j<(vars (F0 ps e)).length):=by have:=HNV.out;show _∧_;omega
 obtain⟨x,hx⟩:∃ x,x=(vars (F0 ps e)).getD i ⟨#[]⟩:=⟨_,rfl⟩
 obtain⟨y,hy⟩:∃ y,y=(vars (F0 ps e)).getD j ⟨#[]⟩:=⟨_,rfl⟩
 have HX:=zh hx
 have HY:=zh hy
 have XV:Hid (x∈vars (F0 ps e)):=by show _∈_;rw [hx];exact getD_mem IL.out.1
 have YV:Hid (y∈vars (F0 ps e)):=by show _∈_;rw [hy];exact getD_mem IL.out.2
 obtain⟨xg,xo,rfl,xcell⟩:=FC5.out.names i IL.out.1
 obtain⟨xg',xo',hxe,ycell⟩:=FC5.out.names j IL.out.2
 simp only [zt3,Addr.mk.injEq,and_true] at hxe
 obtain⟨rfl,rfl⟩:=hxe
 rw [← hx] at xcell
 rw [← hy] at ycell
 have XC:=zh xcell
 have YC:=zh ycell
 have NSZ:Hid (∀ z∈vars (F0 ps e),z.size≤maxLen):=fun z hz=>by
  obtain⟨d,hd,hz⟩:=List.mem_flatMap.1 hz
  exact(HK.out.sz d hd).1 z hz
 have p1:w5.cell? ⟨w.heap.size+1,1,none⟩=some (.int .i64 n1):=by rw [zb _ _ 1 _ _ _ P5.out];rfl
 clear hv0 hi hj hx hy xcell ycell
 go_upto_region 18 with fail
 refine wp_region_still_tail 7 (by kernel_rfl) (by kernel_rfl) ?_
 simp only [List.take_succ_cons,List.take_zero,List.drop_succ_cons,List.drop_zero,World.drew_eq]
 iterate 7 still_step
 refine wpStill_nil ?_
 go_wp2_with fail
 refine(M1.out _).mono ?_
 rintro en w' ⟨rfl,rfl⟩
 clear p1
 obtain⟨wa,hwa⟩:∃ W,W=w5.drew:=⟨_,rfl⟩
 rw [← hwa]
 have AB:Hid (Below w5.heap.size w5 wa):=by show Below _ _ _;rw [hwa];exact(zs9 _ _).drew
 have c0:=zd AB.out _ _ c0
 have p2:wa.cell? ⟨w.heap.size+1,2,none⟩=some (.int .i64 n2):=by rw [zb _ _ 2 _ _ _ ((AB.out.block (w.heap.size+1) (by have:=L5.out;omega)).trans P5.out)];rfl
 clear hwa M1
 go_upto_region 19 with fail
 refine wp_region_still_tail 7 (by kernel_rfl) (by kernel_rfl) ?_
 simp only [List.take_succ_cons,List.take_zero,List.drop_succ_cons,List.drop_zero,World.drew_eq]
 iterate 7 still_step
 refine wpStill_nil ?_
 go_wp2_with fail
 refine(M2.out _).mono ?_
 rintro en w' ⟨rfl,rfl⟩
 clear p2
 obtain⟨wb,hwb⟩:∃ W,W=wa.drew:=⟨_,rfl⟩
 rw [← hwb]
 have BBk:Hid (Below w5.heap.size w5 wb):=by show Below _ _ _;rw [hwb];exact AB.out.drew
 clear hwb M2
 have hb:=BBk.out
 have c0:wb.cell? ⟨fb,0,none⟩=some (.slice (some ⟨xg,xo,none⟩) nv svc):=by rw [zb _ _ 0 _ _ _ (FC5.out.keep hb).row,HNV.out];rfl
 have xcell:=zd hb _ _ XC.out
 have ycell:=zd hb _ _ YC.out
 have BWb:Hid (Below w.heap.size w wb):=B5.out.trans (hb.mono B5.out.size)
 have Ob:=zh ((hb.block w.heap.size (by have:=L5.out;omega)).trans O5.out)
 clear hb
 have CF:Hid (∀ W,Below wb.heap.size wb W→Calls Tryz.prog 21 #[.agg #[.string nm,.bool ch,.slice pa np pc,.int .i64 ek,.string en0,.string op,.int .i64 num,.int .i64 site,.slice xa na xc,.slice aa nc ca,.slice ab nb cb],.string x,.string y] W (fun en w'=>en = .returned (.tuple #[.bool (conflict (F0 ps e) x y),.int .i64 0])∧Below W.heap.size W w')):=fun W hW=>by
  refine(conflict_any (HK.out.keep (BWb.out.trans (hW.mono BWb.out.size))) x y (NSZ.out x XV.out) (NSZ.out y YV.out)).mono ?_
  rintro en w' ⟨hb',⟨-,-,-,rfl⟩|⟨-,ho,-⟩|⟨hg,-⟩⟩
  ·exact⟨rfl,hb'⟩
  ·exact absurd ho (by simp [XV.out,YV.out])
  exact absurd HG.out hg
 have CS:Hid (conflict (F0 ps e) x y=conflict (F0 ps e) ((vars (F0 ps e)).getD i ⟨#[]⟩) ((vars (F0 ps e)).getD j ⟨#[]⟩)):=by show _=_;rw [HX.out,HY.out]
 obtain⟨cf,hcf⟩:∃ b,b=conflict (F0 ps e) x y:=⟨_,rfl⟩
 rw [← hcf] at CF CS
 clear hcf
 obtain⟨q0,q1,q2,q3,q4,q5,q6,q7,q8,q9,q10⟩:=box11 Ob.out
 go_upto_region 20 with fail
 go_region_held3 (fun w'=>w'.cell? ⟨w.heap.size,0,none⟩=some (.string nm)∧w'.cell? ⟨w.heap.size,1,none⟩=some (.bool ch)∧w'.cell? ⟨w.heap.size,2,none⟩=some (.slice pa np pc)∧w'.cell? ⟨w.heap.size,3,none⟩=some (.int .i64 ek)∧w'.cell? ⟨w.heap.size,4,none⟩=some (.string en0)∧w'.cell? ⟨w.heap.size,5,none⟩=some (.string op)∧w'.cell? ⟨w.heap.size,6,none⟩=some (.int .i64 num)∧w'.cell? ⟨w.heap.size,7,none⟩=some (.int .i64 site)∧w'.cell? ⟨w.heap.size,8,none⟩=some (.slice xa na xc)∧w'.cell? ⟨w.heap.size,9,none⟩=some (.slice aa nc ca)∧w'.cell? ⟨w.heap.size,10,none⟩=some (.slice ab nb cb)∧w'.cell? ⟨fb,0,none⟩=some (.slice (some ⟨xg,xo,none⟩) nv svc)∧w'.cell? ⟨xg,xo+i,none⟩=some (.string x)∧w'.cell? ⟨xg,xo+j,none⟩=some (.string y)) ((go_split_ands;(refine⟨?_,?_,?_,?_,?_,?_,?_,?_,?_,?_,?_,?_,?_,?_⟩<;>(first | assumption | exact zd hb9 _ _ (by assumption))))) ((go_at_call 21;refine(CF.out _ ((zs9 _ _).drew)).mono ?_;rintro e9 w9 ⟨rfl,hb9⟩))
 rename World=>wc
 have hb:Below wb.heap.size wb wc:=(zs9 _ _).drew.trans hb9
 have BWc:Hid (Below w.heap.size w wc):=BWb.out.trans (hb.mono BWb.out.size)
 have KC:Hid (Below w5.heap.size w5 wc):=BBk.out.trans (hb.mono BBk.out.size)
 have Oc:=zh ((hb.block w.heap.size (by have:=L5.out;have:=BBk.out.size;omega)).trans Ob.out)
 clear q0 q1 q2 q3 q4 q5 q6 q7 q8 q9 q10 hb hb9 c0 xcell ycell CF Ob
 have c0:wc.cell? ⟨fb,0,none⟩=some (.slice (some ⟨xg,xo,none⟩) nv svc):=by rw [zb _ _ 0 _ _ _ (FC5.out.keep KC.out).row,HNV.out];rfl
 have xcell:=zd KC.out _ _ XC.out
 obtain⟨q0,q1,q2,q3,q4,q5,q6,q7,q8,q9,q10⟩:=box11 Oc.out
 by_cases h99:(⟨#[120,39,57,57]⟩:Nm)∈vars (F0 ps e)
 ·have H99:=zh h99
  have CF:Hid (∀ W,Below wc.heap.size wc W→Calls Tryz.prog 21 #[.agg #[.string nm,.bool ch,.slice pa np pc,.int .i64 ek,.string en0,.string op,.int .i64 num,.int .i64 site,.slice xa na xc,.slice aa nc ca,.slice ab nb cb],.string x,.string ⟨#[120,39,57,57]⟩] W (fun en w'=>en = .returned (.tuple #[.bool (conflict (F0 ps e) x ⟨#[120,39,57,57]⟩),.int .i64 0])∧Below W.heap.size W w')):=fun W hW=>by
   refine(conflict_any (HK.out.keep (BWc.out.trans (hW.mono BWc.out.size))) x ⟨#[120,39,57,57]⟩ (NSZ.out x XV.out) (by decide)).mono ?_
   rintro en w' ⟨hb',⟨-,-,-,rfl⟩|⟨-,ho,-⟩|⟨hg,-⟩⟩
   ·exact⟨rfl,hb'⟩
   ·exact absurd ho (by simp [XV.out,H99.out])
   exact absurd HG.out hg
  obtain⟨cq,hcq⟩:∃ b,b=conflict (F0 ps e) x ⟨#[120,39,57,57]⟩:=⟨_,rfl⟩
  rw [← hcq] at CF
  clear h99 hcq
  go_upto_region 21 with fail
  go_region_held3 (fun w'=>w'.cell? ⟨w.heap.size,0,none⟩=some (.string nm)∧w'.cell? ⟨w.heap.size,1,none⟩=some (.bool ch)∧w'.cell? ⟨w.heap.size,2,none⟩=some (.slice pa np pc)∧w'.cell? ⟨w.heap.size,3,none⟩=some (.int .i64 ek)∧w'.cell? ⟨w.heap.size,4,none⟩=some (.string en0)∧w'.cell? ⟨w.heap.size,5,none⟩=some (.string op)∧w'.cell? ⟨w.heap.size,6,none⟩=some (.int .i64 num)∧w'.cell? ⟨w.heap.size,7,none⟩=some (.int .i64 site)∧w'.cell? ⟨w.heap.size,8,none⟩=some (.slice xa na xc)∧w'.cell? ⟨w.heap.size,9,none⟩=some (.slice aa nc ca)∧w'.cell? ⟨w.heap.size,10,none⟩=some (.slice ab nb cb)∧w'.cell? ⟨fb,0,none⟩=some (.slice (some ⟨xg,xo,none⟩) nv svc)∧w'.cell? ⟨xg,xo+i,none⟩=some (.string x)) ((go_split_ands;(refine⟨?_,?_,?_,?_,?_,?_,?_,?_,?_,?_,?_,?_,?_⟩<;>(first | assumption | exact zd hb9 _ _ (by assumption))))) ((go_at_call 21;refine(CF.out _ ((zs9 _ _).drew)).mono ?_;rintro e9 w9 ⟨rfl,hb9⟩))
  rename World=>wd
  have hb:Below wc.heap.size wc wd:=(zs9 _ _).drew.trans hb9
  have KD:Hid (Below w5.heap.size w5 wd):=KC.out.trans (hb.mono KC.out.size)
  clear q0 q1 q2 q3 q4 q5 q6 q7 q8 q9 q10 hb hb9 c0 xcell CF
  have FD:=zh (findV_any ⟨#[120,39,57,57]⟩ (FL5.out.keep KD.out))
  go_wp2_with fail
  refine FD.out.mono ?_
  rintro en we ⟨hbe,⟨t,rfl,-⟩|⟨rfl,hno⟩⟩
  rotate_left
  ·exact absurd H99.out hno
  have t0:(0:Int)≤t:=by omega
  have KE:Hid (Below w5.heap.size w5 we):=KD.out.trans (hbe.mono KD.out.size)
  clear hbe FD
  have LVS:=zh (FL5.out.keep KE.out).lives
  go_wp2_with fail
  refine LVS.out.mono ?_
  rintro en wf ⟨hbf,lt,rfl,hlt⟩
  have KF:Hid (Below w5.heap.size w5 wf):=KE.out.trans (hbf.mono KE.out.size)
  have CN:=zh (conflictR_any (FL5.out.keep KF.out) hlt IL.out.1 IL.out.2)
  rw [← CS.out] at CN
  obtain⟨lg,lc,rfl,-⟩:=hlt.cells
  rw [← HN.out] at CN ⊢
  clear hbf hlt LVS
  go_wp2_with fail
  refine CN.out.mono ?_
  rintro en wg ⟨hbg,rfl⟩
  have KG:Hid (Below w5.heap.size w5 wg):=KF.out.trans (hbg.mono KF.out.size)
  clear hbg CN
  cases cf
  ·go_wp2_with fail
   go_ret
   exact⟨rfl,B5.out.trans (KG.out.mono B5.out.size)⟩
  go_wp2_with fail
  go_ret
  exact⟨rfl,B5.out.trans (KG.out.mono B5.out.size)⟩
 have CF:Hid (∀ W,Below wc.heap.size wc W→Calls Tryz.prog 21 #[.agg #[.string nm,.bool ch,.slice pa np pc,.int .i64 ek,.string en0,.string op,.int .i64 num,.int .i64 site,.slice xa na xc,.slice aa nc ca,.slice ab nb cb],.string x,.string ⟨#[120,39,57,57]⟩] W (fun en w'=>en = .returned (.tuple #[.bool false,.int .i64 3])∧Below W.heap.size W w')):=fun W hW=>by
  refine(conflict_any (HK.out.keep (BWc.out.trans (hW.mono BWc.out.size))) x ⟨#[120,39,57,57]⟩ (NSZ.out x XV.out) (by decide)).mono ?_
  rintro en w' ⟨hb',⟨-,-,h,-⟩|⟨-,ho,rfl⟩|⟨hg,-⟩⟩
  ·exact absurd h h99
  ·exact⟨rfl,hb'⟩
  exact absurd HG.out hg
 clear h99
 go_upto_region 21 with fail
 go_region_held3 (fun w'=>w'.cell? ⟨w.heap.size,0,none⟩=some (.string nm)∧w'.cell? ⟨w.heap.size,1,none⟩=some (.bool ch)∧w'.cell? ⟨w.heap.size,2,none⟩=some (.slice pa np pc)∧w'.cell? ⟨w.heap.size,3,none⟩=some (.int .i64 ek)∧w'.cell? ⟨w.heap.size,4,none⟩=some (.string en0)∧w'.cell? ⟨w.heap.size,5,none⟩=some (.string op)∧w'.cell? ⟨w.heap.size,6,none⟩=some (.int .i64 num)∧w'.cell? ⟨w.heap.size,7,none⟩=some (.int .i64 site)∧w'.cell? ⟨w.heap.size,8,none⟩=some (.slice xa na xc)∧w'.cell? ⟨w.heap.size,9,none⟩=some (.slice aa nc ca)∧w'.cell? ⟨w.heap.size,10,none⟩=some (.slice ab nb cb)∧w'.cell? ⟨fb,0,none⟩=some (.slice (some ⟨xg,xo,none⟩) nv svc)∧w'.cell? ⟨xg,xo+i,none⟩=some (.string x)) ((go_split_ands;(refine⟨?_,?_,?_,?_,?_,?_,?_,?_,?_,?_,?_,?_,?_⟩<;>(first | assumption | exact zd hb9 _ _ (by assumption))))) ((go_at_call 21;refine(CF.out _ ((zs9 _ _).drew)).mono ?_;rintro e9 w9 ⟨rfl,hb9⟩))
 rename World=>wd
 have hb:Below wc.heap.size wc wd:=(zs9 _ _).drew.trans hb9
 have KE:Hid (Below w5.heap.size w5 wd):=KC.out.trans (hb.mono KC.out.size)
 clear q0 q1 q2 q3 q4 q5 q6 q7 q8 q9 q10 hb hb9 c0 xcell CF
 have LVS:=zh (FL5.out.keep KE.out).lives
 go_wp2_with fail
 refine LVS.out.mono ?_
 rintro en wf ⟨hbf,lt,rfl,hlt⟩
 have KF:Hid (Below w5.heap.size w5 wf):=KE.out.trans (hbf.mono KE.out.size)
 have CN:=zh (conflictR_any (FL5.out.keep KF.out) hlt IL.out.1 IL.out.2)
 rw [← CS.out] at CN
 obtain⟨lg,lc,rfl,-⟩:=hlt.cells
 rw [← HN.out] at CN ⊢
 clear hbf hlt LVS
 go_wp2_with fail
 refine CN.out.mono ?_
 rintro en wg ⟨hbg,rfl⟩
 have KG:Hid (Below w5.heap.size w5 wg):=KF.out.trans (hbg.mono KF.out.size)
 clear hbg CN
 cases cf
 ·go_wp2_with fail
  go_ret
  exact⟨rfl,B5.out.trans (KG.out.mono B5.out.size)⟩
 go_wp2_with fail
 go_ret
 exact⟨rfl,B5.out.trans (KG.out.mono B5.out.size)⟩
end Go.Proofs.YtnkahlloahgifaaGreatDoor
