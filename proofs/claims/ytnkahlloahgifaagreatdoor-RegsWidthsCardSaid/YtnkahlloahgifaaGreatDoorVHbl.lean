/- Part. -/
import Derived.Test.YtnkahlloahgifaaGreatDoorVEob
import Derived.Test.YtnkahlloahgifaaGreatDoorVGca
import Derived.Test.YtnkahlloahgifaaGreatDoorVGcc
import Derived.Test.YtnkahlloahgifaaGreatDoorVGgg
import Derived.Test.YtnkahlloahgifaaGreatDoorVPtl
set_option maxHeartbeats 16000000
set_option maxRecDepth 100000
set_option linter.unusedSimpArgs false
set_option linter.unusedVariables false
namespace Go.Proofs.YtnkahlloahgifaaGreatDoor
open Go.RowKit RG Go.Maps
theorem FMap.made (w:World) (σ:Int→Int):FMap (w.alloc (.map #[] 0)) w.heap.size (fun _=>false) σ 0:=⟨[],IMap.made _ w,zr4 _,fun k=>by simp [ikey],fun k v h=>absurd h (by simp)⟩
end Go.Proofs.YtnkahlloahgifaaGreatDoor
namespace Go.Proofs.YtnkahlloahgifaaGreatDoor
open Go.RowKit RG Go.Maps RF
def CrdP (isName:Nm→Bool) (w:World) (ps:List Nm) (e:TE) (en:Ending) (w':World):Prop :=
 Below w.heap.size w w'∧((RG.Good isName ps e∧∃ v,en = .returned (.tuple #[v,.int .i64 0])∧StrsAt w' v (crowd (F0 ps e)))∨(¬ RG.Good isName ps e∧en = .returned (.tuple #[.slice none 0 0,.int .i64 160])))
theorem crowdFn_any (SORT:SortLaw) {Env:World→Prop}{isName:Nm→Bool}{w:World}{v:Value}{ps:List Nm}{e:TE}(h:FnOk Env isName w v ps e):Calls Tryz.prog 29 #[v] w (CrdP isName w ps e):=by
 have RD:=zh h.boxed
 have HSO:=zh SORT
 obtain⟨cs,rfl⟩:=h.cells
 clear h SORT
 go_enter Tryz.func29,Tryz.ntmps29
 go_wp2_with fail
 refine RD.out.mono ?_
 have B0:Hid (Below w.heap.size w (w.alloc (.cells cs 29))):=(zs9 _ _).alloc (zr4 _) _
 rintro en w1 ⟨hb,⟨hg,A,f,rfl,hfl⟩|⟨hng,rfl⟩⟩
 ·have HB:Hid (Below w.heap.size w w1):=B0.out.trans (hb.mono B0.out.size)
  have HG:=zh hg
  have HF:=zh hfl
  clear hb hg hfl
  go_wp2_with fail
  refine(crowd_any HF.out).mono ?_
  rintro en w2 ⟨b,q,rfl,hs,hc,hb2⟩
  have HB2:Hid (Below w.heap.size w w2):=HB.out.trans (hb2.mono HB.out.size)
  have HF2:=zh (HF.out.keep hb2)
  have HS:=zh hs
  have HC:=zh hc
  clear hs hc hb2
  go_wp2_with fail
  refine(named_any HSO.out HF2.out HS.out).mono ?_
  intro en w3 hnm
  obtain⟨a,c,rfl,hst,hb3⟩:=hnm.strs
  have HST:=zh hst
  have HB3:Hid (Below w.heap.size w w3):=HB2.out.trans (hb3.mono HB2.out.size)
  clear hnm hst hb3
  obtain⟨n,hn⟩:∃ n,n=(named (F0 ps e) q).length:=⟨_,rfl⟩
  rw [← hn] at HST ⊢
  clear hn
  go_wp2_with fail
  go_ret2
  exact⟨HB3.out,.inl ⟨HG.out,_,rfl,by rw [HC.out];exact HST.out⟩⟩
 have HB:Hid (Below w.heap.size w w1):=B0.out.trans (hb.mono B0.out.size)
 have HG:=zh hng
 clear hb hng
 go_wp2_with fail
 go_ret2
 exact⟨HB.out,.inr ⟨HG.out,rfl⟩⟩
end Go.Proofs.YtnkahlloahgifaaGreatDoor
namespace Go.Proofs.YtnkahlloahgifaaGreatDoor
open Go.RowKit RG Go.Maps RF
theorem vrCells_append (a b:List (Nm×Int)):vrCells (a++b)=vrCells a++vrCells b:=by unfold vrCells;rw [List.flatMap_append]
theorem VrOwn.vars {w:World}{base:Nat}{v:Value}{l:List (Nm×Int)}(h:VrOwn w base v l) (h0:0<l.length):VarsAt w v l:=by
 obtain⟨g,cap,cur,rfl,-,hg,hat⟩:=h.block h0
 refine⟨some ⟨g,0,none⟩,cap,rfl,fun _=>⟨g,0,rfl,fun i m hi=>?_⟩⟩
 obtain⟨a,b⟩:=hat i m hi
 rw [Nat.zero_add]
 exact⟨by rw [zb _ _ _ _ _ _ hg];exact a,by rw [zb _ _ _ _ _ _ hg];exact b⟩
end Go.Proofs.YtnkahlloahgifaaGreatDoor
namespace Go.Proofs.YtnkahlloahgifaaGreatDoor
open Go.RowKit RG Go.Maps RF
variable {w w':World} {fb:Nat} {F:List Nd} {sva:Option Addr} {svc ug uo uc ng no nc bg bo bc ag ao ac:Nat} {so:Value}
theorem LivesR.keep {v:Value}(h:LivesR w v F) (hb:Below w.heap.size w w'):LivesR w' v F:=h.kept (zd hb)
def crowdL (F:List Nd) (i:Nat):List Nat:=((crowdP F i).getD []).map (place F)
theorem crowdL_new {i:Nat}(h:Fo F) (hg:mostI (crowdP F i)<((around F i).length:Nat)):crowdL F (i+1)=posn F (fun x=>cross F i x||has (nd F i).binds x) (vars F).length:=by
 unfold crowdL
 rw [crowdP_succ,if_pos hg]
 exact posn_place h.once _
theorem crowdL_old {i:Nat}(hg:¬ mostI (crowdP F i)<((around F i).length:Nat)):crowdL F (i+1)=crowdL F i:=by
 unfold crowdL
 rw [crowdP_succ,if_neg hg]
theorem rowB_dec {q:Nm→Bool}{b n:Nat}{A:Nat→Bool}(h:RowT w b n A) (hn:n=(vars F).length) (hA:∀ p,p<(vars F).length→A p=q ((vars F).getD p ⟨#[]⟩)):SlAt w (.slice (some ⟨b,0,none⟩) n n) (vars F).length (rowB F q) :=
 RowT.slat (q:=q) (h.congr fun p hp=>hA p (by omega)) hn
theorem RowT.set_mem {b n k p:Nat}{l:List Nat}{X:Nat→Bool}(h:RowT w b n fun q=>X q||decide (q∈l.take k)) (hp:l[k]?=some p):RowT (w.setCell ⟨b,p,none⟩ (.bool true)) b n fun q=>X q||decide (q∈l.take (k+1)) :=
 RowT.set h p true fun q hq=>by
  rw [List.take_add_one,hp]
  by_cases e:q=p
  ·subst e;simp
  rw [if_neg e];simp [e]
theorem crowdR_any (h:FlF w fb F):Calls Tryz.prog 31 #[.pointer (some ⟨fb,0,none⟩)] w fun e w'=>Below w.heap.size w w'∧∃ u,e = .returned (.tuple #[u,.int .i64 (width F:Nat)])∧SlAt w' u ((crowd F).map (place F)).length (nats ((crowd F).map (place F))):=by
 obtain⟨sva,svc,ug,uo,uc,ng,no,nc,bg,bo,bc,ag,ao,ac,so,hC⟩:=h.cells
 have HF:=zh h
 have HC:=zh hC
 have LV:=zh h.lives
 obtain⟨n,hn⟩:∃ n,n=F.length:=⟨_,rfl⟩
 obtain⟨nv,hnv⟩:∃ n,n=(vars F).length:=⟨_,rfl⟩
 have HN:=zh hn
 have HNV:=zh hnv
 have nz:(n:Int)≤300:=by have:=h.len;omega
 have nvz:(nv:Int)≤300:=by have:=h.few;omega
 have NVZ:=zh nvz
 obtain⟨i4,h40,h41,h42,h43⟩:=info_parts Tryz.info4u
 have hmt:∀ W:World,(Instr.makeSlice 112 (.int .i64 (nv:Int)) (.int .i64 (nv:Int))).run Tryz.prog W = .ok (.slice (some ⟨W.heap.size,0,none⟩) nv nv) (W.alloc (.cells (madeCells #[.bool false] nv) 4)):=fun W=>by
  have:=run_make (P:=Tryz.prog) W 112 4 i4 (.bool false) Tryz.underlying112 h40 h41 .i64 .i64 (nv:Int) (nv:Int) (by omega) (Int.le_refl _) (by rw [h43];omega) (by omega)
  rw [h42,Int.toNat_natCast,Nat.mul_one] at this
  exact this
 have HMT:=zh hmt
 clear h hC hn hnv hmt h40 h41 h42 h43
 go_enter Tryz.func31,Tryz.ntmps31
 go_wp2_with fail
 refine LV.out.mono ?_
 rintro en w1 ⟨hb1,lt,rfl,hlt⟩
 have B1:=zh hb1
 have HL:=zh hlt
 obtain⟨lg,lc,rfl,-⟩:=hlt.cells
 rw [← HN.out] at HL ⊢
 clear hb1 hlt LV
 go_wp2_with fail
 go_loopw [5,6,7] (fun mv ov iv wr=>∃ i:Nat,i≤n∧iv = .int .i64 i∧mv = .int .i64 (mostI (crowdP F i))∧SlAt wr ov (crowdL F i).length (nats (crowdL F i))∧Below w1.heap.size w1 wr) (fun _ _ iv _=>n - (intOf iv).toNat)
 case atStart=>exact⟨0,Nat.zero_le _,rfl,rfl,⟨rfl,none,0,rfl,fun h0=>absurd h0 (Nat.lt_irrefl _)⟩,zs9 _ _⟩
 rename World=>V
 obtain⟨i,hi,rfl,rfl,hs,hb⟩:=hrel
 have KI:=zh hi
 have KS:=zh hs
 have KB:=zh hb
 have BW:Hid (Below w.heap.size w V):=B1.out.trans (hb.mono B1.out.size)
 obtain⟨-,oa,oc,rfl,-⟩:=id hs
 obtain⟨mz,hmz⟩:∃ m,m=mostI (crowdP F i):=⟨_,rfl⟩
 have MZ1 : -1≤mz:=by rw [hmz];exact mostI_ge _
 have MZ2:mz≤300:=by rw [hmz];exact mostI_le (N:=300) HF.out.few i
 obtain⟨nl0,hnl0⟩:∃ n,n=(crowdL F i).length:=⟨_,rfl⟩
 rw [← hmz,← hnl0]
 rw [← hnl0] at KS
 have HNL0:=zh hnl0
 have HMZ:=zh hmz
 have c3:V.cell? ⟨fb,3,none⟩=some (.slice (some ⟨bg,bo,none⟩) n bc):=by rw [zb _ _ 3 _ _ _ (zm BW.out HC.out.row),HN.out];rfl
 clear hi hs hb hmz hnl0
 by_cases hlt:i<n
 ·have hiz:(i:Int)<n:=by omega
  have hi0:(0:Int)≤i:=by omega
  have HLT:=zh hlt
  have IF:Hid (i<F.length):=by rw [← HN.out];exact hlt
  have CR:=zh (crosses_any (HF.out.keep BW.out) (HL.out.keep KB.out) IF.out)
  clear hlt
  go_wp2_with fail
  refine CR.out.mono ?_
  rintro en w2 ⟨hb2,u2,rfl,hu2⟩
  have B2:Hid (Below w1.heap.size w1 w2):=KB.out.trans (hb2.mono KB.out.size)
  have BW2:Hid (Below w.heap.size w w2):=B1.out.trans (B2.out.mono B1.out.size)
  have KS2:=zh (KS.out.kept (zd hb2))
  obtain⟨l,hl⟩:∃ l,l=posn F (cross F i) (vars F).length:=⟨_,rfl⟩
  rw [← hl] at hu2
  have HLL:=zh hl
  obtain⟨-,xa,xc,rfl,xat⟩:=id hu2
  have XAT:=zh xat
  obtain⟨nl,hnl⟩:∃ n,n=l.length:=⟨_,rfl⟩
  have NLZ:Hid (nl≤300):=by show _≤_;rw [hnl,hl];exact zr5 (posn_len _ _ _) HF.out.few
  rw [← hnl] at XAT ⊢
  have HNL:=zh hnl
  have nlz:(nl:Int)≤300:=by have:=NLZ.out;omega
  obtain⟨br,hbr⟩:∃ l,l=BR F i:=⟨_,rfl⟩
  obtain⟨bad,bcc,b1,b2⟩:=HC.out.binds i IF.out
  have BL:=zh (HC.out.blen IF.out)
  rw [← hbr] at b1 b2 BL
  have HBR:=zh hbr
  obtain⟨nb,hnb⟩:∃ n,n=br.length:=⟨_,rfl⟩
  rw [← hnb] at b1 b2 BL
  have HNB:=zh hnb
  have BB1:=zh b1
  have BB2:=zh b2
  have nbz:(nb:Int)≤300:=by have:=BL.out;omega
  have SUM:Hid (nl+nb=(around F i).length):=by
   show _=_
   rw [← cross_around_len HF.out.fo IF.out,hnl,hl,hnb,hbr]
   unfold BR
   rw [List.length_map,← posn_place HF.out.fo.once,List.length_map]
  have c3:w2.cell? ⟨fb,3,none⟩=some (.slice (some ⟨bg,bo,none⟩) n bc):=by rw [zb _ _ 3 _ _ _ (zm BW2.out HC.out.row),HN.out];rfl
  have y1:=zd BW2.out _ _ b1
  clear hb2 hu2 hl xat hnl hbr b1 b2 hnb CR KS
  by_cases hgt:mz<(nl:Int)+nb
  ·have GT:Hid (mostI (crowdP F i)<((around F i).length:Nat)):=by have:=HMZ.out;have:=SUM.out;show _<_;omega
   have hms:=HMT.out w2
   have c0:w2.cell? ⟨fb,0,none⟩=some (.slice sva nv svc):=by rw [zb _ _ 0 _ _ _ (zm BW2.out HC.out.row),HNV.out];rfl
   have T3:Hid (RowT (w2.alloc (.cells (madeCells #[.bool false] nv) 4)) w2.heap.size nv fun _=>false):=World.rowIs_made w2 (.bool false) nv 4
   obtain⟨MB,hMB⟩:∃ m,m=madeCells #[Value.bool false] nv:=⟨_,rfl⟩
   rw [← hMB] at hms T3
   obtain⟨b,hbb⟩:∃ b,b=w2.heap.size:=⟨_,rfl⟩
   have HBB:=zh hbb
   have B3:Hid (Below b w2 (w2.alloc (.cells MB 4))):=by rw [hbb];exact(zs9 _ _).alloc (zr4 _) _
   rw [← hbb] at hms T3
   clear hMB hbb
   go_wp2_with fail
   clear hms c3 c0 y1
   go_loopw [10] (fun iv wr=>∃ k:Nat,k≤nl∧iv = .int .i64 k∧Below b w2 wr∧RowT wr b nv fun q=>false||decide (q∈l.take k)) (fun iv _=>nl - (intOf iv).toNat)
   case atStart=>exact⟨0,Nat.zero_le _,rfl,B3.out,T3.out.congr fun p hp=>by simp⟩
   rename World=>wk
   obtain⟨k,hk,rfl,hb,hrt⟩:=hrel
   have KK:=zh hk
   have KB2:=zh hb
   have KT:=zh hrt
   clear hk hb hrt
   by_cases hlt:k<nl
   ·have hkz:(k:Int)<nl:=by omega
    have hk0:(0:Int)≤k:=by omega
    have KLT:=zh hlt
    obtain⟨p,hp⟩:∃ p,l[k]?=some p:=⟨_,zq9 (by have:=HNL.out;omega)⟩
    have hpv:p<nv:=by
     have:=zr1 hp
     rw [HLL.out] at this
     rw [HNV.out]
     exact(mem_posn.1 this).1
    have hpz:(p:Int)<nv:=by omega
    have hp0:(0:Int)≤p:=by omega
    obtain⟨g,o,rfl,xat⟩:=XAT.out (by omega)
    have x1:=zd (by have h1:=KB2.out;rw [HBB.out] at h1;exact h1) _ _ (xat k _ (nats_at hp))
    have e1:=World.rowIs.cell KT.out hpv
    have ef:=World.rowIs.frozen KT.out p
    have NEXT:=zh (RowT.set_mem KT.out hp)
    obtain⟨A1,hA1⟩:∃ x,x=(false||decide (p∈l.take k)):=⟨_,rfl⟩
    (try simp only [] at e1)
    rw [← hA1] at e1
    clear hlt hp hpv xat hA1
    go_wp2_with fail
    go_roundw
    case rel=>exact⟨k+1,KLT.out,by go_num,KB2.out.setCell (zr4 _) _,NEXT.out⟩
    case measure=>have:=KLT.out;simp [intOf];omega
   have hkz:(nl:Int)≤k:=by omega
   have hdk:decide (k<nl)=false:=by simp;omega
   have T4:Hid (RowT wk b nv fun q=>decide (q∈l)||decide (q∈br.take 0)):=KT.out.congr fun p hp=>by rw [zr3 (by have:=HNL.out;omega)];simp
   have B4:=KB2
   clear hlt KK KB2 KT T3 B3
   go_wp2_with fail
   go_loopw [11] (fun iv wr=>∃ k:Nat,k≤nb∧iv = .int .i64 k∧Below b w2 wr∧RowT wr b nv fun q=>decide (q∈l)||decide (q∈br.take k)) (fun iv _=>nb - (intOf iv).toNat)
   case atStart=>exact⟨0,Nat.zero_le _,rfl,B4.out,T4.out⟩
   rename World=>wm
   obtain⟨k,hk,rfl,hb,hrt⟩:=hrel
   have KK:=zh hk
   have KB2:=zh hb
   have KT:=zh hrt
   have B5:Hid (Below w2.heap.size w2 wm):=by have h1:=hb;rw [HBB.out] at h1;exact h1
   have BW5:Hid (Below w.heap.size w wm):=BW2.out.trans (B5.out.mono BW2.out.size)
   have c3:wm.cell? ⟨fb,3,none⟩=some (.slice (some ⟨bg,bo,none⟩) n bc):=by rw [zb _ _ 3 _ _ _ (zm BW5.out HC.out.row),HN.out];rfl
   have y1:=zd BW5.out _ _ BB1.out
   clear hk hb hrt
   by_cases hlt:k<nb
   ·have hkz:(k:Int)<nb:=by omega
    have hk0:(0:Int)≤k:=by omega
    have KLT:=zh hlt
    obtain⟨p,hp⟩:∃ p,br[k]?=some p:=⟨_,zq9 (by have:=HNB.out;omega)⟩
    have hpv:p<nv:=by
     have:=zr1 hp
     rw [HBR.out] at this
     obtain⟨x,hx,rfl⟩:=List.mem_map.1 this
     rw [HNV.out]
     exact place_lt (binds_vars IF.out hx)
    have hpz:(p:Int)<nv:=by omega
    have hp0:(0:Int)≤p:=by omega
    obtain⟨g,o,rfl,hx1⟩:=(show SlAt w (.slice bad br.length bcc) br.length (nats br) by have:=BB2.out;rw [HNB.out] at this;exact this).nat hp
    have x1:=zd BW5.out _ _ hx1
    have e1:=World.rowIs.cell KT.out hpv
    have ef:=World.rowIs.frozen KT.out p
    have NEXT:=zh (RowT.set_mem KT.out hp)
    obtain⟨A1,hA1⟩:∃ x,x=(decide (p∈l)||decide (p∈br.take k)):=⟨_,rfl⟩
    (try simp only [] at e1)
    rw [← hA1] at e1
    clear hlt hp hpv hx1 hA1
    go_wp2_with fail
    go_roundw
    case rel=>exact⟨k+1,KLT.out,by go_num,KB2.out.setCell (zr4 _) _,NEXT.out⟩
    case measure=>have:=KLT.out;simp [intOf];omega
   have hkz:(nb:Int)≤k:=by omega
   have hdk:decide (k<nb)=false:=by simp;omega
   have SL:=zh (rowB_dec (F:=F) (q:=fun x=>cross F i x||has (nd F i).binds x) KT.out HNV.out (fun p hp=>by
    rw [zr3 (by have:=HNB.out;omega),HLL.out,HBR.out]
    exact HF.out.fo.around_dec IF.out hp))
   have RS:=zh (risingR_any SL.out (zr5 HF.out.few (by omega)))
   clear hlt
   go_wp2_with fail
   refine RS.out.mono ?_
   rintro en w6 ⟨hb6,u6,rfl,hu6⟩
   have B6:Hid (Below w1.heap.size w1 w6):=B2.out.trans ((B5.out.trans (hb6.mono B5.out.size)).mono B2.out.size)
   have HU6:Hid (SlAt w6 u6 (crowdL F (i+1)).length (nats (crowdL F (i+1)))):=by
    rw [crowdL_new HF.out.fo GT.out];exact hu6
   have MN:Hid ((nl:Int)+nb=mostI (crowdP F (i+1))):=by
    show _=_
    rw [crowdP_succ,if_pos GT.out]
    show _=(((around F i).length:Nat):Int)
    rw [← SUM.out];omega
   clear hb6 hu6 c3 y1 RS
   go_wp2_with fail
   go_roundw
   case rel=>exact⟨i+1,HLT.out,by go_num,by rw [← MN.out],HU6.out,B6.out⟩
   case measure=>have:=HLT.out;simp [intOf];omega
  have hgt':(nl:Int)+nb≤mz:=by omega
  have GT0:¬ mostI (crowdP F i)<((around F i).length:Nat):=by have:=HMZ.out;have:=SUM.out;omega
  have MN:Hid (mostI (crowdP F (i+1))=mz):=by show _=_;rw [HMZ.out,crowdP_succ,if_neg GT0]
  have CN:Hid (crowdL F (i+1)=crowdL F i):=crowdL_old GT0
  clear GT0
  clear hgt
  go_wp2_with fail
  go_roundw
  case rel=>exact⟨i+1,HLT.out,by go_num,by rw [MN.out],by rw [CN.out,← HNL0.out];exact KS2.out,B2.out⟩
  case measure=>have:=HLT.out;simp [intOf];omega
 obtain rfl:i=n:=by have:=KI.out;omega
 have hdi:decide (i<i)=false:=by simp
 obtain⟨l,hl1,hl2⟩:=crowdP_end HF.out.fo.pos
 have E1:Hid (crowdL F i=(crowd F).map (place F)):=by show _=_;unfold crowdL;rw [HN.out,hl1,hl2];rfl
 have E2:Hid (mz=(width F:Nat)):=by show _=_;rw [HMZ.out,HN.out,hl1];unfold width;rw [hl2];rfl
 clear hlt hl1 hl2
 go_wp2_with fail
 go_ret2
 exact⟨BW.out,_,by rw [E2.out];rfl,by rw [← E1.out,← HNL0.out];exact KS.out⟩
end Go.Proofs.YtnkahlloahgifaaGreatDoor
namespace Go.Proofs.YtnkahlloahgifaaGreatDoor
open Go.RowKit RG Go.Maps RF
variable {w w':World} {fb:Nat} {F:List Nd} {sva:Option Addr} {svc ug uo uc ng no nc bg bo bc ag ao ac:Nat} {so:Value}
def RowG (w:World) (b n:Nat) (regs:List Nat):Prop:=w.rowIs b 3 n fun p => .int .i64 ((regs.getD p 0:Nat):Int)
theorem RowG.set {b n p r:Nat}{regs:List Nat}(h:RowG w b n regs) (hp:p<regs.length):RowG (w.setCell ⟨b,p,none⟩ (.int .i64 ((r:Nat):Int))) b n (regs.set p r) :=
 (World.rowIs.set h p (.int .i64 ((r:Nat):Int))).congr fun i hi=>by
  rw [zt4,zt4]
  by_cases e:i=p
  ·subst e
   rw [if_pos rfl,List.getElem?_set_self hp];rfl
  rw [if_neg e,List.getElem?_set_ne (fun h=>e h.symm)]
theorem RowG.keep {b n:Nat}{regs:List Nat}(h:RowG w b n regs) (hb:w'.heap[b]?=w.heap[b]?):RowG w' b n regs:=World.rowIs.of_block h hb
theorem RowG.made (w:World) {n:Nat}(hn:n=(vars F).length):RowG (w.alloc (.cells (madeCells #[.int .i64 0] n) 3)) w.heap.size n ((vars F).map fun _=>0) :=
 (World.rowIs_made w (.int .i64 0) n 3).congr fun i hi=>by
  rw [zt4,List.getElem?_map]
  cases (vars F)[i]?<;>rfl
theorem VrOwn.vars0 {base:Nat}{v:Value}{l:List (Nm×Int)}(h:VrOwn w base v l):VarsAt w v l:=by
 by_cases h0:0<l.length
 ·exact h.vars h0
 obtain⟨a,c,rfl⟩:=own_sliceI h
 exact⟨a,c,rfl,fun h1=>absurd h1 h0⟩
theorem pairs_length (F:List Nd) (l:List Nat):(pairs F l).length=(vars F).length:=List.length_map _
theorem pairs_take {l:List Nat}{j:Nat}{x:Nm}(h:Fo F) (hx:(vars F)[j]?=some x):(pairs F l).take (j+1)=(pairs F l).take j++[(x,((l.getD j 0:Nat):Int))]:=by
 rw [List.take_add_one]
 congr 1
 unfold pairs
 rw [List.getElem?_map,hx]
 show [(x,((regIn F l x:Nat):Int))]=_
 unfold regIn
 rw [place_of h.once hx]
theorem allocStep_gfold (h:Fo F) (st:List Nat×Nat) (i:Nat):allocStep F st i=((nd F i).binds.foldl (gstep F) ((posn F (cross F i) (vars F).length).map (fun p=>st.1.getD p 0),st.1,st.2)).2:=by
 unfold allocStep
 rw [giveRegs_fold,← posn_place h.once,List.map_map];rfl
theorem map_take_succ {α β:Type}(f:α→β) (l:List α) {i:Nat}{x:α} (h:l[i]?=some x):(l.take (i+1)).map f=(l.take i).map f++[f x]:=by
 rw [List.take_add_one,h,List.map_append];rfl
def AlRP (w:World) (F:List Nd) (en:Ending) (w':World):Prop :=
 Below w.heap.size w w'∧∃ v,en = .returned (.agg #[.int .i64 ((alloc F).2:Nat),v])∧VarsAt w' v (pairs F (alloc F).1)
structure AgI (w1:World) (F:List Nd) (g nv i:Nat) (regs:List Nat) (most:Nat) (wr:World):Prop where
 st:(regs,most)=(List.range i).foldl (allocStep F) ((vars F).map fun _=>0,0)
 row:RowG wr g nv regs
 len:regs.length=nv
 small:∀ r∈regs,r≤1000
 most:most≤1000
 below:Below g w1 wr
theorem allocR_any (h:FlF w fb F):Calls Tryz.prog 32 #[.pointer (some ⟨fb,0,none⟩)] w (AlRP w F):=by
 obtain⟨sva,svc,ug,uo,uc,ng,no,nc,bg,bo,bc,ag,ao,ac,so,hC⟩:=h.cells
 have HF:=zh h
 have HC:=zh hC
 obtain⟨n,hn⟩:∃ n,n=F.length:=⟨_,rfl⟩
 obtain⟨nv,hnv⟩:∃ n,n=(vars F).length:=⟨_,rfl⟩
 have HN:=zh hn
 have HNV:=zh hnv
 have nz:(n:Int)≤300:=by have:=h.len;omega
 have nvz:(nv:Int)≤300:=by have:=h.few;omega
 have NVZ:=zh nvz
 have LV:Hid (Calls Tryz.prog 25 #[.pointer (some ⟨fb,0,none⟩)] (w.alloc (.cells #[.int .i64 0,.slice none 0 0] 56)) fun e w'=>Below (w.alloc (.cells #[.int .i64 0,.slice none 0 0] 56)).heap.size (w.alloc (.cells #[.int .i64 0,.slice none 0 0] 56)) w'∧∃ v,e = .returned v∧LivesR w' v F) :=
  (h.keep ((zs9 _ _).alloc (zr4 _) _)).lives
 obtain⟨i3,h40,h41,h42,h43⟩:=info_parts Tryz.info3u
 have hmt:∀ W:World,(Instr.makeSlice 40 (.int .i64 (nv:Int)) (.int .i64 (nv:Int))).run Tryz.prog W = .ok (.slice (some ⟨W.heap.size,0,none⟩) nv nv) (W.alloc (.cells (madeCells #[.int .i64 0] nv) 3)):=fun W=>by
  have:=run_make (P:=Tryz.prog) W 40 3 i3 (.int .i64 0) Tryz.underlying40 h40 h41 .i64 .i64 (nv:Int) (nv:Int) (by omega) (Int.le_refl _) (by rw [h43];omega) (by omega)
  rw [h42,Int.toNat_natCast,Nat.mul_one] at this
  exact this
 have HI3:=zh (And.intro h40 (And.intro h41 (And.intro h42 h43)))
 have HMT:=zh hmt
 have RB0:Hid ((w.alloc (.cells #[.int .i64 0,.slice none 0 0] 56)).heap[w.heap.size]?=some (.cells #[.int .i64 0,.slice none 0 0] 56 (0,0))):=zs2 w _
 clear h hC hn hnv hmt h40 h41 h42 h43
 go_enter Tryz.func32,Tryz.ntmps32
 go_wp2_with fail
 refine LV.out.mono ?_
 rintro en w1 ⟨hb1,lt,rfl,hlt⟩
 have RB1:Hid (w1.heap[w.heap.size]?=some (.cells #[.int .i64 0,.slice none 0 0] 56 (0,0))):=(hb1.block _ (by simp)).trans RB0.out
 have B1:Hid (Below w.heap.size w w1):=((zs9 _ _).alloc (zr4 _) _).trans (hb1.mono (by simp))
 have S1:Hid (w.heap.size<w1.heap.size):=by have:=hb1.size;simp at this;show _<_;omega
 have HL:=zh hlt
 obtain⟨lg,lc,rfl,-⟩:=hlt.cells
 rw [← HN.out] at HL ⊢
 have c0:w1.cell? ⟨fb,0,none⟩=some (.slice sva nv svc):=by rw [zb _ _ 0 _ _ _ (zm B1.out HC.out.row),HNV.out];rfl
 have hms:=HMT.out w1
 have R2:=zh (RowG.made w1 HNV.out)
 obtain⟨MC,hMC⟩:∃ m,m=madeCells #[Value.int .i64 0] nv:=⟨_,rfl⟩
 rw [← hMC] at hms R2
 obtain⟨g,hg⟩:∃ b,b=w1.heap.size:=⟨_,rfl⟩
 have HG:=zh hg
 have I0:Hid (AgI w1 F g nv 0 ((vars F).map fun _=>0) 0 (w1.alloc (.cells MC 3))):=⟨rfl,by rw [hg];exact R2.out,by rw [List.length_map,HNV.out],fun r hr=>by obtain⟨_,_,rfl⟩:=List.mem_map.1 hr;omega,by omega,by rw [hg];exact(zs9 _ _).alloc (zr4 _) _⟩
 rw [← hg] at hms
 clear hb1 hlt hMC hg R2 LV RB0
 go_wp2_with fail
 clear c0 hms
 go_loopw [5,6] (fun mv iv wr=>∃ (i:Nat) (regs:List Nat) (most:Nat),i≤n∧iv = .int .i64 i∧mv = .int .i64 (most:Nat)∧AgI w1 F g nv i regs most wr) (fun _ iv _=>n - (intOf iv).toNat)
 case atStart=>exact⟨0,_,0,Nat.zero_le _,rfl,rfl,I0.out⟩
 rename World=>V
 obtain⟨i,regs,most,hi,rfl,rfl,hI⟩:=hrel
 have KI:=zh hi
 have KG:=zh hI
 have BG:Hid (Below w1.heap.size w1 V):=by have:=hI.below;rw [HG.out] at this;exact this
 have BW:Hid (Below w.heap.size w V):=B1.out.trans (BG.out.mono B1.out.size)
 have GL:Hid (g<V.heap.size):=World.rowIs.lt hI.row
 have c3:V.cell? ⟨fb,3,none⟩=some (.slice (some ⟨bg,bo,none⟩) n bc):=by rw [zb _ _ 3 _ _ _ (zm BW.out HC.out.row),HN.out];rfl
 have mz:(most:Int)≤1000:=by have:=hI.most;omega
 clear hi hI I0
 by_cases hlt:i<n
 ·have hiz:(i:Int)<n:=by omega
  have hi0:(0:Int)≤i:=by omega
  have HLT:=zh hlt
  have IF:Hid (i<F.length):=by rw [← HN.out];exact hlt
  have CR:=zh (crosses_any (HF.out.keep BW.out) (HL.out.keep BG.out) IF.out)
  clear hlt
  go_wp2_with fail
  refine CR.out.mono ?_
  rintro en w2 ⟨hb2,u2,rfl,hu2⟩
  have B2:Hid (Below g w1 w2):=KG.out.below.trans (hb2.mono (Nat.le_of_lt GL.out))
  have R2:=zh (KG.out.row.keep (hb2.block _ GL.out))
  have G2:Hid (g<w2.heap.size):=zt5 GL.out hb2.size
  obtain⟨l,hl⟩:∃ l,l=posn F (cross F i) (vars F).length:=⟨_,rfl⟩
  rw [← hl] at hu2
  have HLL:=zh hl
  obtain⟨-,xa,xc,rfl,xat⟩:=id hu2
  have XAT:=zh xat
  obtain⟨nl,hnl⟩:∃ n,n=l.length:=⟨_,rfl⟩
  have NLZ:Hid (nl≤300):=by show _≤_;rw [hnl,hl];exact zr5 (posn_len _ _ _) HF.out.few
  rw [← hnl] at XAT ⊢
  have HNL:=zh hnl
  have nlz:(nl:Int)≤300:=by have:=NLZ.out;omega
  obtain⟨br,hbr⟩:∃ l,l=BR F i:=⟨_,rfl⟩
  obtain⟨bad,bcc,b1,b2⟩:=HC.out.binds i IF.out
  have BL:=zh (HC.out.blen IF.out)
  rw [← hbr] at b1 b2 BL
  have HBR:=zh hbr
  obtain⟨nb,hnb⟩:∃ n,n=br.length:=⟨_,rfl⟩
  rw [← hnb] at b1 b2 BL
  have HNB:=zh hnb
  have BB1:=zh b1
  have BB2:=zh b2
  have nbz:(nb:Int)≤300:=by have:=BL.out;omega
  clear hb2 hu2 hl xat hnl hbr b1 b2 hnb CR c3
  go_wp2_with fail
  go_loopw [7,9] (fun tv kv wr=>∃ k:Nat,k≤nl∧kv = .int .i64 k∧World.ownsRow wr w2.heap.size 3 1 tv k (nats ((l.take k).map fun p=>regs.getD p 0))∧Below w2.heap.size w2 wr) (fun _ kv _=>nl - (intOf kv).toNat)
  case atStart=>exact⟨0,Nat.zero_le _,rfl,World.ownsRow_nil _ _ _ _,zs9 _ _⟩
  rename World=>wk
  obtain⟨k,hk,rfl,hown,hb⟩:=hrel
  have KK:=zh hk
  have KO:=zh hown
  have KB:=zh hb
  obtain⟨oa,oc,hov⟩:=own_sliceI hown
  subst hov
  clear hk hown hb
  by_cases hlt:k<nl
  ·have hkz:(k:Int)<nl:=by omega
   have hk0:(0:Int)≤k:=by omega
   have KLT:=zh hlt
   obtain⟨p,hp⟩:∃ p,l[k]?=some p:=⟨_,zq9 (by have:=HNL.out;omega)⟩
   have hpv:p<nv:=by
    have:=zr1 hp
    rw [HLL.out] at this
    rw [HNV.out]
    exact(mem_posn.1 this).1
   have hpz:(p:Int)<nv:=by omega
   have hp0:(0:Int)≤p:=by omega
   obtain⟨g2,o2,rfl,xat⟩:=XAT.out (by omega)
   have x1:=zd KB.out _ _ (xat k _ (nats_at hp))
   have x2:=World.rowIs.cell (R2.out.keep (KB.out.block _ G2.out)) hpv
   have MT:=zh (map_take_succ (fun p=>regs.getD p 0) l hp)
   obtain⟨r,hr⟩:∃ r,r=regs.getD p 0:=⟨_,rfl⟩
   rw [← hr] at x2 MT
   obtain⟨tk0,htk0⟩:∃ t,t=(l.take k).map fun p=>regs.getD p 0:=⟨_,rfl⟩
   rw [← htk0] at MT
   have KO1:Hid (World.ownsRow wk w2.heap.size 3 1 (.slice oa k oc) k (nats tk0)):=by rw [htk0];exact KO.out
   have OX:Hid (World.ownsRow (wk.alloc (.cells #[.int .i64 (r:Nat)] 3)) w2.heap.size 3 1 (.slice oa k oc) k (nats tk0)):=owns_keep2 KO1.out fun q hq=>zt2 _ _ _ (World.ownsRow.lt KO1.out q hq).2
   have NB:Hid (k+1≤maxLen∧(k+1)*8≤140737488355328):=by have:=NLZ.out;have:=KLT.out;show _∧_;simp only [maxLen];omega
   have BA:Hid (Below w2.heap.size w2 (wk.alloc (.cells #[.int .i64 (r:Nat)] 3))):=KB.out.alloc KB.out.size _
   clear hlt hp hpv xat hr htk0
   go_wp2_with (at_builtin;refine wpList_append_own _ rfl _ _ 40 rfl w2.heap.size 3 i3 (.int .i64 0) 1 8 Tryz.underlying40 HI3.out.1 HI3.out.2.1 HI3.out.2.2.1 HI3.out.2.2.2 rfl (by decide) (.slice oa k oc) k (nats tk0) rfl OX.out ⟨wk.heap.size,0,none⟩ 1 1 [.int .i64 (r:Nat)] rfl rfl (news1 _ _ _) (fun u hu=>by simp at hu;rw [hu];rfl) NB.out.1 NB.out.2 BA.out.size ?_)
   intro vo w6 hown hg _
   have B6:Hid (Below w2.heap.size w2 w6):=BA.out.grown hg BA.out.size (fun q e=>(OX.out.lt q e).1)
   have M6:Hid (World.ownsRow w6 w2.heap.size 3 1 vo (k+1) (nats ((l.take (k+1)).map fun p=>regs.getD p 0))):=by
    show World.ownsRow _ _ _ _ _ _ _
    rw [MT.out,nats_append]
    exact hown
   clear hown hg
   go_wp2_with fail
   go_roundw
   case rel=>exact⟨k+1,KLT.out,by go_num,M6.out,B6.out⟩
   case measure=>have:=KLT.out;simp [intOf];omega
  obtain rfl:k=nl:=by have:=KK.out;omega
  have hdk:decide (k<k)=false:=by simp
  obtain⟨T0,hT0⟩:∃ t,t=l.map fun p=>regs.getD p 0:=⟨_,rfl⟩
  have HT0:=zh hT0
  have T0L:Hid (T0.length=k):=by show _=_;rw [hT0,List.length_map];exact HNL.out.symm
  have T0S:Hid (∀ r∈T0,r≤1000):=fun r hr=>by
   rw [HT0.out] at hr
   obtain⟨p,-,rfl⟩:=List.mem_map.1 hr
   rw [zt4]
   cases hq:regs[p]? with
   | none=>exact Nat.zero_le _
   | some r=>exact KG.out.small r (zr1 hq)
  have KO2:Hid (World.ownsRow wk w2.heap.size 3 1 (.slice oa k oc) T0.length (nats T0)):=by
   have:=KO.out
   rw [zr3 (by have:=HNL.out;omega),← HT0.out] at this
   rw [T0L.out];exact this
  have R3:Hid (RowG wk g nv regs):=R2.out.keep (KB.out.block _ G2.out)
  have B3:Hid (Below g w1 wk):=B2.out.trans (KB.out.mono (Nat.le_of_lt G2.out))
  have W3:Hid (w2.heap.size≤wk.heap.size):=KB.out.size
  obtain⟨bs,hbs⟩:∃ l,l=(nd F i).binds:=⟨_,rfl⟩
  have HBS:=zh hbs
  have BSL:Hid (bs.length=nb):=by show _=_;rw [hbs,HNB.out,HBR.out];unfold BR;rw [List.length_map]
  clear hlt hT0 KK KO KB R2 hbs XAT
  go_wp2_with fail
  go_loopw [7,5,10] (fun tv mv kv wr=>∃ (q:Nat) (tk rg:List Nat) (ms:Nat),q≤nb∧kv = .int .i64 q∧mv = .int .i64 (ms:Nat)∧(tk,rg,ms)=(bs.take q).foldl (gstep F) (T0,regs,most)∧(∀ r∈rg,r≤1000)∧(∀ r∈tk,r≤1000)∧ms≤1000∧World.ownsRow wr w2.heap.size 3 1 tv tk.length (nats tk)∧RowG wr g nv rg∧Below g w1 wr∧w2.heap.size≤wr.heap.size) (fun _ _ kv _=>nb - (intOf kv).toNat)
  case atStart=>exact⟨0,T0,regs,most,Nat.zero_le _,rfl,rfl,rfl,KG.out.small,T0S.out,KG.out.most,KO2.out,R3.out,B3.out,W3.out⟩
  rename World=>wm
  obtain⟨q,tk,rg,ms,hq,rfl,rfl,hst,hsr,hst2,hms,hown,hrow,hb,hsz⟩:=hrel
  have QK:=zh hq
  have QST:=zh hst
  have QSR:=zh hsr
  have QTS:=zh hst2
  have QO:=zh hown
  have QR:=zh hrow
  have QB:=zh hb
  have QS:=zh hsz
  have QM:=zh hms
  have LENS:=zh (gfold_len F (bs.take q) (T0,regs,most))
  rw [← hst] at LENS
  have TKL:Hid (tk.length≤600):=by have h1:=LENS.out.1;have h2:=T0L.out;have h3:=List.length_take_le q bs;have:=BSL.out;have:=BL.out;have:=NLZ.out;simp only [] at h1;show _≤_;omega
  have RGL:Hid (rg.length=nv):=by have h1:=LENS.out.2;simp only [] at h1;show _=_;rw [h1];exact KG.out.len
  obtain⟨oa2,oc2,hov⟩:=own_sliceI hown
  subst hov
  have BW1:Hid (Below w1.heap.size w1 wm):=by have h1:=hb;rw [HG.out] at h1;exact h1
  have BWW:Hid (Below w.heap.size w wm):=B1.out.trans (BW1.out.mono B1.out.size)
  have c3:wm.cell? ⟨fb,3,none⟩=some (.slice (some ⟨bg,bo,none⟩) n bc):=by rw [zb _ _ 3 _ _ _ (zm BWW.out HC.out.row),HN.out];rfl
  have y1:=zd BWW.out _ _ BB1.out
  have msz:(ms:Int)≤1000:=by omega
  obtain⟨nt,hnt⟩:∃ n,n=tk.length:=⟨_,rfl⟩
  rw [← hnt] at QO TKL ⊢
  have HNT:=zh hnt
  clear hq hst hsr hst2 hms hown hrow hb hsz LENS hnt
  by_cases hlt:q<nb
  ·have hqz:(q:Int)<nb:=by omega
   have hq0:(0:Int)≤q:=by omega
   have QLT:=zh hlt
   obtain⟨x,hx⟩:∃ x,bs[q]?=some x:=⟨_,zq9 (by have:=BSL.out;omega)⟩
   have XV:Hid (x∈vars F):=binds_vars IF.out (by rw [← HBS.out];exact zr1 hx)
   obtain⟨p,hpp⟩:∃ p,p=place F x:=⟨_,rfl⟩
   have HPP:=zh hpp
   have hp:br[q]?=some p:=by rw [HBR.out,hpp];unfold BR;rw [List.getElem?_map,← HBS.out,hx];rfl
   have hpv:p<nv:=by rw [HNV.out,hpp];exact place_lt XV.out
   have HPV:=zh hpv
   have hpz:(p:Int)<nv:=by omega
   have hp0:(0:Int)≤p:=by omega
   obtain⟨g2,o2,rfl,hx1⟩:=(show SlAt w (.slice bad br.length bcc) br.length (nats br) by have:=BB2.out;rw [HNB.out] at this;exact this).nat hp
   have HX1:=zh hx1
   have GS:=zh (gfold_succ F bs (T0,regs,most) hx)
   have QB0:=QB
   clear hlt hx hpp hp hx1 hpv
   go_wp2_with fail
   clear c3 y1
   go_loopw [11] (fun rv wr=>∃ r:Nat,r≤nt∧rv = .int .i64 r∧(∀ j,j<r→j∈tk)∧Below wm.heap.size wm wr) (fun rv _=>nt+1 - (intOf rv).toNat)
   case atStart=>exact⟨0,Nat.zero_le _,rfl,fun j hj=>absurd hj (Nat.not_lt_zero _),zs9 _ _⟩
   rename World=>wr2
   obtain⟨r,hr,rfl,hall,hb⟩:=hrel
   have RK:=zh hr
   have RA:=zh hall
   have RB:=zh hb
   have HSV:Hid (SlAt wr2 (.slice oa2 nt oc2) tk.length (nats tk)):=by
    have h1:=owns_nats (owns_keep2 QO.out fun q hq=>hb.block _ (World.ownsRow.lt QO.out q hq).2) HNT.out
    exact h1
   have HS:=zh (hasN_any r HSV.out (by have:=TKL.out;have:=HNT.out;omega))
   clear hr hall hb
   go_wp2_with fail
   refine HS.out.mono ?_
   rintro en w7 ⟨hb7,rfl⟩
   have B7:Hid (Below wm.heap.size wm w7):=RB.out.trans (hb7.mono RB.out.size)
   have rz:(r:Int)≤600:=by have:=RK.out;have:=TKL.out;omega
   by_cases hm:r∈tk
   ·have hd:decide (r∈tk)=true:=by simp [hm]
    have HM:=zh hm
    have ALL2:Hid (∀ j,j<r+1→j∈tk):=fun j hj=>by
     by_cases e:j=r
     ·rw [e];exact HM.out
     exact RA.out j (by omega)
    have LE2:Hid (r+1≤nt):=by rw [HNT.out];exact all_in_len ALL2.out
    rw [hd]
    clear hm hd hb7 HS
    go_wp2_with fail
    go_roundw
    case rel=>exact⟨r+1,LE2.out,by go_num,ALL2.out,B7.out⟩
    case measure=>have:=LE2.out;simp [intOf];omega
   have hd:decide (r∈tk)=false:=by simp [hm]
   have LOW:Hid (r=low tk):=low_unique hm RA.out
   rw [hd]
   have BG7:Hid (Below g w1 w7):=QB.out.trans (B7.out.mono (by have:=World.rowIs.lt QR.out;omega))
   have BW7:Hid (Below w.heap.size w w7):=BWW.out.trans (B7.out.mono BWW.out.size)
   have R7:=zh (QR.out.keep (B7.out.block _ (World.rowIs.lt QR.out)))
   have O7:Hid (World.ownsRow w7 w2.heap.size 3 1 (.slice oa2 nt oc2) nt (nats tk)):=owns_keep2 QO.out fun q hq=>B7.out.block _ (World.ownsRow.lt QO.out q hq).2
   have c3:w7.cell? ⟨fb,3,none⟩=some (.slice (some ⟨bg,bo,none⟩) n bc):=by rw [zb _ _ 3 _ _ _ (zm BW7.out HC.out.row),HN.out];rfl
   have y1:=zd BW7.out _ _ BB1.out
   have x1:=zd BW7.out _ _ HX1.out
   have e1:=World.rowIs.cell R7.out HPV.out
   have ef:=World.rowIs.frozen R7.out p
   have R8:=zh (R7.out.set (p:=p) (r:=r) (by rw [RGL.out];exact HPV.out))
   have O8:Hid (World.ownsRow (w7.setCell ⟨g,p,none⟩ (.int .i64 (r:Nat))) w2.heap.size 3 1 (.slice oa2 nt oc2) nt (nats tk)):=owns_keep2 O7.out fun q hq=>zt1 _ _ _ _ (by have:=(World.ownsRow.lt O7.out q hq).1;have:=G2.out;show q≠g;omega)
   have B8:Hid (Below g w1 (w7.setCell ⟨g,p,none⟩ (.int .i64 (r:Nat)))):=BG7.out.setCell (zr4 _) _
   have S8:Hid (w2.heap.size≤(w7.setCell ⟨g,p,none⟩ (.int .i64 (r:Nat))).heap.size):=by
    have h1:=B7.out.size
    have h2:=QS.out
    have h3:(w7.setCell ⟨g,p,none⟩ (.int .i64 (r:Nat))).heap.size=w7.heap.size:=by simp
    show _≤_
    omega
   obtain⟨old,hold⟩:∃ z,z=Value.int .i64 ((rg.getD p 0:Nat):Int):=⟨_,rfl⟩
   rw [← hold] at e1
   clear hm hd hb7 HS hold
   go_upto_region 20 with fail
   obtain⟨w8,hw8⟩:∃ W,W=w7.setCell ⟨g,p,none⟩ (.int .i64 (r:Nat)):=⟨_,rfl⟩
   rw [← hw8] at R8 O8 B8 S8 ⊢
   clear hw8 c3 y1 x1 e1 ef
   have OX:Hid (World.ownsRow (w8.alloc (.cells #[.int .i64 (r:Nat)] 3)) w2.heap.size 3 1 (.slice oa2 nt oc2) nt (nats tk)):=owns_keep2 O8.out fun q hq=>zt2 _ _ _ (World.ownsRow.lt O8.out q hq).2
   have NB:Hid (nt+1≤maxLen∧(nt+1)*8≤140737488355328):=by have:=TKL.out;show _∧_;simp only [maxLen];omega
   have G8:Hid (g<w8.heap.size):=World.rowIs.lt R8.out
   have BA:Hid (Below w8.heap.size w8 (w8.alloc (.cells #[.int .i64 (r:Nat)] 3))):=(zs9 _ _).alloc (zr4 _) _
   go_wp2_with (at_builtin;refine wpList_append_own _ rfl _ _ 40 rfl w2.heap.size 3 i3 (.int .i64 0) 1 8 Tryz.underlying40 HI3.out.1 HI3.out.2.1 HI3.out.2.2.1 HI3.out.2.2.2 rfl (by decide) (.slice oa2 nt oc2) nt (nats tk) rfl OX.out ⟨w8.heap.size,0,none⟩ 1 1 [.int .i64 (r:Nat)] rfl rfl (news1 _ _ _) (fun u hu=>by simp at hu;rw [hu];rfl) NB.out.1 NB.out.2 (by have:=S8.out;have:=BA.out.size;omega) ?_)
   intro vo w9 hown hg _
   have HG9:=zh hg
   have HO9:=zh hown
   clear hown hg
   have R9:Hid (RowG w9 g nv (rg.set p r)):=(R8.out.keep (BA.out.block _ G8.out)).keep (HG9.out.block g (by have:=BA.out.size;have:=G8.out;omega) (fun e=>by have:=(OX.out.lt _ e.symm).1;have:=G2.out;omega))
   have B9:Hid (Below g w1 w9):=(B8.out.trans (BA.out.mono (Nat.le_of_lt G8.out))).grown HG9.out (by have:=BA.out.size;have:=G8.out;omega) (fun q e=>by have:=(OX.out.lt q e).1;have:=G2.out;omega)
   have S9:Hid (w2.heap.size≤w9.heap.size):=zr5 (zr5 S8.out BA.out.size) HG9.out.size
   have NXT:Hid ((tk++[r],rg.set p r,max ms (r+1))=(bs.take (q+1)).foldl (gstep F) (T0,regs,most)):=by
    show _=_
    rw [GS.out,← QST.out,LOW.out,HPP.out];rfl
   have O9:Hid (World.ownsRow w9 w2.heap.size 3 1 vo (tk++[r]).length (nats (tk++[r]))):=by
    show World.ownsRow _ _ _ _ _ _ _
    rw [zr2,← HNT.out,nats_append]
    exact HO9.out
   have SR9:Hid (∀ z∈rg.set p r,z≤1000):=set_small QSR.out (by omega)
   have ST9:Hid (∀ z∈tk++[r],z≤1000):=fun z hz=>by
    rcases List.mem_append.1 hz with h1 | h1
    ·exact QTS.out z h1
    rw [List.mem_singleton] at h1;omega
   have MX:Hid (max ms (r+1)≤1000):=by show _≤_;omega
   clear HG9 HO9 OX BA
   by_cases hmx:ms<r+1
   ·have EM:Hid (max ms (r+1)=r+1):=by show _=_;omega
    have hmz:(ms:Int)<(r:Int)+1:=by omega
    have hmz2:max (ms:Int) ((r:Int)+1)=(r:Int)+1:=by omega
    clear hmx
    go_wp2_with fail
    go_roundw
    case rel=>exact⟨q+1,_,_,_,QLT.out,by go_num,by rw [EM.out];rfl,NXT.out,SR9.out,ST9.out,MX.out,O9.out,R9.out,B9.out,S9.out⟩
    case measure=>have:=QLT.out;simp [intOf];omega
   have EM:Hid (max ms (r+1)=ms):=by show _=_;omega
   have hmz:(r:Int)+1≤(ms:Int):=by omega
   have hmz1:¬ (ms:Int)<(r:Int)+1:=by omega
   have hmz2:max (ms:Int) ((r:Int)+1)=(ms:Int):=by omega
   clear hmx
   go_wp2_with fail
   go_roundw
   case rel=>exact⟨q+1,_,_,_,QLT.out,by go_num,by rw [EM.out],NXT.out,SR9.out,ST9.out,MX.out,O9.out,R9.out,B9.out,S9.out⟩
   case measure=>have:=QLT.out;simp [intOf];omega
  have hqz:(nb:Int)≤q:=by omega
  have hdq:decide (q<nb)=false:=by simp;omega
  have FIN:Hid ((rg,ms)=(List.range (i+1)).foldl (allocStep F) ((vars F).map fun _=>0,0)):=by
   show _=_
   have h1:=QST.out
   rw [zr3 (by have:=BSL.out;omega),HT0.out,HLL.out,HBS.out] at h1
   rw [List.range_succ,List.foldl_append,← KG.out.st,List.foldl_cons,List.foldl_nil,allocStep_gfold HF.out.fo,← h1]
  clear hlt
  go_wp2_with fail
  go_roundw
  case rel=>exact⟨i+1,rg,ms,HLT.out,by go_num,rfl,FIN.out,QR.out,RGL.out,QSR.out,QM.out,QB.out⟩
  case measure=>have:=HLT.out;simp [intOf];omega
 obtain rfl:i=n:=by have:=KI.out;omega
 have hdi:decide (i<i)=false:=by simp
 have AL:Hid ((regs,most)=alloc F):=by show _=_;unfold alloc;rw [KG.out.st,HN.out]
 have R2:=zh KG.out.row
 obtain⟨ob,hob⟩:∃ b,b=V.heap.size:=⟨_,rfl⟩
 have HOB:=zh hob
 obtain⟨w4,hw4⟩:∃ W,W=V.alloc (.cells #[.int .i64 (most:Nat),.slice none 0 0] 56):=⟨_,rfl⟩
 have N4:Hid (w4.heap[ob]?=some (.cells #[.int .i64 (most:Nat),.slice none 0 0] 56 (0,0))):=by show _=_;rw [hw4,hob];exact zs2 V _
 have N4L:Hid (ob+1≤w4.heap.size):=by show _≤_;rw [hw4,hob];simp
 have K34:Hid (Below ob V w4):=by show Below _ _ _;rw [hw4,hob];exact(zs9 _ _).alloc (zr4 _) _
 obtain⟨i61,p1,p2,p3,p4⟩:=info_parts Tryz.info61
 have HI:=zh (And.intro p1 (And.intro p2 (And.intro p3 p4)))
 clear hlt p1 p2 p3 p4 hob
 go_upto_region 23 with fail
 rw [← hw4,← HOB.out]
 clear hw4 c3
 go_wp2_with fail
 go_loopw [13] (fun iv wr=>∃ t:Nat,t≤nv∧iv = .int .i64 t∧∃ v,wr.heap[ob]?=some (.cells #[.int .i64 (most:Nat),v] 56 (0,0))∧World.ownsRow wr (ob+1) 61 2 v t (vrCells ((pairs F regs).take t))∧Below ob V wr∧ob+1≤wr.heap.size) (fun iv _=>nv - (intOf iv).toNat)
 case atStart=>exact⟨0,Nat.zero_le _,rfl,_,N4.out,World.ownsRow_nil _ _ _ _,K34.out,N4L.out⟩
 rename World=>U
 obtain⟨t,ht,rfl,v,hcell,hown,hb,hsz⟩:=hrel
 have KT:=zh ht
 have KC:=zh hcell
 have KO:=zh hown
 have KB:=zh hb
 have KS:=zh hsz
 obtain⟨ra,rc,hov⟩:=own_sliceI hown
 subst hov
 have KBV:Hid (Below V.heap.size V U):=by have h1:=hb;rw [HOB.out] at h1;exact h1
 have BU:Hid (Below w.heap.size w U):=BW.out.trans (KBV.out.mono BW.out.size)
 have U0:Hid (U.heap[fb]?=_):=zm BU.out HC.out.row
 have c0:U.cell? ⟨fb,0,none⟩=some (.slice sva nv svc):=by rw [zb _ _ 0 _ _ _ U0.out,HNV.out];rfl
 have z0:U.cell? ⟨ob,1,none⟩=some (.slice ra t rc):=by rw [zb _ _ 1 _ _ _ hcell];rfl
 clear ht hcell hown hb hsz
 by_cases hlt:t<nv
 ·have htz:(t:Int)<nv:=by omega
  have ht0:(0:Int)≤t:=by omega
  have TLT:=zh hlt
  obtain⟨x,hx⟩:∃ x,(vars F)[t]?=some x:=⟨_,zq9 (by have:=HNV.out;omega)⟩
  have HX:=zh hx
  obtain⟨lg2,lo,rfl,hn1⟩:=HC.out.names t (by have:=HNV.out;omega)
  rw [zt4,hx] at hn1
  have HN1:Hid (w.cell? ⟨lg2,lo+t,none⟩=some (.string x)):=hn1
  have z1:=zd BU.out _ _ HN1.out
  have z2:=World.rowIs.cell (R2.out.keep (KBV.out.block _ GL.out)) hlt
  have PT:=zh (pairs_take (l:=regs) HF.out.fo hx)
  obtain⟨r,hr⟩:∃ r,r=regs.getD t 0:=⟨_,rfl⟩
  rw [← hr] at z2 PT
  have HR:=zh hr
  have WOB:Hid (w.heap.size<ob∧fb<ob∧lg2<ob∧g<ob):=by
   have h1:=B1.out.size;have h2:=BG.out.size;have h3:=S1.out;have h4:=zs3 w _ HN1.out
   have h5:=(zq7.1 HC.out.row).1
   have h6:=GL.out
   have h7:=HOB.out
   simp only [] at h4
   show _∧_∧_∧_;omega
  have hfg:ob≠lg2:=by have:=WOB.out;omega
  have hff:ob≠fb:=by have:=WOB.out;omega
  have hfr:ob≠g:=by have:=WOB.out;omega
  have B1x:Hid (Below U.heap.size U ((U.alloc (Obj.cells #[.string x,.int .i64 (r:Nat)] 61)).drew)):=((zs9 _ _).alloc (zr4 _) _).drew
  have BA:Hid (Below ob V ((U.alloc (Obj.cells #[.string x,.int .i64 (r:Nat)] 61)).drew)):=KB.out.trans (B1x.out.mono (by have:=KS.out;omega))
  have OX:Hid (World.ownsRow ((U.alloc (Obj.cells #[.string x,.int .i64 (r:Nat)] 61)).drew) (ob+1) 61 2 (.slice ra t rc) t (vrCells ((pairs F regs).take t))):=owns_keep2 KO.out fun q hq=>B1x.out.block q (World.ownsRow.lt KO.out q hq).2
  have X1:Hid (((U.alloc (Obj.cells #[.string x,.int .i64 (r:Nat)] 61)).drew).heap[U.heap.size]?=some (.cells #[.string x,.int .i64 (r:Nat)] 61 (0,0))):=zs2 U _
  have NW:Hid (∀ (q:Nat) (u:Value),[Value.string x,Value.int .i64 (r:Nat)][q]?=some u→((U.alloc (Obj.cells #[.string x,.int .i64 (r:Nat)] 61)).drew).cell? ((⟨U.heap.size,0,none⟩:Addr).add q)=some u):=fun q u hu=>by
   rw [Addr.add_lit,zb _ _ _ _ _ _ X1.out,Nat.zero_add]
   rw [← Array.getElem?_toList];exact hu
  have NB:Hid (t+1≤maxLen∧(t+1)*24≤140737488355328):=by have:=TLT.out;have:=NVZ.out;show _∧_;simp only [maxLen];omega
  have z0':((U.alloc (Obj.cells #[.string x,.int .i64 (r:Nat)] 61)).drew).cell? ⟨ob,1,none⟩=some (.slice ra t rc):=zd B1x.out _ _ z0
  have z0'':(U.drew.alloc (Obj.cells #[.string x,.int .i64 (r:Nat)] 61)).cell? ⟨ob,1,none⟩=some (.slice ra t rc):=z0'
  clear hlt hx hn1 hr
  go_upto_region 26 with fail
  refine wp_region_held_drew (S:=(fun w'=>w'.cell? ⟨lg2,lo+t,none⟩=some (.string x)∧w'.cell? ⟨g,t,none⟩=some (.int .i64 (r:Nat))∧w'.cell? ⟨fb,0,none⟩=some (.slice (some ⟨lg2,lo,none⟩) nv svc))) (by kernel_rfl) ⟨z1,z2,c0⟩ (fun hHeld=>?_)
  obtain⟨k0,k1,k2⟩:=hHeld
  refine zs5 (i:=0) (v:=?_) rfl (by kernel_rfl) (by kernel_rfl) (by kernel_rfl) (fun _ _ _ h=>h) (Or.inl ⟨by rfl,?_⟩) ⟨k0,k1,k2⟩ ?_
  rotate_left
  ·(intro wz hSw;obtain⟨zk0,zk1,zk2⟩:=hSw;(try simp only [zq1,zq2,zq3]);go_simp;try with_reducible rfl)
  try simp only [Act.put,zq1,zq2,zq3,zq4,zq5,zq6]
  refine zs5 (i:=2) (v:=?_) rfl (by kernel_rfl) (by kernel_rfl) (by kernel_rfl) (fun _ _ _ h=>h) (Or.inl ⟨by rfl,?_⟩) ⟨k0,k1,k2⟩ ?_
  rotate_left
  ·(intro wz hSw;obtain⟨zk0,zk1,zk2⟩:=hSw;(try simp only [zq1,zq2,zq3]);go_simp;try with_reducible rfl)
  try simp only [Act.put,zq1,zq2,zq3,zq4,zq5,zq6]
  refine zs5 (i:=3) (v:=?_) rfl (by kernel_rfl) (by kernel_rfl) (by kernel_rfl) (fun _ _ _ h=>h) (Or.inl ⟨by rfl,?_⟩) ⟨k0,k1,k2⟩ ?_
  rotate_left
  ·(intro wz hSw;obtain⟨zk0,zk1,zk2⟩:=hSw;(try simp only [zq1,zq2,zq3]);go_simp;try with_reducible rfl)
  try simp only [Act.put,zq1,zq2,zq3,zq4,zq5,zq6]
  refine zs5 (i:=4) (v:=?_) rfl (by kernel_rfl) (by kernel_rfl) (by kernel_rfl) (fun _ _ _ h=>h) (Or.inl ⟨by rfl,?_⟩) ⟨k0,k1,k2⟩ ?_
  rotate_left
  ·(intro wz hSw;obtain⟨zk0,zk1,zk2⟩:=hSw;(try simp only [zq1,zq2,zq3]);go_simp;try with_reducible rfl)
  try simp only [Act.put,zq1,zq2,zq3,zq4,zq5,zq6]
  refine zs5 (i:=5) (v:=?_) rfl (by kernel_rfl) (by kernel_rfl) (by kernel_rfl) (fun _ _ _ h=>h) (Or.inl ⟨by rfl,?_⟩) ⟨k0,k1,k2⟩ ?_
  rotate_left
  ·(intro wz hSw;obtain⟨zk0,zk1,zk2⟩:=hSw;(try simp only [zq1,zq2,zq3]);go_simp;try with_reducible rfl)
  try simp only [Act.put,zq1,zq2,zq3,zq4,zq5,zq6]
  refine zs5 (i:=6) (v:=?_) rfl (by kernel_rfl) (by kernel_rfl) (by kernel_rfl) (fun _ _ _ h=>h) (Or.inl ⟨by rfl,?_⟩) ⟨k0,k1,k2⟩ ?_
  rotate_left
  ·(intro wz hSw;obtain⟨zk0,zk1,zk2⟩:=hSw;(try simp only [zq1,zq2,zq3]);go_simp;try with_reducible rfl)
  try simp only [Act.put,zq1,zq2,zq3,zq4,zq5,zq6]
  refine zs5 (i:=7) (v:=?_) rfl (by kernel_rfl) (by kernel_rfl) (by kernel_rfl) (fun _ _ _ h=>h) (Or.inl ⟨by rfl,?_⟩) ⟨k0,k1,k2⟩ ?_
  rotate_left
  ·(intro wz hSw;obtain⟨zk0,zk1,zk2⟩:=hSw;(try simp only [zq1,zq2,zq3]);go_simp;try with_reducible rfl)
  try simp only [Act.put,zq1,zq2,zq3,zq4,zq5,zq6]
  refine zs5 (i:=8) (v:=?_) rfl (by kernel_rfl) (by kernel_rfl) (by kernel_rfl) (fun _ _ _ h=>h) (Or.inl ⟨by rfl,?_⟩) ⟨k0,k1,k2⟩ ?_
  rotate_left
  ·(intro wz hSw;obtain⟨zk0,zk1,zk2⟩:=hSw;(try simp only [zq1,zq2,zq3]);go_simp;try with_reducible rfl)
  try simp only [Act.put,zq1,zq2,zq3,zq4,zq5,zq6]
  refine zs5 (i:=9) (v:=?_) rfl (by kernel_rfl) (by kernel_rfl) (by kernel_rfl) (fun _ _ _ h=>h) (Or.inl ⟨by rfl,?_⟩) ⟨k0,k1,k2⟩ ?_
  rotate_left
  ·(intro wz hSw;obtain⟨zk0,zk1,zk2⟩:=hSw;(try simp only [zq1,zq2,zq3]);go_simp;try with_reducible rfl)
  try simp only [Act.put,zq1,zq2,zq3,zq4,zq5,zq6]
  refine zs5 (i:=10) (v:=?_) rfl (by kernel_rfl) (by kernel_rfl) (by kernel_rfl) (fun _ _ _ h=>h) (Or.inl ⟨by rfl,?_⟩) ⟨k0,k1,k2⟩ ?_
  rotate_left
  ·(intro wz hSw;obtain⟨zk0,zk1,zk2⟩:=hSw;(try simp only [zq1,zq2,zq3]);go_simp;try with_reducible rfl)
  try simp only [Act.put,zq1,zq2,zq3,zq4,zq5,zq6]
  refine zs5 (i:=11) (v:=?_) rfl (by kernel_rfl) (by kernel_rfl) (by kernel_rfl) (fun _ _ _ h=>h) (Or.inl ⟨by rfl,?_⟩) ⟨k0,k1,k2⟩ ?_
  rotate_left
  ·(intro wz hSw;obtain⟨zk0,zk1,zk2⟩:=hSw;(try simp only [zq1,zq2,zq3]);go_simp;try with_reducible rfl)
  try simp only [Act.put,zq1,zq2,zq3,zq4,zq5,zq6]
  refine zs5 (i:=12) (v:=?_) rfl (by kernel_rfl) (by kernel_rfl) (by kernel_rfl) (fun _ _ _ h=>h) (Or.inl ⟨by rfl,?_⟩) ⟨k0,k1,k2⟩ ?_
  rotate_left
  ·(intro wz hSw;obtain⟨zk0,zk1,zk2⟩:=hSw;(try simp only [zq1,zq2,zq3]);go_simp;try with_reducible rfl)
  try simp only [Act.put,zq1,zq2,zq3,zq4,zq5,zq6]
  refine zs5 (i:=13) (v:=?_) rfl (by kernel_rfl) (by kernel_rfl) (by kernel_rfl) (fun _ _ _ h=>h) (Or.inl ⟨by rfl,?_⟩) ⟨k0,k1,k2⟩ ?_
  rotate_left
  ·(intro wz hSw;obtain⟨zk0,zk1,zk2⟩:=hSw;(try simp only [zq1,zq2,zq3]);go_simp;try with_reducible rfl)
  try simp only [Act.put,zq1,zq2,zq3,zq4,zq5,zq6]
  refine zs6 (rs:=[1,14]) (by kernel_rfl) (by simp) ?_
  refine zs7 rfl (fun K hK=>?_) (zs7 rfl (fun K hK=>?_) zs8)
  ·try simp only [zq1,zq2,zq3]
   go_simp
   refine hK.out _ _ ?hs (fun hHeld=>?_)
   case hs=>exact⟨k0,k1,k2⟩
   clear hK K k0 k1 k2
   obtain⟨k0,k1,k2⟩:=hHeld
   try simp only [Act.put,zq1,zq2,zq3,zq4,zq5,zq6]
   refine zs6 (rs:=[14]) (by kernel_rfl) (by simp) ?_
   refine zs7 rfl (fun K hK=>?_) zs8
   try simp only [zq1,zq2,zq3]
   go_simp
   refine hK.out _ _ ?hs (fun hHeld=>?_)
   case hs=>first | exact⟨zs4 _ k0,zs4 _ k1,zs4 _ k2⟩ | go_keep
   clear hK K k0 k1 k2
   obtain⟨k0,k1,k2⟩:=hHeld
   try simp only [Act.put,zq1,zq2,zq3,zq4,zq5,zq6]
   refine zs6 (rs:=[15]) (by kernel_rfl) (by simp) ?_
   refine zs7 rfl (fun K hK=>?_) zs8
   refine step_append_own rfl _ _ 54 rfl (ob+1) 61 i61 (.agg #[.string ⟨#[]⟩,.int .i64 0]) 2 24 Tryz.underlying54 HI.out.1 HI.out.2.1 HI.out.2.2.1 HI.out.2.2.2 rfl (by decide) (.slice ra t rc) t (vrCells ((pairs F regs).take t)) rfl OX.out ⟨U.heap.size,0,none⟩ 1 1 [.string x,.int .i64 (r:Nat)] rfl rfl NW.out (fun u hu=>by simp at hu;rcases hu with rfl | rfl<;>rfl) NB.out.1 NB.out.2 (by have:=KS.out;have:=B1x.out.size;omega) ?_
   intro v4 w4' hown hg
   obtain⟨a4,c4,hv4⟩:=own_sliceI hown
   subst hv4
   have H4:=zh hown
   have G4:=zh hg
   have B4:Hid (Below ob V w4'):=BA.out.grown hg (by have:=BA.out.size;have:=HOB.out;omega) (fun q e=>by have:=(OX.out.lt q e).1;omega)
   have B4V:Hid (Below V.heap.size V w4'):=by have h:=B4.out;rw [HOB.out] at h;exact h
   have t1:w4'.cell? ⟨lg2,lo+t,none⟩=some (.string x):=zd (BW.out.trans (B4V.out.mono BW.out.size)) _ _ HN1.out
   have t2:w4'.cell? ⟨g,t,none⟩=some (.int .i64 (r:Nat)):=by rw [World.rowIs.cell (R2.out.keep (B4V.out.block _ GL.out)) TLT.out,HR.out]
   have t4:w4'.cell? ⟨fb,0,none⟩=some (.slice (some ⟨lg2,lo,none⟩) nv svc):=by rw [zb _ _ 0 _ _ _ (zm (BW.out.trans (B4V.out.mono BW.out.size)) HC.out.row),HNV.out];rfl
   have y0:=(hg.block ob (by have:=KS.out;have:=B1x.out.size;omega) (fun e=>by have:=(OX.out.lt _ e.symm).1;omega)).trans ((B1x.out.block ob (by have:=KS.out;omega)).trans KC.out)
   have Y0:=zh y0
   have t0:w4'.cell? ⟨ob,1,none⟩=some (.slice ra t rc):=by rw [zb _ _ 1 _ _ _ y0];rfl
   have t3:w4'.frozen? ⟨ob,1,none⟩=false:=zs1 _ _ 1 _ _ y0
   clear hown hg y0
   (try simp only [])
   refine hK.out _ _ ?hs (fun hHeld=>?_)
   case hs=>exact⟨t1,t2,t4⟩
   clear hK K k0 k1 k2
   obtain⟨k0,k1,k2⟩:=hHeld
   try simp only [Act.put,zq1,zq2,zq3,zq4,zq5,zq6]
   refine zs5 (i:=16) (v:=?_) rfl (by kernel_rfl) (by kernel_rfl) (by kernel_rfl) (fun _ _ _ h=>h) (Or.inl ⟨by rfl,?_⟩) ⟨k0,k1,k2⟩ ?_
   rotate_left
   ·(intro wz hSw;obtain⟨zk0,zk1,zk2⟩:=hSw;(try simp only [zq1,zq2,zq3]);go_simp;try with_reducible rfl)
   try simp only [Act.put,zq1,zq2,zq3,zq4,zq5,zq6]
   refine zs6 (rs:=[17]) (by kernel_rfl) (by simp) ?_
   refine zs7 rfl (fun K hK=>?_) zs8
   try simp only [zq1,zq2,zq3]
   go_simp
   refine hK.out _ _ ?hs (fun hHeld=>?_)
   case hs=>(refine⟨?_,?_,?_⟩<;>(first | (rw [World.cell?_setCell_far _ _ _ _ hfg];assumption) | (rw [World.cell?_setCell_far _ _ _ _ hfr];assumption) | (rw [World.cell?_setCell_far _ _ _ _ hff];assumption)))
   clear hK K hHeld k0 k1 k2
   refine wpAnyH_done (by kernel_rfl) ?_ _
   obtain⟨V6,hV6⟩:∃ W,W=w4'.setCell ⟨ob,1,none⟩ (.slice a4 (t+1) c4):=⟨_,rfl⟩
   try rw [← hV6]
   have C6:Hid (V6.heap[ob]?=some (.cells #[.int .i64 (most:Nat),.slice a4 (t+1) c4] 56 (0,0))):=by show _=_;rw [hV6];exact heap_setCell_same _ _ 1 _ _ _ Y0.out
   have O6:Hid (World.ownsRow V6 (ob+1) 61 2 (.slice a4 (t+1) c4) (t+1) (vrCells ((pairs F regs).take (t+1)))):=by
    show World.ownsRow _ _ _ _ _ _ _
    rw [PT.out,vrCells_append,hV6]
    exact owns_keep2 H4.out fun q hq=>zt1 _ _ _ _ (by have:=(H4.out.lt q hq).1;show q≠ob;omega)
   have B6:Hid (Below ob V V6):=by show Below _ _ _;rw [hV6];exact B4.out.setCell (zr4 _) _
   have S6:Hid (ob+1≤V6.heap.size):=by have:=(zq7.1 C6.out).1;exact this
   clear H4 G4 B4 B4V Y0 OX NW X1 t0 t1 t2 t3 t4 z0 z0' z0'' z1 z2 hV6
   go_wp2_with fail
   go_roundw
   case rel=>exact⟨t+1,TLT.out,by go_num,_,C6.out,O6.out,B6.out,S6.out⟩
   case measure=>have:=TLT.out;simp [intOf];omega
  try simp only [zq1,zq2,zq3]
  go_simp
  refine hK.out _ _ ?hs (fun hHeld=>?_)
  case hs=>first | exact⟨zs4 _ k0,zs4 _ k1,zs4 _ k2⟩ | go_keep
  clear hK K k0 k1 k2
  obtain⟨k0,k1,k2⟩:=hHeld
  try simp only [Act.put,zq1,zq2,zq3,zq4,zq5,zq6]
  refine zs6 (rs:=[1]) (by kernel_rfl) (by simp) ?_
  refine zs7 rfl (fun K hK=>?_) zs8
  try simp only [zq1,zq2,zq3]
  go_simp
  refine hK.out _ _ ?hs (fun hHeld=>?_)
  case hs=>exact⟨k0,k1,k2⟩
  clear hK K k0 k1 k2
  obtain⟨k0,k1,k2⟩:=hHeld
  try simp only [Act.put,zq1,zq2,zq3,zq4,zq5,zq6]
  refine zs6 (rs:=[15]) (by kernel_rfl) (by simp) ?_
  refine zs7 rfl (fun K hK=>?_) zs8
  refine step_append_own rfl _ _ 54 rfl (ob+1) 61 i61 (.agg #[.string ⟨#[]⟩,.int .i64 0]) 2 24 Tryz.underlying54 HI.out.1 HI.out.2.1 HI.out.2.2.1 HI.out.2.2.2 rfl (by decide) (.slice ra t rc) t (vrCells ((pairs F regs).take t)) rfl OX.out ⟨U.heap.size,0,none⟩ 1 1 [.string x,.int .i64 (r:Nat)] rfl rfl NW.out (fun u hu=>by simp at hu;rcases hu with rfl | rfl<;>rfl) NB.out.1 NB.out.2 (by have:=KS.out;have:=B1x.out.size;omega) ?_
  intro v4 w4' hown hg
  obtain⟨a4,c4,hv4⟩:=own_sliceI hown
  subst hv4
  have H4:=zh hown
  have G4:=zh hg
  have B4:Hid (Below ob V w4'):=BA.out.grown hg (by have:=BA.out.size;have:=HOB.out;omega) (fun q e=>by have:=(OX.out.lt q e).1;omega)
  have B4V:Hid (Below V.heap.size V w4'):=by have h:=B4.out;rw [HOB.out] at h;exact h
  have t1:w4'.cell? ⟨lg2,lo+t,none⟩=some (.string x):=zd (BW.out.trans (B4V.out.mono BW.out.size)) _ _ HN1.out
  have t2:w4'.cell? ⟨g,t,none⟩=some (.int .i64 (r:Nat)):=by rw [World.rowIs.cell (R2.out.keep (B4V.out.block _ GL.out)) TLT.out,HR.out]
  have t4:w4'.cell? ⟨fb,0,none⟩=some (.slice (some ⟨lg2,lo,none⟩) nv svc):=by rw [zb _ _ 0 _ _ _ (zm (BW.out.trans (B4V.out.mono BW.out.size)) HC.out.row),HNV.out];rfl
  have y0:=(hg.block ob (by have:=KS.out;have:=B1x.out.size;omega) (fun e=>by have:=(OX.out.lt _ e.symm).1;omega)).trans ((B1x.out.block ob (by have:=KS.out;omega)).trans KC.out)
  have Y0:=zh y0
  have t0:w4'.cell? ⟨ob,1,none⟩=some (.slice ra t rc):=by rw [zb _ _ 1 _ _ _ y0];rfl
  have t3:w4'.frozen? ⟨ob,1,none⟩=false:=zs1 _ _ 1 _ _ y0
  clear hown hg y0
  (try simp only [])
  refine hK.out _ _ ?hs (fun hHeld=>?_)
  case hs=>exact⟨t1,t2,t4⟩
  clear hK K k0 k1 k2
  obtain⟨k0,k1,k2⟩:=hHeld
  try simp only [Act.put,zq1,zq2,zq3,zq4,zq5,zq6]
  refine zs5 (i:=16) (v:=?_) rfl (by kernel_rfl) (by kernel_rfl) (by kernel_rfl) (fun _ _ _ h=>h) (Or.inl ⟨by rfl,?_⟩) ⟨k0,k1,k2⟩ ?_
  rotate_left
  ·(intro wz hSw;obtain⟨zk0,zk1,zk2⟩:=hSw;(try simp only [zq1,zq2,zq3]);go_simp;try with_reducible rfl)
  try simp only [Act.put,zq1,zq2,zq3,zq4,zq5,zq6]
  refine zs6 (rs:=[17]) (by kernel_rfl) (by simp) ?_
  refine zs7 rfl (fun K hK=>?_) zs8
  try simp only [zq1,zq2,zq3]
  go_simp
  refine hK.out _ _ ?hs (fun hHeld=>?_)
  case hs=>(refine⟨?_,?_,?_⟩<;>(first | (rw [World.cell?_setCell_far _ _ _ _ hfg];assumption) | (rw [World.cell?_setCell_far _ _ _ _ hfr];assumption) | (rw [World.cell?_setCell_far _ _ _ _ hff];assumption)))
  clear hK K hHeld k0 k1 k2
  refine wpAnyH_done (by kernel_rfl) ?_ _
  obtain⟨V6,hV6⟩:∃ W,W=w4'.setCell ⟨ob,1,none⟩ (.slice a4 (t+1) c4):=⟨_,rfl⟩
  try rw [← hV6]
  have C6:Hid (V6.heap[ob]?=some (.cells #[.int .i64 (most:Nat),.slice a4 (t+1) c4] 56 (0,0))):=by show _=_;rw [hV6];exact heap_setCell_same _ _ 1 _ _ _ Y0.out
  have O6:Hid (World.ownsRow V6 (ob+1) 61 2 (.slice a4 (t+1) c4) (t+1) (vrCells ((pairs F regs).take (t+1)))):=by
   show World.ownsRow _ _ _ _ _ _ _
   rw [PT.out,vrCells_append,hV6]
   exact owns_keep2 H4.out fun q hq=>zt1 _ _ _ _ (by have:=(H4.out.lt q hq).1;show q≠ob;omega)
  have B6:Hid (Below ob V V6):=by show Below _ _ _;rw [hV6];exact B4.out.setCell (zr4 _) _
  have S6:Hid (ob+1≤V6.heap.size):=by have:=(zq7.1 C6.out).1;exact this
  clear H4 G4 B4 B4V Y0 OX NW X1 t0 t1 t2 t3 t4 z0 z0' z0'' z1 z2 hV6
  go_wp2_with fail
  go_roundw
  case rel=>exact⟨t+1,TLT.out,by go_num,_,C6.out,O6.out,B6.out,S6.out⟩
  case measure=>have:=TLT.out;simp [intOf];omega
 have htz:(nv:Int)≤t:=by omega
 have hdt:decide (t<nv)=false:=by simp;omega
 have htn:t=nv:=by have:=KT.out;omega
 subst htn
 have KO2:Hid (World.ownsRow U (ob+1) 61 2 (.slice ra t rc) t (vrCells (pairs F regs))):=by
  have h1:=KO.out
  rw [zr3 (by rw [pairs_length,HNV.out];exact zr4 _)] at h1
  exact h1
 have OBW:Hid (w.heap.size<ob):=by have h1:=BG.out.size;have h3:=S1.out;have h7:=HOB.out;show _<_;omega
 have RBU:Hid (U.heap[w.heap.size]?=some (.cells #[.int .i64 0,.slice none 0 0] 56 (0,0))):=((BG.out.trans (KBV.out.mono BG.out.size)).block _ S1.out).trans RB1.out
 have o0:U.cell? ⟨ob,0,none⟩=some (.int .i64 (most:Nat)):=by rw [zb _ _ 0 _ _ _ KC.out];rfl
 have r0:U.cell? ⟨w.heap.size,0,none⟩=some (.int .i64 0):=by rw [zb _ _ 0 _ _ _ RBU.out];rfl
 have r1:U.cell? ⟨w.heap.size,1,none⟩=some (.slice none 0 0):=by rw [zb _ _ 1 _ _ _ RBU.out];rfl
 have rf:∀ q,U.frozen? ⟨w.heap.size,q,none⟩=false:=fun q=>zs1 _ _ q _ _ RBU.out
 clear hlt
 go_wp2_with fail
 obtain⟨WF,hWF⟩:∃ W,W=(U.setCell ⟨w.heap.size,0,none⟩ (.int .i64 (most:Nat))).setCell ⟨w.heap.size,1,none⟩ (.slice ra t rc):=⟨_,rfl⟩
 rw [← hWF]
 have rw1:WF.heap[w.heap.size]?=some (.cells #[.int .i64 (most:Nat),.slice ra t rc] 56):=by
  rw [hWF];exact heap_setCell_same _ _ 1 _ _ _ (heap_setCell_same _ _ 0 _ _ _ RBU.out)
 have y0:WF.cell? ⟨w.heap.size,0,none⟩=some (.int .i64 (most:Nat)):=by rw [zb _ _ 0 _ _ _ rw1];rfl
 have y1:WF.cell? ⟨w.heap.size,1,none⟩=some (.slice ra t rc):=by rw [zb _ _ 1 _ _ _ rw1];rfl
 refine bodyPost_ret (v := .agg #[.int .i64 (most:Nat),.slice ra t rc]) (by simp [results,Tryz.results32,go_sem,y0,y1];try rfl) rfl ?_
 refine⟨by rw [hWF];exact(BU.out.setCell (zr4 _) _).setCell (zr4 _) _,_,by rw [← AL.out],?_⟩
 rw [← AL.out]
 refine VrOwn.vars0 (base:=ob+1) ?_
 unfold VrOwn
 rw [pairs_length,← HNV.out,hWF]
 exact owns_keep2 KO2.out fun q hq=>(zt1 _ _ _ _ (by have:=(KO2.out.lt q hq).1;have:=OBW.out;show q≠w.heap.size;omega)).trans (zt1 _ _ _ _ (by have:=(KO2.out.lt q hq).1;have:=OBW.out;show q≠w.heap.size;omega))
end Go.Proofs.YtnkahlloahgifaaGreatDoor
namespace Go.Proofs.YtnkahlloahgifaaGreatDoor
open Go.RowKit RG Go.Maps RF
theorem widths_walk {w:World}(hE:Lx.Env w) {v:Value}{ps:List Nm}{e:TE}(h:FnOk Lx.Env isNm w v ps e)  : Calls Tryz.prog 5 #[v] w (SnP w):=by
 have HK:=zh h
 obtain⟨nm,op,ch,pv,va,num,site,aa,ab,ca,cb,ga,oa,gb,ob,rfl,hp,hat,-⟩:=h.val
 obtain⟨xa,xc,rfl,-⟩:=id hat.at'
 obtain⟨pa,pc,rfl,-⟩:=id hp.at'
 clear h hp hat
 obtain⟨np,hnp⟩:∃ n,n=ps.length:=⟨_,rfl⟩
 obtain⟨na,hna⟩:∃ n,n=e.args.length:=⟨_,rfl⟩
 obtain⟨nc,hnc⟩:∃ n,n=e.arms.length:=⟨_,rfl⟩
 obtain⟨nb,hnb⟩:∃ n,n=e.body.length:=⟨_,rfl⟩
 obtain⟨ek,hek⟩:∃ n,n=e.kind:=⟨_,rfl⟩
 obtain⟨en0,hen⟩:∃ n,n=e.name:=⟨_,rfl⟩
 rw [← hnp,← hna,← hnc,← hnb,← hek,← hen] at HK ⊢
 have HNP:=zh hnp
 clear hnp hna hnc hnb hek hen
 have B0:Hid (Below w.heap.size w (w.alloc (.cells #[.string nm,.bool ch,.slice pa np pc,.int .i64 ek,.string en0,.string op,.int .i64 num,.int .i64 site,.slice xa na xc,.slice aa nc ca,.slice ab nb cb] 29))):=(zs9 _ _).alloc (zr4 _) _
 have SN:Hid (Calls Tryz.prog 14 #[] (w.alloc (.cells #[.string nm,.bool ch,.slice pa np pc,.int .i64 ek,.string en0,.string op,.int .i64 num,.int .i64 site,.slice xa na xc,.slice aa nc ca,.slice ab nb cb] 29)) (SnP (w.alloc (.cells #[.string nm,.bool ch,.slice pa np pc,.int .i64 ek,.string en0,.string op,.int .i64 num,.int .i64 site,.slice xa na xc,.slice aa nc ca,.slice ab nb cb] 29)))):=sane_any (HK.out.law.keep _ _ _ (HK.out.law.size _ HK.out.env) HK.out.env B0.out)
 have O0:Hid ((w.alloc (.cells #[.string nm,.bool ch,.slice pa np pc,.int .i64 ek,.string en0,.string op,.int .i64 num,.int .i64 site,.slice xa na xc,.slice aa nc ca,.slice ab nb cb] 29)).heap[w.heap.size]?=some (.cells #[.string nm,.bool ch,.slice pa np pc,.int .i64 ek,.string en0,.string op,.int .i64 num,.int .i64 site,.slice xa na xc,.slice aa nc ca,.slice ab nb cb] 29 (0,0))):=zs2 w _
 clear hE
 go_enter Tryz.func5,Tryz.ntmps5
 go_wp2_with fail
 refine SN.out.mono ?_
 rintro en w1 ⟨rfl,hb⟩
 have B1:Hid (Below w.heap.size w w1):=B0.out.trans (hb.mono B0.out.size)
 have O1:=zh ((hb.block w.heap.size (by simp)).trans O0.out)
 have L1:Hid (w.heap.size+1≤w1.heap.size):=by have:=hb.size;simp at this;exact this
 have SM:=zh (small_any (HK.out.keep B1.out).val)
 obtain⟨q0,q1,q2,q3,q4,q5,q6,q7,q8,q9,q10⟩:=box11 O1.out
 clear hb SN O0 B0
 go_wp2_with fail
 refine SM.out.mono ?_
 rintro en w2 ⟨hb,b,rfl,hs1,-⟩
 have B2:Hid (Below w.heap.size w w2):=B1.out.trans (hb.mono B1.out.size)
 have O2:=zh ((hb.block w.heap.size (by have:=L1.out;omega)).trans O1.out)
 have L2:Hid (w.heap.size+1≤w2.heap.size):=zr5 L1.out hb.size
 have S1:=zh hs1
 clear q0 q1 q2 q3 q4 q5 q6 q7 q8 q9 q10 hb hs1 SM
 cases b
 ·go_wp2_with fail
  go_ret
  exact⟨rfl,B2.out⟩
 have OF:=zh (ofR_any (HK.out.keep B2.out).val)
 obtain⟨q0,q1,q2,q3,q4,q5,q6,q7,q8,q9,q10⟩:=box11 O2.out
 go_wp2_with fail
 refine OF.out.mono ?_
 rintro en w3 ⟨fb,rfl,hb,⟨hg,hem⟩|⟨hng,hem⟩⟩
 rotate_left
 ·skip
  have B3:Hid (Below w.heap.size w w3):=B2.out.trans (hb.mono B2.out.size)
  have O3:=zh ((hb.block w.heap.size (by have:=L2.out;omega)).trans O2.out)
  have L3:Hid (w.heap.size+1≤w3.heap.size):=zr5 L2.out hb.size
  have NG:=zh hng
  have EM3:=zh hem
  clear q0 q1 q2 q3 q4 q5 q6 q7 q8 q9 q10 hb hng hem OF S1
  have WD:=zh (width_any (HK.out.keep B3.out))
  obtain⟨q0,q1,q2,q3,q4,q5,q6,q7,q8,q9,q10⟩:=box11 O3.out
  go_wp2_with fail
  refine WD.out.mono ?_
  rintro en w4 ⟨hb,⟨hg,-⟩|⟨-,rfl⟩⟩
  ·exact absurd hg NG.out
  have B4:Hid (Below w.heap.size w w4):=B3.out.trans (hb.mono B3.out.size)
  have O4:=zh ((hb.block w.heap.size (by have:=L3.out;omega)).trans O3.out)
  have L4:Hid (w.heap.size+1≤w4.heap.size):=zr5 L3.out hb.size
  have EM4:=zh (EM3.out.keep hb)
  clear q0 q1 q2 q3 q4 q5 q6 q7 q8 q9 q10 hb WD
  have CR:=zh (crowdFn_any sort_law (HK.out.keep B4.out))
  obtain⟨q0,q1,q2,q3,q4,q5,q6,q7,q8,q9,q10⟩:=box11 O4.out
  go_wp2_with fail
  refine CR.out.mono ?_
  rintro en w5 ⟨hb,⟨hg,-⟩|⟨-,rfl⟩⟩
  ·exact absurd hg NG.out
  have B5:Hid (Below w.heap.size w w5):=B4.out.trans (hb.mono B4.out.size)
  have O5:=zh ((hb.block w.heap.size (by have:=L4.out;omega)).trans O4.out)
  have L5:Hid (w.heap.size+1≤w5.heap.size):=zr5 L4.out hb.size
  have EM5:=zh (EM4.out.keep hb)
  clear q0 q1 q2 q3 q4 q5 q6 q7 q8 q9 q10 hb CR
  have AL:=zh (allocate_any (HK.out.keep B5.out))
  obtain⟨q0,q1,q2,q3,q4,q5,q6,q7,q8,q9,q10⟩:=box11 O5.out
  go_wp2_with fail
  refine AL.out.mono ?_
  rintro en w6 ⟨hb,⟨hg,-⟩|⟨-,rfl⟩⟩
  ·exact absurd hg NG.out
  have B6:Hid (Below w.heap.size w w6):=B5.out.trans (hb.mono B5.out.size)
  have EM6:=zh (EM5.out.keep hb)
  clear q0 q1 q2 q3 q4 q5 q6 q7 q8 q9 q10 hb AL
  obtain⟨w7,hw7⟩:∃ W,W=w6.alloc (.cells #[.int .i64 0,.slice none 0 0] 56):=⟨_,rfl⟩
  have K7:Hid (Below w6.heap.size w6 w7):=by show Below _ _ _;rw [hw7];exact(zs9 _ _).alloc (zr4 _) _
  have N7:Hid (w7.heap[w6.heap.size]?=some (.cells #[.int .i64 0,.slice none 0 0] 56 (0,0))):=by show _=_;rw [hw7];exact zs2 w6 _
  go_upto_region 8 with fail
  rw [← hw7]
  clear hw7
  have B7:Hid (Below w.heap.size w w7):=B6.out.trans (K7.out.mono B6.out.size)
  have x6:w7.cell? ⟨fb,6,none⟩=some (.bool false):=by rw [zb _ _ 6 _ _ _ (EM6.out.keep K7.out)];rfl
  obtain⟨ab6,hab⟩:∃ b,b=w6.heap.size:=⟨_,rfl⟩
  rw [← hab] at N7 ⊢
  clear hab
  have m0:w7.cell? ⟨ab6,0,none⟩=some (.int .i64 0):=by rw [zb _ _ 0 _ _ _ N7.out];rfl
  have m1:w7.cell? ⟨ab6,1,none⟩=some (.slice none 0 0):=by rw [zb _ _ 1 _ _ _ N7.out];rfl
  have SA:Hid (Calls Tryz.prog 30 #[.agg #[.int .i64 0,.slice none 0 0],.agg #[.int .i64 0,.slice none 0 0]] w7 fun en w'=>Below w7.heap.size w7 w'∧en = .returned (.bool true)) :=
   sameAlloc_any (n0:=0) (n1:=0) (a:=[]) (b:=[]) ⟨none,0,rfl,fun h=>absurd h (Nat.lt_irrefl _)⟩ ⟨none,0,rfl,fun h=>absurd h (Nat.lt_irrefl _)⟩ (by simp)
  go_wp2_with fail
  refine SA.out.mono ?_
  rintro en w8 ⟨hb,rfl⟩
  have B8:Hid (Below w.heap.size w w8):=B7.out.trans (hb.mono B7.out.size)
  clear hb m0 m1 SA x6
  go_wp2_with fail
  go_ret
  exact⟨rfl,B8.out⟩
 have B3:Hid (Below w.heap.size w w3):=B2.out.trans (hb.mono B2.out.size)
 have O3:=zh ((hb.block w.heap.size (by have:=L2.out;omega)).trans O2.out)
 have L3:Hid (w.heap.size+1≤w3.heap.size):=zr5 L2.out hb.size
 have HG:=zh hg
 have SZ:=zh (S1.out (by trivial) hg)
 have FO:=zh (good_fo hg)
 have VEN:Hid ((vars (F0 ps e)).length≤300):=SZ.out.2
 have LEN:Hid ((F0 ps e).length≤300):=by have:=SZ.out.1;rw [← F0_length ps e] at this;exact this
 have FL3:Hid (FlF w3 fb (F0 ps e)):=⟨hem,FO.out,LEN.out,VEN.out,fun k hk=>zr5 (next_few hk) (zr5 LEN.out (by omega))⟩
 obtain⟨sva,svc,ug,uo,uc,ng,no,ncc,bg,bo,bc,ag,ao,ac,so,hC⟩:=FL3.out.cells
 have FC3:=zh hC
 obtain⟨n,hn⟩:∃ n,n=(F0 ps e).length:=⟨_,rfl⟩
 obtain⟨nv,hnv⟩:∃ n,n=(vars (F0 ps e)).length:=⟨_,rfl⟩
 have HN:=zh hn
 have HNV:=zh hnv
 have nz:(n:Int)≤300:=by have:=LEN.out;omega
 have nvz:(nv:Int)≤300:=by have:=VEN.out;omega
 clear q0 q1 q2 q3 q4 q5 q6 q7 q8 q9 q10 hb hg hem hC hn hnv OF S1
 have WD:=zh (width_any (HK.out.keep B3.out))
 obtain⟨q0,q1,q2,q3,q4,q5,q6,q7,q8,q9,q10⟩:=box11 O3.out
 go_wp2_with fail
 refine WD.out.mono ?_
 rintro en w4 ⟨hb,⟨-,rfl⟩|⟨hng,-⟩⟩
 rotate_left
 ·exact absurd HG.out hng
 have B4:Hid (Below w.heap.size w w4):=B3.out.trans (hb.mono B3.out.size)
 have O4:=zh ((hb.block w.heap.size (by have:=L3.out;omega)).trans O3.out)
 have L4:Hid (w.heap.size+1≤w4.heap.size):=zr5 L3.out hb.size
 have FL4:=zh (FL3.out.keep hb)
 have FC4:=zh (FC3.out.keep hb)
 obtain⟨wd,hwd⟩:∃ m,m=width (F0 ps e):=⟨_,rfl⟩
 rw [← hwd]
 have HWD:=zh hwd
 clear q0 q1 q2 q3 q4 q5 q6 q7 q8 q9 q10 hb WD hwd
 have CR:=zh (crowdFn_any sort_law (HK.out.keep B4.out))
 obtain⟨q0,q1,q2,q3,q4,q5,q6,q7,q8,q9,q10⟩:=box11 O4.out
 go_wp2_with fail
 refine CR.out.mono ?_
 rintro en w5 ⟨hb,⟨-,lv,rfl,hlv⟩|⟨hng,-⟩⟩
 rotate_left
 ·exact absurd HG.out hng
 have B5:Hid (Below w.heap.size w w5):=B4.out.trans (hb.mono B4.out.size)
 have O5:=zh ((hb.block w.heap.size (by have:=L4.out;omega)).trans O4.out)
 have L5:Hid (w.heap.size+1≤w5.heap.size):=zr5 L4.out hb.size
 have FL5:=zh (FL4.out.keep hb)
 have FC5:=zh (FC4.out.keep hb)
 obtain⟨la,lc,rfl,-⟩:=hlv.cells
 have CR5:=zh hlv
 obtain⟨ncr,hncr⟩:∃ m,m=(crowd (F0 ps e)).length:=⟨_,rfl⟩
 rw [← hncr] at CR5 ⊢
 have HNC:=zh hncr
 have CSUB:Hid (∀ x∈crowd (F0 ps e),x∈vars (F0 ps e)):=fun x hx=>by
  obtain⟨⟨i,-,h2⟩,-⟩:=crowd_spec FO.out
  rw [h2] at hx
  exact(mem_around.1 hx).1
 have NCZ:Hid (ncr≤300):=by
  have h1:=nodup_len (crowd_nodup FO.out) (m:=vars (F0 ps e)) CSUB.out
  have:=VEN.out;show ncr≤300;omega
 have ncz:(ncr:Int)≤300:=by have:=NCZ.out;omega
 clear q0 q1 q2 q3 q4 q5 q6 q7 q8 q9 q10 hb CR hlv hncr
 have AL:=zh (allocate_any (HK.out.keep B5.out))
 obtain⟨q0,q1,q2,q3,q4,q5,q6,q7,q8,q9,q10⟩:=box11 O5.out
 go_wp2_with fail
 refine AL.out.mono ?_
 rintro en w6 ⟨hb,⟨-,av,rfl,hav⟩|⟨hng,-⟩⟩
 rotate_left
 ·exact absurd HG.out hng
 have B6:Hid (Below w.heap.size w w6):=B5.out.trans (hb.mono B5.out.size)
 have O6:=zh ((hb.block w.heap.size (by have:=L5.out;omega)).trans O5.out)
 have L6:Hid (w.heap.size+1≤w6.heap.size):=zr5 L5.out hb.size
 have FL6:=zh (FL5.out.keep hb)
 have FC6:=zh (FC5.out.keep hb)
 obtain⟨ava,avc,rfl,-⟩:=id hav
 have HA6:=zh hav
 have CR6:=zh (CR5.out.kept (zd hb))
 obtain⟨most,hmo⟩:∃ m,m=(alloc (F0 ps e)).2:=⟨_,rfl⟩
 obtain⟨npr,hnpr⟩:∃ m,m=(pairs (F0 ps e) (alloc (F0 ps e)).1).length:=⟨_,rfl⟩
 have NPR:Hid (npr=nv):=by show _=_;rw [hnpr,HNV.out];unfold pairs;exact List.length_map _
 have HMO:=zh hmo
 have HNPR:=zh hnpr
 rw [← hnpr] at HA6
 rw [← hmo,← hnpr]
 obtain⟨w7,hw7⟩:∃ W,W=w6.alloc (.cells #[.int .i64 (most:Nat),.slice ava npr avc] 56):=⟨_,rfl⟩
 have hb5:Below w6.heap.size w6 w7:=by rw [hw7];exact(zs9 _ _).alloc (zr4 _) _
 have N7:Hid (w7.heap[w6.heap.size]?=some (.cells #[.int .i64 (most:Nat),.slice ava npr avc] 56 (0,0))):=by show _=_;rw [hw7];exact zs2 w6 _
 clear q0 q1 q2 q3 q4 q5 q6 q7 q8 q9 q10 hb hav hmo hnpr AL
 have hb:=hb5
 have B7:Hid (Below w.heap.size w w7):=B6.out.trans (hb.mono B6.out.size)
 have O7:=zh ((hb.block w.heap.size (by have:=L6.out;omega)).trans O6.out)
 have L7:Hid (w.heap.size+1≤w7.heap.size):=zr5 L6.out hb.size
 have FL7:=zh (FL6.out.keep hb)
 have FC7:=zh (FC6.out.keep hb)
 have HA7:=zh (HA6.out.kept (zd hb))
 have CR7:=zh (CR6.out.kept (zd hb))
 clear hb hb5
 go_upto_region 8 with fail
 rw [← hw7]
 clear hw7
 obtain⟨ab6,hab⟩:∃ b,b=w6.heap.size:=⟨_,rfl⟩
 rw [← hab] at N7 ⊢
 clear hab
 have x6:w7.cell? ⟨fb,6,none⟩=some (.bool true):=by rw [zb _ _ 6 _ _ _ FC7.out.row];rfl
 have CD:=zh (crowdR_any FL7.out)
 go_wp2_with fail
 refine CD.out.mono ?_
 rintro en w8 ⟨hb,uc8,rfl,huc⟩
 rw [← HWD.out]
 have B8:Hid (Below w.heap.size w w8):=B7.out.trans (hb.mono B7.out.size)
 have O8:=zh ((hb.block w.heap.size (by have:=L7.out;omega)).trans O7.out)
 have L8:Hid (w.heap.size+1≤w8.heap.size):=zr5 L7.out hb.size
 have FL8:=zh (FL7.out.keep hb)
 have FC8:=zh (FC7.out.keep hb)
 have HA8:=zh (HA7.out.kept (zd hb))
 have CR8:=zh (CR7.out.kept (zd hb))
 have N8:Hid (w8.heap[ab6]?=some (.cells #[.int .i64 (most:Nat),.slice ava npr avc] 56 (0,0))):=(hb.block _ (zq7.1 N7.out).1).trans N7.out
 have NMC:Hid (namesR (F0 ps e) ((crowd (F0 ps e)).map (place (F0 ps e)))=crowd (F0 ps e)):=by
  show _=_
  unfold namesR
  rw [List.map_map]
  conv=>rhs;rw [← List.map_id (crowd (F0 ps e))]
  refine List.map_congr_left fun x hx=>?_
  have h1:=place_at (CSUB.out x hx)
  show (vars (F0 ps e)).getD (place (F0 ps e) x) ⟨#[]⟩=x
  rw [zt4,h1];rfl
 have HUC:=zh huc
 obtain⟨-,cua,cuc,rfl,-⟩:=id huc
 obtain⟨ncm,hncm⟩:∃ n,n=((crowd (F0 ps e)).map (place (F0 ps e))).length:=⟨_,rfl⟩
 rw [← hncm]
 have HUC2:Hid (SlAt w8 (.slice cua ncm cuc) ((crowd (F0 ps e)).map (place (F0 ps e))).length (nats ((crowd (F0 ps e)).map (place (F0 ps e))))):=by rw [hncm];exact HUC.out
 have CML:Hid (((crowd (F0 ps e)).map (place (F0 ps e))).length≤300):=by show _≤_;rw [List.length_map];have:=NCZ.out;have:=HNC.out;omega
 clear hb x6 CD huc hncm HUC
 have NMD:Hid (∀ W,Below w8.heap.size w8 W→Calls Tryz.prog 19 #[.pointer (some ⟨fb,0,none⟩),.slice cua ncm cuc] W (fun en' w'=>Below W.heap.size W w'∧Below w8.heap.size w8 w'∧∃ u,en' = .returned u∧StrsAt w' u (crowd (F0 ps e)))):=fun W hW=>by
  refine(namedR_any (FL8.out.keep hW).flat (HUC2.out.kept (zd hW)) (fun k hk=>by
   obtain⟨x,hx,rfl⟩:=List.mem_map.1 hk
   exact place_lt (CSUB.out x hx)) (by have:=CML.out;omega) (by have:=VEN.out;omega)).mono ?_
  rintro en w' ⟨hb',u,rfl,hu⟩
  rw [NMC.out] at hu
  exact⟨hb',hW.trans (hb'.mono hW.size),u,rfl,hu⟩
 have SAM:Hid (∀ W,Below w8.heap.size w8 W→∀ u,StrsAt W u (crowd (F0 ps e))→Calls Tryz.prog 18 #[.slice la ncr lc,u] W (fun en' w'=>Below W.heap.size W w'∧Below w8.heap.size w8 w'∧en' = .returned (.bool true))):=fun W hW u hu=>by
  refine(sameTexts_any (CR8.out.kept (zd hW)) hu (by have:=NCZ.out;have:=HNC.out;omega)).mono ?_
  rintro en w' ⟨hb',rfl⟩
  exact⟨hb',hW.trans (hb'.mono hW.size),by simp⟩
 have ALR:Hid (∀ W,Below w8.heap.size w8 W→Calls Tryz.prog 32 #[.pointer (some ⟨fb,0,none⟩)] W (fun en' w'=>Below W.heap.size W w'∧Below w8.heap.size w8 w'∧∃ v,en' = .returned (.agg #[.int .i64 (most:Nat),v])∧VarsAt w' v (pairs (F0 ps e) (alloc (F0 ps e)).1))):=fun W hW=>by
  refine(allocR_any (FL8.out.keep hW)).mono ?_
  rintro en w' ⟨hb',v,rfl,hv⟩
  exact⟨hb',hW.trans (hb'.mono hW.size),v,by rw [HMO.out],hv⟩
 have SAA:Hid (∀ W,Below w8.heap.size w8 W→∀ v,VarsAt W v (pairs (F0 ps e) (alloc (F0 ps e)).1)→Calls Tryz.prog 30 #[.agg #[.int .i64 (most:Nat),.slice ava npr avc],.agg #[.int .i64 (most:Nat),v]] W (fun en' w'=>Below W.heap.size W w'∧Below w8.heap.size w8 w'∧en' = .returned (.bool true))):=fun W hW v hv=>by
  refine(sameAlloc_any (HA8.out.kept (zd hW)) hv (by have:=HNPR.out;have:=NPR.out;have:=HNV.out;have:=VEN.out;omega)).mono ?_
  rintro en w' ⟨hb',rfl⟩
  exact⟨hb',hW.trans (hb'.mono hW.size),by simp⟩
 have m0:w8.cell? ⟨ab6,0,none⟩=some (.int .i64 (most:Nat)):=by rw [zb _ _ 0 _ _ _ N8.out];rfl
 have m1:w8.cell? ⟨ab6,1,none⟩=some (.slice ava npr avc):=by rw [zb _ _ 1 _ _ _ N8.out];rfl
 go_upto_region 13 with fail
 go_region_held3 (fun w'=>w'.cell? ⟨ab6,0,none⟩=some (.int .i64 (most:Nat))∧w'.cell? ⟨ab6,1,none⟩=some (.slice ava npr avc)) ((go_split_ands;(refine⟨?_,?_⟩<;>(first | assumption | exact zd hb12 _ _ (by assumption) | exact zd hb11 _ _ (by assumption) | exact zd hb10 _ _ (by assumption) | exact zd hb9 _ _ (by assumption))))) ((first | (go_at_call 19;refine(NMD.out _ (zs9 _ _).drew).mono ?_;rintro e9 w9 ⟨hb9,hc9,u9,rfl,hu9⟩) | (go_at_call 18;refine(SAM.out _ hc9 _ hu9).mono ?_;rintro e10 w10 ⟨hb10,hc10,rfl⟩) | (go_at_call 32;refine(ALR.out _ hc10).mono ?_;rintro e11 w11 ⟨hb11,hc11,v11,rfl,hv11⟩) | (go_at_call 30;refine(SAA.out _ hc11 _ hv11).mono ?_;rintro e12 w12 ⟨hb12,hc12,rfl⟩)))
 all_goals
  have BF:Hid (Below w.heap.size w w12):=B8.out.trans (hc12.mono B8.out.size)
  go_wp2_with fail
  go_ret
  exact⟨rfl,BF.out⟩
end Go.Proofs.YtnkahlloahgifaaGreatDoor
