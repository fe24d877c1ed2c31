/- Part. -/
import Derived.Test.YtnkahlloahgifaaGreatDoorVCv
import Derived.Deep.Cut
import Derived.StillTail
import Derived.StillTailTactics
import Derived.Test.YtnkahlloahgifaaGreatDoorVCt
import Derived.Test.YtnkahlloahgifaaGreatDoorVEc
import Derived.Test.YtnkahlloahgifaaGreatDoorVDm
import Derived.Test.YtnkahlloahgifaaGreatDoorVDa
import Derived.Test.YtnkahlloahgifaaGreatDoorVPl
import Derived.Deep.RegionHeld3
set_option linter.unusedSimpArgs false
set_option linter.unusedVariables false
namespace Go.Proofs.YtnkahlloahgifaaGreatDoor
open Go.RowKit RG Go.Maps
theorem Tryz.info61:(Tryz.prog.info? 61).map (fun i=>(i.zero,i.size,i.bytes))=some (some (.agg #[.string ⟨#[]⟩,.int .i64 0]),2,24):=by kernel_rfl
structure AlI (w w1:World) (A:Ad) (fl g ob:Nat) (F:List Nd) (i:Nat) (regs:List Nat) (most:Nat) (done:List Nm) (wr:World):Prop where
 st:(regs,most)=(List.range i).foldl (allocStep F) ((vars F).map fun _=>0,0)
 row:∃ f,AlS wr g F regs done f
 out:wr.heap[ob]?=some (.cells #[.int .i64 (most:Nat),.slice (some ⟨g,0,none⟩) (vars F).length (vars F).length] 56 (0,0))
 most:most≤1000001
 below:Below w1.heap.size w1 wr
set_option maxHeartbeats 4000000 in
set_option maxRecDepth 20000 in
theorem allocate_any {Env:World→Prop}{isName:Nm→Bool}{w:World}{v:Value}{ps:List Nm}{e:TE}(h:FnOk Env isName w v ps e):Calls Tryz.prog 26 #[v] w (AlP isName w ps e):=by
 have RD:=zh h.boxed
 obtain⟨cs,rfl⟩:=h.cells
 have LAW:=zh h
 have B0:Hid (Below w.heap.size w ((w.alloc (.cells cs 29)).alloc (.cells #[.int .i64 0,.slice none 0 0] 56))):=((Below.refl _ _).alloc (Nat.le_refl _) _).alloc (by simp) _
 have RD2:Hid (Calls Tryz.prog 58 #[.pointer (some ⟨w.heap.size,0,none⟩)] ((w.alloc (.cells cs 29)).alloc (.cells #[.int .i64 0,.slice none 0 0] 56)) (fun en w'=>ReadP isName ((w.alloc (.cells cs 29)).alloc (.cells #[.int .i64 0,.slice none 0 0] 56)) ps e en w')):=h.boxedAt ((Below.refl _ _).alloc (Nat.le_refl _) _)
 clear h
 go_enter Tryz.func26,Tryz.ntmps26
 go_wp2_with fail
 refine RD2.out.mono ?_
 rintro en w1 ⟨hb,⟨hg,A,fl,rfl,hfl⟩|⟨hng,rfl⟩⟩
 ·have HB1:Hid (Below w.heap.size w w1):=B0.out.trans (hb.mono B0.out.size)
  have HG:=zh hg
  have HF:=zh hfl
  have HW1:Hid (w.heap.size+1<w1.heap.size):=by have:=hb.size;simp at this;show _<_;omega
  have rbw:w1.heap[w.heap.size+1]?=some (.cells #[.int .i64 0,.slice none 0 0] 56):=by
   rw [hb.block _ (by simp)]
   have:=heap_alloc_new (w.alloc (.cells cs 29)) (.cells #[.int .i64 0,.slice none 0 0] 56)
   rw [World.size_alloc] at this
   exact this
  have RBW:=zh rbw
  obtain⟨sl,sn,sv,f0,f1,f2,f3⟩:=hfl.at'.flat
  obtain⟨-,ad3,c3',hsv3,-⟩:=id f3
  have c3:w1.cell? ⟨fl,3,none⟩=some (.slice ad3 (vars (F0 ps e)).length c3'):=by rw [cell_of_row _ _ 3 _ _ _ f0,hsv3];rfl
  obtain⟨nv,hnv⟩:∃ n,n=(vars (F0 ps e)).length:=⟨_,rfl⟩
  rw [← hnv] at c3
  have HNV:=zh hnv
  have hnvz:(nv:Int)≤320000:=by have:=hg.few;omega
  obtain⟨lc,lg,lo,c1,hlat⟩:=hfl.links
  have HLAT:=zh hlat
  obtain⟨n,hn⟩:∃ n,n=(F0 ps e).length:=⟨_,rfl⟩
  rw [← hn] at c1
  have HN:=zh hn
  have hnz:(n:Int)≤20000:=by have:=hfl.len;omega
  obtain⟨i0,hi0,hz0,hz1,hz2⟩:=info_parts Tryz.info61
  obtain⟨f0',hs0⟩:=AlS.made (w:=w1) hnv
  have hms:=run_make (P:=Tryz.prog) w1 54 61 i0 (.agg #[.string ⟨#[]⟩,.int .i64 0]) Tryz.underlying54 hi0 hz0 .i64 .i64 (nv:Int) (nv:Int) (by omega) (Int.le_refl _) (by rw [hz2];omega) (by omega)
  rw [hz1,Int.toNat_natCast] at hms
  change _=Result.ok _ (w1.alloc (.cells (madeCells #[.string ⟨#[]⟩,.int .i64 0] (nv*2)) 61)) at hms
  obtain⟨MC,hMC⟩:∃ m,m=madeCells #[.string ⟨#[]⟩,.int .i64 0] (nv*2):=⟨_,rfl⟩
  rw [← hMC] at hms hs0
  have S0:=zh hs0
  clear hb hg hfl rbw f0 f1 f2 f3 hsv3 hnv hlat hn hs0 hMC hi0 hz0 hz1 hz2
  have B2:Hid (Below w1.heap.size w1 ((w1.alloc (.cells MC 61)).alloc (.cells #[.int .i64 0,.slice (some ⟨w1.heap.size,0,none⟩) nv nv] 56))):=((Below.refl _ _).alloc (Nat.le_refl _) _).alloc (by simp) _
  have c1':=kept_below B2.out _ _ c1
  have I0:Hid (AlI w w1 A fl w1.heap.size (w1.heap.size+1) (F0 ps e) 0 ((vars (F0 ps e)).map fun _=>0) 0 [] ((w1.alloc (.cells MC 61)).alloc (.cells #[.int .i64 0,.slice (some ⟨w1.heap.size,0,none⟩) nv nv] 56))):=by
   refine⟨rfl,⟨f0',S0.out.keep (Below.heap_alloc _ _ _ (by simp))⟩,?_,by omega,B2.out⟩
   have:=heap_alloc_new (w1.alloc (.cells MC 61)) (.cells #[.int .i64 0,.slice (some ⟨w1.heap.size,0,none⟩) nv nv] 56)
   rw [World.size_alloc] at this
   rw [this,HNV.out];rfl
  clear S0 B2
  go_wp2_with fail
  clear c3 hms c1 c1'
  go_loopw [29] (fun iv wr=>∃ (i:Nat) (regs:List Nat) (most:Nat),i≤n∧iv = .int .i64 i∧AlI w w1 A fl w1.heap.size (w1.heap.size+1) (F0 ps e) i regs most (vars ((F0 ps e).take i)) wr) (fun iv _=>n - (intOf iv).toNat)
  case atStart=>exact⟨0,_,_,Nat.zero_le _,rfl,I0.out⟩
  case round =>
   rename World=>wo
   obtain⟨i,regs,most,hi,rfl,hI⟩:=hrel
   have KI:=zh hI
   have KN:=zh hi
   clear hi hI I0
   by_cases hlt:i<n
   ·have hlz:(i:Int)<n:=by omega
    have HLT:=zh hlt
    have hci:=kept_below KI.out.below _ _ (HLAT.out i (by rw [← HN.out];exact hlt))
    have LK:=zh ((HF.out.link (i:=i) (by rw [← HN.out];exact hlt)).keep KI.out.below)
    have hmm := @run_makeMap Tryz.prog
    have VB:Hid (Below wo.heap.size wo (wo.alloc (.map #[] 0))):=(Below.refl _ _).alloc (Nat.le_refl _) _
    have HS1:Hid (w1.heap.size+1<wo.heap.size):=(Array.getElem?_eq_some_iff.1 KI.out.out).1
    clear hlt
    go_wp2_with fail
    refine(crossing_any (LK.out.keep VB.out)).mono ?_
    rintro en w2 ⟨cb,rfl,hcb,hs2,hb2⟩
    have HC2:=zh hs2
    have HB2:Hid (Below wo.heap.size wo w2):=VB.out.trans (hb2.mono VB.out.size)
    have HT2:Hid (ISet w2 wo.heap.size (ofNats (Tx (F0 ps e) i regs (ikey (VSet (F0 ps e) (cross (F0 ps e) i)))))):=by
     rw [show Tx (F0 ps e) i regs (ikey (VSet (F0 ps e) (cross (F0 ps e) i)))=[] from Tx_start _ _ _ _ (fun x hx=>ikey_iff.2 ⟨1,vset_mem.2 ⟨x,(mem_named.1 hx).1,(mem_named.1 hx).2,rfl,rfl⟩⟩)]
     exact(ISet.made wo).keep (hb2.block _ (by simp))
    have HCB:Hid (wo.heap.size<cb∧cb<w2.heap.size):=⟨by simp at hcb;omega,IMap.lt hs2⟩
    clear hcb hs2 hb2 hci
    go_wp2_with (at_range;refine wpList_irange Tryz.underlying3 rfl _ 108 rfl Tryz.underlying108 cb (VSet (F0 ps e) (cross (F0 ps e) i)) rfl HC2.out ?_;intro w3 hrg0 hg0 hs0)
    go_frame
    have R0:=zh hrg0
    have HB3:Hid (Below wo.heap.size wo w3):=HB2.out.grown hg0 HB2.out.size (fun r e=>by cases e)
    have HT3:=zh (HT2.out.keep (hg0.block _ HT2.out.lt (by simp)))
    have HS3:Hid (w2.heap.size<w3.heap.size):=by show _<_;rw [hs0];exact Nat.lt_succ_self _
    obtain⟨f,hf⟩:=KI.out.row
    have SF:=zh hf
    have OB:=zh KI.out.out
    obtain⟨tb,htb⟩:∃ b,b=wo.heap.size:=⟨_,rfl⟩
    have HTB:=zh htb
    rw [← htb] at HT3 HCB HB3 HS1 ⊢
    rw [← HNV.out] at OB
    clear hrg0 hg0 hs0 hf htb HT2 HB2 HC2
    go_loopw [9] (fun _ wl=>∃ (todo:Int→Bool) (cnt:Nat),IRg Tryz.prog wl cb w2.heap.size (VSet (F0 ps e) (cross (F0 ps e) i)) todo cnt∧ISet wl tb (ofNats (Tx (F0 ps e) i regs todo))∧Below tb wo wl∧w2.heap.size<wl.heap.size) (fun _ wl=>wl.rangeLeft cb w2.heap.size)
    case atStart=>exact⟨_,_,R0.out,HT3.out,HB3.out,HS3.out⟩
    case round =>
     obtain⟨todo,cnt,hrg,hset,hbl,hsz⟩:=hrel
     have RG1:=zh hrg
     have KT:=zh hset
     have KB:=zh hbl
     have KS:=zh hsz
     clear hrg hset hbl hsz
     go_wp2_with (at_next;refine wpList_inext Tryz.underlying3 rfl _ rfl cb w2.heap.size _ todo cnt rfl RG1.out ?_ ?_)
     ·intro hl0
      have HT4:Hid (ISet wr tb (ofNats ((named (F0 ps e) (cross (F0 ps e) i)).map fun x=>regs.getD (place (F0 ps e) x) 0))):=by have:=KT.out;rw [Tx_end _ _ _ _ hl0] at this;exact this
      have KBW:Hid (Below w1.heap.size w1 wr):=KI.out.below.trans (KB.out.mono (by have:=HS1.out;omega))
      have LK4:=zh ((HF.out.link (i:=i) (by rw [← HN.out];exact HLT.out)).keep KBW.out)
      have SF4:Hid (∃ f,AlS wr w1.heap.size (F0 ps e) regs (vars ((F0 ps e).take i)++(nd (F0 ps e) i).binds.take 0) f):=⟨f,by rw [List.take_zero,List.append_nil];exact SF.out.keep (KB.out.block _ (by have:=HS1.out;omega))⟩
      have OB4:=zh ((KB.out.block _ HS1.out).trans OB.out)
      have HTW:Hid (w1.heap.size+1<tb):=HS1.out
      obtain⟨sv,hsv1,hst⟩:=(HF.out.link (i:=i) (by rw [← HN.out];exact HLT.out)).l0
      have hsv:=kept_below KBW.out _ _ hsv1
      clear hsv1
      obtain⟨-,sa,sc,rfl,hsl⟩:=hst
      have HSL:=zh hsl
      obtain⟨bs,hbs⟩:∃ b,b=(nd (F0 ps e) i).binds:=⟨_,rfl⟩
      obtain⟨nb,hnb⟩:∃ n,n=bs.length:=⟨_,rfl⟩
      rw [← hbs] at hsv HSL SF4
      rw [← hnb] at hsv HSL
      have HBS:=zh hbs
      have HNB:=zh hnb
      have HBV:Hid (∀ x∈bs,x∈vars (F0 ps e)):=fun x hx=>LK4.out.sub x (by rw [← hbs];exact hx)
      have hnbz:nb≤320000:=by have h1:=binds_le (F:=F0 ps e) (i:=i) (by rw [← HN.out];exact HLT.out);rw [← hbs,← hnb] at h1;have:=HG.out.few;omega
      have HNBZ:=zh hnbz
      have hnbi:(nb:Int)≤320000:=by omega
      have GV0:Hid (giveRegs (F0 ps e) (bs.drop 0) ((named (F0 ps e) (cross (F0 ps e) i)).map fun x=>regs.getD (place (F0 ps e) x) 0) (regs,most)=allocStep (F0 ps e) (regs,most) i):=by show _=_;rw [List.drop_zero,hbs];rfl
      have TL0:Hid (((named (F0 ps e) (cross (F0 ps e) i)).map fun x=>regs.getD (place (F0 ps e) x) 0).length≤320000+0):=by show _≤_;rw [List.length_map];have:=named_le (F:=F0 ps e) (cross (F0 ps e) i);have:=HG.out.few;omega
      have MO4:=zh KI.out.most
      have KST:=zh KI.out.st
      clear hl0 hsl hbs hnb hnbz KB KT KS RG1 R0 HT3 HB3 HS3 SF OB KI
      go_wp2_with fail
      clear hsv
      go_loopw [54] (fun iv wl=>∃ (k:Nat) (regs':List Nat) (most':Nat) (T:List Nat),k≤nb∧iv = .int .i64 k∧(∃ f,AlS wl w1.heap.size (F0 ps e) regs' (vars ((F0 ps e).take i)++bs.take k) f) ∧
       wl.heap[w1.heap.size+1]?=some (.cells #[.int .i64 (most':Nat),.slice (some ⟨w1.heap.size,0,none⟩) nv nv] 56 (0,0))∧most'≤1000001∧Below w1.heap.size w1 wl∧ISet wl tb (ofNats T)∧T.length≤320000+k∧giveRegs (F0 ps e) (bs.drop k) T (regs',most')=allocStep (F0 ps e) (regs,most) i) (fun iv _=>nb - (intOf iv).toNat)
      case atStart=>exact⟨0,_,_,_,Nat.zero_le _,rfl,SF4.out,OB4.out,MO4.out,KBW.out,HT4.out,TL0.out,GV0.out⟩
      case round =>
       obtain⟨k,regs',most',T,hk,rfl,hsf,hob,hmo,hbl,hse,htl,hgv⟩:=hrel
       have KK:=zh hk
       have SF:=zh hsf
       have OB:=zh hob
       have MO:=zh hmo
       have KB:=zh hbl
       have KT:=zh hse
       have TL:=zh htl
       have GV:=zh hgv
       clear hk hsf hob hmo hbl hse htl hgv SF4 OB4 HT4 TL0 GV0
       by_cases hlt:k<nb
       ·have hklz:(k:Int)<nb:=by omega
        obtain⟨g4,o4,rfl,hat⟩:=HSL.out (by omega)
        obtain⟨x,hx⟩:∃ x,bs[k]?=some x:=⟨_,List.getElem?_eq_getElem (by have:=HNB.out;omega)⟩
        have hcx:=kept_below KB.out _ _ (hat k _ (strs_at hx))
        have HX:=zh hx
        have HXV:=zh (HBV.out x (List.mem_of_getElem? hx))
        have HKL:=zh hlt
        have LOW:=zh (lowest_any KT.out (by have:=TL.out;have:=HNBZ.out;omega))
        obtain⟨r,hr⟩:∃ r,r=low T:=⟨_,rfl⟩
        have HR:=zh hr
        rw [← hr] at LOW
        have HRL:Hid (r≤640000):=by show _≤_;have:=(low_spec T).2.2;have:=TL.out;have:=HNBZ.out;omega
        have hrz:(r:Int)≤640000:=by have:=HRL.out;omega
        clear hat hx hlt hr
        go_upto_region 17 with (go_at_call 63;refine LOW.out.mono ?_;rintro e w' ⟨rfl,rfl⟩)
        go_upto_region 18 with (at_mapUpdate;refine wpList_sput rfl _ _ _ rfl tb (ofNats T) rfl KT.out ?_ ?_ r rfl rfl (wf_nat (by omega)) ?_)
        ·have:=TL.out;have:=HNBZ.out;unfold ofNats;rw [List.length_map];omega
        ·intro l hn hl
         have h1:=nodup_sub_len hn hl
         have:=TL.out;have:=HNBZ.out
         unfold ofNats at h1
         rw [List.length_map] at h1;omega
        intro w6 hm6 hg6
        have KT6:Hid (ISet w6 tb (ofNats (T++[low T]))):=by
         have h:ofNats (T++[low T])=ofNats T++[(r:Int)]:=by unfold ofNats;rw [List.map_append,HR.out];rfl
         show ISet _ _ _
         rw [h];exact hm6
        have B6:Hid (Below w1.heap.size w1 w6):=KB.out.grown hg6 KB.out.size (fun r e=>by simp at e;have:=HTW.out;omega)
        have OB6:=zh ((hg6.block _ (Array.getElem?_eq_some_iff.1 OB.out).1 (by have:=HTW.out;simp;omega)).trans OB.out)
        obtain⟨f,hf⟩:=SF.out
        have SF6:=hf.keep (hg6.block _ hf.row.lt (by have:=HTW.out;simp;omega))
        have hpl:=place_lt HXV.out
        have hr6:r≤1000000:=by have:=HRL.out;omega
        obtain⟨f',hf'⟩:=SF6.put HXV.out hr6
        have s0:=SF6.row.cell (i:=place (F0 ps e) x*2) (by omega)
        have s1:=SF6.row.cell (i:=place (F0 ps e) x*2+1) (by omega)
        have sf0:=SF6.row.frozen (place (F0 ps e) x*2)
        have sf1:=SF6.row.frozen (place (F0 ps e) x*2+1)
        have LK6:=(HF.out.link (i:=i) (by rw [← HN.out];exact HLT.out)).keep B6.out
        have p1:(Instr.lookup 116 (.map (some A.pl)) (.string x) false).run Tryz.prog w6.drew = .ok (.int .i64 (place (F0 ps e) x:Nat)) w6.drew:=pmap_run (w:=w6.drew) (LK6.pm.keep rfl) HXV.out
        have p2:w6.cell? ⟨fl,4,none⟩=some (.map (some A.pl)):=LK6.f4
        have p3:w6.cell? ⟨w1.heap.size+1,1,none⟩=some (.slice (some ⟨w1.heap.size,0,none⟩) nv nv):=by rw [cell_of_row _ _ 1 _ _ _ OB6.out];rfl
        have p0:w6.cell? ⟨w1.heap.size+1,0,none⟩=some (.int .i64 (most':Nat)):=by rw [cell_of_row _ _ 0 _ _ _ OB6.out];rfl
        have pf:∀ q,w6.frozen? ⟨w1.heap.size+1,q,none⟩=false:=fun q=>frozen_of_row _ _ q _ _ OB6.out
        have SF9:=zh hf'
        obtain⟨pl,hpp⟩:∃ q,q=place (F0 ps e) x:=⟨_,rfl⟩
        rw [← HNV.out] at hpl
        rw [← hpp] at hpl s0 s1 sf0 sf1 p1 SF9
        obtain⟨u0,hu0⟩:∃ u,u=f (pl*2):=⟨_,rfl⟩
        obtain⟨u1,hu1⟩:∃ u,u=f (pl*2+1):=⟨_,rfl⟩
        rw [← hu0] at s0
        rw [← hu1] at s1
        have HPP:=zh hpp
        have hplz:(pl:Int)<nv:=by omega
        have hpl0:(0:Int)≤pl:=by omega
        have hmoz:(most':Int)≤1000001:=by have:=MO.out;omega
        clear hm6 hg6 hf SF6 hf' LK6 hpp hpl hcx hu0 hu1
        go_upto_region 18 with fail
        refine wp_region_still_tail 12 (by kernel_rfl) (by kernel_rfl) ?_
        simp only [List.take_succ_cons,List.take_zero,List.drop_succ_cons,List.drop_zero,World.drew_eq]
        iterate 12 still_step
        refine wpStill_nil ?_
        go_wp2_with fail
        have hmax:(if (most':Int)<(r:Int)+1 then (r:Int)+1 else (most':Int))=((max most' (r+1):Nat):Int):=by split<;>omega
        first | rw [hmax] | rw [show max (most':Int) ((r:Int)+1)=((max most' (r+1):Nat):Int) from by omega]
        have ebt:bs.take (k+1)=bs.take k++[x]:=by rw [List.take_add_one,HX.out];rfl
        refine⟨⟨k+1,regs'.set pl r,max most' (r+1),T++[low T],HKL.out,by go_num,⟨f',?_⟩,?_,?_,?_,?_,?_,?_⟩,?_⟩
        ·rw [ebt,← List.append_assoc]
         exact SF9.out.keep (Below.heap_setCell _ ⟨w1.heap.size+1,0,none⟩ _ w1.heap.size (by simp))
        ·exact heap_setCell_same _ (w1.heap.size+1) 0 _ _ _ ((Below.heap_setCell _ _ _ _ (by simp)).trans ((Below.heap_setCell _ _ _ _ (by simp)).trans OB6.out))
        ·have:=MO.out;have:=HRL.out;omega
        ·exact(((B6.out.setCell (Nat.le_refl _) _).setCell (Nat.le_refl _) _).setCell (Nat.le_succ _) _).trans (below_drewN _ _ 1)
        ·have:=HTW.out
         exact KT6.out.keep ((Below.heap_setCell _ ⟨w1.heap.size+1,0,none⟩ _ tb (by show tb≠w1.heap.size+1;omega)).trans ((Below.heap_setCell _ ⟨w1.heap.size,pl*2+1,none⟩ _ tb (by show tb≠w1.heap.size;omega)).trans (Below.heap_setCell _ ⟨w1.heap.size,pl*2,none⟩ _ tb (by show tb≠w1.heap.size;omega))))
        ·have:=TL.out;rw [List.length_append,List.length_singleton];omega
        ·have h1:=GV.out
         have h2:bs.drop k=x :: bs.drop (k+1):=by
          rw [List.drop_eq_getElem_cons (by have:=HKL.out;have:=HNB.out;omega)];congr 1;exact(List.getElem?_eq_some_iff.1 HX.out).2
         rw [h2,giveRegs,← HPP.out,← HR.out] at h1
         rw [← HR.out];exact h1
        ·have:=HKL.out;simp [intOf];omega
       ·have hkn:k=nb:=by have:=KK.out;omega
        have hklz:(nb:Int)≤k:=by omega
        have ST5:Hid ((regs',most')=(List.range (i+1)).foldl (allocStep (F0 ps e)) ((vars (F0 ps e)).map fun _=>0,0)):=by
         show _=_
         rw [List.range_succ,List.foldl_append,← KST.out]
         have h1:=GV.out
         rw [hkn,HNB.out,List.drop_length] at h1
         exact h1
        have SF5:Hid (∃ f,AlS wr w1.heap.size (F0 ps e) regs' (vars ((F0 ps e).take (i+1))) f):=by
         obtain⟨f,hf⟩:=SF.out
         refine⟨f,?_⟩
         rw [vars_take_succ (by rw [← HN.out];exact HLT.out),← HBS.out]
         rw [hkn,HNB.out,List.take_length] at hf
         exact hf
        have hdk3:decide (k<nb)=false:=by simp;omega
        clear hkn hlt
        go_wp2_with fail
        go_roundw
        case rel=>exact⟨i+1,regs',most',HLT.out,by go_num,ST5.out,SF5.out,by rw [← HNV.out];exact OB.out,MO.out,KB.out⟩
        case measure=>have:=HLT.out;simp [intOf];omega
     ·intro x v w5 cnt1 hwx hx htx hrg1 hlt1 hg1 hs1 hen
      obtain⟨y,hyv,hyc,rfl,rfl⟩:=vset_mem.1 hx
      have hpl:=place_lt hyv
      rw [← HNV.out] at hpl
      have htw:tb≤w2.heap.size:=by have:=HCB.out;omega
      have B5:Hid (Below tb wo w5):=KB.out.grown hg1 (by have:=KS.out;omega) (fun r e=>by simp at e;omega)
      have o1:w5.cell? ⟨w1.heap.size+1,1,none⟩=some (.slice (some ⟨w1.heap.size,0,none⟩) nv nv):=by rw [cell_of_row _ _ 1 _ _ _ ((B5.out.block _ HS1.out).trans OB.out)];rfl
      have SF5:=SF.out.keep (B5.out.block _ (by have:=HS1.out;omega))
      have s1:=SF5.row.cell (i:=place (F0 ps e) y*2+1) (by rw [← HNV.out];omega)
      rw [SF.out.reg _ (by rw [← HNV.out];exact hpl)] at s1
      obtain⟨pl,hpp⟩:∃ q,q=place (F0 ps e) y:=⟨_,rfl⟩
      obtain⟨rg,hrgy⟩:∃ q,q=regs.getD pl 0:=⟨_,rfl⟩
      rw [← hpp] at hpl s1 hwx hx htx hrg1 hen ⊢
      rw [← hrgy] at s1
      have hplz:(pl:Int)<nv:=by omega
      have hpl0:(0:Int)≤pl:=by omega
      have K4:=zh hrg1
      have K5:=zh hlt1
      have HRG:Hid (rg≤1000000):=by show _≤_;rw [hrgy];exact getD_small SF.out.small pl
      have KT5:=zh (KT.out.keep (hg1.block tb KT.out.lt (by intro e;simp at e;have:=HCB.out;omega)))
      have STP:=zh (fun t=>Tx_step (regs:=regs) hyv hyc (by rw [← hpp];exact htx) t)
      rw [← hpp,← hrgy] at STP
      have HFEW:Hid ((vars (F0 ps e)).length≤320000):=HG.out.few
      have KS5:Hid (w2.heap.size<w5.heap.size):=Nat.lt_of_lt_of_le KS.out hg1.size
      clear hpl hyv hyc hpp hrgy hrg1 hlt1 hg1 hs1 hwx hx htx SF5
      go_wp2_with (at_mapUpdate;refine wpList_sput rfl _ _ _ rfl tb (ofNats (Tx (F0 ps e) i regs todo)) rfl KT5.out ?_ ?_ rg rfl rfl (wf_nat (by have:=HRG.out;omega)) ?_)
      ·have:=Tx_len (F0 ps e) i regs todo;have:=HFEW.out;unfold ofNats;rw [List.length_map];omega
      ·intro l hn hl
       have h1:=nodup_sub_len hn hl
       have h2:=Tx_len (F0 ps e) i regs todo
       have h3:=HFEW.out
       unfold ofNats at h1
       rw [List.length_map] at h1;omega
      intro w6 hm6 hg6
      have KT6:=zh (hm6.congr fun t=>STP.out t)
      have RG6:=zh (K4.out.kept hg6 (by intro e;simp at e;have:=HCB.out;omega) (by intro e;simp at e;have:=HCB.out;omega))
      have B6:Hid (Below tb wo w6):=B5.out.grown hg6 (by have:=KS5.out;omega) (fun r e=>by simp at e;omega)
      have KS6:Hid (w2.heap.size<w6.heap.size):=Nat.lt_of_lt_of_le KS5.out hg6.size
      clear hm6 hg6 hen o1 s1
      go_wp2_with fail
      go_roundw
      case rel=>exact⟨_,cnt1,RG6.out,KT6.out,B6.out,KS6.out⟩
      case measure=>rw [RG6.out.left_eq,RG1.out.left_eq];exact K5.out
   ·have hin:i=n:=by have:=KN.out;omega
    have hlz:(n:Int)≤i:=by omega
    have OB:=zh KI.out.out
    rw [← HNV.out] at OB
    have o0:wo.cell? ⟨w1.heap.size+1,0,none⟩=some (.int .i64 (most:Nat)):=by rw [cell_of_row _ _ 0 _ _ _ OB.out];rfl
    have o1:wo.cell? ⟨w1.heap.size+1,1,none⟩=some (.slice (some ⟨w1.heap.size,0,none⟩) nv nv):=by rw [cell_of_row _ _ 1 _ _ _ OB.out];rfl
    have rbw:=(KI.out.below.block _ HW1.out).trans RBW.out
    have r0:wo.cell? ⟨w.heap.size+1,0,none⟩=some (.int .i64 0):=by rw [cell_of_row _ _ 0 _ _ _ rbw];rfl
    have r1:wo.cell? ⟨w.heap.size+1,1,none⟩=some (.slice none 0 0):=by rw [cell_of_row _ _ 1 _ _ _ rbw];rfl
    have rf:∀ q,wo.frozen? ⟨w.heap.size+1,q,none⟩=false:=fun q=>frozen_of_row _ _ q _ _ rbw
    have HIN:=zh hin
    have RB:=zh rbw
    clear hin hlt rbw
    go_wp2_with fail
    obtain⟨WF,hWF⟩:∃ W,W=(wo.setCell ⟨w.heap.size+1,0,none⟩ (.int .i64 (most:Nat))).setCell ⟨w.heap.size+1,1,none⟩ (.slice (some ⟨w1.heap.size,0,none⟩) nv nv):=⟨_,rfl⟩
    rw [← hWF]
    have rw1:WF.heap[w.heap.size+1]?=some (.cells #[.int .i64 (most:Nat),.slice (some ⟨w1.heap.size,0,none⟩) nv nv] 56):=by
     rw [hWF];exact heap_setCell_same _ _ 1 _ _ _ (heap_setCell_same _ _ 0 _ _ _ RB.out)
    have z0:WF.cell? ⟨w.heap.size+1,0,none⟩=some (.int .i64 (most:Nat)):=by rw [cell_of_row _ _ 0 _ _ _ rw1];rfl
    have z1:WF.cell? ⟨w.heap.size+1,1,none⟩=some (.slice (some ⟨w1.heap.size,0,none⟩) nv nv):=by rw [cell_of_row _ _ 1 _ _ _ rw1];rfl
    refine bodyPost_ret (v := .tuple #[.agg #[.int .i64 (most:Nat),.slice (some ⟨w1.heap.size,0,none⟩) nv nv],.int .i64 0]) (by simp [results,Tryz.results26,go_sem,z0,z1];try rfl) rfl ?_
    have BF:Below w.heap.size w WF:=by
     rw [hWF]
     exact((HB1.out.trans (KI.out.below.mono (by have:=HW1.out;omega))).setCell (Nat.le_succ _) _).setCell (Nat.le_succ _) _
    have hst:=KI.out.st
    rw [HIN.out,HN.out] at hst
    have hal:(regs,most)=alloc (F0 ps e):=hst
    refine⟨BF,.inl ⟨HG.out,_,by rw [← hal],?_⟩⟩
    rw [← hal]
    obtain⟨f,hf⟩:=KI.out.row
    have hf2:=hf.keep (w':=WF) (by rw [hWF];exact(Below.heap_setCell _ _ _ _ (by have:=HW1.out;show w1.heap.size≠w.heap.size+1;omega)).trans (Below.heap_setCell _ _ _ _ (by have:=HW1.out;show w1.heap.size≠w.heap.size+1;omega)))
    rw [HNV.out]
    exact hf2.vars HF.out.fo.once (fun x hx=>by rw [HIN.out,HN.out,List.take_length];exact hx)
 ·have HB:Hid (Below w.heap.size w w1):=B0.out.trans (hb.mono B0.out.size)
  have HG:=zh hng
  have rbw:w1.heap[w.heap.size+1]?=some (.cells #[.int .i64 0,.slice none 0 0] 56):=by
   rw [hb.block _ (by simp)]
   have:=heap_alloc_new (w.alloc (.cells cs 29)) (.cells #[.int .i64 0,.slice none 0 0] 56)
   rw [World.size_alloc] at this
   exact this
  have r0:w1.cell? ⟨w.heap.size+1,0,none⟩=some (.int .i64 0):=by rw [cell_of_row _ _ 0 _ _ _ rbw];rfl
  have r1:w1.cell? ⟨w.heap.size+1,1,none⟩=some (.slice none 0 0):=by rw [cell_of_row _ _ 1 _ _ _ rbw];rfl
  have rf:∀ q,w1.frozen? ⟨w.heap.size+1,q,none⟩=false:=fun q=>frozen_of_row _ _ q _ _ rbw
  have RB:=zh rbw
  clear hb hng rbw
  go_wp2_with fail
  obtain⟨WF,hWF⟩:∃ W,W=(w1.setCell ⟨w.heap.size+1,0,none⟩ (.int .i64 0)).setCell ⟨w.heap.size+1,1,none⟩ (.slice none 0 0):=⟨_,rfl⟩
  rw [← hWF]
  have rw1:WF.heap[w.heap.size+1]?=some (.cells #[.int .i64 0,.slice none 0 0] 56):=by
   rw [hWF];exact heap_setCell_same _ _ 1 _ _ _ (heap_setCell_same _ _ 0 _ _ _ RB.out)
  have z0:WF.cell? ⟨w.heap.size+1,0,none⟩=some (.int .i64 0):=by rw [cell_of_row _ _ 0 _ _ _ rw1];rfl
  have z1:WF.cell? ⟨w.heap.size+1,1,none⟩=some (.slice none 0 0):=by rw [cell_of_row _ _ 1 _ _ _ rw1];rfl
  refine bodyPost_ret (v := .tuple #[.agg #[.int .i64 0,.slice none 0 0],.int .i64 160]) (by simp [results,Tryz.results26,go_sem,z0,z1];try rfl) rfl ?_
  refine⟨?_,.inr ⟨HG.out,rfl⟩⟩
  rw [hWF]
  exact(HB.out.setCell (Nat.le_succ _) _).setCell (Nat.le_succ _) _
end Go.Proofs.YtnkahlloahgifaaGreatDoor

namespace Go.Proofs.YtnkahlloahgifaaGreatDoor
open Go.RowKit RG Go.Maps
theorem eSum_eq:F0 [⟨#[109]⟩] eSum=xF:=rfl
def CLs (w:World) (b:Nat) (cs:Array Value):Prop:=∀ i x,cs[i]?=some x→w.cell? ⟨b,i,none⟩=some x
theorem CLs.kept {w w':World}{b:Nat}{cs:Array Value}(h:CLs w b cs) (hk:Kept w w'):CLs w' b cs:=fun i x hx=>hk _ _ (h i x hx)
def SnP (w:World) (e:Ending) (w':World):Prop:=e = .returned (.bool true)∧Below w.heap.size w w'
set_option maxHeartbeats 4000000 in
set_option maxRecDepth 20000 in
theorem sane_any {w:World}(hE:Lx.Env w):Calls Tryz.prog 14 #[] w (SnP w):=by
 have HE:=zh hE
 clear hE
 go_enter Tryz.func14,Tryz.ntmps14
 go_wp2_with fail
 refine(sum_any w).mono ?_
 rintro en w1 ⟨cs,rfl,hT,hb⟩
 obtain⟨nm,op,ch,pv,va,num,site,aa,ab,ca,cb,ga,oa,gb,ob,hcs,h1,h2,h3,h4,h5,h6⟩:=id hT
 have hpv:∃ a n c,pv = .slice a n c:=by obtain⟨ad,c,e,_⟩:=h1.at';exact⟨_,_,_,e⟩
 have hva:∃ a n c,va = .slice a n c:=by obtain⟨ad,c,e,_⟩:=h2.at';exact⟨_,_,_,e⟩
 obtain⟨pa,pn,pc,rfl⟩:=hpv
 obtain⟨xa,xn,xc,rfl⟩:=hva
 rw [Value.agg.injEq] at hcs
 subst hcs
 have FO:Hid (FnOk Lx.Env isNm w1 (.agg #[.string nm,.bool ch,.slice pa pn pc,.int .i64 eSum.kind,.string eSum.name,.string op,.int .i64 num,.int .i64 site,.slice xa xn xc,.slice aa eSum.arms.length ca,.slice ab eSum.body.length cb]) [⟨#[109]⟩] eSum):=⟨nlaw,nlaw.keep _ _ _ (nlaw.size _ HE.out) HE.out hb,hT,fun d hd=>by
  have:=List.all_eq_true.1 xsmall d hd
  simp only [Bool.and_eq_true,List.all_eq_true,decide_eq_true_eq] at this
  exact⟨fun x hx=>Nat.le_trans (this.1 x hx) (by decide),fun x hx=>Nat.le_trans (this.2 x hx) (by decide)⟩,by decide⟩
 have HG:Hid (RG.Good isNm [⟨#[109]⟩] eSum):=xgood
 have B1:Hid (Below w.heap.size w (w1.alloc (.cells #[.string nm,.bool ch,.slice pa pn pc,.int .i64 eSum.kind,.string eSum.name,.string op,.int .i64 num,.int .i64 site,.slice xa xn xc,.slice aa eSum.arms.length ca,.slice ab eSum.body.length cb] 29))):=hb.alloc hb.size _
 have C1:Hid (CLs (w1.alloc (.cells #[.string nm,.bool ch,.slice pa pn pc,.int .i64 eSum.kind,.string eSum.name,.string op,.int .i64 num,.int .i64 site,.slice xa xn xc,.slice aa eSum.arms.length ca,.slice ab eSum.body.length cb] 29)) w1.heap.size #[.string nm,.bool ch,.slice pa pn pc,.int .i64 eSum.kind,.string eSum.name,.string op,.int .i64 num,.int .i64 site,.slice xa xn xc,.slice aa eSum.arms.length ca,.slice ab eSum.body.length cb]):=fun i x hx=>by rw [cell_of_row _ _ _ _ _ _ (heap_alloc_new w1 _)];exact hx
 have K1:Hid (Below w1.heap.size w1 (w1.alloc (.cells #[.string nm,.bool ch,.slice pa pn pc,.int .i64 eSum.kind,.string eSum.name,.string op,.int .i64 num,.int .i64 site,.slice xa xn xc,.slice aa eSum.arms.length ca,.slice ab eSum.body.length cb] 29))):=(Below.refl _ _).alloc (Nat.le_refl _) _
 clear hT hb h1 h2 h3 h4 h5 h6
 have y0:=C1.out 0 _ rfl
 have y1:=C1.out 1 _ rfl
 have y2:=C1.out 2 _ rfl
 have y3:=C1.out 3 _ rfl
 have y4:=C1.out 4 _ rfl
 have y5:=C1.out 5 _ rfl
 have y6:=C1.out 6 _ rfl
 have y7:=C1.out 7 _ rfl
 have y8:=C1.out 8 _ rfl
 have y9:=C1.out 9 _ rfl
 have y10:=C1.out 10 _ rfl
 go_wp2_with fail
 refine(bound_any (FO.out.keep K1.out)).mono ?_
 rintro en w2 ⟨hb,hq⟩
 rcases hq with ⟨-,l1,rfl,hl1⟩|⟨hng,-⟩
 rotate_left
 ·exact absurd HG.out hng
 have B2:=zh (B1.out.trans (hb.mono B1.out.size))
 have K2:=zh (K1.out.trans (hb.mono K1.out.size))
 have C2:=zh (C1.out.kept (kept_below hb))
 have L1:=zh hl1
 clear hl1
 clear hb C1 y0 y1 y2 y3 y4 y5 y6 y7 y8 y9 y10
 have y0:=C2.out 0 _ rfl
 have y1:=C2.out 1 _ rfl
 have y2:=C2.out 2 _ rfl
 have y3:=C2.out 3 _ rfl
 have y4:=C2.out 4 _ rfl
 have y5:=C2.out 5 _ rfl
 have y6:=C2.out 6 _ rfl
 have y7:=C2.out 7 _ rfl
 have y8:=C2.out 8 _ rfl
 have y9:=C2.out 9 _ rfl
 have y10:=C2.out 10 _ rfl
 go_wp2_with fail
 refine(live_any sort_law (FO.out.keep K2.out) 4).mono ?_
 rintro en w3 ⟨hb,hq⟩
 rcases hq with ⟨-,i,l2,hi,-,rfl,hl2⟩|⟨-,ho,-⟩|⟨hng,-⟩
 rotate_left
 ·exact absurd ho (by rw [show eSum.size=7 from xsize];decide)
 ·exact absurd HG.out hng
 obtain rfl:i=4:=by omega
 have B3:=zh (B2.out.trans (hb.mono B2.out.size))
 have K3:=zh (K2.out.trans (hb.mono K2.out.size))
 have C3:=zh (C2.out.kept (kept_below hb))
 have L1:=zh (StrsAt.kept L1.out (kept_below hb))
 have L2:=zh hl2
 clear hl2 hi
 clear hb C2 y0 y1 y2 y3 y4 y5 y6 y7 y8 y9 y10
 have y0:=C3.out 0 _ rfl
 have y1:=C3.out 1 _ rfl
 have y2:=C3.out 2 _ rfl
 have y3:=C3.out 3 _ rfl
 have y4:=C3.out 4 _ rfl
 have y5:=C3.out 5 _ rfl
 have y6:=C3.out 6 _ rfl
 have y7:=C3.out 7 _ rfl
 have y8:=C3.out 8 _ rfl
 have y9:=C3.out 9 _ rfl
 have y10:=C3.out 10 _ rfl
 go_wp2_with fail
 refine(conflict_any (FO.out.keep K3.out) ⟨#[104]⟩ ⟨#[114]⟩ (by decide) (by decide)).mono ?_
 rintro en w4 ⟨hb,hq⟩
 rcases hq with ⟨-,-,-,he⟩|⟨-,hno,-⟩|⟨hng,-⟩
 rotate_left
 ·exact absurd hno (by rw [eSum_eq,xvars];simp)
 ·exact absurd HG.out hng
 rw [eSum_eq,xc1] at he
 subst he
 have B4:=zh (B3.out.trans (hb.mono B3.out.size))
 have K4:=zh (K3.out.trans (hb.mono K3.out.size))
 have C4:=zh (C3.out.kept (kept_below hb))
 have L1:=zh (StrsAt.kept L1.out (kept_below hb))
 have L2:=zh (StrsAt.kept L2.out (kept_below hb))
 clear hb C3 y0 y1 y2 y3 y4 y5 y6 y7 y8 y9 y10
 have y0:=C4.out 0 _ rfl
 have y1:=C4.out 1 _ rfl
 have y2:=C4.out 2 _ rfl
 have y3:=C4.out 3 _ rfl
 have y4:=C4.out 4 _ rfl
 have y5:=C4.out 5 _ rfl
 have y6:=C4.out 6 _ rfl
 have y7:=C4.out 7 _ rfl
 have y8:=C4.out 8 _ rfl
 have y9:=C4.out 9 _ rfl
 have y10:=C4.out 10 _ rfl
 go_wp2_with fail
 refine(conflict_any (FO.out.keep K4.out) ⟨#[116]⟩ ⟨#[114]⟩ (by decide) (by decide)).mono ?_
 rintro en w5 ⟨hb,hq⟩
 rcases hq with ⟨-,-,-,he⟩|⟨-,hno,-⟩|⟨hng,-⟩
 rotate_left
 ·exact absurd hno (by rw [eSum_eq,xvars];simp)
 ·exact absurd HG.out hng
 rw [eSum_eq,xc2] at he
 subst he
 have B5:=zh (B4.out.trans (hb.mono B4.out.size))
 have K5:=zh (K4.out.trans (hb.mono K4.out.size))
 have C5:=zh (C4.out.kept (kept_below hb))
 have L1:=zh (StrsAt.kept L1.out (kept_below hb))
 have L2:=zh (StrsAt.kept L2.out (kept_below hb))
 clear hb C4 y0 y1 y2 y3 y4 y5 y6 y7 y8 y9 y10
 have y0:=C5.out 0 _ rfl
 have y1:=C5.out 1 _ rfl
 have y2:=C5.out 2 _ rfl
 have y3:=C5.out 3 _ rfl
 have y4:=C5.out 4 _ rfl
 have y5:=C5.out 5 _ rfl
 have y6:=C5.out 6 _ rfl
 have y7:=C5.out 7 _ rfl
 have y8:=C5.out 8 _ rfl
 have y9:=C5.out 9 _ rfl
 have y10:=C5.out 10 _ rfl
 go_wp2_with fail
 refine(width_any (FO.out.keep K5.out)).mono ?_
 rintro en w6 ⟨hb,hq⟩
 rcases hq with ⟨-,he⟩|⟨hng,-⟩
 rotate_left
 ·exact absurd HG.out hng
 rw [eSum_eq,xwidth,show ((2:Nat):Int)=2 from rfl] at he
 subst he
 have B6:=zh (B5.out.trans (hb.mono B5.out.size))
 have K6:=zh (K5.out.trans (hb.mono K5.out.size))
 have C6:=zh (C5.out.kept (kept_below hb))
 have L1:=zh (StrsAt.kept L1.out (kept_below hb))
 have L2:=zh (StrsAt.kept L2.out (kept_below hb))
 clear hb C5 y0 y1 y2 y3 y4 y5 y6 y7 y8 y9 y10
 have y0:=C6.out 0 _ rfl
 have y1:=C6.out 1 _ rfl
 have y2:=C6.out 2 _ rfl
 have y3:=C6.out 3 _ rfl
 have y4:=C6.out 4 _ rfl
 have y5:=C6.out 5 _ rfl
 have y6:=C6.out 6 _ rfl
 have y7:=C6.out 7 _ rfl
 have y8:=C6.out 8 _ rfl
 have y9:=C6.out 9 _ rfl
 have y10:=C6.out 10 _ rfl
 go_wp2_with fail
 refine(allocate_any (FO.out.keep K6.out)).mono ?_
 rintro en w7 ⟨hb,hq⟩
 rcases hq with ⟨-,av,he,hav⟩|⟨hng,-⟩
 rotate_left
 ·exact absurd HG.out hng
 rw [eSum_eq,show (alloc xF).2=2 from by rw [xalloc],show ((2:Nat):Int)=2 from rfl] at he
 rw [eSum_eq] at hav
 obtain⟨aad,aac,hav0,-⟩:=id hav
 rw [xpairs] at hav0
 subst hav0
 subst he
 have B7:=zh (B6.out.trans (hb.mono B6.out.size))
 have K7:=zh (K6.out.trans (hb.mono K6.out.size))
 have C7:=zh (C6.out.kept (kept_below hb))
 have L1:=zh (StrsAt.kept L1.out (kept_below hb))
 have L2:=zh (StrsAt.kept L2.out (kept_below hb))
 have AV:=zh hav
 clear hav
 clear hb C6 y0 y1 y2 y3 y4 y5 y6 y7 y8 y9 y10
 have hbl:w1.heap.size<w7.heap.size:=World.block_lt_of_cell? _ _ (C7.out 0 _ rfl)
 have y0:=C7.out 0 _ rfl
 have y1:=C7.out 1 _ rfl
 have y2:=C7.out 2 _ rfl
 have y3:=C7.out 3 _ rfl
 have y4:=C7.out 4 _ rfl
 have y5:=C7.out 5 _ rfl
 have y6:=C7.out 6 _ rfl
 have y7:=C7.out 7 _ rfl
 have y8:=C7.out 8 _ rfl
 have y9:=C7.out 9 _ rfl
 have y10:=C7.out 10 _ rfl
 go_wp2_with fail
 have A7:Hid (Below w7.heap.size w7 (w7.alloc (.cells #[.int .i64 2,.slice aad 7 aac] 56))):=(Below.refl _ _).alloc (Nat.le_refl _) _
 have AC7:Hid (CLs (w7.alloc (.cells #[.int .i64 2,.slice aad 7 aac] 56)) w7.heap.size #[.int .i64 2,.slice aad 7 aac]):=fun i x hx=>by rw [cell_of_row _ _ _ _ _ _ (heap_alloc_new w7 _)];exact hx
 refine(count_any (FO.out.keep (K7.out.trans (A7.out.mono K7.out.size)))).mono ?_
 rintro en w8 ⟨hb,hq⟩
 rcases hq with ⟨-,he⟩|⟨hng,-⟩
 rotate_left
 ·exact absurd HG.out hng
 rw [show eSum.size=7 from xsize,show ((7:Nat):Int)=7 from rfl] at he
 subst he
 have B8:=zh (B7.out.trans ((A7.out.mono B7.out.size).trans (hb.mono (Nat.le_trans B7.out.size A7.out.size))))
 have AC8:=zh (AC7.out.kept (kept_below hb))
 have L1:=zh (StrsAt.kept (StrsAt.kept L1.out (kept_below A7.out)) (kept_below hb))
 have L2:=zh (StrsAt.kept (StrsAt.kept L2.out (kept_below A7.out)) (kept_below hb))
 have AV:=zh (VarsAt.kept (VarsAt.kept AV.out (kept_below A7.out)) (kept_below hb))
 clear hb C7 AC7 y0 y1 y2 y3 y4 y5 y6 y7 y8 y9 y10
 have N8:Hid (StrsAt (w8.alloc (.cells #[.string ⟨#[109]⟩,.string ⟨#[99]⟩,.string ⟨#[104]⟩,.string ⟨#[116]⟩,.string ⟨#[114]⟩,.string ⟨#[115]⟩,.string ⟨#[107]⟩] 9)) (.slice (some ⟨w8.heap.size,0,none⟩) 7 7) [⟨#[109]⟩,⟨#[99]⟩,⟨#[104]⟩,⟨#[116]⟩,⟨#[114]⟩,⟨#[115]⟩,⟨#[107]⟩]):=⟨rfl,_,_,rfl,fun _=>⟨w8.heap.size,0,rfl,fun i x hx=>by rw [Nat.zero_add,cell_of_row _ _ _ _ _ _ (heap_alloc_new w8 _)];simpa [YtnkahlloahgifaaGreatDoor.strs] using hx⟩⟩
 have D8:Hid (Below w8.heap.size w8 (w8.alloc (.cells #[.string ⟨#[109]⟩,.string ⟨#[99]⟩,.string ⟨#[104]⟩,.string ⟨#[116]⟩,.string ⟨#[114]⟩,.string ⟨#[115]⟩,.string ⟨#[107]⟩] 9))):=(Below.refl _ _).alloc (Nat.le_refl _) _
 go_wp2_with fail
 refine(sameTexts_any (StrsAt.kept L1.out (kept_below D8.out)) N8.out (by rw [eSum_eq,xvars];decide)).mono ?_
 rintro en w9 ⟨hb,rfl⟩
 rw [show decide (vars (F0 [⟨#[109]⟩] eSum)=[⟨#[109]⟩,⟨#[99]⟩,⟨#[104]⟩,⟨#[116]⟩,⟨#[114]⟩,⟨#[115]⟩,⟨#[107]⟩])=true from by rw [eSum_eq,xvars];simp]
 have B9:=zh (B8.out.trans ((D8.out.mono B8.out.size).trans (hb.mono (Nat.le_trans B8.out.size D8.out.size))))
 have AC9:=zh ((AC8.out.kept (kept_below D8.out)).kept (kept_below hb))
 have L2:=zh (StrsAt.kept (StrsAt.kept L2.out (kept_below D8.out)) (kept_below hb))
 have AV:=zh (VarsAt.kept (VarsAt.kept AV.out (kept_below D8.out)) (kept_below hb))
 clear hb AC8 N8 L1
 have N9:Hid (StrsAt (w9.alloc (.cells #[.string ⟨#[104]⟩,.string ⟨#[114]⟩] 9)) (.slice (some ⟨w9.heap.size,0,none⟩) 2 2) [⟨#[104]⟩,⟨#[114]⟩]):=⟨rfl,_,_,rfl,fun _=>⟨w9.heap.size,0,rfl,fun i x hx=>by rw [Nat.zero_add,cell_of_row _ _ _ _ _ _ (heap_alloc_new w9 _)];simpa [YtnkahlloahgifaaGreatDoor.strs] using hx⟩⟩
 have D9:Hid (Below w9.heap.size w9 (w9.alloc (.cells #[.string ⟨#[104]⟩,.string ⟨#[114]⟩] 9))):=(Below.refl _ _).alloc (Nat.le_refl _) _
 go_wp2_with fail
 refine(sameTexts_any (StrsAt.kept L2.out (kept_below D9.out)) N9.out (by rw [eSum_eq,xlive];decide)).mono ?_
 rintro en w10 ⟨hb,rfl⟩
 rw [show decide (liveAt (F0 [⟨#[109]⟩] eSum) 4=[⟨#[104]⟩,⟨#[114]⟩])=true from by rw [eSum_eq,xlive];simp]
 have B10:=zh (B9.out.trans ((D9.out.mono B9.out.size).trans (hb.mono (Nat.le_trans B9.out.size D9.out.size))))
 have AC10:=zh ((AC9.out.kept (kept_below D9.out)).kept (kept_below hb))
 have AV:=zh (VarsAt.kept (VarsAt.kept AV.out (kept_below D9.out)) (kept_below hb))
 clear hb AC9 N9 L2
 have z0:=AC10.out 0 _ rfl
 have z1:=AC10.out 1 _ rfl
 go_wp2_with fail
 refine(reg_any ⟨#[115]⟩ AV.out (by rw [xpairs];decide)).mono ?_
 rintro en w11 ⟨hb,rfl⟩
 rw [xreg]
 have B11:=zh (B10.out.trans (hb.mono B10.out.size))
 have AC11:=zh (AC10.out.kept (kept_below hb))
 clear hb AC10 z0 z1 AV
 have N11:Hid (MvsAt (w11.alloc (.cells #[.int .i64 0,.int .i64 1,.int .i64 1,.int .i64 0] 81)) (.slice (some ⟨w11.heap.size,0,none⟩) 2 2) [(0,1),(1,0)]):=⟨_,_,rfl,fun _=>⟨w11.heap.size,0,rfl,fun i m hm=>by
  have r:=row8 (heap_alloc_new w11 (.cells #[.int .i64 0,.int .i64 1,.int .i64 1,.int .i64 0] 81))
  match i,hm with
  | 0,hm=>simp at hm;subst hm;exact⟨r 0 _ rfl,r 1 _ rfl⟩
  | 1,hm=>simp at hm;subst hm;exact⟨r 2 _ rfl,r 3 _ rfl⟩
  | i+2,hm=>simp at hm⟩⟩
 have D11:Hid (Below w11.heap.size w11 (w11.alloc (.cells #[.int .i64 0,.int .i64 1,.int .i64 1,.int .i64 0] 81))):=(Below.refl _ _).alloc (Nat.le_refl _) _
 go_wp2_with fail
 refine(order_any (spare:=2) N11.out).mono ?_
 rintro en w12 ⟨hb,hq⟩
 rcases hq with ⟨-,o,ho,rfl⟩|⟨hng,-⟩
 rotate_left
 ·rw [xmoves] at hng;cases hng
 obtain⟨oa,oc,hoa,-⟩:=id ho
 rw [xorder] at hoa
 subst hoa
 have B12:=zh (B11.out.trans ((D11.out.mono B11.out.size).trans (hb.mono (Nat.le_trans B11.out.size D11.out.size))))
 have z0:=((AC11.out.kept (kept_below D11.out)).kept (kept_below hb)) 0 _ rfl
 clear hb ho AC11 N11
 go_wp2_with fail
 go_ret
 exact⟨rfl,B12.out⟩
end Go.Proofs.YtnkahlloahgifaaGreatDoor

namespace Go.Proofs.YtnkahlloahgifaaGreatDoor
open Go.RowKit RG Go.Maps RF
theorem box11 {V:World}{b:Nat}{c0 c1 c2 c3 c4 c5 c6 c7 c8 c9 c10:Value}{T:TypeId}(h:V.heap[b]?=some (.cells #[c0,c1,c2,c3,c4,c5,c6,c7,c8,c9,c10] T (0,0))) :
  V.cell? ⟨b,0,none⟩=some c0∧V.cell? ⟨b,1,none⟩=some c1∧V.cell? ⟨b,2,none⟩=some c2∧V.cell? ⟨b,3,none⟩=some c3∧V.cell? ⟨b,4,none⟩=some c4∧V.cell? ⟨b,5,none⟩=some c5 ∧
  V.cell? ⟨b,6,none⟩=some c6∧V.cell? ⟨b,7,none⟩=some c7∧V.cell? ⟨b,8,none⟩=some c8∧V.cell? ⟨b,9,none⟩=some c9∧V.cell? ⟨b,10,none⟩=some c10:=by
 refine⟨?_,?_,?_,?_,?_,?_,?_,?_,?_,?_,?_⟩<;>exact(cell_of_row _ _ _ _ _ _ h).trans rfl
end Go.Proofs.YtnkahlloahgifaaGreatDoor
