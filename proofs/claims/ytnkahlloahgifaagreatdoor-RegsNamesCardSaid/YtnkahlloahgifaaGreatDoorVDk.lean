/- Part. -/
import Derived.Test.YtnkahlloahgifaaGreatDoorVCg
import Derived.Deep.CutRange
set_option maxHeartbeats 16000000
set_option maxRecDepth 100000
set_option linter.unusedSimpArgs false
set_option linter.unusedVariables false
namespace Go.Proofs.YtnkahlloahgifaaGreatDoor
section
open Go.RowKit RG Go.Maps
theorem containsS_has (l:List Nm) (x:Nm):Lib.containsS l x=RG.has l x:=by
 rw [Bool.eq_iff_iff,zx,Lib.containsS_iff]
theorem contains_any {w:World}{v:Value}{ns:List Nm}(x:Nm) (h:StrsAt w v ns) (hl:ns.length≤1000000000):Calls Tryz.prog 59 #[v,.string x] w fun e w'=>e = .returned (.bool (RG.has ns x))∧w'=w:=by
 obtain⟨-,ad,c,rfl,hat⟩:=h
 by_cases h0:0<ns.length
 ·obtain⟨g,o,rfl,hat2⟩:=hat h0
  have:=Tryz.slices_Contains_string g o ns.length c ns x w (zr4 _) (by omega) (fun j hj=>by
   have h1:w.cell? ⟨g,o+j,none⟩=some (.string ns[j]):=hat2 j _ (strs_at (zq9 hj))
   rw [zt4,zq9 hj];exact h1)
  rw [List.take_length,containsS_has] at this
  exact this
 have e:ns=[]:=List.eq_nil_of_length_eq_zero (by omega)
 subst e
 exact Tryz.slices_Contains_string_empty ad c x w
def CfP (isName:Nm→Bool) (w:World) (ps:List Nm) (e:TE) (a b:Nm) (en:Ending) (w':World):Prop :=
 Below w.heap.size w w'∧((RG.Good isName ps e∧a∈vars (F0 ps e)∧b∈vars (F0 ps e)∧en = .returned (.tuple #[.bool (conflict (F0 ps e) a b),.int .i64 0])) ∨
  (RG.Good isName ps e∧(a∉vars (F0 ps e)∨b∉vars (F0 ps e))∧en = .returned (.tuple #[.bool false,.int .i64 3]))∨(¬ RG.Good isName ps e∧en = .returned (.tuple #[.bool false,.int .i64 160])))
theorem conflict_any {Env:World→Prop}{isName:Nm→Bool}{w:World}{v:Value}{ps:List Nm}{e:TE}(h:FnOk Env isName w v ps e) (a b:Nm) (ha:a.size≤maxLen) (hb:b.size≤maxLen):Calls Tryz.prog 21 #[v,.string a,.string b] w (CfP isName w ps e a b):=by
 have RD:=zh h.boxed
 have HAS:=zh ha
 have HBS:=zh hb
 obtain⟨cs,rfl⟩:=h.cells
 have B0:Hid (Below w.heap.size w (w.alloc (.cells cs 29))):=(zs9 _ _).alloc (zr4 _) _
 clear h ha hb
 go_enter Tryz.func21,Tryz.ntmps21
 go_wp2_with fail
 refine RD.out.mono ?_
 rintro en w1 ⟨hb,⟨hg,A,f,rfl,hfl⟩|⟨hng,rfl⟩⟩
 ·have HB:Hid (Below w.heap.size w w1):=B0.out.trans (hb.mono B0.out.size)
  have HG:=zh hg
  have HF:=zh hfl
  obtain⟨c,g,o,c1,hat⟩:=hfl.links
  have HAT:=zh hat
  have c4:w1.cell? ⟨f,4,none⟩=some (.map (some A.pl)):=(hfl.link hfl.fo.pos).f4
  have PM:=zh hfl.at'.pmap
  obtain⟨n,hn⟩:∃ n,n=(F0 ps e).length:=⟨_,rfl⟩
  rw [← hn] at c1
  have HN:=zh hn
  have hnz:(n:Int)≤20000:=by have:=hfl.len;omega
  clear hb hg hfl hat hn
  by_cases hA:a∈vars (F0 ps e)
  ·by_cases hB:b∈vars (F0 ps e)
   ·have ta:=zx.2 hA
    have tb:=zx.2 hB
    have HA:=zh hA
    have HB':=zh hB
    clear hA hB
    by_cases hab:a=b
    ·have dp:((place (F0 ps e) a:Int)==(place (F0 ps e) b:Int))=true:=by rw [hab];simp
     have E:Hid (conflict (F0 ps e) a b=false):=by show _=_;unfold conflict;rw [if_pos hab]
     clear hab
     go_wp2_with (at_lookup;first | (refine wpList_pis rfl _ (.tmp 26) rfl A.pl (vars (F0 ps e)) rfl PM.out a HAS.out rfl ?_;intro p hp;obtain rfl:=hp _ (place_at HA.out);rw [ta]) | (refine wpList_pis rfl _ (.tmp 35) rfl A.pl (vars (F0 ps e)) rfl PM.out b HBS.out rfl ?_;intro q hq;obtain rfl:=hq _ (place_at HB'.out);rw [tb]))
     go_ret2
     exact⟨HB.out,.inl ⟨HG.out,HA.out,HB'.out,by rw [E.out];rfl⟩⟩
    have dp:((place (F0 ps e) a:Int)==(place (F0 ps e) b:Int))=false:=by
     rw [beq_eq_false_iff_ne]
     intro h
     exact hab (place_inj HA.out HB'.out (by exact_mod_cast h))
    have E:Hid (conflict (F0 ps e) a b=(List.range (F0 ps e).length).any (clash (F0 ps e) a b)):=by show _=_;unfold conflict;rw [if_neg hab]
    clear hab
    go_wp2_with (at_lookup;first | (refine wpList_pis rfl _ (.tmp 26) rfl A.pl (vars (F0 ps e)) rfl PM.out a HAS.out rfl ?_;intro p hp;obtain rfl:=hp _ (place_at HA.out);rw [ta]) | (refine wpList_pis rfl _ (.tmp 35) rfl A.pl (vars (F0 ps e)) rfl PM.out b HBS.out rfl ?_;intro q hq;obtain rfl:=hq _ (place_at HB'.out);rw [tb]))
    go_loopw [53] (fun iv wr=>∃ k:Nat,k≤n∧iv = .int .i64 k∧Below w1.heap.size w1 wr∧∀ i,i<k→clash (F0 ps e) a b i=false) (fun iv _=>n - (intOf iv).toNat)
    case atStart=>exact⟨0,zv3 _,rfl,zs9 _ _,fun i hi=>absurd hi (Nat.not_lt_zero i)⟩
    obtain⟨k,hk,rfl,hb,hno⟩:=hrel
    have HK:=zh hk
    have HBW:=zh hb
    have HNO:=zh hno
    clear hk hb hno c1 c4
    by_cases hlt:k<n
    ·have hlz:(k:Int)<n:=by omega
     have HLT:=zh hlt
     have hci:=zd HBW.out _ _ (HAT.out k (by rw [← HN.out];exact hlt))
     have LK:=zh ((HF.out.link (i:=k) (by rw [← HN.out];exact hlt)).keep HBW.out)
     obtain⟨sv,hsv,hst⟩:=LK.out.l0
     have HST:=zh hst
     obtain⟨-,sa,sc,rfl,-⟩:=id hst
     obtain⟨bl,hbl⟩:∃ bl,bl=(nd (F0 ps e) k).binds:=⟨_,rfl⟩
     obtain⟨bn,hbn⟩:∃ bn,bn=bl.length:=⟨_,rfl⟩
     rw [← hbl,← hbn] at hsv
     rw [← hbl,← hbn] at HST
     have HBL:=zh (And.intro hbl hbn)
     have HLL:Hid (bl.length≤1000000000):=by have:=LK.out.nb;rw [← hbl] at this;show _≤_;omega
     have CA:Hid (∀ (x:Nm) (m:Nat),Calls Tryz.prog 59 #[.slice sa bn sc,.string x] (wr.drewN m) fun e w'=>e = .returned (.bool (RG.has bl x))∧w'=wr.drewN m):=fun x m=>contains_any x (StrsAt.kept HST.out (zd (zj _ _ _))) HLL.out
     clear hst hlt hbl hbn
     go_upto_region 13 with (fail)
     go_quiet ((go_at_call 59;exact Calls.quiet_of_same (CA.out _ _)))
     go_wp2_with fail
     refine(crossing_any (LK.out.keep (zj _ _ _))).mono ?_
     rintro en w2 ⟨b1,rfl,hb1,hs2,hb2⟩
     have HB2:Hid (Below w1.heap.size w1 w2):=(HBW.out.trans (zj _ _ _)).trans (hb2.mono HBW.out.size)
     obtain⟨qa,hqa⟩:∃ q,q=cross (F0 ps e) k a:=⟨_,rfl⟩
     obtain⟨qb,hqb⟩:∃ q,q=cross (F0 ps e) k b:=⟨_,rfl⟩
     obtain⟨ba,hba⟩:∃ q,q=RG.has bl a:=⟨_,rfl⟩
     obtain⟨bb,hbb⟩:∃ q,q=RG.has bl b:=⟨_,rfl⟩
     have wfp:∀ x∈vars (F0 ps e),(Lit.int .i64 (place (F0 ps e) x:Int)).wf=true:=fun x hx=>wf_nat (by have:=place_lt hx;have:=HF.out.few;omega)
     have ea:=imap_run hs2 (wfp a HA.out) 108 Tryz.underlying108
     have eb:=imap_run hs2 (wfp b HB'.out) 108 Tryz.underlying108
     rw [vset_at HF.out.fo.once HA.out,← hqa] at ea
     rw [vset_at HF.out.fo.once HB'.out,← hqb] at eb
     have CL:Hid (clash (F0 ps e) a b k=((ba&&(bb||qb))||(bb&&qa))):=by show _=_;unfold clash;rw [← HBL.out.1,hba,hbb,hqa,hqb]
     rw [← hba,← hbb]
     clear hb1 hs2 hb2 hqa hqb hba hbb wfp hsv hci
     cases ba<;>cases bb<;>cases qa<;>cases qb
     all_goals
      simp only [if_true,if_false,Bool.false_eq_true] at ea eb
      first
       | (have C0:Hid (clash (F0 ps e) a b k=false):=CL.out
          have NX:Hid (∀ i,i<k+1→clash (F0 ps e) a b i=false):=fun i hi=>by
           by_cases e2:i=k
           ·rw [e2];exact C0.out
           exact HNO.out i (by omega)
          go_wp2_with fail
          go_roundw
          case rel=>exact⟨k+1,HLT.out,by go_num,HB2.out,NX.out⟩
          case measure=>have:=HLT.out;simp [intOf];omega)
       | (have C1:Hid (clash (F0 ps e) a b k=true):=CL.out
          have E2:Hid (conflict (F0 ps e) a b=true):=by
           show _=_
           rw [E.out,List.any_eq_true]
           exact⟨k,List.mem_range.2 (by rw [← HN.out];exact HLT.out),C1.out⟩
          go_wp2_with fail
          go_ret2
          exact⟨HB.out.trans (HB2.out.mono HB.out.size),.inl ⟨HG.out,HA.out,HB'.out,by rw [E2.out];rfl⟩⟩)
    have hlz:(n:Int)≤k:=by omega
    have E2:Hid (conflict (F0 ps e) a b=false):=by
     show _=_
     rw [E.out,List.any_eq_false]
     intro i hi
     have h1:=List.mem_range.1 hi
     rw [HNO.out i (by have:=HN.out;omega)]
     decide
    clear hlt
    go_wp2_with fail
    go_ret2
    exact⟨HB.out.trans (HBW.out.mono HB.out.size),.inl ⟨HG.out,HA.out,HB'.out,by rw [E2.out];rfl⟩⟩
   have HA:=zh hA
   have ta:=zx.2 hA
   have tb:RG.has (vars (F0 ps e)) b=false:=by cases hq:RG.has (vars (F0 ps e)) b with | false=>rfl | true=>exact absurd (zx.1 hq) hB
   have NB:=zh hB
   clear hA hB
   go_wp2_with (at_lookup;first | (refine wpList_pis rfl _ (.tmp 26) rfl A.pl (vars (F0 ps e)) rfl PM.out a HAS.out rfl ?_;intro p hp;clear hp;rw [ta]) | (refine wpList_pis rfl _ (.tmp 35) rfl A.pl (vars (F0 ps e)) rfl PM.out b HBS.out rfl ?_;intro q hq;clear hq;rw [tb]))
   go_ret2
   exact⟨HB.out,.inr (.inl ⟨HG.out,.inr NB.out,rfl⟩)⟩
  have ta:RG.has (vars (F0 ps e)) a=false:=by cases hq:RG.has (vars (F0 ps e)) a with | false=>rfl | true=>exact absurd (zx.1 hq) hA
  have NA:=zh hA
  clear hA
  cases tb:RG.has (vars (F0 ps e)) b with
  | true =>
   go_wp2_with (at_lookup;first | (refine wpList_pis rfl _ (.tmp 26) rfl A.pl (vars (F0 ps e)) rfl PM.out a HAS.out rfl ?_;intro p hp;clear hp;rw [ta]) | (refine wpList_pis rfl _ (.tmp 35) rfl A.pl (vars (F0 ps e)) rfl PM.out b HBS.out rfl ?_;intro q hq;clear hq;rw [tb]))
   go_ret2
   exact⟨HB.out,.inr (.inl ⟨HG.out,.inl NA.out,rfl⟩)⟩
  | false =>
   go_wp2_with (at_lookup;first | (refine wpList_pis rfl _ (.tmp 26) rfl A.pl (vars (F0 ps e)) rfl PM.out a HAS.out rfl ?_;intro p hp;clear hp;rw [ta]) | (refine wpList_pis rfl _ (.tmp 35) rfl A.pl (vars (F0 ps e)) rfl PM.out b HBS.out rfl ?_;intro q hq;clear hq;rw [tb]))
   go_ret2
   exact⟨HB.out,.inr (.inl ⟨HG.out,.inl NA.out,rfl⟩)⟩
 have HB:Hid (Below w.heap.size w w1):=B0.out.trans (hb.mono B0.out.size)
 have HG:=zh hng
 clear hb hng
 go_wp2_with fail
 go_ret2
 exact⟨HB.out,.inr (.inr ⟨HG.out,rfl⟩)⟩
end
section
open Go.RowKit RG Go.Maps RF
def FindP (w:World) (l:List Nm) (x:Nm) (en:Ending) (w':World):Prop :=
 Below w.heap.size w w'∧((∃ k:Nat,en = .returned (.int .i64 k)∧l[k]?=some x)∨(en = .returned (.int .i64 (-1))∧x∉l))
theorem not_take {l:List Nm}{x:Nm}{n:Nat}(hn:n=l.length) (h:x∉l.take n):x∉l:=by
 rw [hn,List.take_length] at h;exact h
theorem find_any {w:World}{v:Value}{l:List Nm}(x:Nm) (h:StrsAt w v l) (hl:l.length≤1000000000000):Calls Tryz.prog 61 #[v,.string x] w (FindP w l x):=by
 obtain⟨aa,ac,rfl,hat⟩:=h.cells
 have HAT:=zh hat
 obtain⟨n,hn⟩:∃ n,n=l.length:=⟨_,rfl⟩
 rw [← hn] at hl ⊢
 have HN:=zh hn
 have hnz:(n:Int)≤1000000000000:=by omega
 clear h hat hn hl
 go_enter Tryz.func61,Tryz.ntmps61
 go_wp2_with fail
 go_loopw [5] (fun iv wr=>∃ k:Nat,k≤n∧iv = .int .i64 k∧Below w.heap.size w wr∧x∉l.take k) (fun iv _=>n - (intOf iv).toNat)
 case atStart=>exact⟨0,zv3 _,rfl,zs9 _ _,by simp⟩
 obtain⟨k,hk,rfl,hb,hq⟩:=hrel
 have HK:=zh hk
 have HB:=zh hb
 have HQ:=zh hq
 clear hk hb hq
 by_cases hlt:k<n
 ·obtain⟨g,o,rfl,hat⟩:=HAT.out (by have:=HN.out;omega)
  obtain⟨y,hy⟩:∃ y,l[k]?=some y:=⟨_,zq9 (by have:=HN.out;omega)⟩
  have y0:=zd HB.out _ _ (hat k y hy)
  have HY:=zh hy
  have HLT:=zh hlt
  have hlz:(k:Int)<n:=by omega
  have hk0:(0:Int)≤k:=by omega
  clear hat hy
  by_cases hxy:y=x
  ·have d1:(y.toList==x.toList)=true:=by rw [bytes_beq];simp [hxy]
   have E2:Hid (l[k]?=some x):=by show _=_;rw [HY.out,hxy]
   clear hxy hlt
   go_wp2_with fail
   go_ret
   exact⟨HB.out,.inl ⟨k,rfl,E2.out⟩⟩
  have d1:(y.toList==x.toList)=false:=by rw [bytes_beq];simp [hxy]
  have E2:Hid (x∉l.take (k+1)):=by
   show ¬ _
   rw [List.take_add_one,HY.out]
   intro hm
   rcases List.mem_append.1 hm with hm | hm
   ·exact HQ.out hm
   simp at hm;exact hxy hm.symm
  clear hxy hlt
  go_wp2_with fail
  go_roundw
  case rel=>exact⟨k+1,HLT.out,by go_num,HB.out,E2.out⟩
  case measure=>have:=HLT.out;simp [intOf];omega
 have hlz:(n:Int)≤k:=by omega
 have E2:Hid (x∉l):=not_take (show k=l.length by have:=HK.out;have:=HN.out;omega) HQ.out
 clear hlt
 go_wp2_with fail
 go_ret
 exact⟨HB.out,.inr ⟨rfl,E2.out⟩⟩
end
section
open Go.RowKit RG Go.Maps RF
theorem Tryz.info9r:(Tryz.prog.info? 9).map (fun i=>(i.zero,i.size,i.bytes))=some (some (.string ⟨#[]⟩),1,16):=by kernel_rfl
theorem Tryz.info40r:(Tryz.prog.info? 40).map (fun i=>(i.zero,i.size,i.bytes))=some (some (.slice none 0 0),1,24):=by kernel_rfl
theorem one1 {x u:Value}(hx:x.oneCell'=true) (hu:u∈[x]):u.oneCell'=true:=by simp at hu;rw [hu];exact hx
theorem news1' {w:World}{b:Nat}{x:Value}{T:TypeId}(h:w.heap[b]?=some (.cells #[x] T (0,0))):∀ (j:Nat) (u:Value),[x][j]?=some u→w.cell? ((⟨b,0,none⟩:Addr).add j)=some u:=fun j u hu=>by
 rw [Addr.add_lit,zb _ _ _ _ _ _ h,Nat.zero_add]
 match j,hu with
 | 0,hu=>exact hu
 | j+1,hu=>simp at hu
def RbP (w:World) (ρ:Nat→Nat) (fb:Nat) (st:St) (names:List Nm) (sc:List (Nm×Nat)) (e:Ending) (w':World):Prop :=
 ∃ ρ' a,e = .returned (.pointer a)∧Ch BM ρ ρ' w w'∧(∀ k,ρ' k≠9)∧FlR w' ρ' fb (st.bind names)∧ScR w' ρ' (scope st.vars.length names sc) (.pointer a)
theorem rbind_any {w:World} {ρ:Nat→Nat}{fb:Nat}{st:St}{names:List Nm}{v scv:Value}{sc:List (Nm×Nat)}{of:Int}(hfl:FlR w ρ fb st) (hρ:∀ k,w.heap.size≤k→ρ k=0) (h9:∀ k,ρ k≠9)
  (hn:ZA w ρ v names.length (strs names)) (hnl:names.length≤16) (hsc:ScR w ρ sc scv) (hvl:st.vars.length≤400000) (hbl:st.binds.length≤100000) (hub:st.uses.length=st.binds.length) :
  Calls Tryz.prog 51 #[.pointer (some ⟨fb,0,none⟩),v,.int .i64 of,scv] w (RbP w ρ fb st names sc):=by
 obtain⟨sv,su,sn,sb,sa,so,us,ns,bs,os,hf⟩:=hfl
 have H9:=zh h9
 have BD0:Hid (BdV w ρ fb st names sc v su sn sb sa so us ns bs os st.binds.length st.binds.length 0 0 0 ρ sv (.slice none 0 0) scv w) :=
  ⟨by rw [List.take_zero,List.append_nil];exact hf,Ch.refl hρ,RR.nil _ _ _ _ _,by rw [List.take_zero];exact hsc,hn,fun k hk=>absurd hk (h9 k)⟩
 obtain⟨_,na,nc,rfl,-⟩:=id hn
 obtain⟨sca,rfl⟩:=hsc.ptr
 obtain⟨n,hnn⟩:∃ n,n=names.length:=⟨_,rfl⟩
 obtain⟨nv,hnv⟩:∃ n,n=st.vars.length:=⟨_,rfl⟩
 obtain⟨nb,hnb⟩:∃ n,n=st.binds.length:=⟨_,rfl⟩
 rw [← hnb] at BD0
 rw [← hnn]
 rw [← hnn] at BD0
 have HNN:=zh hnn
 have HNV:=zh hnv
 have HNB:=zh hnb
 have HNL:Hid (n≤16):=by show _≤_;omega
 have HVL:Hid (nv≤400000):=by show _≤_;omega
 have HBL:Hid (nb≤100000):=by show _≤_;omega
 have HUB:Hid (st.uses.length=nb):=by show _=_;omega
 have hnz:(n:Int)≤16:=by omega
 obtain⟨i9,p1,p2,p3,p4⟩:=info_parts Tryz.info9r
 have HI9:=zh (And.intro p1 (And.intro p2 (And.intro p3 p4)))
 obtain⟨i3,q1,q2,q3,q4⟩:=info_parts Tryz.info3u
 have HI3:=zh (And.intro q1 (And.intro q2 (And.intro q3 q4)))
 obtain⟨i40,r1,r2,r3,r4⟩:=info_parts Tryz.info40r
 have HI40:=zh (And.intro r1 (And.intro r2 (And.intro r3 r4)))
 clear hf hρ h9 hn hnl hsc hvl hbl hub hnn hnv hnb p1 p2 p3 p4 q1 q2 q3 q4 r1 r2 r3 r4
 go_enter Tryz.func51,Tryz.ntmps51
 go_wp2_with fail
 go_loopw [9,10,11] (fun lv vo iv wr=>∃ (i:Nat) (ρ1:Nat→Nat) (sv1:Value),i≤n∧iv = .int .i64 i∧BdV w ρ fb st names sc (.slice na n nc) su sn sb sa so us ns bs os nb nb i i i ρ1 sv1 lv vo wr) (fun _ _ iv _=>n - (intOf iv).toNat)
 case atStart=>exact⟨0,ρ,sv,zv3 _,rfl,BD0.out⟩
 rename World=>V
 obtain⟨i,ρ1,sv1,hi,rfl,hbd⟩:=hrel
 have KI:=zh hi
 have KB:=zh hbd
 obtain⟨la,lc,rfl⟩:=hbd.row.shape
 obtain⟨va,vc,hsv⟩:=hbd.fl.vars.shape
 have hvl:(({ st with vars:=st.vars++names.take i }:St)).vars.length=nv+i:=by
  show (st.vars++names.take i).length=_
  rw [zr2,List.length_take,← HNV.out]
  have:=HNN.out;omega
 rw [hvl] at hsv
 subst hsv
 obtain⟨pa,hpa⟩:=hbd.scp.ptr
 subst hpa
 clear hi BD0
 have RHO:=zh hbd.rho
 by_cases hlt:i<n
 ·have hlz:(i:Int)<n:=by omega
  have hi0:(0:Int)≤i:=by omega
  have HLT:=zh hlt
  obtain⟨hzl,ad,cc,hsl,hat⟩:=hbd.nms
  simp only [Value.slice.injEq] at hsl
  obtain⟨rfl,-,rfl⟩:=hsl
  obtain⟨g,o,rfl,hrg,hat2⟩:=hat (by have:=HNN.out;omega)
  obtain⟨x,hx⟩:∃ x,names[i]?=some x:=⟨_,zq9 (by have:=HNN.out;omega)⟩
  have z1:=hat2 i _ (strs_at hx)
  have z0:V.cell? ⟨fb,0,none⟩=some (.slice va (nv+i) vc):=hbd.fl.cell 0 _ rfl
  have hb1:fb<V.heap.size:=zs3 V _ z0
  have hb2:g<V.heap.size:=zs3 V _ z1
  have HX:=zh hx
  have HG:=zh (And.intro hb2 hrg)
  have hfg:fb≠g:=by intro hh;have h1:=hbd.fl.role;rw [hh,hrg] at h1;cases h1
  have VL:Hid ((({ st with vars:=st.vars++names.take i }:St)).vars.length=nv+i):=hvl
  have hnvz:((nv+i:Nat):Int)≤500000:=by have:=HVL.out;have:=HNL.out;omega
  have NB:Hid (nv+i+1≤maxLen∧(nv+i+1)*16≤140737488355328):=by show _∧_;have:=HVL.out;have:=HNL.out;simp only [maxLen];omega
  have B1:Hid (Below V.heap.size V ((V.alloc (Obj.cells #[.string x] 9)).drew)):=((zs9 _ _).alloc (zr4 _) _).drew
  have X1:=zh (show ((V.alloc (Obj.cells #[.string x] 9)).drew).heap[V.heap.size]?=some (.cells #[.string x] 9 (0,0)) from zs2 V (.cells #[.string x] 9))
  have RW:Hid (RR ((V.alloc (Obj.cells #[.string x] 9)).drew) ρ1 3 9 1 (.slice va (nv+i) vc) (nv+i) (strs (st.vars++names.take i))):=by
   have:=(hbd.below B1.out).fl.vars
   rw [hvl] at this
   exact this
  have KB1:=zh (hbd.below B1.out)
  clear hlt hx hat hat2 hzl hbd hvl hrg
  go_wp2_with fail
  refine wp_region_part (S:=fun w'=>w'.cell? ⟨g,o+i,none⟩=some (.string x)∧w'.cell? ⟨fb,0,none⟩=some (.slice va (nv+i) vc)) [true,true,true,true,true,true,true,true,true,false,false] (by kernel_rfl) (by kernel_rfl) (fun _ _ d _ _ h=>by cases d<;>exact h) ⟨z1,z0⟩ ?_
  iterate 9 (refine wpRd_step (v:=?_) (Or.inl ⟨by rfl,?_⟩) ?_;rotate_left;(intro wz hSw;obtain⟨k0,k1⟩:=hSw;go_simp;try with_reducible rfl);try simp only [Act.put,zq4,zq5,zq6])
  refine wpEf_step (fun K hK=>?_)
  go_simp
  refine hK.out _ _ ⟨zs4 _ z1,zs4 _ z0⟩ (fun hHeld=>?_)
  clear hK K hHeld
  try simp only [Act.put,zq4,zq5,zq6]
  refine wpEf_step (fun K hK=>?_)
  refine step_append_rr rfl _ _ 35 rfl 9 i9 (.string ⟨#[]⟩) 1 16 Tryz.underlying35 HI9.out.1 HI9.out.2.1 HI9.out.2.2.1 HI9.out.2.2.2 rfl (by decide) ρ1 3 (.slice va (nv+i) vc) (nv+i) (strs (st.vars++names.take i)) rfl RW.out (fun k hk=>RHO.out k (zr5 B1.out.size hk)) ⟨V.heap.size,0,none⟩ 1 1 [.string x] rfl rfl (news1' X1.out) (fun u hu=>one1 rfl hu) NB.out.1 NB.out.2 ?_
  intro a4 c4 w4 ρ4 hr4 hc4 hf4
  have R4:=zh hr4
  have C4:=zh hc4
  have F4:=zh hf4
  have t1:w4.cell? ⟨g,o+i,none⟩=some (.string x):=hc4.cell (zd B1.out _ _ z1) (by show ρ1 g≠3;rw [HG.out.2];decide)
  have y0:=hc4.keep KB1.out.fl.obj (by rw [KB1.out.fl.role];decide)
  have t0:w4.cell? ⟨fb,0,none⟩=some (.slice va (nv+i) vc):=by rw [zb _ _ 0 _ _ _ y0];rfl
  have t3:w4.frozen? ⟨fb,0,none⟩=false:=zs1 _ _ 0 _ _ y0
  clear hr4 hc4 hf4 y0
  refine hK.out _ _ ⟨t1,t0⟩ (fun hHeld=>?_)
  clear hK K hHeld
  try simp only [Act.put,zq4,zq5,zq6]
  refine wpEf_nil ?_
  simp only [behind]
  go_upto_region 7 with fail
  have GA:=zh (KB1.out.growA HX.out C4.out (by rw [← HNV.out];exact R4.out) (fun q hq=>F4.out q hq))
  obtain⟨V6,hV6⟩:∃ W,W=w4.setCell ⟨fb,0,none⟩ (.slice a4 (nv+i+1) c4):=⟨_,rfl⟩
  rw [← hV6] at GA
  try rw [← hV6]
  clear R4 C4 F4 RW KB KB1 RHO t0 t1 t3 z0 z1 hV6
  have hbd:=GA.out
  have RHO:=zh hbd.rho
  have z0:V6.cell? ⟨fb,0,none⟩=some (.slice a4 (nv+i+1) c4):=hbd.fl.cell 0 _ rfl
  have hm1:(1:Int)≤((nv+i+1:Nat):Int):=by omega
  have hm2:((nv+i+1:Nat):Int)≤500001:=by omega
  have e1:(((nv+i+1:Nat):Int) - 1)=((nv+i:Nat):Int):=by omega
  have E1:=zh e1
  obtain⟨nq,hnq⟩:∃ q,q=nv+i+1:=⟨_,rfl⟩
  rw [← hnq] at z0 hm1 hm2 GA E1
  try rw [← hnq]
  have hwn:IntKind.i64.wrap ((nq:Int) - 1)=(nq:Int) - 1:=Lx.wrap_in _ (by omega)
  have B2:Hid (Below V6.heap.size V6 (V6.alloc (Obj.cells #[.int .i64 ((nq:Int) - 1)] 3))):=(zs9 _ _).alloc (zr4 _) _
  have X2:=zh (show (V6.alloc (Obj.cells #[.int .i64 ((nq:Int) - 1)] 3)).heap[V6.heap.size]?=some (.cells #[.int .i64 ((nq:Int) - 1)] 3 (0,0)) from zs2 V6 _)
  have KB2:=zh (GA.out.below B2.out)
  have NB2:Hid (i+1≤maxLen∧(i+1)*8≤140737488355328):=by show _∧_;have:=HNL.out;have:=HLT.out;simp only [maxLen];omega
  clear hbd e1 hnq
  go_wp2_with (at_builtin;refine wpList_append_rr rfl _ _ 40 rfl 3 i3 (.int .i64 0) 1 8 Tryz.underlying40 HI3.out.1 HI3.out.2.1 HI3.out.2.2.1 HI3.out.2.2.2 rfl (by decide) ρ4 9 (.slice la i lc) i (nats (List.range' st.vars.length i)) rfl KB2.out.row (fun k hk=>RHO.out k (zr5 B2.out.size hk)) ⟨V6.heap.size,0,none⟩ 1 1 [.int .i64 ((nq:Int) - 1)] rfl rfl (news1' X2.out) (fun u hu=>one1 rfl hu) NB2.out.1 NB2.out.2 ?_)
  intro a5 c5 w5 ρ5 hr5 hc5 hf5
  have GB:=zh (KB2.out.growB hc5 (by have h:=hr5;rw [E1.out,HNV.out] at h;exact h))
  clear hr5 hc5 hf5 KB2 RHO z0
  have hbd:=GB.out
  have z0:w5.cell? ⟨fb,0,none⟩=some (.slice a4 nq c4):=hbd.fl.cell 0 _ rfl
  obtain⟨hzl,ad,cc,hsl,hat⟩:=hbd.nms
  simp only [Value.slice.injEq] at hsl
  obtain⟨rfl,-,rfl⟩:=hsl
  obtain⟨g1,o1,hg1,hrg,hat2⟩:=hat (by have:=HNN.out;have:=HLT.out;omega)
  simp only [zt3] at hg1
  rw [Addr.mk.injEq] at hg1
  obtain⟨rfl,rfl,-⟩:=hg1
  have z1:=hat2 i _ (strs_at HX.out)
  clear hbd hzl hat hat2 hrg GA
  go_wp2_with fail
  go_region_held3 (fun w'=>w'.cell? ⟨fb,0,none⟩=some (.slice a4 nq c4)∧w'.cell? ⟨g,o+i,none⟩=some (.string x)) (first | exact⟨by assumption,by assumption⟩ | go_keep) (fail)
  have B3:Hid (Below w5.heap.size w5 ((w5.alloc (Obj.cells #[.string x,.int .i64 ((nq:Int) - 1),.pointer pa] 150)).drew)):=((zs9 _ _).alloc (zr4 _) _).drew
  have GC:=zh (GB.out.growC HX.out B3.out (b:=w5.heap.size) (by rw [← HNV.out,← E1.out];exact zs2 w5 (.cells #[.string x,.int .i64 ((nq:Int) - 1),.pointer pa] 150)) (zr4 _))
  clear GB z0 z1
  go_wp2_with fail
  go_roundw
  case rel=>exact⟨i+1,ρ5,_,HLT.out,by go_num,GC.out⟩
  case measure=>have:=HLT.out;simp [intOf];omega
 obtain rfl:i=n:=by have:=KI.out;omega
 have hlz:(i:Int)≤i:=by omega
 have hdi:decide ((i:Int)<i)=false:=by simp
 have hdi2:decide (i<i)=false:=by simp
 have etk:names.take i=names:=zr3 (by have:=HNN.out;omega)
 have F0:Hid (FlV V (rero ρ1) fb { st with vars:=st.vars++names } (.slice va (nv+i) vc) su sn sb sa so us ns bs os nb nb):=by
  have:=hbd.fl.re;rw [etk] at this;exact this
 have S0:Hid (ScR V (rero ρ1) (scope st.vars.length names sc) (.pointer pa)):=by
  have:=ScR.re hbd.scp;rw [etk] at this;exact this
 have Z0:Hid (ZA V (rero ρ1) (.slice la i lc) i (nats (List.range' st.vars.length i))):=ZA.of_rr hbd.row
 have C0:Hid (Ch BM ρ (rero ρ1) w V):=hbd.ch.re H9.out
 have N0:Hid (∀ k,rero ρ1 k≠9):=fun k=>re_ne ρ1 k
 obtain⟨ρr,hρr⟩:∃ r,r=rero ρ1:=⟨_,rfl⟩
 rw [← hρr] at F0 S0 Z0 C0 N0
 obtain⟨ba,bc,hsb⟩:=F0.out.binds.shape
 obtain⟨oa,oc,hso⟩:=F0.out.of.shape
 obtain⟨aa,ac,hsa⟩:=F0.out.after.shape
 obtain⟨ua,uc,hsu⟩:=F0.out.uses.shape
 replace hsb:sb = .slice ba nb bc:=by rw [hsb];show Value.slice ba st.binds.length bc=_;rw [← HNB.out]
 replace hsu:su = .slice ua nb uc:=by rw [hsu];show Value.slice ua st.uses.length uc=_;rw [HUB.out]
 subst hsb hso hsa hsu
 have hnbz:(nb:Int)≤100000:=by have:=HBL.out;omega
 have NB:Hid (nb+1≤maxLen∧(nb+1)*24≤140737488355328):=by show _∧_;have:=HBL.out;simp only [maxLen];omega
 have NB8:Hid (nb+1≤maxLen∧(nb+1)*8≤140737488355328):=by show _∧_;have:=HBL.out;simp only [maxLen];omega
 have B1:Hid (Below V.heap.size V (V.alloc (Obj.cells #[.slice la i lc] 40))):=(zs9 _ _).alloc (zr4 _) _
 have X1:=zh (show (V.alloc (Obj.cells #[.slice la i lc] 40)).heap[V.heap.size]?=some (.cells #[.slice la i lc] 40 (0,0)) from zs2 V _)
 have F1:=zh (F0.out.below B1.out C0.out.fresh)
 have z3:V.cell? ⟨fb,3,none⟩=some (.slice ba nb bc):=F0.out.cell 3 _ rfl
 have R1:Hid (RR (V.alloc (Obj.cells #[.slice la i lc] 40)) ρr 6 40 1 (.slice ba nb bc) nb bs):=by have:=F1.out.binds;rw [show ({ st with vars:=st.vars++names }:St).binds.length=nb from HNB.out.symm] at this;exact this
 clear hbd KB RHO hρr etk hlt KI
 go_wp2_with (at_builtin;refine wpList_append_rr rfl _ _ 39 rfl 40 i40 (.slice none 0 0) 1 24 Tryz.underlying39 HI40.out.1 HI40.out.2.1 HI40.out.2.2.1 HI40.out.2.2.2 rfl (by decide) ρr 6 (.slice ba nb bc) nb bs rfl R1.out (fun k hk=>C0.out.fresh k (zr5 B1.out.size hk)) ⟨V.heap.size,0,none⟩ 1 1 [.slice la i lc] rfl rfl (news1' X1.out) (fun u hu=>one1 rfl hu) NB.out.1 NB.out.2 ?_)
 intro a4 c4 w4 ρ4 hr4 hc4 hf4
 have y0:=hc4.keep F1.out.obj (by rw [F1.out.role];decide)
 have t0:w4.cell? ⟨fb,3,none⟩=some (.slice ba nb bc):=by rw [zb _ _ 3 _ _ _ y0];rfl
 have t3:w4.frozen? ⟨fb,3,none⟩=false:=zs1 _ _ 3 _ _ y0
 have c2:Ch (fun q=>q=6∨q=2) ρr ρ4 V (w4.setCell ⟨fb,3,none⟩ (.slice a4 (nb+1) c4)):=((Ch.of_below (M:=fun q=>q=6∨q=2) B1.out C0.out.fresh).trans (ch_put hc4 F1.out.lt F1.out.role))
 have F2:=zh (F1.out.putBinds (v' := .slice a4 (nb+1) c4) (x := .slice la i lc) (l:=List.range' st.vars.length i) hc4 (by rw [show ({ st with vars:=st.vars++names }:St).binds.length=nb from HNB.out.symm];exact hr4) (by rw [List.length_range'];exact Z0.out.keep (Ch.of_below (M:=fun _=>False) B1.out C0.out.fresh) id))
 have S2:=zh (ScR.keep c2 (by decide) S0.out)
 have C2:Hid (Ch BM ρ ρ4 w (w4.setCell ⟨fb,3,none⟩ (.slice a4 (nb+1) c4))):=C0.out.trans (c2.mono fun r hr=>by unfold BM;omega)
 have N2:Hid (∀ k,ρ4 k≠9):=n9_step hc4 N0.out (fun q hq=>hf4 q (by simpa using hq)) (by decide)
 clear hr4 hc4 hf4 y0 c2 z3 R1 F0 F1 S0 C0 N0 Z0 X1 B1
 go_upto_region 10 with fail
 obtain⟨V9,hV9⟩:∃ W,W=w4.setCell ⟨fb,3,none⟩ (.slice a4 (nb+1) c4):=⟨_,rfl⟩
 rw [← hV9] at F2 S2 C2
 try rw [← hV9]
 clear hV9 t0 t3
 have B1:Hid (Below V9.heap.size V9 (V9.alloc (Obj.cells #[.int .i64 of] 3))):=(zs9 _ _).alloc (zr4 _) _
 have X1:=zh (show (V9.alloc (Obj.cells #[.int .i64 of] 3)).heap[V9.heap.size]?=some (.cells #[.int .i64 of] 3 (0,0)) from zs2 V9 _)
 have F1:=zh (F2.out.below B1.out C2.out.fresh)
 have z5:V9.cell? ⟨fb,5,none⟩=some (.slice oa nb oc):=F2.out.cell 5 _ rfl
 go_wp2_with (at_builtin;refine wpList_append_rr rfl _ _ 40 rfl 3 i3 (.int .i64 0) 1 8 Tryz.underlying40 HI3.out.1 HI3.out.2.1 HI3.out.2.2.1 HI3.out.2.2.2 rfl (by decide) ρ4 8 (.slice oa nb oc) nb os rfl F1.out.of (fun k hk=>C2.out.fresh k (zr5 B1.out.size hk)) ⟨V9.heap.size,0,none⟩ 1 1 [.int .i64 of] rfl rfl (news1' X1.out) (fun u hu=>one1 rfl hu) NB8.out.1 NB8.out.2 ?_)
 intro a5 c5 w5 ρ5 hr5 hc5 hf5
 have y0:=hc5.keep F1.out.obj (by rw [F1.out.role];decide)
 have t0:w5.cell? ⟨fb,5,none⟩=some (.slice oa nb oc):=by rw [zb _ _ 5 _ _ _ y0];rfl
 have t3:w5.frozen? ⟨fb,5,none⟩=false:=zs1 _ _ 5 _ _ y0
 have c2:Ch (fun q=>q=8∨q=2) ρ4 ρ5 V9 (w5.setCell ⟨fb,5,none⟩ (.slice a5 (nb+1) c5)):=((Ch.of_below (M:=fun q=>q=8∨q=2) B1.out C2.out.fresh).trans (ch_put hc5 F1.out.lt F1.out.role))
 have F3:=zh (F1.out.putOf (v' := .slice a5 (nb+1) c5) hc5 hr5)
 have S3:=zh (ScR.keep c2 (by decide) S2.out)
 have C3:Hid (Ch BM ρ ρ5 w (w5.setCell ⟨fb,5,none⟩ (.slice a5 (nb+1) c5))):=C2.out.trans (c2.mono fun r hr=>by unfold BM;omega)
 have N3:Hid (∀ k,ρ5 k≠9):=n9_step hc5 N2.out (fun q hq=>hf5 q (by simpa using hq)) (by decide)
 clear hr5 hc5 hf5 y0 c2 z5 F1 F2 S2 C2 N2 X1 B1
 go_wp2_with fail
 obtain⟨V,hV⟩:∃ W,W=w5.setCell ⟨fb,5,none⟩ (.slice a5 (nb+1) c5):=⟨_,rfl⟩
 rw [← hV] at F3 S3 C3
 try rw [← hV]
 clear hV t0 t3
 have z1:V.cell? ⟨fb,1,none⟩=some (.slice ua nb uc):=F3.out.cell 1 _ rfl
 have z0:V.cell? ⟨fb,4,none⟩=some (.slice aa nb ac):=F3.out.cell 4 _ rfl
 have hb1:fb<V.heap.size:=zs3 V _ z0
 have B1:Hid (Below V.heap.size V ((V.alloc (Obj.cells #[.int .i64 (nb:Int)] 3)).drew)):=((zs9 _ _).alloc (zr4 _) _).drew
 have X1:=zh (show ((V.alloc (Obj.cells #[.int .i64 (nb:Int)] 3)).drew).heap[V.heap.size]?=some (.cells #[.int .i64 (nb:Int)] 3 (0,0)) from zs2 V (.cells #[.int .i64 (nb:Int)] 3))
 have F1:=zh (F3.out.below B1.out C3.out.fresh)
 refine wp_region_part (S:=fun w'=>w'.cell? ⟨fb,1,none⟩=some (.slice ua nb uc)∧w'.cell? ⟨fb,4,none⟩=some (.slice aa nb ac)) [true,true,true,true,true,true,true,true,true,true,false,false] (by kernel_rfl) (by kernel_rfl) (fun _ _ d _ _ h=>by cases d<;>exact h) ⟨z1,z0⟩ ?_
 iterate 10 (refine wpRd_step (v:=?_) (Or.inl ⟨by rfl,?_⟩) ?_;rotate_left;(intro wz hSw;obtain⟨k0,k1⟩:=hSw;go_simp;try with_reducible rfl);try simp only [Act.put,zq4,zq5,zq6])
 refine wpEf_step (fun K hK=>?_)
 go_simp
 refine hK.out _ _ ⟨zs4 _ z1,zs4 _ z0⟩ (fun hHeld=>?_)
 clear hK K hHeld
 try simp only [Act.put,zq4,zq5,zq6]
 refine wpEf_step (fun K hK=>?_)
 refine step_append_rr rfl _ _ 40 rfl 3 i3 (.int .i64 0) 1 8 Tryz.underlying40 HI3.out.1 HI3.out.2.1 HI3.out.2.2.1 HI3.out.2.2.2 rfl (by decide) ρ5 7 (.slice aa nb ac) nb (nats (List.range nb)) rfl F1.out.after (fun k hk=>C3.out.fresh k (zr5 B1.out.size hk)) ⟨V.heap.size,0,none⟩ 1 1 [.int .i64 (nb:Int)] rfl rfl (news1' X1.out) (fun u hu=>one1 rfl hu) NB8.out.1 NB8.out.2 ?_
 intro a6 c6 w6 ρ6 hr6 hc6 hf6
 have y0:=hc6.keep F1.out.obj (by rw [F1.out.role];decide)
 have t0:w6.cell? ⟨fb,4,none⟩=some (.slice aa nb ac):=by rw [zb _ _ 4 _ _ _ y0];rfl
 have t1:w6.cell? ⟨fb,1,none⟩=some (.slice ua nb uc):=by rw [zb _ _ 1 _ _ _ y0];rfl
 have t3:w6.frozen? ⟨fb,4,none⟩=false:=zs1 _ _ 4 _ _ y0
 have c2:Ch (fun q=>q=7∨q=2) ρ5 ρ6 V (w6.setCell ⟨fb,4,none⟩ (.slice a6 (nb+1) c6)):=((Ch.of_below (M:=fun q=>q=7∨q=2) B1.out C3.out.fresh).trans (ch_put hc6 F1.out.lt F1.out.role))
 have F4:=zh (F1.out.putAfter (v' := .slice a6 (nb+1) c6) hc6 hr6)
 have S4:=zh (ScR.keep c2 (by decide) S3.out)
 have C4:Hid (Ch BM ρ ρ6 w (w6.setCell ⟨fb,4,none⟩ (.slice a6 (nb+1) c6))):=C3.out.trans (c2.mono fun r hr=>by unfold BM;omega)
 have N4:Hid (∀ k,ρ6 k≠9):=n9_step hc6 N3.out (fun q hq=>hf6 q (by simpa using hq)) (by decide)
 clear hr6 hc6 hf6 y0 c2
 refine hK.out _ _ ⟨t1,t0⟩ (fun hHeld=>?_)
 clear hK K hHeld
 try simp only [Act.put,zq4,zq5,zq6]
 refine wpEf_nil ?_
 simp only [behind]
 go_upto_region 12 with fail
 obtain⟨V8,hV8⟩:∃ W,W=w6.setCell ⟨fb,4,none⟩ (.slice a6 (nb+1) c6):=⟨_,rfl⟩
 rw [← hV8] at F4 S4 C4
 try rw [← hV8]
 clear hV8 t0 t1 t3 z0 z1 F1 F3 S3 C3 N3 X1 B1
 go_wp2_with fail
 go_ret
 have h4:=F4.out
 have hbe:(st.bind names).binds.length=nb+1:=by show (st.binds++[_]).length=_;rw [zr2,List.length_singleton,← HNB.out]
 rw [← hbe,HNN.out] at h4
 exact⟨ρ6,pa,rfl,C4.out,N4.out,⟨_,_,_,_,_,_,_,_,_,_,h4⟩,S4.out⟩
end
section
open Go.RowKit RG Go.Maps
structure RnV (w:World) (ρ:Nat→Nat) (rb:Nat) (v:Value) (old:List Nm):Prop where
 obj:w.heap[rb]?=some (.cells #[v] 169 (0,0))
 role:ρ rb=20
 row:RR w ρ 21 9 1 v old.length (strs old)
def RnR (w:World) (ρ:Nat→Nat) (rb:Nat) (old:List Nm):Prop:=∃ v,RnV w ρ rb v old
def NM (r:Nat):Prop:=r=20∨r=21
def met (old:List Nm) (s:Nm):List Nm:=if RG.has old s then old else old++[s]
def numOf (old:List Nm) (s:Nm):Nat:=old.findIdx fun y=>decide (y=s)
theorem numOf_at {old:List Nm}{s:Nm}{k:Nat}(hn:old.Nodup) (h:old[k]?=some s):numOf old s=k:=by
 have hk:=(zq8.1 h).1
 have hlt:numOf old s<old.length:=List.findIdx_lt_length_of_exists ⟨s,zr1 h,by simp⟩
 have h1:old[numOf old s]?=some s:=by
  have:=List.findIdx_getElem (w:=hlt)
  rw [zq9 hlt]
  exact congrArg some (of_decide_eq_true this)
 exact(List.getElem?_inj hlt hn).1 (h1.trans h.symm)
theorem met_mem {old:List Nm}{s:Nm}(h:s∈old):met old s=old:=by unfold met;rw [zx.2 h];rfl
theorem met_new {old:List Nm}{s:Nm}(h:s∉old):met old s=old++[s]:=by
 unfold met
 rw [if_neg (fun h1=>h (zx.1 h1))]
theorem met_nodup {old:List Nm}{s:Nm}(hn:old.Nodup):(met old s).Nodup:=by
 by_cases h:s∈old
 ·rw [met_mem h];exact hn
 rw [met_new h,List.nodup_append]
 refine⟨hn,by simp,fun a ha b hb=>?_⟩
 rw [List.mem_singleton] at hb
 subst hb
 intro e
 subst e
 exact h ha
theorem Tryz.info9n:(Tryz.prog.info? 9).map (fun i=>(i.zero,i.size,i.bytes))=some (some (.string ⟨#[]⟩),1,16):=by kernel_rfl
theorem rnm_any {w:World} {ρ:Nat→Nat}{rb:Nat}{old:List Nm}(s:Nm) (h:RnR w ρ rb old) (hρ:∀ k,w.heap.size≤k→ρ k=0) (hl:old.length≤1000) (hn:old.Nodup) :
  Calls Tryz.prog 92 #[.pointer (some ⟨rb,0,none⟩),.string s] w fun e w'=>∃ ρ',e = .returned (.string (yk (numOf (met old s) s)))∧Ch NM ρ ρ' w w'∧RnR w' ρ' rb (met old s)∧∀ k,w.heap.size≤k→ρ' k=0∨ρ' k=21:=by
 obtain⟨v,hv⟩:=h
 have HV:=zh hv
 have HR:=zh hρ
 have HN:=zh hn
 obtain⟨a,c,hvs⟩:=hv.row.shape
 subst hvs
 have q0:w.cell? ⟨rb,0,none⟩=some (.slice a old.length c):=by rw [zb _ _ _ _ _ _ hv.obj];rfl
 have FD:Hid (Calls Tryz.prog 61 #[.slice a old.length c,.string s] w (FindP w old s)):=by
  refine find_any s ?_ (by omega)
  have:=hv.row.sl
  exact this
 obtain⟨n,hnn⟩:∃ n,n=old.length:=⟨_,rfl⟩
 rw [← hnn] at q0 FD hl
 have HNN:=zh hnn
 have nz:(n:Int)≤1000:=by omega
 clear hv hρ hn hnn
 go_enter Tryz.func92,Tryz.ntmps92
 go_wp2_with fail
 refine FD.out.mono ?_
 intro en w1 hF
 unfold FindP at hF
 obtain⟨hb,⟨k,rfl,hk⟩|⟨rfl,hk⟩⟩:=hF
 ·have C1:Hid (Ch NM ρ ρ w w1):=Ch.of_below hb HR.out
  have HK:=zh hk
  have hkn:k<n:=by have:=(zq8.1 hk).1;have:=HNN.out;omega
  have hk0:¬ (k:Int)<0:=by omega
  have DG:=zh (Lx.refDigits_any w1 (k:Int) (by omega) (by omega))
  have SZ:=Lx.digS_size (k:Int) (by omega) (by omega)
  have R1:Hid (RnR w1 ρ rb old):=by
   have hh:=HV.out
   have hc:Ch (fun _=>False) ρ ρ w w1:=Ch.of_below hb HR.out
   exact⟨_,hc.keep hh.obj (fun h=>h),hh.role,hh.row.keep hc (fun h=>h)⟩
  have E1:Hid (met old s=old∧numOf old s=k):=⟨met_mem (zr1 hk),numOf_at HN.out hk⟩
  have RF:Hid (∀ q,w.heap.size≤q→ρ q=0∨ρ q=21):=fun q hq => .inl (HR.out q hq)
  clear hb hk q0 FD hkn
  go_wp2_with fail
  refine DG.out.mono ?_
  rintro en w2 ⟨rfl,rfl⟩
  go_wp2_with fail
  go_ret
  refine⟨ρ,by rw [E1.out.1,E1.out.2];rfl,C1.out,by rw [E1.out.1];exact R1.out,RF.out⟩
 have C1:Hid (Ch NM ρ ρ w w1):=Ch.of_below hb HR.out
 have R1:Hid (RnV w1 ρ rb (.slice a n c) old):=by
  have hh:=HV.out
  rw [← HNN.out] at hh
  have hc:Ch (fun _=>False) ρ ρ w w1:=Ch.of_below hb HR.out
  exact⟨hc.keep hh.obj (fun h=>h),hh.role,hh.row.keep hc (fun h=>h)⟩
 have HW1:Hid (∀ k,w1.heap.size≤k→ρ k=0):=fun k hk=>HR.out k (zr5 hb.size hk)
 have E1:Hid (met old s=old++[s]):=met_new hk
 have E2:Hid (numOf (old++[s]) s=n):=by
  have h1:=met_nodup (s:=s) HN.out
  rw [E1.out] at h1
  exact numOf_at h1 (by rw [List.getElem?_append_right (by have:=HNN.out;omega),HNN.out,Nat.sub_self];rfl)
 have q1:w1.cell? ⟨rb,0,none⟩=some (.slice a n c):=by rw [zb _ _ _ _ _ _ R1.out.obj];rfl
 obtain⟨i9,p1,p2,p3,p4⟩:=info_parts Tryz.info9n
 have HI:=zh (And.intro p1 (And.intro p2 (And.intro p3 p4)))
 have CA:Hid (Ch (fun _=>False) ρ ρ w1 (w1.alloc (.cells #[.string s] 9))):=(Ch.refl HW1.out).alloc _
 have RWX:Hid (RR (w1.alloc (.cells #[.string s] 9)) ρ 21 9 1 (.slice a n c) n (strs old)):=by
  have:=R1.out.row
  rw [← HNN.out] at this
  exact this.keep CA.out (fun h=>h)
 have OBX:Hid ((w1.alloc (.cells #[.string s] 9)).heap[rb]?=some (.cells #[.slice a n c] 169 (0,0))):=CA.out.keep R1.out.obj (fun h=>h)
 have NB:Hid (n+1≤maxLen∧(n+1)*16≤140737488355328):=by have:=nz;show _∧_;simp only [maxLen];omega
 have SB:Hid (w.heap.size≤w1.heap.size):=hb.size
 have DG:Hid (∀ W,Calls Tryz.prog 114 #[.int .i64 (n:Int)] W fun e w'=>e = .returned (.string (Lx.digS (n:Int)))∧w'=W):=fun W=>Lx.refDigits_any W (n:Int) (by omega) (by omega)
 have SZ:=Lx.digS_size (n:Int) (by omega) (by omega)
 clear hb hk q0 FD p1 p2 p3 p4
 go_wp2_with (at_builtin;refine wpList_append_rr rfl _ _ 35 rfl 9 i9 (.string ⟨#[]⟩) 1 16 Tryz.underlying35 HI.out.1 HI.out.2.1 HI.out.2.2.1 HI.out.2.2.2 rfl (by decide) ρ 21 (.slice a n c) n (strs old) rfl RWX.out (fun k hk=>HW1.out k (by have h1:(w1.alloc (.cells #[.string s] 9)).heap.size=w1.heap.size+1:=(by simp);omega)) ⟨w1.heap.size,0,none⟩ 1 1 [.string s] rfl rfl (news1 _ _ _) (fun u hu=>by simp at hu;rw [hu];rfl) NB.out.1 NB.out.2 ?_)
 intro a2 c2 w2 ρ2 hr2 hc2 hf2
 have R2:=zh hr2
 have C2:=zh hc2
 have F2:=zh hf2
 have OB2:Hid (w2.heap[rb]?=some (.cells #[.slice a n c] 169 (0,0))):=hc2.keep OBX.out (by show ¬ ρ rb=21;rw [R1.out.role];decide)
 have e0:w2.cell? ⟨rb,0,none⟩=some (.slice a n c):=by rw [zb _ _ _ _ _ _ OB2.out];rfl
 have ef:w2.frozen? ⟨rb,0,none⟩=false:=zs1 _ _ 0 _ _ OB2.out
 obtain⟨w3,hw3⟩:∃ W,W=w2.setCell ⟨rb,0,none⟩ (.slice a2 (n+1) c2):=⟨_,rfl⟩
 have OB3:Hid (w3.heap[rb]?=some (.cells #[.slice a2 (n+1) c2] 169 (0,0))):=by show _=_;rw [hw3];exact heap_setCell_same _ _ 0 _ _ _ OB2.out
 have RL2:Hid (ρ2 rb=20):=by show _=_;rw [hc2.keepRole OBX.out];exact R1.out.role
 have C3:Hid (Ch NM ρ ρ2 w w3):=by
  show Ch _ _ _ _ _
  rw [hw3]
  refine Ch.setCell (C1.out.trans ((CA.out.mono (fun r h=>h.elim)).trans (hc2.mono (fun r h => .inr h)))) _ _ fun hlt => .inl ?_
  exact HV.out.role
 have R3:Hid (RR w3 ρ2 21 9 1 (.slice a2 (n+1) c2) (n+1) (strs (old++[s]))):=by
  show RR _ _ _ _ _ _ _ _
  rw [hw3]
  have hc:Ch (· = 20) ρ2 ρ2 w2 (w2.setCell ⟨rb,0,none⟩ (.slice a2 (n+1) c2)):=(Ch.refl hc2.fresh).setCell _ _ fun _=>RL2.out
  have h1:=R2.out
  have h2:strs old++[Value.string s]=strs (old++[s]):=by unfold strs;rw [List.map_append];rfl
  rw [h2] at h1
  exact h1.keep hc (by decide)
 have F3:Hid (∀ k,w.heap.size≤k→ρ2 k=0∨ρ2 k=21):=fun k hk=>by
  have h3:(w1.alloc (.cells #[.string s] 9)).heap.size=w1.heap.size+1:=by simp
  by_cases h1:w1.heap.size+1≤k
  ·exact F2.out k h1
  left
  rw [C2.out.role k (by omega)]
  exact HR.out k hk
 clear hr2 hc2 hf2
 go_upto_region 4 with fail
 rw [← hw3]
 clear hw3 e0 ef q1
 have e3:w3.cell? ⟨rb,0,none⟩=some (.slice a2 (n+1) c2):=by rw [zb _ _ _ _ _ _ OB3.out];rfl
 go_wp2_with fail
 refine(DG.out _).mono ?_
 rintro en w4 ⟨rfl,rfl⟩
 go_wp2_with fail
 go_ret
 refine⟨ρ2,by rw [E1.out,E2.out];rfl,C3.out,⟨_,OB3.out,RL2.out,?_⟩,F3.out⟩
 rw [E1.out,zr2,← HNN.out]
 exact R3.out
end
section
open Go.RowKit RG Go.Maps
def rnk (o:List Nm) (x:Nm):Nm:=yk (numOf o x)
def rn0 (o:List Nm) (x:Nm):Nm:=if x.size=0 then x else rnk o x
def met0 (o:List Nm) (x:Nm):List Nm:=if x.size=0 then o else met o x
mutual
def metE:TE→List Nm→List Nm
 | .mk _ n us arms body,o=>metB body (metA arms (met0 (us.foldl met0 o) n))
def metA:TA→List Nm→List Nm
 | .nil,o=>o
 | .cons vs e r,o=>metA r (metE e (vs.foldl met o))
def metB:TB→List Nm→List Nm
 | .nil,o=>o
 | .cons e r,o=>metB r (metE e o)
end
theorem met_pre (o:List Nm) (s:Nm):o <+: met o s:=by
 unfold met
 split
 ·exact List.prefix_refl _
 exact List.prefix_append _ _
theorem met0_pre (o:List Nm) (s:Nm):o <+: met0 o s:=by
 unfold met0
 split
 ·exact List.prefix_refl _
 exact met_pre o s
theorem fold_pre {f:List Nm→Nm→List Nm}(hf:∀ o s,o <+: f o s):∀ (l:List Nm) (o:List Nm),o <+: l.foldl f o
 | [],o=>List.prefix_refl _
 | x :: l,o=>(hf o x).trans (fold_pre hf l _)
mutual
theorem metE_pre:∀ (e:TE) (o:List Nm),o <+: metE e o
 | .mk k n us arms body,o=>by
  rw [metE]
  exact(((fold_pre met0_pre us o).trans (met0_pre _ n)).trans (metA_pre arms _)).trans (metB_pre body _)
theorem metA_pre:∀ (a:TA) (o:List Nm),o <+: metA a o
 | .nil,o=>by rw [metA];exact List.prefix_refl _
 | .cons vs e r,o=>by rw [metA];exact((fold_pre met_pre vs o).trans (metE_pre e _)).trans (metA_pre r _)
theorem metB_pre:∀ (b:TB) (o:List Nm),o <+: metB b o
 | .nil,o=>by rw [metB];exact List.prefix_refl _
 | .cons e r,o=>by rw [metB];exact(metE_pre e _).trans (metB_pre r _)
end
theorem met_in (o:List Nm) (s:Nm):s∈met o s:=by
 by_cases h:s∈o
 ·rw [met_mem h];exact h
 rw [met_new h];simp
theorem numOf_pre {o o':List Nm}{x:Nm}(h:o <+: o') (hx:x∈o):numOf o' x=numOf o x:=by
 obtain⟨r,rfl⟩:=h
 unfold numOf
 rw [List.findIdx_append]
 rw [if_pos (List.findIdx_lt_length_of_exists ⟨x,hx,by simp⟩)]
theorem rnk_pre {o o':List Nm}{x:Nm}(h:o <+: o') (hx:x∈o):rnk o' x=rnk o x:=by unfold rnk;rw [numOf_pre h hx]
theorem fold_in {f:List Nm→Nm→List Nm}(hf:∀ o s,o <+: f o s):∀ (l:List Nm) (o:List Nm) (x:Nm),(∀ o,x∈f o x)→x∈l→x∈l.foldl f o
 | [],_,_,_,h=>absurd h (by simp)
 | y :: l,o,x,hx,h=>by
  rcases List.mem_cons.1 h with rfl | h
  ·exact(fold_pre hf l _).subset (hx o)
  exact fold_in hf l _ x hx h
theorem rn0_pre {us o o1:List Nm}(h:us.foldl met0 o <+: o1) {a:Nm}(ha:a∈us):rn0 o1 a=rn0 (us.foldl met0 o) a:=by
 unfold rn0
 by_cases h0:a.size=0
 ·rw [if_pos h0,if_pos h0]
 rw [if_neg h0,if_neg h0]
 exact rnk_pre h (fold_in met0_pre us o a (fun o=>by unfold met0;rw [if_neg h0];exact met_in o a) ha)
mutual
theorem ren_pre:∀ (e:TE) (o o1:List Nm),metE e o <+: o1→e.ren (rnk o1)=e.ren (rnk (metE e o))
 | .mk k n us arms body,o,o1,h=>by
  have h1:metA arms (met0 (us.foldl met0 o) n) <+: metE (.mk k n us arms body) o:=by rw [metE];exact metB_pre body _
  have h2:met0 (us.foldl met0 o) n <+: metE (.mk k n us arms body) o:=(metA_pre arms _).trans h1
  have h3:us.foldl met0 o <+: metE (.mk k n us arms body) o:=(met0_pre _ n).trans h2
  rw [TE.ren,TE.ren]
  have e1:(if n.size=0 then n else rnk o1 n)=if n.size=0 then n else rnk (metE (.mk k n us arms body) o) n:=by
   by_cases h0:n.size=0
   ·rw [if_pos h0,if_pos h0]
   have hm:n∈met0 (us.foldl met0 o) n:=by unfold met0;rw [if_neg h0];exact met_in _ n
   rw [if_neg h0,if_neg h0,rnk_pre (h2.trans h) hm,rnk_pre h2 hm]
  have e2:(us.map fun a=>if a.size=0 then a else rnk o1 a)=us.map fun a=>if a.size=0 then a else rnk (metE (.mk k n us arms body) o) a :=
   List.map_congr_left fun a ha=>(rn0_pre (h3.trans h) ha).trans (rn0_pre h3 ha).symm
  have e3:=(renA_pre arms _ o1 (h1.trans h)).trans (renA_pre arms _ _ h1).symm
  have e4:body.ren (rnk o1)=body.ren (rnk (metE (.mk k n us arms body) o)):=by
   have h5:metB body (metA arms (met0 (us.foldl met0 o) n))=metE (.mk k n us arms body) o:=by rw [metE]
   rw [renB_pre body _ o1 (by rw [h5];exact h),h5]
  rw [e1,e2,e3,e4]
theorem renA_pre:∀ (a:TA) (o o1:List Nm),metA a o <+: o1→a.ren (rnk o1)=a.ren (rnk (metA a o))
 | .nil,o,o1,h=>rfl
 | .cons vs e r,o,o1,h=>by
  have h1:metE e (vs.foldl met o) <+: metA (.cons vs e r) o:=by rw [metA];exact metA_pre r _
  have h2:vs.foldl met o <+: metA (.cons vs e r) o:=(metE_pre e _).trans h1
  rw [TA.ren,TA.ren]
  have e1:vs.map (rnk o1)=vs.map (rnk (metA (.cons vs e r) o)):=List.map_congr_left fun x hx=>by
   have hm:x∈vs.foldl met o:=fold_in met_pre vs o x (fun o=>met_in o x) hx
   rw [rnk_pre (h2.trans h) hm,rnk_pre h2 hm]
  have e2:=(ren_pre e _ o1 (h1.trans h)).trans (ren_pre e _ _ h1).symm
  have e3:r.ren (rnk o1)=r.ren (rnk (metA (.cons vs e r) o)):=by
   have h5:metA r (metE e (vs.foldl met o))=metA (.cons vs e r) o:=by rw [metA]
   rw [renA_pre r _ o1 (by rw [h5];exact h),h5]
  rw [e1,e2,e3]
theorem renB_pre:∀ (b:TB) (o o1:List Nm),metB b o <+: o1→b.ren (rnk o1)=b.ren (rnk (metB b o))
 | .nil,o,o1,h=>rfl
 | .cons e r,o,o1,h=>by
  have h1:metE e o <+: metB (.cons e r) o:=by rw [metB];exact metB_pre r _
  rw [TB.ren,TB.ren]
  have e2:=(ren_pre e _ o1 (h1.trans h)).trans (ren_pre e _ _ h1).symm
  have e3:r.ren (rnk o1)=r.ren (rnk (metB (.cons e r) o)):=by
   have h5:metB r (metE e o)=metB (.cons e r) o:=by rw [metB]
   rw [renB_pre r _ o1 (by rw [h5];exact h),h5]
  rw [e2,e3]
end
end
end Go.Proofs.YtnkahlloahgifaaGreatDoor
namespace RG
theorem TB.kids_one (n:Nm):∀ (b:TB) (p:List Nm×TE),p∈b.kids n→p.1=[n]
 | .nil,p,h=>by simp [TB.kids] at h
 | .cons e r,p,h=>by
  rw [TB.kids] at h
  rcases List.mem_cons.1 h with rfl | h
  ·rfl
  exact TB.kids_one n r p h
theorem nodeOk_iff {e:TE}:nodeOk e=true↔(1≤e.kind∧e.kind≤10)∧(e.body.length=if e.kind≤6 then 1 else 0)∧e.args.length≤16 ∧
  if e.kind=7 then e.args.length=1∧(e.args.headD ⟨#[]⟩).size≠0∧1≤e.arms.length∧e.arms.length≤16∧∀ p∈e.arms.kids,p.1.length≤16 else e.arms.length=0:=by
 obtain⟨k,n,xs,arms,body⟩:=e
 have e1:nodeOk (.mk k n xs arms body)=(decide (1≤k)&&decide (k≤10)&&((decide (1≤k)&&decide (k≤6))==(body.length==1))&&decide (body.length≤1)&&(if k=7 then xs.length==1&&((xs.headD ⟨#[]⟩).size != 0)&&decide (1≤arms.length)&&decide (arms.length≤16) else arms.length==0&&decide (xs.length≤16))&&((body.kids n++arms.kids).all fun p=>decide (p.1.length≤16))):=rfl
 have hb:((body.kids n).all fun p=>decide (p.1.length≤16))=true:=by
  rw [List.all_eq_true]
  intro p hp
  rw [TB.kids_one n body p hp];rfl
 have hnil:arms.length=0→arms.kids=[]:=fun h=>by cases arms with
  | nil=>rfl
  | cons vs e r=>simp [TA.length] at h
 rw [e1,List.all_append,hb,Bool.true_and]
 show _↔(1≤k∧k≤10)∧(body.length=if k≤6 then 1 else 0)∧xs.length≤16 ∧
  if k=7 then xs.length=1∧(xs.headD ⟨#[]⟩).size≠0∧1≤arms.length∧arms.length≤16∧∀ p∈arms.kids,p.1.length≤16 else arms.length=0
 generalize body.length=nb
 have key:(decide (1≤k)=true∧((decide (1≤k)&&decide (k≤6))==(nb==1))=true∧nb≤1)↔(1≤k∧nb=if k≤6 then 1 else 0):=by
  rw [decide_eq_true_eq]
  by_cases h1:1≤k
  ·by_cases h6:k≤6
   ·rw [if_pos h6]
    simp only [h1,h6,decide_true,Bool.and_true,true_and]
    constructor
    ·rintro ⟨h,_⟩;simpa using h
    rintro rfl;exact⟨rfl,Nat.le_refl _⟩
   rw [if_neg h6]
   simp only [h1,h6,decide_true,decide_false,Bool.and_false,true_and]
   constructor
   ·rintro ⟨h,h2⟩
    have:¬ nb=1:=by rintro rfl;cases h
    omega
   rintro rfl;exact⟨rfl,Nat.zero_le _⟩
  simp [h1]
 by_cases h7:k=7
 ·rw [if_pos h7,if_pos h7]
  simp only [Bool.and_eq_true,decide_eq_true_eq,beq_iff_eq,bne_iff_ne,List.all_eq_true] at key ⊢
  constructor
  ·rintro ⟨⟨⟨⟨⟨h1,h2⟩,h3⟩,h4⟩,⟨⟨h5,h6⟩,h8⟩,h9⟩,h10⟩
   obtain⟨a,b⟩:=key.1 ⟨h1,h3,h4⟩
   exact⟨⟨h1,h2⟩,b,by omega,h5,h6,h8,h9,h10⟩
  rintro ⟨⟨h1,h2⟩,h3,h4,h5,h6,h8,h9,h10⟩
  obtain⟨a,b,c⟩:=key.2 ⟨h1,h3⟩
  exact⟨⟨⟨⟨⟨h1,h2⟩,b⟩,c⟩,⟨⟨h5,h6⟩,h8⟩,h9⟩,h10⟩
 rw [if_neg h7,if_neg h7]
 simp only [Bool.and_eq_true,decide_eq_true_eq,beq_iff_eq,bne_iff_ne,List.all_eq_true] at key ⊢
 constructor
 ·rintro ⟨⟨⟨⟨⟨h1,h2⟩,h3⟩,h4⟩,h5,h6⟩,h10⟩
  obtain⟨a,b⟩:=key.1 ⟨h1,h3,h4⟩
  exact⟨⟨h1,h2⟩,b,h6,h5⟩
 rintro ⟨⟨h1,h2⟩,h3,h4,h5⟩
 obtain⟨a,b,c⟩:=key.2 ⟨h1,h3⟩
 exact⟨⟨⟨⟨⟨h1,h2⟩,b⟩,c⟩,h5,h4⟩,by rw [hnil h5];intro p hp;cases hp⟩
theorem sizes_take {l:List (List Nm×TE)}{i:Nat}{p:List Nm×TE}(h:l[i]?=some p):sizes (l.take (i+1))=sizes (l.take i)+p.2.size:=by
 rw [List.take_add_one,h,zr];simp [zg,zw]
theorem sizes_take_le {l:List (List Nm×TE)}(i:Nat):sizes (l.take i)≤sizes l:=by
 have:=zr (l.take i) (l.drop i)
 rw [List.take_append_drop] at this
 omega
end RG
namespace Go.Proofs.YtnkahlloahgifaaGreatDoor
section
open Go.RowKit RG Go.Maps RF
def TB.nth:TB→Nat→Option TE
 | .nil,_=>none
 | .cons e _,0=>some e
 | .cons _ r,k+1=>TB.nth r k
theorem TB.nth_kids (n:Nm):∀ (b:TB) (k:Nat),(b.kids n)[k]?=(TB.nth b k).map fun e=>([n],e)
 | .nil,k=>by simp [TB.kids,TB.nth]
 | .cons e r,0=>by simp [TB.kids,TB.nth]
 | .cons e r,k+1=>by simp [TB.kids,TB.nth,TB.nth_kids n r k]
theorem TBAt.nth {w:World}:∀ (a:TB) (g o k:Nat) (e:TE),TBAt w a g o→TB.nth a k=some e→TEAt w e g (o+k*8)
 | .nil,g,o,k,e,_,h=>by simp [TB.nth] at h
 | .cons e' r,g,o,0,e,h,hk=>by
  simp only [TB.nth,zt3] at hk
  subst hk
  rw [TBAt] at h
  rw [Nat.zero_mul,Nat.add_zero]
  exact h.1
 | .cons e' r,g,o,k+1,e,h,hk=>by
  simp only [TB.nth] at hk
  rw [TBAt] at h
  have:=TBAt.nth r g (o+8) k e h.2 hk
  rw [show o+8+k*8=o+(k+1)*8 from by omega] at this
  exact this
structure TEX (w:World) (e:TE) (xa aa ab:Option Addr) (xc:Nat):Prop where
 atoms:AtomsAt w (.slice xa e.args.length xc) e.args
 arms:0<e.arms.length→∃ g o,aa=some ⟨g,o,none⟩∧TAAt w e.arms g o
 body:0<e.body.length→∃ g o,ab=some ⟨g,o,none⟩∧TBAt w e.body g o
abbrev teV (e:TE) (op:ByteArray) (num site:Int) (xa aa ab:Option Addr) (xc ca cb:Nat):Value :=
 .agg #[.int .i64 e.kind,.string e.name,.string op,.int .i64 num,.int .i64 site,.slice xa e.args.length xc,.slice aa e.arms.length ca,.slice ab e.body.length cb]
abbrev teC (e:TE) (op:ByteArray) (num site:Int) (xa aa ab:Option Addr) (xc ca cb:Nat):Array Value :=
 #[.int .i64 e.kind,.string e.name,.string op,.int .i64 num,.int .i64 site,.slice xa e.args.length xc,.slice aa e.arms.length ca,.slice ab e.body.length cb]
theorem TEX.kept {w w':World}{e:TE}{xa aa ab:Option Addr}{xc:Nat}(h:TEX w e xa aa ab xc) (hb:Kept w w'):TEX w' e xa aa ab xc :=
 ⟨h.atoms.kept hb,fun h0=>by obtain⟨g,o,a,b⟩:=h.arms h0;exact⟨g,o,a,TAAt.kept hb _ _ _ b⟩,fun h0=>by obtain⟨g,o,a,b⟩:=h.body h0;exact⟨g,o,a,TBAt.kept hb _ _ _ b⟩⟩
structure TEC (w:World) (e:TE) (b o:Nat) (op:ByteArray) (num site:Int) (xa aa ab:Option Addr) (xc ca cb:Nat):Prop where
 c0:w.cell? ⟨b,o,none⟩=some (.int .i64 e.kind)
 c1:w.cell? ⟨b,o+1,none⟩=some (.string e.name)
 c2:w.cell? ⟨b,o+2,none⟩=some (.string op)
 c3:w.cell? ⟨b,o+3,none⟩=some (.int .i64 num)
 c4:w.cell? ⟨b,o+4,none⟩=some (.int .i64 site)
 c5:w.cell? ⟨b,o+5,none⟩=some (.slice xa e.args.length xc)
 c6:w.cell? ⟨b,o+6,none⟩=some (.slice aa e.arms.length ca)
 c7:w.cell? ⟨b,o+7,none⟩=some (.slice ab e.body.length cb)
theorem TEC.kept {w w':World}{e:TE}{b o:Nat}{op:ByteArray}{num site:Int}{xa aa ab:Option Addr}{xc ca cb:Nat}(h:TEC w e b o op num site xa aa ab xc ca cb) (hb:Kept w w'):TEC w' e b o op num site xa aa ab xc ca cb :=
 ⟨hb _ _ h.c0,hb _ _ h.c1,hb _ _ h.c2,hb _ _ h.c3,hb _ _ h.c4,hb _ _ h.c5,hb _ _ h.c6,hb _ _ h.c7⟩
theorem TEAt.cells {w:World}{e:TE}{b o:Nat}(h:TEAt w e b o):∃ op num site xa aa ab xc ca cb,TEC w e b o op num site xa aa ab xc ca cb∧TEX w e xa aa ab xc:=by
 obtain⟨k,n,xs,arms,body⟩:=e
 rw [TEAt] at h
 obtain⟨op,num,site,va,aa,ab,ca,cb,ga,oa,gb,ob,⟨c0,c1,c2,c3⟩,⟨c4,c5,c6,c7⟩,h1,h2,h3,h4,h5⟩:=h
 obtain⟨xa,xc,e1,h1'⟩:=h1.at'
 subst e1
 exact⟨op,num,site,xa,aa,ab,xc,ca,cb,⟨c0,c1,c2,c3,c4,c5,c6,c7⟩,h1,fun h=>⟨ga,oa,h2 h,h3⟩,fun h=>⟨gb,ob,h4 h,h5⟩⟩
theorem TEC.load {w:World}{e:TE}{b o:Nat}{op:ByteArray}{num site:Int}{xa aa ab:Option Addr}{xc ca cb:Nat}(h:TEC w e b o op num site xa aa ab xc ca cb):(loadVar 27 ⟨b,o,none⟩).run Tryz.prog w = .ok (teV e op num site xa aa ab xc ca cb) w:=by
 obtain⟨c0,c1,c2,c3,c4,c5,c6,c7⟩:=h
 simp [loadVar,go_sem,c0,c1,c2,c3,c4,c5,c6,c7]
end
section
open Go.RowKit RG Go.Maps
def Zw (ρ:Nat→Nat) (w:World):World:={ w with heap:=w.heap.mapIdx fun k o=>if ρ k=0 then o else .map #[] 0 }
theorem zw_heap {ρ:Nat→Nat}{w:World}{k:Nat}:(Zw ρ w).heap[k]?=if ρ k=0 then w.heap[k]? else (w.heap[k]?).map fun _=>Obj.map #[] 0:=by
 unfold Zw
 rw [Array.getElem?_mapIdx]
 by_cases h:ρ k=0
 ·simp only [h,if_true]
  cases w.heap[k]?<;>rfl
 simp only [h,if_false]
theorem zw_cell {ρ:Nat→Nat}{w:World}{a:Addr}{x:Value}:(Zw ρ w).cell? a=some x↔ρ a.block=0∧w.cell? a=some x:=by
 by_cases h:ρ a.block=0
 ·have:(Zw ρ w).cell? a=w.cell? a:=World.cell?_of_block (w:=w) (by rw [zw_heap,if_pos h])
  rw [this]
  exact⟨fun h1=>⟨h,h1⟩,fun h1=>h1.2⟩
 constructor
 ·intro h1
  exfalso
  unfold World.cell? at h1
  rw [zw_heap,if_neg h] at h1
  cases hq:w.heap[a.block]? with
  | none=>rw [hq] at h1;simp at h1
  | some o=>rw [hq] at h1;simp at h1
 exact fun h1=>absurd h1.1 h
theorem zw_kept (ρ:Nat→Nat) (w:World):Kept (Zw ρ w) w:=fun a x h=>(zw_cell.1 h).2
theorem zw_ch {M:Nat→Prop} {ρ ρ':Nat→Nat}{w w':World}(c:Ch M ρ ρ' w w') (hM:¬ M 0):Kept (Zw ρ w) (Zw ρ' w'):=fun a x h=>by
 obtain⟨h1,h2⟩:=zw_cell.1 h
 have hlt:=zs3 w _ h2
 exact zw_cell.2 ⟨(c.role _ hlt).trans h1,c.cell h2 (by rw [h1];exact hM)⟩
theorem zw_more {ρ ρ':Nat→Nat}{w:World}(h:∀ k,ρ k=0→ρ' k=0):Kept (Zw ρ w) (Zw ρ' w):=fun a x hx=>by
 obtain⟨h1,h2⟩:=zw_cell.1 hx
 exact zw_cell.2 ⟨h _ h1,h2⟩
theorem zw_none {w:World}:Kept w (Zw (fun _=>0) w):=fun a x hx=>zw_cell.2 ⟨rfl,hx⟩
end
section
open Go.RowKit RG Go.Maps
structure RB (w:World) (B:Nat) (ρ:Nat→Nat) (r:Nat) (e:TypeId) (size:Nat) (v:Value) (n:Nat) (xs:List Value):Prop where
 row:w.ownsRow B e size v n xs
 role:∀ q,v.ownBlock=some q→ρ q=r
theorem RB.nil (w:World) (B:Nat) (ρ:Nat→Nat) (r:Nat) (e:TypeId) (size:Nat):RB w B ρ r e size (.slice none 0 0) 0 []:=⟨World.ownsRow_nil _ _ _ _,fun q hq=>by simp [Value.ownBlock] at hq⟩
theorem RB.keep {M:Nat→Prop}{w w':World}{B:Nat} {ρ ρ':Nat→Nat}{r e size n:Nat}{v:Value}{xs:List Value}(h:RB w B ρ r e size v n xs) (c:Ch M ρ ρ' w w') (hn:¬ M r):RB w' B ρ' r e size v n xs:=by
 obtain⟨⟨h1,h2⟩,h3⟩:=h
 rcases h2 with h2 | ⟨g,cap,cur,rfl,hb,hg,rest⟩
 ·refine⟨⟨h1,.inl h2⟩,fun q hq=>?_⟩
  rw [h2.1] at hq;simp [Value.ownBlock] at hq
 have r0:=h3 g (by simp [Value.ownBlock])
 refine⟨⟨h1,.inr ⟨g,cap,cur,rfl,hb,c.keep hg (by rw [r0];exact hn),rest⟩⟩,fun q hq=>?_⟩
 simp [Value.ownBlock] at hq
 subst hq
 exact(c.keepRole hg).trans r0
theorem RB.shape {w:World}{B:Nat} {ρ:Nat→Nat}{r e size n:Nat}{v:Value}{xs:List Value}(h:RB w B ρ r e size v n xs):∃ a c,v = .slice a n c:=by
 rcases h.row.2 with ⟨rfl,rfl⟩|⟨g,cap,cur,rfl,_⟩
 ·exact⟨_,_,rfl⟩
 exact⟨_,_,rfl⟩
theorem RB.cells {w:World}{B:Nat} {ρ:Nat→Nat}{r e size n:Nat}{a:Option Addr}{c:Nat}{xs:List Value}(h:RB w B ρ r e size (.slice a n c) n xs) (hn:0<n) :
  ∃ g,a=some ⟨g,0,none⟩∧B≤g∧ρ g=r∧∀ (j:Nat) u,xs[j]?=some u→w.cell? ⟨g,j,none⟩=some u:=by
 rcases h.row.2 with ⟨_,h0⟩|⟨g,cap,cur,e1,hb,hg,rest⟩
 ·omega
 simp only [Value.slice.injEq] at e1
 obtain⟨rfl,-,-⟩:=e1
 refine⟨g,rfl,hb,h.role g (by simp [Value.ownBlock]),fun j u hu=>?_⟩
 have:=h.row.cells (g:=g) (by simp [Value.ownBlock]) j u hu
 rw [Addr.add_lit] at this
 simpa using this
structure Grew (M:Nat→Prop) (w0:World) (ρ0:Nat→Nat) (w:World) (ρ:Nat→Nat) (w':World) (ρ':Nat→Nat) (r:Nat):Prop where
 whole:Ch M ρ0 ρ' w0 w'
 step:Ch (· = r) ρ ρ' w w'
 fresh:∀ k,w.heap.size≤k→ρ' k=0∨ρ' k=r
theorem run_append_rb {P:Program}(w:World) (t ty e:TypeId) (i:TypeInfo) (z:Value) (size bytes:Nat) (ht:P.underlying t=some (.slice e)) (hi:P.info? e=some i) (hz:i.zero=some z)
  (hsize:i.size=size) (hby:i.bytes=bytes) (hzs:z.cells.size=size) (hsz:0<size) (M:Nat→Prop) (w0:World) (ρ0 ρ:Nat→Nat) (r:Nat) (v:Value) (n:Nat) (xs:List Value) (hrow:RB w w0.heap.size ρ r e size v n xs) (hch:Ch M ρ0 ρ w0 w)
  (ad:Addr) (m c:Nat) (news:List Value) (hl:news.length=m*size) (hnews:∀ j u,news[j]?=some u→w.cell? (ad.add j)=some u) (h1:∀ u∈news,u.oneCell'=true)
  (h63:n+m≤maxLen) (hbytes:(n+m)*bytes≤140737488355328) :
  ∃ a' c' w' ρ',(Builtin.append_ #[t,t] ty #[v,.slice (some ad) m c]).run P w = .ok (.slice a' (n+m) c') w'∧RB w' w0.heap.size ρ' r e size (.slice a' (n+m) c') (n+m) (xs++news)∧Grew M w0 ρ0 w ρ w' ρ' r:=by
 obtain⟨v',w',hr,h2,h3,h4⟩:=run_append_own (P:=P) w w0.heap.size t ty e i z size bytes ht hi hz hsize hby hzs hsz v n xs hrow.row ad m c news hl hnews h1 h63 hbytes hch.size
 have hrow0:w.ownsRow 0 e size v n xs:=⟨hrow.row.1,by
  rcases hrow.row.2 with h | ⟨g,cap,cur,e1,hb,rest⟩
  ·exact .inl h
  exact .inr ⟨g,cap,cur,e1,zv3 _,rest⟩⟩
 have hwh:=append_where ht hi hz hsize hby hsz hrow0 ty ad m c news hl hnews h1 h63 hbytes hr (fun e1 e2=>h4.2 ⟨e1,e2⟩)
 have hρ:∀ k,w.heap.size≤k→ρ k=0:=hch.fresh
 have hst:Ch (· = r) ρ ρ w w':=(Ch.refl hρ).grown h3 fun k hk _=>hrow.role k hk
 have hwl:Ch M ρ0 ρ w0 w':=hch.grown h3 fun k hk hlt=>absurd (hrow.row.lt k hk).1 (by omega)
 have hsh:∃ a' c',v' = .slice a' (n+m) c':=by
  rcases h2.2 with ⟨rfl,h0⟩|⟨g,cap,cur,rfl,_⟩
  ·rw [h0];exact⟨_,_,rfl⟩
  exact⟨_,_,rfl⟩
 obtain⟨a',c',rfl⟩:=hsh
 by_cases hnew:(Value.slice a' (n+m) c').ownBlock=some w.heap.size
 ·have hlt:=(h2.lt _ hnew).2
  refine⟨a',c',w',roleAt ρ w.heap.size r,hr,⟨h2,fun q hq=>?_⟩,hwl.named _ _ hch.size hlt,hst.named _ _ (zr4 _) hlt,fun k hk=>?_⟩
  ·rw [hnew] at hq
   simp only [zt3] at hq
   subst hq
   exact roleAt_same _ _ _
  by_cases e:k=w.heap.size
  ·subst e;exact .inr (roleAt_same _ _ _)
  rw [zv _ _ _ e];exact .inl (hρ k hk)
 refine⟨a',c',w',ρ,hr,⟨h2,fun q hq=>?_⟩,hwl,hst,fun k hk => .inl (hρ k hk)⟩
 rcases hwh with e | e
 ·exact hrow.role q (by rw [← e];exact hq)
 exact absurd e hnew
theorem wpList_append_rb {P:Program}{w:World}{ops:Array Oper}{rest:List Oper}{o:Oper}{a:Act}{Q:Exit→Act→World→Prop}(hgd:o.guard=none) (s x:Operand) (t:TypeId)
  (ho:o.op = .call { callee := .builtin .append,args := #[s,x],argTypes := #[t,t] })
  (e:TypeId) (i:TypeInfo) (z:Value) (size bytes:Nat) (ht:P.underlying t=some (.slice e)) (hi:P.info? e=some i) (hz:i.zero=some z)
  (hsize:i.size=size) (hby:i.bytes=bytes) (hzs:z.cells.size=size) (hsz:0<size) (M:Nat→Prop) (w0:World) (ρ0 ρ:Nat→Nat) (r:Nat) (v:Value) (n:Nat) (xs:List Value) (hs:a.eval s=v)
  (hrow:RB w w0.heap.size ρ r e size v n xs) (hch:Ch M ρ0 ρ w0 w)
  (ad:Addr) (m c:Nat) (news:List Value) (hx:a.eval x = .slice (some ad) m c) (hl:news.length=m*size) (hnews:∀ j u,news[j]?=some u→w.cell? (ad.add j)=some u) (h1:∀ u∈news,u.oneCell'=true)
  (h63:n+m≤maxLen) (hbytes:(n+m)*bytes≤140737488355328)
  (h:∀ a' c' w' ρ',RB w' w0.heap.size ρ' r e size (.slice a' (n+m) c') (n+m) (xs++news)→Grew M w0 ρ0 w ρ w' ρ' r→wpList P ops Q rest (a.put o.dst (.slice a' (n+m) c')) w'):wpList P ops Q (o :: rest) a w:=by
 obtain⟨a',c',w',ρ',hr,h2,h3⟩:=run_append_rb (P:=P) w t o.type e i z size bytes ht hi hz hsize hby hzs hsz M w0 ρ0 ρ r v n xs hrow hch ad m c news hl hnews h1 h63 hbytes
 exact wpList_append_run hgd s x t ho hs hx hr (h a' c' w' ρ' h2 h3)
inductive GR {α:Type} (size:Nat) (Pd:α→List Value→Prop):List α→List Value→Prop
 | nil:GR size Pd [] []
 | snoc {al:List α} {xs:List Value} {x:α} {u:List Value}:GR size Pd al xs→Pd x u→u.length=size→GR size Pd (al++[x]) (xs++u)
theorem GR.length {α:Type}{size:Nat}{Pd:α→List Value→Prop}{al:List α} {xs:List Value}(h:GR size Pd al xs):xs.length=al.length*size:=by
 induction h with
 | nil=>simp
 | snoc _ _ hl ih=>simp only [zr2,zv2,List.length_nil,ih,hl,Nat.add_mul];omega
theorem GR.mono {α:Type}{size:Nat}{Pd Pd':α→List Value→Prop}{al:List α} {xs:List Value}(h:GR size Pd al xs) (hp:∀ x u,Pd x u→Pd' x u):GR size Pd' al xs:=by
 induction h with
 | nil=>exact .nil
 | snoc _ h1 hl ih=>exact .snoc ih (hp _ _ h1) hl
theorem GR.get {α:Type}{size:Nat}{Pd:α→List Value→Prop}{al:List α} {xs:List Value}(h:GR size Pd al xs):∀ (i:Nat) (x:α),al[i]?=some x→∃ u,Pd x u∧u.length=size∧∀ j,j<size→xs[i*size+j]?=u[j]?:=by
 induction h with
 | nil=>intro i x hx;simp at hx
 | @snoc al xs x u h0 h1 hl ih =>
  intro i y hy
  have hlen:=h0.length
  by_cases hi:i<al.length
  ·rw [List.getElem?_append_left hi] at hy
   obtain⟨u',a,b,c⟩:=ih i y hy
   refine⟨u',a,b,fun j hj=>?_⟩
   rw [List.getElem?_append_left (by
    rw [hlen]
    calc i*size+j<i*size+size:=by omega
     _=(i+1)*size:=by rw [Nat.add_mul];omega
     _≤al.length*size:=Nat.mul_le_mul_right _ hi)]
   exact c j hj
  have hii:i=al.length:=by
   have:=(zq8.1 hy).1
   simp at this;omega
  subst hii
  rw [List.getElem?_append_right (zr4 _),Nat.sub_self] at hy
  simp only [List.getElem?_cons_zero,zt3] at hy
  subst hy
  refine⟨u,h1,hl,fun j hj=>?_⟩
  rw [List.getElem?_append_right (by omega),hlen,Nat.add_sub_cancel_left]
end
section
open Go.RowKit RG Go.Maps
def AtomP (n:Nm) (u:List Value):Prop:=∃ m:Int,u=[.string n,.int .i64 m]
def BodP (W:World) (e:TE) (u:List Value):Prop:=∃ (op:ByteArray) (num site:Int) (xa aa ab:Option Addr) (xc ca cb:Nat),u=(teC e op num site xa aa ab xc ca cb).toList∧TEX W e xa aa ab xc
def ArmP (W:World) (p:List Nm×TE) (u:List Value):Prop:=∃ (con:ByteArray) (vv:Value) (t:List Value),u = .string con :: vv :: t∧StrsAt W vv p.1∧BodP W p.2 t
theorem BodP.kept {w w':World}(k:Kept w w') {e:TE}{u:List Value}(h:BodP w e u):BodP w' e u:=by
 obtain⟨op,num,site,xa,aa,ab,xc,ca,cb,h1,h2⟩:=h
 exact⟨op,num,site,xa,aa,ab,xc,ca,cb,h1,h2.kept k⟩
theorem ArmP.kept {w w':World}(k:Kept w w') {p:List Nm×TE}{u:List Value}(h:ArmP w p u):ArmP w' p u:=by
 obtain⟨con,vv,t,h1,h2,h3⟩:=h
 exact⟨con,vv,t,h1,h2.kept k,h3.kept k⟩
theorem TEC.at' {w:World}{e:TE}{b o:Nat}{op:ByteArray}{num site:Int}{xa aa ab:Option Addr}{xc ca cb:Nat}(c:TEC w e b o op num site xa aa ab xc ca cb) (x:TEX w e xa aa ab xc):TEAt w e b o:=by
 obtain⟨k,n,xs,arms,body⟩:=e
 have ha:∃ ga oa,(0<arms.length→aa=some ⟨ga,oa,none⟩)∧TAAt w arms ga oa:=by
  cases arms with
  | nil=>exact⟨0,0,fun h=>by simp [TA.length] at h,by rw [TAAt];trivial⟩
  | cons vs e r =>
   obtain⟨g,o,h1,h2⟩:=x.arms (by show 0<TA.length _;simp [TA.length,TE.arms])
   exact⟨g,o,fun _=>h1,h2⟩
 have hb:∃ gb ob,(0<body.length→ab=some ⟨gb,ob,none⟩)∧TBAt w body gb ob:=by
  cases body with
  | nil=>exact⟨0,0,fun h=>by simp [TB.length] at h,by rw [TBAt];trivial⟩
  | cons e r =>
   obtain⟨g,o,h1,h2⟩:=x.body (by show 0<TB.length _;simp [TB.length,TE.body])
   exact⟨g,o,fun _=>h1,h2⟩
 obtain⟨ga,oa,a1,a2⟩:=ha
 obtain⟨gb,ob,b1,b2⟩:=hb
 rw [TEAt]
 exact⟨op,num,site,_,aa,ab,ca,cb,ga,oa,gb,ob,⟨c.c0,c.c1,c.c2,c.c3⟩,⟨c.c4,c.c5,c.c6,c.c7⟩,x.atoms,a1,a2,b1,b2⟩
theorem BodP.at' {w:World}{e:TE}{u:List Value}{b o:Nat}(h:BodP w e u) (hc:∀ j,j<8→w.cell? ⟨b,o+j,none⟩=u[j]?):TEAt w e b o:=by
 obtain⟨op,num,site,xa,aa,ab,xc,ca,cb,rfl,h2⟩:=h
 exact TEC.at' (op:=op) (num:=num) (site:=site) (ca:=ca) (cb:=cb) ⟨hc 0 (by decide),hc 1 (by decide),hc 2 (by decide),hc 3 (by decide),hc 4 (by decide),hc 5 (by decide),hc 6 (by decide),hc 7 (by decide)⟩ h2
theorem TBAt.of_row {w:World}:∀ (a:TB) (g o:Nat),(∀ k e,TB.nth a k=some e→∃ u,BodP w e u∧∀ j,j<8→w.cell? ⟨g,o+k*8+j,none⟩=u[j]?)→TBAt w a g o
 | .nil,_,_,_=>by rw [TBAt];trivial
 | .cons e r,g,o,h=>by
  rw [TBAt]
  refine⟨?_,TBAt.of_row r g (o+8) fun k e' hk=>?_⟩
  ·obtain⟨u,h1,h2⟩:=h 0 e rfl
   exact h1.at' (fun j hj=>by have:=h2 j hj;rwa [Nat.zero_mul,Nat.add_zero] at this)
  obtain⟨u,h1,h2⟩:=h (k+1) e' hk
  exact⟨u,h1,fun j hj=>by have:=h2 j hj;rwa [show o+(k+1)*8+j=o+8+k*8+j from by omega] at this⟩
theorem TAAt.of_row {w:World}:∀ (a:TA) (g o:Nat),(∀ k p,TA.nth a k=some p→∃ u,ArmP w p u∧∀ j,j<10→w.cell? ⟨g,o+k*10+j,none⟩=u[j]?)→TAAt w a g o
 | .nil,_,_,_=>by rw [TAAt];trivial
 | .cons vs e r,g,o,h=>by
  rw [TAAt]
  obtain⟨u,⟨con,vv,t,rfl,h1,h2⟩,h3⟩:=h 0 (vs,e) rfl
  refine⟨⟨con,vv,?_,?_,h1⟩,?_,TAAt.of_row r g (o+10) fun k e' hk=>?_⟩
  ·have:=h3 0 (by decide);rwa [Nat.zero_mul,Nat.add_zero] at this
  ·have:=h3 1 (by decide);rwa [Nat.zero_mul,Nat.add_zero] at this
  ·refine h2.at' fun j hj=>?_
   have:=h3 (j+2) (by omega)
   rw [Nat.zero_mul,Nat.add_zero,show o+(j+2)=o+2+j from by omega] at this
   simpa using this
  obtain⟨u,h1,h2⟩:=h (k+1) e' hk
  exact⟨u,h1,fun j hj=>by have:=h2 j hj;rwa [show o+(k+1)*10+j=o+10+k*10+j from by omega] at this⟩
def mA (o:List Nm) (p:List Nm×TE):List Nm:=metE p.2 (p.1.foldl met o)
theorem metA_kids:∀ (a:TA) (o:List Nm),metA a o=a.kids.foldl mA o
 | .nil,o=>by rw [metA];rfl
 | .cons vs e r,o=>by rw [metA,TA.kids,List.foldl_cons,metA_kids r];rfl
theorem metB_kids (n:Nm):∀ (b:TB) (o:List Nm),metB b o=(b.kids n).foldl (fun o p=>metE p.2 o) o
 | .nil,o=>by rw [metB];rfl
 | .cons e r,o=>by rw [metB,TB.kids,List.foldl_cons,metB_kids n r]
theorem mA_pre (o:List Nm) (p:List Nm×TE):o <+: mA o p:=(fold_pre met_pre p.1 o).trans (metE_pre p.2 _)
theorem folds_pre {α:Type}{f:List Nm→α→List Nm}(hf:∀ o s,o <+: f o s):∀ (l:List α) (o:List Nm),o <+: l.foldl f o
 | [],o=>List.prefix_refl _
 | x :: l,o=>(hf o x).trans (folds_pre hf l _)
theorem take_snoc {α:Type}{l:List α} {i:Nat}{x:α} (h:l[i]?=some x):l.take (i+1)=l.take i++[x]:=by
 rw [List.take_add_one,h];rfl
theorem arms_more {o1 o2:List Nm}(h:o1 <+: o2) {o:List Nm}{ps:List (List Nm×TE)}(hm:ps.foldl mA o <+: o1):ps.map (renP (rnk o2))=ps.map (renP (rnk o1)):=by
 induction ps generalizing o with
 | nil=>rfl
 | cons p ps ih =>
  rw [List.foldl_cons] at hm
  have hp:mA o p <+: o1:=(folds_pre mA_pre ps _).trans hm
  rw [List.map_cons,List.map_cons,ih hm]
  congr 1
  have h1:p.1.foldl met o <+: o1:=(metE_pre p.2 _).trans hp
  show (p.1.map (rnk o2),p.2.ren (rnk o2))=(p.1.map (rnk o1),p.2.ren (rnk o1))
  rw [ren_pre p.2 _ o2 (hp.trans h),ren_pre p.2 _ o1 hp]
  congr 1
  refine List.map_congr_left fun x hx=>?_
  exact rnk_pre h (h1.subset (fold_in met_pre p.1 o x (fun o=>met_in o x) hx))
theorem body_more {o1 o2:List Nm}(h:o1 <+: o2) {o:List Nm}{es:List TE}(hm:es.foldl (fun o e=>metE e o) o <+: o1):es.map (TE.ren (rnk o2))=es.map (TE.ren (rnk o1)):=by
 induction es generalizing o with
 | nil=>rfl
 | cons p ps ih =>
  rw [List.foldl_cons] at hm
  have hp:metE p o <+: o1:=(folds_pre (fun o e=>metE_pre e o) ps _).trans hm
  rw [List.map_cons,List.map_cons,ih hm,ren_pre p _ o2 (hp.trans h),ren_pre p _ o1 hp]
theorem atoms_more {o1 o2:List Nm}(h:o1 <+: o2) {o:List Nm}{us:List Nm}(hm:us.foldl met0 o <+: o1):us.map (rn0 o2)=us.map (rn0 o1) :=
 List.map_congr_left fun x hx=>by rw [rn0_pre (hm.trans h) hx,rn0_pre hm hx]
theorem vars_more {o1 o2:List Nm}(h:o1 <+: o2) {o:List Nm}{us:List Nm}(hm:us.foldl met o <+: o1):us.map (rnk o2)=us.map (rnk o1) :=
 List.map_congr_left fun x hx=>rnk_pre h (hm.subset (fold_in met_pre us o x (fun o=>met_in o x) hx))
def TB.list:TB→List TE
 | .nil=>[]
 | .cons e r=>e :: TB.list r
theorem TB.list_nth:∀ (b:TB) (k:Nat),(TB.list b)[k]?=TB.nth b k
 | .nil,k=>by simp [TB.list,TB.nth]
 | .cons e r,0=>by simp [TB.list,TB.nth]
 | .cons e r,k+1=>by simp [TB.list,TB.nth,TB.list_nth r k]
theorem TB.list_length:∀ b:TB,(TB.list b).length=b.length
 | .nil=>rfl
 | .cons e r=>by rw [TB.list,zv2,TB.list_length r,TB.length]
theorem TB.list_ren (ρ:Nm→Nm):∀ b:TB,TB.list (b.ren ρ)=(TB.list b).map (TE.ren ρ)
 | .nil=>rfl
 | .cons e r=>by rw [TB.ren,TB.list,TB.list,TB.list_ren ρ r];rfl
theorem metB_list:∀ (b:TB) (o:List Nm),metB b o=(TB.list b).foldl (fun o e=>metE e o) o
 | .nil,o=>by rw [metB];rfl
 | .cons e r,o=>by rw [metB,TB.list,List.foldl_cons,metB_list r]
structure BS (w0:World) (ρ0:Nat→Nat) (rb bb za sb:Nat) (e:TE) (op:ByteArray) (num site:Int) (xa aa ab:Option Addr) (xc ca cb:Nat)
  (W:World) (ρ:Nat→Nat) (old:List Nm) (nm:Nm) (us:List Nm) (al:List (List Nm×TE)) (bs:List TE) (va vb vc:Value):Prop where
 ch:Ch NM ρ0 ρ w0 W
 rn:RnR W ρ rb old
 inn:TEX (Zw ρ W) e xa aa ab xc
 box:W.heap[bb]?=some (.cells (teC e op num site xa aa ab xc ca cb) 27 (0,0))∧ρ bb=0
 res:(∃ cs,W.heap[za]?=some (.cells cs 27 (0,0))∧cs.size=8)∧ρ za=27
 out:W.heap[sb]?=some (.cells #[.int .i64 e.kind,.string nm,.string op,.int .i64 num,.int .i64 site,va,vb,vc] 27 (0,0))∧ρ sb=22
 new:w0.heap.size≤sb∧w0.heap.size≤za
 r1:∃ xs,RB W w0.heap.size ρ 23 146 2 va us.length xs∧GR 2 AtomP us xs
 r2:∃ xs,RB W w0.heap.size ρ 24 148 10 vb al.length xs∧GR 10 (ArmP (Zw ρ W)) al xs
 r3:∃ xs,RB W w0.heap.size ρ 25 27 8 vc bs.length xs∧GR 8 (BodP (Zw ρ W)) bs xs
theorem RnR.keep {M:Nat→Prop}{w w':World} {ρ ρ':Nat→Nat}{rb:Nat}{old:List Nm}(h:RnR w ρ rb old) (c:Ch M ρ ρ' w w') (h0:¬ M 20) (h1:¬ M 21):RnR w' ρ' rb old:=by
 obtain⟨v,hv⟩:=h
 exact⟨v,c.keep hv.obj (by rw [hv.role];exact h0),(c.keepRole hv.obj).trans hv.role,hv.row.keep c h1⟩
section
variable {w0:World} {ρ0:Nat→Nat} {rb bb za sb:Nat} {e:TE} {op:ByteArray} {num site:Int} {xa aa ab:Option Addr} {xc ca cb:Nat}
  {W:World} {ρ:Nat→Nat} {old:List Nm} {nm:Nm} {us:List Nm} {al:List (List Nm×TE)} {bs:List TE} {va vb vc:Value}
theorem BS.on (h:BS w0 ρ0 rb bb za sb e op num site xa aa ab xc ca cb W ρ old nm us al bs va vb vc) {M:Nat→Prop}{W':World} {ρ':Nat→Nat}{old':List Nm}(whole:Ch NM ρ0 ρ' w0 W') (c:Ch M ρ ρ' W W')
  (hM:∀ r,M r→r=20∨r=21∨r=26∨r=28) (hrn:RnR W' ρ' rb old'):BS w0 ρ0 rb bb za sb e op num site xa aa ab xc ca cb W' ρ' old' nm us al bs va vb vc:=by
 have n0:¬ M 0:=fun x=>by have:=hM 0 x;omega
 have nn:∀ r,r=22∨r=23∨r=24∨r=25∨r=27→¬ M r:=fun r hr x=>by have:=hM r x;omega
 have k:=zw_ch c n0
 obtain⟨x1,a1,b1⟩:=h.r1
 obtain⟨x2,a2,b2⟩:=h.r2
 obtain⟨x3,a3,b3⟩:=h.r3
 obtain⟨⟨cs,d1,d2⟩,d3⟩:=h.res
 exact⟨whole,hrn,h.inn.kept k,⟨c.keep h.box.1 (by rw [h.box.2];exact n0),(c.keepRole h.box.1).trans h.box.2⟩,⟨⟨cs,c.keep d1 (by rw [d3];exact nn _ (by omega)),d2⟩,(c.keepRole d1).trans d3⟩,
  ⟨c.keep h.out.1 (by rw [h.out.2];exact nn _ (by omega)),(c.keepRole h.out.1).trans h.out.2⟩,h.new,
  ⟨x1,a1.keep c (nn _ (by omega)),b1⟩,⟨x2,a2.keep c (nn _ (by omega)),b2.mono fun _ _=>ArmP.kept k⟩,⟨x3,a3.keep c (nn _ (by omega)),b3.mono fun _ _=>BodP.kept k⟩⟩
theorem BS.below (h:BS w0 ρ0 rb bb za sb e op num site xa aa ab xc ca cb W ρ old nm us al bs va vb vc) {W':World}(hb:Below W.heap.size W W'):BS w0 ρ0 rb bb za sb e op num site xa aa ab xc ca cb W' ρ old nm us al bs va vb vc:=by
 have c:Ch (fun _=>False) ρ ρ W W':=Ch.of_below hb h.ch.fresh
 exact h.on (h.ch.trans (c.mono (fun _ x=>x.elim))) c (fun _ x=>x.elim) (h.rn.keep c id id)
theorem BS.loc (h:BS w0 ρ0 rb bb za sb e op num site xa aa ab xc ca cb W ρ old nm us al bs va vb vc) {o:Obj}:BS w0 ρ0 rb bb za sb e op num site xa aa ab xc ca cb (W.alloc o) (roleAt ρ W.heap.size 28) old nm us al bs va vb vc:=by
 have c:Ch (fun _=>False) ρ (roleAt ρ W.heap.size 28) W (W.alloc o):=((Ch.refl h.ch.fresh).alloc o).named _ _ (zr4 _) (by simp)
 exact h.on (h.ch.trans (c.mono (fun _ x=>x.elim))) c (fun _ x=>x.elim) (h.rn.keep c id id)
theorem BS.setLoc (h:BS w0 ρ0 rb bb za sb e op num site xa aa ab xc ca cb W ρ old nm us al bs va vb vc) {b o:Nat}{v:Value}(hb:w0.heap.size≤b) (hr:ρ b=28) :
  BS w0 ρ0 rb bb za sb e op num site xa aa ab xc ca cb (W.setCell ⟨b,o,none⟩ v) ρ old nm us al bs va vb vc:=by
 have c:Ch (· = 28) ρ ρ W (W.setCell ⟨b,o,none⟩ v):=(Ch.refl h.ch.fresh).setCell _ _ fun _=>hr
 exact h.on (h.ch.setCell _ _ fun hlt=>absurd hlt (by show ¬ b<_;omega)) c (fun r hr=>by rw [hr];omega) (h.rn.keep c (by decide) (by decide))
theorem BS.setNm (h:BS w0 ρ0 rb bb za sb e op num site xa aa ab xc ca cb W ρ old nm us al bs va vb vc) {nm':Nm} :
  BS w0 ρ0 rb bb za sb e op num site xa aa ab xc ca cb (W.setCell ⟨sb,1,none⟩ (.string nm')) ρ old nm' us al bs va vb vc:=by
 have c:Ch (· = 22) ρ ρ W (W.setCell ⟨sb,1,none⟩ (.string nm')):=(Ch.refl h.ch.fresh).setCell _ _ fun _=>h.out.2
 have k:=zw_ch c (by decide)
 obtain⟨x1,a1,b1⟩:=h.r1
 obtain⟨x2,a2,b2⟩:=h.r2
 obtain⟨x3,a3,b3⟩:=h.r3
 obtain⟨⟨cs,d1,d2⟩,d3⟩:=h.res
 exact⟨h.ch.setCell _ _ fun hlt=>absurd hlt (by show ¬ sb<_;have:=h.new.1;omega),h.rn.keep c (by decide) (by decide),h.inn.kept k,⟨c.keep h.box.1 (by rw [h.box.2];decide),h.box.2⟩,⟨⟨cs,c.keep d1 (by rw [d3];decide),d2⟩,d3⟩,
  ⟨heap_setCell_same _ _ 1 _ _ _ h.out.1,h.out.2⟩,h.new,
  ⟨x1,a1.keep c (by decide),b1⟩,⟨x2,a2.keep c (by decide),b2.mono fun _ _=>ArmP.kept k⟩,⟨x3,a3.keep c (by decide),b3.mono fun _ _=>BodP.kept k⟩⟩
theorem BS.put1 (h:BS w0 ρ0 rb bb za sb e op num site xa aa ab xc ca cb W ρ old nm us al bs va vb vc) {W':World} {ρ':Nat→Nat}{u:Nm}{x:List Value}{va':Value}{xs:List Value}(hxs:GR 2 AtomP us xs)
  (hr:RB W' w0.heap.size ρ' 23 146 2 va' (us.length+1) (xs++x)) (g:Grew NM w0 ρ0 W ρ W' ρ' 23) (hp:AtomP u x) (hl:x.length=2) :
  BS w0 ρ0 rb bb za sb e op num site xa aa ab xc ca cb (W'.setCell ⟨sb,5,none⟩ va') ρ' old nm (us++[u]) al bs va' vb vc:=by
 have hob:=g.step.keep h.out.1 (by rw [h.out.2];decide)
 have hor:ρ' sb=22:=(g.step.keepRole h.out.1).trans h.out.2
 have c2:Ch (· = 22) ρ' ρ' W' (W'.setCell ⟨sb,5,none⟩ va'):=(Ch.refl g.step.fresh).setCell _ _ fun _=>hor
 have c:Ch (fun r=>r=22∨r=23) ρ ρ' W (W'.setCell ⟨sb,5,none⟩ va'):=(g.step.mono (fun _ x => .inr x)).trans (c2.mono (fun _ x => .inl x))
 have k:=zw_ch c (by decide)
 obtain⟨x2,a2,b2⟩:=h.r2
 obtain⟨x3,a3,b3⟩:=h.r3
 obtain⟨⟨cs,d1,d2⟩,d3⟩:=h.res
 exact⟨g.whole.setCell _ _ fun hlt=>absurd hlt (by show ¬ sb<_;have:=h.new.1;omega),h.rn.keep c (by decide) (by decide),h.inn.kept k,⟨c.keep h.box.1 (by rw [h.box.2];decide),(c.keepRole h.box.1).trans h.box.2⟩,⟨⟨cs,c.keep d1 (by rw [d3];decide),d2⟩,(c.keepRole d1).trans d3⟩,
  ⟨heap_setCell_same _ _ 5 _ _ _ hob,hor⟩,h.new,
  ⟨xs++x,by rw [zr2];exact hr.keep c2 (by decide),.snoc hxs hp hl⟩,⟨x2,a2.keep c (by decide),b2.mono fun _ _=>ArmP.kept k⟩,⟨x3,a3.keep c (by decide),b3.mono fun _ _=>BodP.kept k⟩⟩
theorem BS.put2 (h:BS w0 ρ0 rb bb za sb e op num site xa aa ab xc ca cb W ρ old nm us al bs va vb vc) {W':World} {ρ':Nat→Nat}{u:List Nm×TE}{x:List Value}{vb':Value}{xs:List Value}(hxs:GR 10 (ArmP (Zw ρ W)) al xs)
  (hr:RB W' w0.heap.size ρ' 24 148 10 vb' (al.length+1) (xs++x)) (g:Grew NM w0 ρ0 W ρ W' ρ' 24) (hp:ArmP (Zw ρ W) u x) (hl:x.length=10) :
  BS w0 ρ0 rb bb za sb e op num site xa aa ab xc ca cb (W'.setCell ⟨sb,6,none⟩ vb') ρ' old nm us (al++[u]) bs va vb' vc:=by
 have hob:=g.step.keep h.out.1 (by rw [h.out.2];decide)
 have hor:ρ' sb=22:=(g.step.keepRole h.out.1).trans h.out.2
 have c2:Ch (· = 22) ρ' ρ' W' (W'.setCell ⟨sb,6,none⟩ vb'):=(Ch.refl g.step.fresh).setCell _ _ fun _=>hor
 have c:Ch (fun r=>r=22∨r=24) ρ ρ' W (W'.setCell ⟨sb,6,none⟩ vb'):=(g.step.mono (fun _ x => .inr x)).trans (c2.mono (fun _ x => .inl x))
 have k:=zw_ch c (by decide)
 obtain⟨x1,a1,b1⟩:=h.r1
 obtain⟨x3,a3,b3⟩:=h.r3
 obtain⟨⟨cs,d1,d2⟩,d3⟩:=h.res
 exact⟨g.whole.setCell _ _ fun hlt=>absurd hlt (by show ¬ sb<_;have:=h.new.1;omega),h.rn.keep c (by decide) (by decide),h.inn.kept k,⟨c.keep h.box.1 (by rw [h.box.2];decide),(c.keepRole h.box.1).trans h.box.2⟩,⟨⟨cs,c.keep d1 (by rw [d3];decide),d2⟩,(c.keepRole d1).trans d3⟩,
  ⟨heap_setCell_same _ _ 6 _ _ _ hob,hor⟩,h.new,
  ⟨x1,a1.keep c (by decide),b1⟩,⟨xs++x,by rw [zr2];exact hr.keep c2 (by decide),.snoc (hxs.mono fun _ _=>ArmP.kept k) (hp.kept k) hl⟩,⟨x3,a3.keep c (by decide),b3.mono fun _ _=>BodP.kept k⟩⟩
theorem BS.put3 (h:BS w0 ρ0 rb bb za sb e op num site xa aa ab xc ca cb W ρ old nm us al bs va vb vc) {W':World} {ρ':Nat→Nat}{u:TE}{x:List Value}{vc':Value}{xs:List Value}(hxs:GR 8 (BodP (Zw ρ W)) bs xs)
  (hr:RB W' w0.heap.size ρ' 25 27 8 vc' (bs.length+1) (xs++x)) (g:Grew NM w0 ρ0 W ρ W' ρ' 25) (hp:BodP (Zw ρ W) u x) (hl:x.length=8) :
  BS w0 ρ0 rb bb za sb e op num site xa aa ab xc ca cb (W'.setCell ⟨sb,7,none⟩ vc') ρ' old nm us al (bs++[u]) va vb vc':=by
 have hob:=g.step.keep h.out.1 (by rw [h.out.2];decide)
 have hor:ρ' sb=22:=(g.step.keepRole h.out.1).trans h.out.2
 have c2:Ch (· = 22) ρ' ρ' W' (W'.setCell ⟨sb,7,none⟩ vc'):=(Ch.refl g.step.fresh).setCell _ _ fun _=>hor
 have c:Ch (fun r=>r=22∨r=25) ρ ρ' W (W'.setCell ⟨sb,7,none⟩ vc'):=(g.step.mono (fun _ x => .inr x)).trans (c2.mono (fun _ x => .inl x))
 have k:=zw_ch c (by decide)
 obtain⟨x1,a1,b1⟩:=h.r1
 obtain⟨x2,a2,b2⟩:=h.r2
 obtain⟨⟨cs,d1,d2⟩,d3⟩:=h.res
 exact⟨g.whole.setCell _ _ fun hlt=>absurd hlt (by show ¬ sb<_;have:=h.new.1;omega),h.rn.keep c (by decide) (by decide),h.inn.kept k,⟨c.keep h.box.1 (by rw [h.box.2];decide),(c.keepRole h.box.1).trans h.box.2⟩,⟨⟨cs,c.keep d1 (by rw [d3];decide),d2⟩,(c.keepRole d1).trans d3⟩,
  ⟨heap_setCell_same _ _ 7 _ _ _ hob,hor⟩,h.new,
  ⟨x1,a1.keep c (by decide),b1⟩,⟨x2,a2.keep c (by decide),b2.mono fun _ _=>ArmP.kept k⟩,⟨xs++x,by rw [zr2];exact hr.keep c2 (by decide),.snoc (hxs.mono fun _ _=>BodP.kept k) (hp.kept k) hl⟩⟩
end
theorem row_cells {α:Type}{Pd:α→List Value→Prop}{w:World}{B r e size n:Nat} {ρ:Nat→Nat}{a:Option Addr}{c:Nat}{xs:List Value}{al:List α} (h:RB w B ρ r e size (.slice a n c) n xs) (g:GR size Pd al xs) (hn:n=al.length) (h0:0<n) :
  ∃ b,a=some ⟨b,0,none⟩∧B≤b∧ρ b=r∧∀ (i:Nat) x,al[i]?=some x→∃ u,Pd x u∧∀ j,j<size→w.cell? ⟨b,i*size+j,none⟩=u[j]?:=by
 obtain⟨b,h1,h2,h3,h4⟩:=h.cells h0
 refine⟨b,h1,h2,h3,fun i x hx=>?_⟩
 obtain⟨u,p,hl,hu⟩:=g.get i x hx
 refine⟨u,p,fun j hj=>?_⟩
 have hj':j<u.length:=by omega
 rw [zq9 hj',h4 _ _ ((hu j hj).trans (zq9 hj'))]
def rEnd (w0:World) (ρ:Nat→Nat):Nat→Nat:=fun k=>if k<w0.heap.size then ρ k else if ρ k=21 then 21 else 0
theorem rEnd_old {w0:World} {ρ:Nat→Nat}{k:Nat}(h:k<w0.heap.size):rEnd w0 ρ k=ρ k:=if_pos h
theorem rEnd_new {w0:World} {ρ:Nat→Nat}{k:Nat}(h:w0.heap.size≤k):rEnd w0 ρ k=0∨rEnd w0 ρ k=21:=by
 unfold rEnd
 rw [if_neg (by omega)]
 split
 ·exact .inr rfl
 exact .inl rfl
theorem rEnd_zero {w0:World} {ρ:Nat→Nat}{k:Nat}(h:ρ k=0):rEnd w0 ρ k=0:=by
 unfold rEnd
 split
 ·exact h
 rw [if_neg (by omega)]
theorem rEnd_set {w0:World} {ρ:Nat→Nat}{k:Nat}(h:w0.heap.size≤k) (hr:ρ k≠21):rEnd w0 ρ k=0:=by
 unfold rEnd
 rw [if_neg (by omega),if_neg hr]
theorem Ch.rEnd {M:Nat→Prop} {ρ0 ρ:Nat→Nat}{w0 W:World}(h:Ch M ρ0 ρ w0 W):Ch M ρ0 (rEnd w0 ρ) w0 W :=
 ⟨h.os,h.tape,h.output,h.size,h.block,fun k hk=>by rw [rEnd_old hk];exact h.role k hk,fun k hk=>rEnd_zero (h.fresh k hk)⟩
theorem RnR.rEnd {w0 W:World} {ρ:Nat→Nat}{rb:Nat}{old:List Nm}(h:RnR W ρ rb old) (hb:rb<w0.heap.size):RnR W (rEnd w0 ρ) rb old:=by
 obtain⟨v,hv⟩:=h
 refine⟨v,hv.obj,(rEnd_old hb).trans hv.role,hv.row.row,fun q hq=>?_⟩
 have:=hv.row.role q hq
 unfold Go.Proofs.YtnkahlloahgifaaGreatDoor.rEnd
 split
 ·exact this
 first | rfl | rw [if_pos this]
theorem BS.built {w0:World} {ρ0:Nat→Nat}{rb bb za sb:Nat}{e:TE}{op:ByteArray}{num site:Int}{xa aa ab:Option Addr}{xc ca cb:Nat}{W:World} {ρ:Nat→Nat}{old:List Nm}{nm:Nm}{us:List Nm}{al:List (List Nm×TE)}{bs:List TE}
  {xa' aa' ab':Option Addr} {xc' ca' cb':Nat} {e':TE} (h:BS w0 ρ0 rb bb za sb e op num site xa aa ab xc ca cb W ρ old nm us al bs (.slice xa' e'.args.length xc') (.slice aa' e'.arms.length ca') (.slice ab' e'.body.length cb'))
  (h1:us=e'.args) (h2:al=e'.arms.kids) (h3:bs=TB.list e'.body):TEX (Zw (rEnd w0 ρ) W) e' xa' aa' ab' xc':=by
 have km:Kept (Zw ρ W) (Zw (rEnd w0 ρ) W):=zw_more fun k=>rEnd_zero
 obtain⟨x1,a1,b1⟩:=h.r1
 obtain⟨x2,a2,b2⟩:=h.r2
 obtain⟨x3,a3,b3⟩:=h.r3
 have l2:al.length=e'.arms.length:=by rw [h2,TA.kids_length]
 have l3:bs.length=e'.body.length:=by rw [h3,TB.list_length]
 rw [l2] at a2
 rw [l3] at a3
 rw [h1] at a1
 refine⟨⟨xa',xc',rfl,fun h0=>?_⟩,fun h0=>?_,fun h0=>?_⟩
 ·obtain⟨b,q1,q2,q3,q4⟩:=row_cells a1 b1 (by rw [h1]) h0
  refine⟨b,0,q1,fun i n hi=>?_⟩
  obtain⟨u,⟨m,rfl⟩,hu⟩:=q4 i n (by rw [h1];exact hi)
  refine⟨m,zw_cell.2 ⟨rEnd_set q2 (by rw [q3];decide),?_⟩,zw_cell.2 ⟨rEnd_set q2 (by rw [q3];decide),?_⟩⟩
  ·have:=hu 0 (by decide);first | (simp;done) | simpa using this
  have:=hu 1 (by decide);first | (simp;done) | simpa using this
 ·obtain⟨b,q1,q2,q3,q4⟩:=row_cells a2 b2 l2.symm h0
  refine⟨b,0,q1,TAAt.of_row _ _ _ fun k p hk=>?_⟩
  obtain⟨u,hu,hc⟩:=q4 k p (by rw [h2,TA.nth_kids];exact hk)
  have hlen:u.length=10:=by obtain⟨con,vv,t,rfl,_,op,num,site,xa,aa,ab,xc,ca,cb,rfl,_⟩:=hu;rfl
  refine⟨u,hu.kept km,fun j hj=>?_⟩
  have hx:=hc j hj
  rw [zq9 (by omega)] at hx ⊢
  rw [Nat.zero_add]
  exact zw_cell.2 ⟨rEnd_set q2 (by rw [q3];decide),hx⟩
 obtain⟨b,q1,q2,q3,q4⟩:=row_cells a3 b3 l3.symm h0
 refine⟨b,0,q1,TBAt.of_row _ _ _ fun k p hk=>?_⟩
 obtain⟨u,hu,hc⟩:=q4 k p (by rw [h3,TB.list_nth];exact hk)
 have hlen:u.length=8:=by obtain⟨op,num,site,xa,aa,ab,xc,ca,cb,rfl,_⟩:=hu;rfl
 refine⟨u,hu.kept km,fun j hj=>?_⟩
 have hx:=hc j hj
 rw [zq9 (by omega)] at hx ⊢
 rw [Nat.zero_add]
 exact zw_cell.2 ⟨rEnd_set q2 (by rw [q3];decide),hx⟩
theorem BS.start {w:World} {ρ:Nat→Nat}{rb:Nat}{e:TE}{op:ByteArray}{num site:Int}{xa aa ab:Option Addr}{xc ca cb:Nat}{old:List Nm}{zs:Array Value} (hρ:∀ k,w.heap.size≤k→ρ k=0) (hrn:RnR w ρ rb old)
  (hx:TEX (Zw ρ w) e xa aa ab xc) (hz:zs.size=8):BS w ρ rb w.heap.size (w.heap.size+1) (w.heap.size+1+1) e op num site xa aa ab xc ca cb
   (((w.alloc (.cells (teC e op num site xa aa ab xc ca cb) 27)).alloc (.cells zs 27)).alloc (.cells #[.int .i64 e.kind,.string e.name,.string op,.int .i64 num,.int .i64 site,.slice none 0 0,.slice none 0 0,.slice none 0 0] 27))
   (roleAt (roleAt ρ (w.heap.size+1) 27) (w.heap.size+1+1) 22) old e.name [] [] [] (.slice none 0 0) (.slice none 0 0) (.slice none 0 0):=by
 have c:Ch (fun _=>False) ρ (roleAt (roleAt ρ (w.heap.size+1) 27) (w.heap.size+1+1) 22) w (((w.alloc (.cells (teC e op num site xa aa ab xc ca cb) 27)).alloc (.cells zs 27)).alloc (.cells #[.int .i64 e.kind,.string e.name,.string op,.int .i64 num,.int .i64 site,.slice none 0 0,.slice none 0 0,.slice none 0 0] 27)) :=
  (((((Ch.refl hρ).alloc _).alloc _).alloc _).named _ _ (by omega) (by simp)).named _ _ (by omega) (by simp)
 have k:=zw_ch c id
 refine⟨c.mono (fun _ x=>x.elim),hrn.keep c id id,hx.kept k,⟨?_,?_⟩,⟨⟨zs,?_,hz⟩,?_⟩,⟨?_,roleAt_same _ _ _⟩,⟨by omega,by omega⟩,⟨[],RB.nil _ _ _ _ _ _,.nil⟩,⟨[],RB.nil _ _ _ _ _ _,.nil⟩,⟨[],RB.nil _ _ _ _ _ _,.nil⟩⟩
 ·have h:=zs2 w (.cells (teC e op num site xa aa ab xc ca cb) 27)
  have h1:=(zt2 _ (.cells zs 27) w.heap.size (by simp)).trans h
  exact(zt2 _ _ w.heap.size (by simp;omega)).trans h1
 ·rw [zv _ _ _ (by omega),zv _ _ _ (by omega)];exact hρ _ (zr4 _)
 ·have h:=zs2 (w.alloc (.cells (teC e op num site xa aa ab xc ca cb) 27)) (.cells zs 27)
  rw [show (w.alloc (.cells (teC e op num site xa aa ab xc ca cb) 27)).heap.size=w.heap.size+1 from by simp] at h
  exact(zt2 _ _ (w.heap.size+1) (by simp)).trans h
 ·rw [zv _ _ _ (by omega),roleAt_same]
 have h:=zs2 ((w.alloc (.cells (teC e op num site xa aa ab xc ca cb) 27)).alloc (.cells zs 27)) (.cells #[.int .i64 e.kind,.string e.name,.string op,.int .i64 num,.int .i64 site,.slice none 0 0,.slice none 0 0,.slice none 0 0] 27)
 rw [show ((w.alloc (.cells (teC e op num site xa aa ab xc ca cb) 27)).alloc (.cells zs 27)).heap.size=w.heap.size+1+1 from by simp] at h
 exact h
theorem BS.drew {w0:World} {ρ0:Nat→Nat}{rb bb za sb:Nat}{e:TE}{op:ByteArray}{num site:Int}{xa aa ab:Option Addr}{xc ca cb:Nat}{W:World} {ρ:Nat→Nat}{old:List Nm}{nm:Nm}{us:List Nm}{al:List (List Nm×TE)}{bs:List TE}{va vb vc:Value}
  (h:BS w0 ρ0 rb bb za sb e op num site xa aa ab xc ca cb W ρ old nm us al bs va vb vc):BS w0 ρ0 rb bb za sb e op num site xa aa ab xc ca cb W.drew ρ old nm us al bs va vb vc :=
 h.on (M:=fun _=>False) h.ch.drew (Ch.refl h.ch.fresh).drew (fun _ x=>x.elim) (h.rn.keep (M:=fun _=>False) (Ch.refl h.ch.fresh).drew id id)
def fr26 (w0:World) (ρ:Nat→Nat):Nat→Nat:=fun k=>if w0.heap.size≤k∧ρ k=26 then 0 else ρ k
theorem fr26_zero {w0:World} {ρ:Nat→Nat}{k:Nat}(h:ρ k=0):fr26 w0 ρ k=0:=by unfold fr26;split<;>first | rfl | exact h
theorem fr26_keep {w0:World} {ρ:Nat→Nat}{k r:Nat}(h:ρ k=r) (hr:r≠26):fr26 w0 ρ k=r:=by unfold fr26;rw [if_neg (fun x=>hr (h.symm.trans x.2))];exact h
theorem fr26_set {w0:World} {ρ:Nat→Nat}{k:Nat}(h:w0.heap.size≤k) (hr:ρ k=26):fr26 w0 ρ k=0:=by unfold fr26;rw [if_pos ⟨h,hr⟩]
theorem BS.free {w0:World} {ρ0:Nat→Nat}{rb bb za sb:Nat}{e:TE}{op:ByteArray}{num site:Int}{xa aa ab:Option Addr}{xc ca cb:Nat}{W:World} {ρ:Nat→Nat}{old:List Nm}{nm:Nm}{us:List Nm}{al:List (List Nm×TE)}{bs:List TE}{va vb vc:Value}
  (h:BS w0 ρ0 rb bb za sb e op num site xa aa ab xc ca cb W ρ old nm us al bs va vb vc):BS w0 ρ0 rb bb za sb e op num site xa aa ab xc ca cb W (fr26 w0 ρ) old nm us al bs va vb vc:=by
 have k:Kept (Zw ρ W) (Zw (fr26 w0 ρ) W):=zw_more fun k=>fr26_zero
 obtain⟨v,hv⟩:=h.rn
 obtain⟨x1,a1,b1⟩:=h.r1
 obtain⟨x2,a2,b2⟩:=h.r2
 obtain⟨x3,a3,b3⟩:=h.r3
 refine⟨⟨h.ch.os,h.ch.tape,h.ch.output,h.ch.size,h.ch.block,fun q hq=>?_,fun q hq=>fr26_zero (h.ch.fresh q hq)⟩,⟨v,hv.obj,fr26_keep hv.role (by decide),hv.row.row,fun q hq=>fr26_keep (hv.row.role q hq) (by decide)⟩,h.inn.kept k,
  ⟨h.box.1,fr26_zero h.box.2⟩,⟨h.res.1,fr26_keep h.res.2 (by decide)⟩,⟨h.out.1,fr26_keep h.out.2 (by decide)⟩,h.new,
  ⟨x1,⟨a1.row,fun q hq=>fr26_keep (a1.role q hq) (by decide)⟩,b1⟩,⟨x2,⟨a2.row,fun q hq=>fr26_keep (a2.role q hq) (by decide)⟩,b2.mono fun _ _=>ArmP.kept k⟩,⟨x3,⟨a3.row,fun q hq=>fr26_keep (a3.role q hq) (by decide)⟩,b3.mono fun _ _=>BodP.kept k⟩⟩
 unfold fr26
 rw [if_neg (by omega)]
 exact h.ch.role q hq
theorem strs_of_rb {w0 W:World} {ρ:Nat→Nat}{lv:Value}{ns:List Nm}{n:Nat}(h:RB W w0.heap.size ρ 26 9 1 lv n (strs ns)) (hn:n=ns.length):StrsAt (Zw (fr26 w0 ρ) W) lv ns:=by
 subst hn
 obtain⟨a,c,rfl⟩:=h.shape
 refine⟨strs_length ns,a,c,rfl,fun h0=>?_⟩
 obtain⟨g,q1,q2,q3,q4⟩:=h.cells h0
 exact⟨g,0,q1,fun i x hi=>zw_cell.2 ⟨fr26_set q2 q3,by rw [Nat.zero_add];exact q4 i x hi⟩⟩
theorem BS.setRes {w0:World} {ρ0:Nat→Nat}{rb bb za sb:Nat}{e:TE}{op:ByteArray}{num site:Int}{xa aa ab:Option Addr}{xc ca cb:Nat}{W:World} {ρ:Nat→Nat}{old:List Nm}{nm:Nm}{us:List Nm}{al:List (List Nm×TE)}{bs:List TE}{va vb vc:Value}
  (h:BS w0 ρ0 rb bb za sb e op num site xa aa ab xc ca cb W ρ old nm us al bs va vb vc) (o:Nat) (v:Value):BS w0 ρ0 rb bb za sb e op num site xa aa ab xc ca cb (W.setCell ⟨za,o,none⟩ v) ρ old nm us al bs va vb vc:=by
 have c:Ch (· = 27) ρ ρ W (W.setCell ⟨za,o,none⟩ v):=(Ch.refl h.ch.fresh).setCell _ _ fun _=>h.res.2
 have k:=zw_ch c (by decide)
 obtain⟨x1,a1,b1⟩:=h.r1
 obtain⟨x2,a2,b2⟩:=h.r2
 obtain⟨x3,a3,b3⟩:=h.r3
 obtain⟨⟨cs,d1,d2⟩,d3⟩:=h.res
 exact⟨h.ch.setCell _ _ fun hlt=>absurd hlt (by show ¬ za<_;have:=h.new.2;omega),h.rn.keep c (by decide) (by decide),h.inn.kept k,⟨c.keep h.box.1 (by rw [h.box.2];decide),h.box.2⟩,⟨⟨_,heap_setCell_same _ _ o _ _ _ d1,by simpa using d2⟩,d3⟩,
  ⟨c.keep h.out.1 (by rw [h.out.2];decide),h.out.2⟩,h.new,
  ⟨x1,a1.keep c (by decide),b1⟩,⟨x2,a2.keep c (by decide),b2.mono fun _ _=>ArmP.kept k⟩,⟨x3,a3.keep c (by decide),b3.mono fun _ _=>BodP.kept k⟩⟩
theorem arr8 {cs:Array Value}(h:cs.size=8):∃ c0 c1 c2 c3 c4 c5 c6 c7,cs = #[c0,c1,c2,c3,c4,c5,c6,c7]:=by
 obtain⟨l⟩:=cs
 match l,h with
 | [a,b,c,d,e,f,g,i],_=>exact⟨a,b,c,d,e,f,g,i,rfl⟩
end
section
open Go.RowKit RG Go.Maps
mutual
def slimE:TE→Prop
 | .mk _ _ us arms body=>us.length≤16∧arms.length≤16∧body.length≤16∧slimA arms∧slimB body
def slimA:TA→Prop
 | .nil=>True
 | .cons vs e r=>vs.length≤16∧slimE e∧slimA r
def slimB:TB→Prop
 | .nil=>True
 | .cons e r=>slimE e∧slimB r
end
theorem slimA_nth:∀ (a:TA) (k:Nat) (vs:List Nm) (e:TE),slimA a→TA.nth a k=some (vs,e)→vs.length≤16∧slimE e
 | .nil,k,vs,e,_,h=>by simp [TA.nth] at h
 | .cons vs' e' r,0,vs,e,h,hk=>by
  simp only [TA.nth,zt3,Prod.mk.injEq] at hk
  obtain⟨rfl,rfl⟩:=hk
  rw [slimA] at h
  exact⟨h.1,h.2.1⟩
 | .cons vs' e' r,k+1,vs,e,h,hk=>by rw [slimA] at h;exact slimA_nth r k vs e h.2.2 hk
theorem slimB_nth:∀ (a:TB) (k:Nat) (e:TE),slimB a→TB.nth a k=some e→slimE e
 | .nil,k,e,_,h=>by simp [TB.nth] at h
 | .cons e' r,0,e,h,hk=>by
  simp only [TB.nth,zt3] at hk
  subst hk
  rw [slimB] at h
  exact h.1
 | .cons e' r,k+1,e,h,hk=>by rw [slimB] at h;exact slimB_nth r k e h.2 hk
def RbdP (w:World) (ρ:Nat→Nat) (rb:Nat) (old:List Nm) (e:TE) (op:ByteArray) (num site:Int) (en:Ending) (w':World):Prop :=
 ∃ ρ' xa aa ab xc ca cb,en = .returned (teV (e.ren (rnk (metE e old))) op num site xa aa ab xc ca cb)∧Ch NM ρ ρ' w w'∧RnR w' ρ' rb (metE e old)∧TEX (Zw ρ' w') (e.ren (rnk (metE e old))) xa aa ab xc∧∀ k,w.heap.size≤k→ρ' k=0∨ρ' k=21
theorem Tryz.info146:(Tryz.prog.info? 146).map (fun i=>(i.zero,i.size,i.bytes))=some (some (.agg #[.string ⟨#[]⟩,.int .i64 0]),2,24):=by kernel_rfl
theorem Tryz.info148:(Tryz.prog.info? 148).map (fun i=>(i.zero,i.size,i.bytes))=some (some (.agg #[.string ⟨#[]⟩,.slice none 0 0,.int .i64 0,.string ⟨#[]⟩,.string ⟨#[]⟩,.int .i64 0,.int .i64 0,.slice none 0 0,.slice none 0 0,.slice none 0 0]),10,168):=by kernel_rfl
theorem Tryz.info27:(Tryz.prog.info? 27).map (fun i=>(i.zero,i.size,i.bytes))=some (some (.agg #[.int .i64 0,.string ⟨#[]⟩,.string ⟨#[]⟩,.int .i64 0,.int .i64 0,.slice none 0 0,.slice none 0 0,.slice none 0 0]),8,128):=by kernel_rfl
theorem news_of {w:World}{b:Nat}{cs:Array Value}{T:TypeId}(h:w.heap[b]?=some (.cells cs T (0,0))):∀ (j:Nat) (u:Value),cs.toList[j]?=some u→w.cell? ((⟨b,0,none⟩:Addr).add j)=some u:=fun j u hu=>by
 rw [Addr.add_lit,zb _ _ _ _ _ _ h,Nat.zero_add]
 simpa using hu
theorem fold_snoc {f:List Nm→Nm→List Nm}{us:List Nm}{i:Nat}{x:Nm}(h:us[i]?=some x) (o:List Nm):(us.take (i+1)).foldl f o=f ((us.take i).foldl f o) x:=by
 rw [take_snoc h,List.foldl_append];rfl
theorem atoms_snoc {us:List Nm}{i:Nat}{x:Nm}(h:us[i]?=some x) (o:List Nm) :
  (us.take (i+1)).map (rn0 ((us.take (i+1)).foldl met0 o))=(us.take i).map (rn0 ((us.take i).foldl met0 o))++[rn0 (met0 ((us.take i).foldl met0 o) x) x]:=by
 rw [fold_snoc h,take_snoc h,List.map_append]
 congr 1
 exact atoms_more (met0_pre _ _) (List.prefix_refl _)
theorem met0_nodup {old:List Nm}{s:Nm}(hn:old.Nodup):(met0 old s).Nodup:=by
 unfold met0
 split
 ·exact hn
 exact met_nodup hn
theorem fold_nodup {f:List Nm→Nm→List Nm}(hf:∀ o s,o.Nodup→(f o s).Nodup):∀ (l:List Nm) (o:List Nm),o.Nodup→(l.foldl f o).Nodup
 | [],o,h=>h
 | x :: l,o,h=>fold_nodup hf l _ (hf o x h)
theorem vars_snoc {us:List Nm}{i:Nat}{x:Nm}(h:us[i]?=some x) (o:List Nm) :
  (us.take (i+1)).map (rnk ((us.take (i+1)).foldl met o))=(us.take i).map (rnk ((us.take i).foldl met o))++[rnk (met ((us.take i).foldl met o) x) x]:=by
 rw [fold_snoc h,take_snoc h,List.map_append]
 congr 1
 exact vars_more (met_pre _ _) (List.prefix_refl _)
theorem strs_snoc (ns:List Nm) (x:Nm):strs ns++[.string x]=strs (ns++[x]):=by unfold strs;rw [List.map_append];rfl
theorem folds_snoc {α:Type}{f:List Nm→α→List Nm}{l:List α} {i:Nat}{x:α} (h:l[i]?=some x) (o:List Nm):(l.take (i+1)).foldl f o=f ((l.take i).foldl f o) x:=by
 rw [take_snoc h,List.foldl_append];rfl
theorem BS.rest {w0:World} {ρ0:Nat→Nat}{rb bb za sb:Nat}{e:TE}{op:ByteArray}{num site:Int}{xa aa ab:Option Addr}{xc ca cb:Nat}{W:World} {ρ:Nat→Nat}{old:List Nm}{nm:Nm}{us:List Nm}{al:List (List Nm×TE)}{bs:List TE}{va vb vc:Value}
  (h:BS w0 ρ0 rb bb za sb e op num site xa aa ab xc ca cb W ρ old nm us al bs va vb vc) {j:Nat} {e1:TE} (hn:TB.nth e.body j=some e1):∃ g o,ab=some ⟨g,o,none⟩∧TEAt (Zw ρ W) e1 g (o+j*8):=by
 have h0:0<e.body.length:=by
  have:=(zq8.1 ((TB.list_nth e.body j).trans hn)).1
  rw [TB.list_length] at this
  omega
 obtain⟨g,o,e',ht⟩:=h.inn.body h0
 exact⟨g,o,e',TBAt.nth e.body g o j e1 ht hn⟩
theorem sizeB_nth {a:TB}{j:Nat}{e:TE}(h:TB.nth a j=some e):e.size≤a.size:=by
 have hk:(a.kids ⟨#[]⟩)[j]?=some ([⟨#[]⟩],e):=by rw [TB.nth_kids,h];rfl
 have h1:=sizes_take hk
 have h2:=sizes_take_le (l:=a.kids ⟨#[]⟩) (j+1)
 rw [TB.sizes_kids] at h2
 simp only at h1
 omega
theorem bodies_snoc {ps:List TE}{j:Nat}{p:TE}(h:ps[j]?=some p) (o:List Nm) :
  (ps.take (j+1)).map (TE.ren (rnk ((ps.take (j+1)).foldl (fun o e=>metE e o) o)))=(ps.take j).map (TE.ren (rnk ((ps.take j).foldl (fun o e=>metE e o) o)))++[p.ren (rnk (metE p ((ps.take j).foldl (fun o e=>metE e o) o)))]:=by
 rw [folds_snoc (f:=fun o e=>metE e o) h,take_snoc h,List.map_append]
 congr 1
 exact body_more (metE_pre p _) (List.prefix_refl _)
theorem size_nth {a:TA}{j:Nat}{p:List Nm×TE}(h:a.kids[j]?=some p):p.2.size≤a.size:=by
 have h1:=sizes_take h
 have h2:=sizes_take_le (l:=a.kids) (j+1)
 rw [TA.sizes_kids] at h2
 omega
mutual
theorem metE_nodup:∀ (e:TE) (o:List Nm),o.Nodup→(metE e o).Nodup
 | .mk k n us arms body,o,h=>by
  rw [metE]
  exact metB_nodup body _ (metA_nodup arms _ (met0_nodup (fold_nodup (fun o s h=>met0_nodup h) us o h)))
theorem metA_nodup:∀ (a:TA) (o:List Nm),o.Nodup→(metA a o).Nodup
 | .nil,o,h=>by rw [metA];exact h
 | .cons vs e r,o,h=>by rw [metA];exact metA_nodup r _ (metE_nodup e _ (fold_nodup (fun o s h=>met_nodup h) vs o h))
theorem metB_nodup:∀ (a:TB) (o:List Nm),o.Nodup→(metB a o).Nodup
 | .nil,o,h=>by rw [metB];exact h
 | .cons e r,o,h=>by rw [metB];exact metB_nodup r _ (metE_nodup e _ h)
end
theorem folds_nodup {α:Type}{f:List Nm→α→List Nm}(hf:∀ o s,o.Nodup→(f o s).Nodup):∀ (l:List α) (o:List Nm),o.Nodup→(l.foldl f o).Nodup
 | [],o,h=>h
 | x :: l,o,h=>folds_nodup hf l _ (hf o x h)
theorem mA_nodup (o:List Nm) (p:List Nm×TE) (h:o.Nodup):(mA o p).Nodup:=metE_nodup p.2 _ (fold_nodup (fun o s h=>met_nodup h) p.1 o h)
theorem folds_take {α:Type}{f:List Nm→α→List Nm}(hf:∀ o s,o <+: f o s) (l:List α) (i:Nat) (o:List Nm):(l.take i).foldl f o <+: l.foldl f o:=by
 have h1:=folds_pre hf (l.drop i) ((l.take i).foldl f o)
 rw [← List.foldl_append,List.take_append_drop] at h1
 exact h1
theorem arms_snoc {ps:List (List Nm×TE)}{j:Nat}{p:List Nm×TE}(h:ps[j]?=some p) (o:List Nm) :
  (ps.take (j+1)).map (renP (rnk ((ps.take (j+1)).foldl mA o)))=(ps.take j).map (renP (rnk ((ps.take j).foldl mA o)))++[renP (rnk (mA ((ps.take j).foldl mA o) p)) p]:=by
 rw [folds_snoc (f:=mA) h,take_snoc h,List.map_append]
 congr 1
 exact arms_more (mA_pre _ _) (List.prefix_refl _)
theorem BS.arm {w0:World} {ρ0:Nat→Nat}{rb bb za sb:Nat}{e:TE}{op:ByteArray}{num site:Int}{xa aa ab:Option Addr}{xc ca cb:Nat}{W:World} {ρ:Nat→Nat}{old:List Nm}{nm:Nm}{us:List Nm}{al:List (List Nm×TE)}{bs:List TE}{va vb vc:Value}
  (h:BS w0 ρ0 rb bb za sb e op num site xa aa ab xc ca cb W ρ old nm us al bs va vb vc) {g o j:Nat} {vs:List Nm} {e1:TE} (haa:aa=some ⟨g,o,none⟩) (hn:TA.nth e.arms j=some (vs,e1)) :
  ∃ (con:ByteArray) (ad:Option Addr) (c:Nat),W.cell? ⟨g,o+j*10,none⟩=some (.string con)∧W.cell? ⟨g,o+j*10+1,none⟩=some (.slice ad vs.length c) ∧
   (0<vs.length→∃ g2 o2,ad=some ⟨g2,o2,none⟩∧∀ k x,vs[k]?=some x→W.cell? ⟨g2,o2+k,none⟩=some (.string x))∧StrsAt (Zw ρ W) (.slice ad vs.length c) vs∧TEAt (Zw ρ W) e1 g (o+j*10+2):=by
 have h0:0<e.arms.length:=by
  have:=(zq8.1 ((TA.nth_kids e.arms j).trans hn)).1
  rw [TA.kids_length] at this
  omega
 obtain⟨g',o',e',ht⟩:=h.inn.arms h0
 rw [haa] at e'
 simp only [zt3,Addr.mk.injEq] at e'
 obtain⟨rfl,rfl,-⟩:=e'
 obtain⟨⟨con,vv,y0,y1,hvs⟩,hte⟩:=TAAt.nth e.arms g o j vs e1 ht hn
 obtain⟨hl,ad,c,rfl,hat⟩:=id hvs
 refine⟨con,ad,c,(zw_cell.1 y0).2,(zw_cell.1 y1).2,fun h1=>?_,hvs,hte⟩
 obtain⟨g2,o2,e2,h3⟩:=hat h1
 exact⟨g2,o2,e2,fun k x hx=>(zw_cell.1 (h3 k _ (strs_at hx))).2⟩
theorem rbody_any (N:Nat):∀ (e:TE),e.size≤N→∀ {w:World} {ρ:Nat→Nat}{rb:Nat}{old:List Nm}{op:ByteArray}{num site:Int}{xa aa ab:Option Addr}{xc ca cb:Nat},TEX (Zw ρ w) e xa aa ab xc→RnR w ρ rb old →
  (∀ k,w.heap.size≤k→ρ k=0)→old.Nodup→(metE e old).length≤1000→slimE e→Calls Tryz.prog 93 #[.pointer (some ⟨rb,0,none⟩),teV e op num site xa aa ab xc ca cb] w (RbdP w ρ rb old e op num site):=by
 induction N with
 | zero=>intro e he;have:=e.size_pos;omega
 | succ N ih =>
  intro e he w ρ rb old op num site xa aa ab xc ca cb hx hrn hρ hnd hml hsl
  have HE:=zh he
  have HX:=zh hx
  have HRN:=zh hrn
  have HR:=zh hρ
  have HND:=zh hnd
  have HML:=zh hml
  have HSL:=zh hsl
  have IH:=zh ih
  obtain⟨kd,nm,us,arms,body⟩:=e
  obtain⟨n1,hn1⟩:∃ n,n=us.length:=⟨_,rfl⟩
  obtain⟨n2,hn2⟩:∃ n,n=arms.length:=⟨_,rfl⟩
  obtain⟨n3,hn3⟩:∃ n,n=body.length:=⟨_,rfl⟩
  have hsl':=hsl
  rw [slimE] at hsl'
  have HS:=zh hsl'
  have l1:(n1:Int)≤16:=by have:=hsl'.1;omega
  have l2:(n2:Int)≤16:=by have:=hsl'.2.1;omega
  have l3:(n3:Int)≤16:=by have:=hsl'.2.2.1;omega
  have HN1:=zh hn1
  have HN2:=zh hn2
  have HN3:=zh hn3
  show Calls Tryz.prog 93 #[.pointer (some ⟨rb,0,none⟩),.agg #[.int .i64 kd,.string nm,.string op,.int .i64 num,.int .i64 site,.slice xa us.length xc,.slice aa arms.length ca,.slice ab body.length cb]] w _
  rw [← hn1,← hn2,← hn3]
  clear he hx hrn hρ hnd hml hsl ih hsl' hn1 hn2 hn3
  have BS0:=zh (BS.start (op:=op) (num:=num) (site:=site) (ca:=ca) (cb:=cb) (zs := #[.int .i64 0,.string ⟨#[]⟩,.string ⟨#[]⟩,.int .i64 0,.int .i64 0,.slice none 0 0,.slice none 0 0,.slice none 0 0]) HR.out HRN.out HX.out rfl)
  go_enter Tryz.func93,Tryz.ntmps93
  go_upto_region 5 with fail
  simp only [teC,TE.kind,TE.name,TE.args,TE.arms,TE.body] at BS0
  rw [← HN1.out,← HN2.out,← HN3.out] at BS0
  obtain⟨W0,hW0⟩:∃ W,W=((w.alloc (.cells #[.int .i64 kd,.string nm,.string op,.int .i64 num,.int .i64 site,.slice xa n1 xc,.slice aa n2 ca,.slice ab n3 cb] 27)).alloc (.cells #[.int .i64 0,.string ⟨#[]⟩,.string ⟨#[]⟩,.int .i64 0,.int .i64 0,.slice none 0 0,.slice none 0 0,.slice none 0 0] 27)).alloc (.cells #[.int .i64 kd,.string nm,.string op,.int .i64 num,.int .i64 site,.slice none 0 0,.slice none 0 0,.slice none 0 0] 27):=⟨_,rfl⟩
  rw [← hW0] at BS0
  rw [← hW0]
  obtain⟨sb,hsb⟩:∃ b,b=w.heap.size+1+1:=⟨_,rfl⟩
  obtain⟨za,hzb⟩:∃ b,b=w.heap.size+1:=⟨_,rfl⟩
  obtain⟨bb,hbb⟩:∃ b,b=w.heap.size:=⟨_,rfl⟩
  rw [← hsb,← hzb,← hbb] at BS0
  rw [← hsb,← hzb,← hbb]
  have HB3:=zh (And.intro hbb (And.intro hzb hsb))
  obtain⟨i146,p1,p2,p3,p4⟩:=info_parts Tryz.info146
  have HI146:=zh (And.intro p1 (And.intro p2 (And.intro p3 p4)))
  clear hW0 hsb hzb hbb p1 p2 p3 p4
  go_wp2_with fail
  go_loopw [6] (fun iv wr=>∃ (i:Nat) (ρ1:Nat→Nat) (va:Value),i≤n1∧iv = .int .i64 i∧BS w ρ rb bb za sb (.mk kd nm us arms body) op num site xa aa ab xc ca cb wr ρ1 ((us.take i).foldl met0 old) nm ((us.take i).map (rn0 ((us.take i).foldl met0 old))) [] [] va (.slice none 0 0) (.slice none 0 0)) (fun iv _=>n1 - (intOf iv).toNat)
  case atStart=>exact⟨0,_,_,zv3 _,rfl,BS0.out⟩
  rename World=>V
  obtain⟨i,ρ1,va,hi,rfl,hbd⟩:=hrel
  have KI:=zh hi
  have KB:=zh hbd
  have z5:V.cell? ⟨bb,5,none⟩=some (.slice xa us.length xc):=by rw [zb _ _ 5 _ _ _ hbd.box.1];rfl
  rw [← HN1.out] at z5
  clear hi BS0
  by_cases hlt:i<n1
  ·have hlz:(i:Int)<n1:=by omega
   have hi0:(0:Int)≤i:=by omega
   have HLT:=zh hlt
   obtain⟨xa0,xc0,hsl,hat⟩:=hbd.inn.atoms
   simp only [TE.args,Value.slice.injEq] at hsl
   obtain⟨rfl,-,rfl⟩:=hsl
   obtain⟨g,o,rfl,hat2⟩:=hat (by show 0<us.length;rw [← HN1.out];omega)
   obtain⟨x,hx⟩:∃ x,us[i]?=some x:=⟨_,zq9 (by rw [← HN1.out];exact hlt)⟩
   obtain⟨m,y1,y2⟩:=hat2 i x hx
   have y1:=(zw_cell.1 y1).2
   have y2:=(zw_cell.1 y2).2
   have HX1:=zh hx
   obtain⟨xs,hrb,hgr⟩:=hbd.r1
   obtain⟨vA,vC,hva⟩:=hrb.shape
   have hln:((us.take i).map (rn0 ((us.take i).foldl met0 old))).length=i:=by rw [zv1,List.length_take,← HN1.out];omega
   rw [hln] at hva
   subst hva
   have s5:V.cell? ⟨sb,5,none⟩=some (.slice vA i vC):=by rw [zb _ _ 5 _ _ _ hbd.out.1];rfl
   have B1:=zh (BS.loc hbd (o := .cells #[.string x,.int .i64 m] 146))
   clear hlt hat hat2 hx hbd hrb hgr hln
   have LN:Hid (((us.take i).map (rn0 ((us.take i).foldl met0 old))).length=i):=by show _=_;rw [zv1,List.length_take,← HN1.out];have:=HLT.out;omega
   have HO:Hid (((us.take i).foldl met0 old).length≤1000∧((us.take i).foldl met0 old).Nodup):=by
    refine⟨zr5 ?_ HML.out,fold_nodup (fun o s h=>met0_nodup h) _ _ HND.out⟩
    refine List.IsPrefix.length_le ?_
    rw [metE]
    have h1:=fold_pre met0_pre (us.drop i) ((us.take i).foldl met0 old)
    rw [← List.foldl_append,List.take_append_drop] at h1
    exact((h1.trans (met0_pre _ nm)).trans (metA_pre arms _)).trans (metB_pre body _)
   obtain⟨V0,hV0⟩:∃ W,W=V.alloc (.cells #[.string x,.int .i64 m] 146):=⟨_,rfl⟩
   obtain⟨lb,hlb⟩:∃ b,b=V.heap.size:=⟨_,rfl⟩
   have NC:=zh (rnm_any x B1.out.rn B1.out.ch.fresh HO.out.1 HO.out.2)
   have L0:=zh (zs2 V (.cells #[.string x,.int .i64 m] 146))
   have R0:Hid (roleAt ρ1 V.heap.size 28 V.heap.size=28):=roleAt_same _ _ _
   have LW:Hid (w.heap.size≤V.heap.size):=KB.out.ch.size
   rw [← hV0] at NC B1 L0
   rw [← hlb] at NC B1 L0 R0 LW
   obtain⟨be,hbe⟩:∃ b,x.toList.isEmpty=b:=⟨_,rfl⟩
   go_upto_if 30 with fail
   rw [← hV0,← hlb]
   clear hV0 hlb
   go_cut [7] from 31 to 35 (fun lv wc=>∃ ρ2,lv = .pointer (some ⟨lb,0,none⟩)∧wc.heap[lb]?=some (.cells #[.string (rn0 (met0 ((us.take i).foldl met0 old) x) x),.int .i64 m] 146 (0,0)) ∧
    BS w ρ rb bb za sb (.mk kd nm us arms body) op num site (some ⟨g,o,none⟩) aa ab xc ca cb wc ρ2 (met0 ((us.take i).foldl met0 old) x) nm ((us.take i).map (rn0 ((us.take i).foldl met0 old))) [] [] (.slice vA i vC) (.slice none 0 0) (.slice none 0 0))
   case first =>
    clear z5 s5 y1 y2
    cases be with
    | true =>
     go_wp2_with fail
     go_meet
     have h0:x.size=0:=Classical.byContradiction fun h=>by rw [toList_full h] at hbe;cases hbe
     have e1:met0 ((us.take i).foldl met0 old) x=(us.take i).foldl met0 old:=by unfold met0;rw [if_pos h0]
     have e2:rn0 ((us.take i).foldl met0 old) x=x:=by unfold rn0;rw [if_pos h0]
     exact⟨_,rfl,by rw [e1,e2];exact L0.out,by rw [e1];exact B1.out⟩
    | false =>
     have l0:V0.frozen? ⟨lb,0,none⟩=false:=zs1 _ _ 0 _ _ L0.out
     have l1:V0.cell? ⟨lb,0,none⟩=some (.string x):=by rw [zb _ _ 0 _ _ _ L0.out];rfl
     go_wp2_with fail
     refine NC.out.mono ?_
     rintro en V1 ⟨ρ2,rfl,hc2,hr2,hf2⟩
     have BA:=zh (B1.out.on (B1.out.ch.trans hc2) hc2 (fun r hr=>by rcases hr with rfl | rfl<;>omega) hr2)
     have L1:=zh (hc2.keep L0.out (by rw [R0.out];intro h;rcases h with h | h<;>cases h))
     have RL:=zh ((hc2.keepRole L0.out).trans R0.out)
     have BB:=zh (BA.out.setLoc (b:=lb) (o:=0) (v := .string (yk (numOf (met ((us.take i).foldl met0 old) x) x))) LW.out RL.out)
     have l2:V1.cell? ⟨lb,0,none⟩=some (.string x):=by rw [zb _ _ 0 _ _ _ L1.out];rfl
     have l3:V1.frozen? ⟨lb,0,none⟩=false:=zs1 _ _ 0 _ _ L1.out
     clear hc2 hr2 hf2 l0 l1
     go_wp2_with fail
     go_meet
     have h0:x.size≠0:=fun h=>by rw [toList_empty h] at hbe;cases hbe
     have e1:met0 ((us.take i).foldl met0 old) x=met ((us.take i).foldl met0 old) x:=by unfold met0;rw [if_neg h0]
     have e2:rn0 (met ((us.take i).foldl met0 old) x) x=yk (numOf (met ((us.take i).foldl met0 old) x) x):=by unfold rn0;rw [if_neg h0];rfl
     exact⟨_,rfl,by rw [e1,e2];exact heap_setCell_same _ _ 0 _ _ _ L1.out,by rw [e1];exact BB.out⟩
   obtain⟨ρ2,rfl,hl1,hbs⟩:=hcut
   rename World=>V1
   have RI:=zh (atoms_snoc HX1.out old)
   have RF:=zh (fold_snoc (f:=met0) HX1.out old)
   obtain⟨x',hx'⟩:∃ q,q=rn0 (met0 ((us.take i).foldl met0 old) x) x:=⟨_,rfl⟩
   rw [← hx'] at hl1 RI
   obtain⟨xs,hrb,hgr⟩:=hbs.r1
   rw [LN.out] at hrb
   have SP:=zh (hbs.below ((zs9 _ _).alloc (zr4 _) (.cells #[.string x',.int .i64 m] 146)))
   have CH2:=zh ((hbs.below ((zs9 _ _).alloc (zr4 _) (.cells #[.string x',.int .i64 m] 146))).ch)
   have OB:=zh (hbs.below ((zs9 _ _).alloc (zr4 _) (.cells #[.string x',.int .i64 m] 146))).out
   have X2:=zh (zs2 V1 (.cells #[.string x',.int .i64 m] 146))
   have RB2:Hid (RB (V1.alloc (.cells #[.string x',.int .i64 m] 146)) w.heap.size ρ2 23 146 2 (.slice vA i vC) i xs):=hrb.keep (M:=fun _=>False) (Ch.of_below ((zs9 _ _).alloc (zr4 _) _) hbs.ch.fresh) id
   have GR2:=zh hgr
   have NB:Hid (i+1≤maxLen∧(i+1)*24≤140737488355328):=by show _∧_;have:=HLT.out;simp only [maxLen];omega
   have q5:V1.cell? ⟨sb,5,none⟩=some (.slice vA i vC):=by rw [zb _ _ 5 _ _ _ hbs.out.1];rfl
   have q0:V1.cell? ⟨lb,0,none⟩=some (.string x'):=by rw [zb _ _ 0 _ _ _ hl1];rfl
   have q1:V1.cell? ⟨lb,1,none⟩=some (.int .i64 m):=by rw [zb _ _ 1 _ _ _ hl1];rfl
   have HLE:=zh (Nat.le_of_lt (zq7.1 hl1).1)
   clear hrb hgr hbs hl1 hx' z5 s5 y1 y2 B1 NC L0 R0 LW hbe HO
   go_wp2_with (at_builtin;refine wpList_append_rb rfl _ _ 23 rfl 146 i146 (.agg #[.string ⟨#[]⟩,.int .i64 0]) 2 24 Tryz.underlying23 HI146.out.1 HI146.out.2.1 HI146.out.2.2.1 HI146.out.2.2.2 rfl (by decide) NM w ρ ρ2 23 (.slice vA i vC) i xs rfl RB2.out CH2.out ⟨V1.heap.size,0,none⟩ 1 1 [.string x',.int .i64 m] rfl rfl (news_of X2.out) (fun u hu=>by simp at hu;rcases hu with rfl | rfl<;>rfl) NB.out.1 NB.out.2 ?_)
   intro a3 c3 V3 ρ3 hr3 hg3
   have BP:=zh (SP.out.put1 (u:=x') (x:=[.string x',.int .i64 m]) GR2.out (by rw [LN.out];exact hr3) hg3 ⟨m,rfl⟩ rfl)
   have O3:=zh (hg3.step.keep OB.out.1 (by rw [OB.out.2];decide))
   have f5:V3.frozen? ⟨sb,5,none⟩=false:=zs1 _ _ 5 _ _ O3.out
   have q5:V3.cell? ⟨sb,5,none⟩=some (.slice vA i vC):=by rw [zb _ _ 5 _ _ _ O3.out];rfl
   clear hr3 hg3 SP GR2 RB2 CH2 X2 OB O3
   go_upto_region 7 with fail
   obtain⟨V4,hV4⟩:∃ W,W=V3.setCell ⟨sb,5,none⟩ (.slice a3 (i+1) c3):=⟨_,rfl⟩
   rw [← hV4] at BP
   rw [← hV4]
   clear hV4 f5 q5
   go_wp2_with fail
   go_roundw
   case rel=>exact⟨i+1,ρ3,_,HLT.out,by go_num,by rw [RI.out,RF.out];exact BP.out⟩
   case measure=>have:=HLT.out;simp [intOf];omega
  have hii:i=n1:=by have:=KI.out;omega
  subst hii
  have hgz:(i:Int)≤i:=Int.le_refl _
  have O1:Hid ((us.take i).foldl met0 old=us.foldl met0 old∧us.take i=us):=by
   have h1:us.take i=us:=zr3 (by rw [← HN1.out];exact zr4 _)
   exact⟨by rw [h1],h1⟩
  obtain⟨o1,ho1⟩:∃ q,q=us.foldl met0 old:=⟨_,rfl⟩
  have KB1:Hid (BS w ρ rb bb za sb (.mk kd nm us arms body) op num site xa aa ab xc ca cb V ρ1 o1 nm (us.map (rn0 o1)) [] [] va (.slice none 0 0) (.slice none 0 0)):=by
   have h:=KB.out
   rw [O1.out.1,O1.out.2] at h
   rw [ho1];exact h
  have HO1:Hid (o1.length≤1000∧o1.Nodup):=by
   rw [ho1]
   refine⟨zr5 (List.IsPrefix.length_le ?_) HML.out,fold_nodup (fun o s h=>met0_nodup h) _ _ HND.out⟩
   rw [metE]
   exact((met0_pre _ nm).trans (metA_pre arms _)).trans (metB_pre body _)
  have MET:Hid (metE (.mk kd nm us arms body) old=metB body (metA arms (met0 o1 nm))):=by show _=_;rw [ho1,metE]
  have z1:V.cell? ⟨bb,1,none⟩=some (.string nm):=by rw [zb _ _ 1 _ _ _ KB1.out.box.1];rfl
  have s1:V.cell? ⟨sb,1,none⟩=some (.string nm):=by rw [zb _ _ 1 _ _ _ KB1.out.out.1];rfl
  have f1:V.frozen? ⟨sb,1,none⟩=false:=zs1 _ _ 1 _ _ KB1.out.out.1
  have NC:=zh (rnm_any nm KB1.out.rn KB1.out.ch.fresh HO1.out.1 HO1.out.2)
  obtain⟨be,hbe⟩:∃ b,nm.toList.isEmpty=b:=⟨_,rfl⟩
  have HO1E:=zh ho1
  clear hlt KB ho1
  go_upto_if 44 with fail
  go_cut [5] from 45 to 49 (fun lv wc=>∃ ρ2,lv = .pointer (some ⟨sb,0,none⟩) ∧
   BS w ρ rb bb za sb (.mk kd nm us arms body) op num site xa aa ab xc ca cb wc ρ2 (met0 o1 nm) (rn0 (met0 o1 nm) nm) (us.map (rn0 o1)) [] [] va (.slice none 0 0) (.slice none 0 0))
  case first =>
   cases be with
   | true =>
    go_wp2_with fail
    go_meet
    have h0:nm.size=0:=Classical.byContradiction fun h=>by rw [toList_full h] at hbe;cases hbe
    have e1:met0 o1 nm=o1:=by unfold met0;rw [if_pos h0]
    have e2:rn0 o1 nm=nm:=by unfold rn0;rw [if_pos h0]
    exact⟨_,rfl,by rw [e1,e2];exact KB1.out⟩
   | false =>
    go_wp2_with fail
    refine NC.out.mono ?_
    rintro en V1 ⟨ρ2,rfl,hc2,hr2,hf2⟩
    have BA:=zh (KB1.out.on (KB1.out.ch.trans hc2) hc2 (fun r hr=>by rcases hr with rfl | rfl<;>omega) hr2)
    have BB:=zh (BA.out.setNm (nm':=yk (numOf (met o1 nm) nm)))
    have l2:V1.cell? ⟨sb,1,none⟩=some (.string nm):=by rw [zb _ _ 1 _ _ _ BA.out.out.1];rfl
    have l3:V1.frozen? ⟨sb,1,none⟩=false:=zs1 _ _ 1 _ _ BA.out.out.1
    clear hc2 hr2 hf2 z1 s1 f1
    go_wp2_with fail
    go_meet
    have h0:nm.size≠0:=fun h=>by rw [toList_empty h] at hbe;cases hbe
    have e1:met0 o1 nm=met o1 nm:=by unfold met0;rw [if_neg h0]
    have e2:rn0 (met o1 nm) nm=yk (numOf (met o1 nm) nm):=by unfold rn0;rw [if_neg h0];rfl
    exact⟨_,rfl,by rw [e1,e2];exact BB.out⟩
  obtain⟨ρ2,rfl,hbs⟩:=hcut
  rename World=>V1
  have KB2:=zh hbs
  have HO2:Hid ((met0 o1 nm).Nodup):=met0_nodup HO1.out.2
  obtain⟨o2,ho2⟩:∃ q,q=met0 o1 nm:=⟨_,rfl⟩
  have P12:Hid (o1 <+: o2):=by show _ <+: _;rw [ho2];exact met0_pre _ _
  rw [← ho2] at KB2 HO2 MET
  have HO2E:=zh ho2
  obtain⟨nm',hnm'⟩:∃ q,q=rn0 o2 nm:=⟨_,rfl⟩
  rw [← hnm'] at KB2
  have HNM:=zh hnm'
  obtain⟨us1,hus1⟩:∃ q,q=us.map (rn0 o1):=⟨_,rfl⟩
  rw [← hus1] at KB2
  have HUS:=zh hus1
  clear hbs z5 z1 s1 f1 hbe NC KB1 ho2 hnm' hus1
  obtain⟨i148,p1,p2,p3,p4⟩:=info_parts Tryz.info148
  have HI148:=zh (And.intro p1 (And.intro p2 (And.intro p3 p4)))
  obtain⟨i9,r1,r2,r3,r4⟩:=info_parts Tryz.info9n
  have HI9:=zh (And.intro r1 (And.intro r2 (And.intro r3 r4)))
  clear p1 p2 p3 p4 r1 r2 r3 r4
  go_wp2_with fail
  go_loopw [8] (fun iv wr=>∃ (i:Nat) (ρ3:Nat→Nat) (vb:Value),i≤n2∧iv = .int .i64 i∧BS w ρ rb bb za sb (.mk kd nm us arms body) op num site xa aa ab xc ca cb wr ρ3 ((arms.kids.take i).foldl mA o2) nm' us1 ((arms.kids.take i).map (renP (rnk ((arms.kids.take i).foldl mA o2)))) [] va vb (.slice none 0 0)) (fun iv _=>n2 - (intOf iv).toNat)
  case atStart=>exact⟨0,ρ2,_,zv3 _,rfl,KB2.out⟩
  rename World=>V
  obtain⟨j,ρ3,vb,hi,rfl,hbd⟩:=hrel
  have KI:=zh hi
  have KB:=zh hbd
  have z6:V.cell? ⟨bb,6,none⟩=some (.slice aa arms.length ca):=by rw [zb _ _ 6 _ _ _ hbd.box.1];rfl
  rw [← HN2.out] at z6
  clear hi KB2
  by_cases hlt:j<n2
  ·have hlz:(j:Int)<n2:=by omega
   have hj0:(0:Int)≤j:=by omega
   have HLT:=zh hlt
   obtain⟨g,o,rfl,-⟩:=hbd.inn.arms (by show 0<arms.length;rw [← HN2.out];omega)
   obtain⟨⟨vs,e1⟩,hnth⟩:∃ p,arms.kids[j]?=some p:=⟨_,zq9 (by rw [TA.kids_length,← HN2.out];exact hlt)⟩
   have HKID:=zh hnth
   rw [TA.nth_kids] at hnth
   have HNTH:=zh hnth
   obtain⟨m,hm⟩:∃ n,n=vs.length:=⟨_,rfl⟩
   have HM:=zh hm
   have hm16:(m:Int)≤16:=by have:=(slimA_nth arms j vs e1 HS.out.2.2.2.1 hnth).1;omega
   obtain⟨oj,hoj⟩:∃ q,q=(arms.kids.take j).foldl mA o2:=⟨_,rfl⟩
   obtain⟨asj,hasj⟩:∃ q,q=(arms.kids.take j).map (renP (rnk oj)):=⟨_,rfl⟩
   have HOJ:=zh hoj
   have HASJ:=zh hasj
   have KBJ:Hid (BS w ρ rb bb za sb (.mk kd nm us arms body) op num site xa (some ⟨g,o,none⟩) ab xc ca cb V ρ3 oj nm' us1 asj [] va vb (.slice none 0 0)):=by rw [hasj,hoj];exact hbd
   have PRE:Hid (mA oj (vs,e1) <+: metE (.mk kd nm us arms body) old):=by
    show _ <+: _
    rw [MET.out,hoj,← folds_snoc (f:=mA) HKID.out,metA_kids]
    exact(folds_take mA_pre _ _ _).trans (metB_pre body _)
   have NDJ:Hid (oj.Nodup):=by rw [hoj];exact folds_nodup mA_nodup _ _ HO2.out
   clear hlt hbd hnth hm hoj hasj KB
   go_wp2_with fail
   go_loopw [9,10] (fun lv kv wr=>∃ (k:Nat) (ρ4:Nat→Nat),k≤m∧kv = .int .i64 k∧BS w ρ rb bb za sb (.mk kd nm us arms body) op num site xa (some ⟨g,o,none⟩) ab xc ca cb wr ρ4 ((vs.take k).foldl met oj) nm' us1 asj [] va vb (.slice none 0 0) ∧
    RB wr w.heap.size ρ4 26 9 1 lv k (strs ((vs.take k).map (rnk ((vs.take k).foldl met oj))))) (fun _ kv _=>m - (intOf kv).toNat)
   case atStart=>exact⟨0,ρ3,zv3 _,rfl,KBJ.out,RB.nil _ _ _ _ _ _⟩
   rename World=>wo
   rename World=>V
   obtain⟨k,ρ4,hk,rfl,hbd,hrb⟩:=hrel
   have KK:=zh hk
   have KB:=zh hbd
   have KR:=zh hrb
   obtain⟨lA,lC,hlv⟩:=hrb.shape
   subst hlv
   obtain⟨con,ad,c,y0,y1,yat,-,hte⟩:=hbd.arm rfl HNTH.out
   rw [← HM.out] at y1
   have HTE:=zh hte
   have z6:V.cell? ⟨bb,6,none⟩=some (.slice (some ⟨g,o,none⟩) arms.length ca):=by rw [zb _ _ 6 _ _ _ hbd.box.1];rfl
   rw [← HN2.out] at z6
   clear hk KBJ hte
   by_cases hlt:k<m
   ·have hkz:(k:Int)<m:=by omega
    have hk0:(0:Int)≤k:=by omega
    have KLT:=zh hlt
    obtain⟨g2,o2',rfl,yx⟩:=yat (by rw [← HM.out];omega)
    obtain⟨x,hx⟩:∃ x,vs[k]?=some x:=⟨_,zq9 (by rw [← HM.out];exact hlt)⟩
    have y2:=yx k x hx
    have RI:=zh (vars_snoc hx oj)
    have RF:=zh (fold_snoc (f:=met) hx oj)
    obtain⟨ok,hok⟩:∃ q,q=(vs.take k).foldl met oj:=⟨_,rfl⟩
    have HOK:Hid (ok.length≤1000∧ok.Nodup):=by
     rw [hok]
     refine⟨zr5 (List.IsPrefix.length_le ?_) HML.out,folds_nodup (fun o s h=>met_nodup h) _ _ NDJ.out⟩
     exact((folds_take met_pre vs k oj).trans (metE_pre e1 _)).trans PRE.out
    rw [← hok] at KB KR RI RF
    have NC:=zh (rnm_any x KB.out.rn KB.out.ch.fresh HOK.out.1 HOK.out.2)
    clear hlt hbd hrb yat yx hx hok
    go_wp2_with fail
    refine NC.out.mono ?_
    rintro en V1 ⟨ρ5,rfl,hc5,hr5,hf5⟩
    obtain⟨y,hy⟩:∃ q,q=yk (numOf (met ok x) x):=⟨_,rfl⟩
    rw [← hy]
    have HY:Hid (rnk (met ok x) x=y):=hy.symm
    have SP:=zh ((KB.out.on (KB.out.ch.trans hc5) hc5 (fun r hr=>by rcases hr with rfl | rfl<;>omega) hr5).below ((zs9 _ _).alloc (zr4 _) (.cells #[.string y] 9)))
    have RB2:Hid (RB (V1.alloc (.cells #[.string y] 9)) w.heap.size ρ5 26 9 1 (.slice lA k lC) k (strs ((vs.take k).map (rnk ok)))) :=
     (KR.out.keep hc5 (by intro h;rcases h with h | h<;>cases h)).keep (M:=fun _=>False) (Ch.of_below ((zs9 _ _).alloc (zr4 _) _) hc5.fresh) id
    have X2:=zh (zs2 V1 (.cells #[.string y] 9))
    have NB:Hid (k+1≤maxLen∧(k+1)*16≤140737488355328):=by show _∧_;have:=KLT.out;simp only [maxLen];omega
    clear hc5 hr5 hf5 z6 y0 y1 y2 NC hy
    go_wp2_with (at_builtin;refine wpList_append_rb rfl _ _ 35 rfl 9 i9 (.string ⟨#[]⟩) 1 16 Tryz.underlying35 HI9.out.1 HI9.out.2.1 HI9.out.2.2.1 HI9.out.2.2.2 rfl (by decide) NM w ρ ρ5 26 (.slice lA k lC) k (strs ((vs.take k).map (rnk ok))) rfl RB2.out SP.out.ch ⟨V1.heap.size,0,none⟩ 1 1 [.string y] rfl rfl (news_of X2.out) (fun u hu=>by simp at hu;rw [hu];rfl) NB.out.1 NB.out.2 ?_)
    intro a3 c3 V3 ρ6 hr6 hg6
    have BP:=zh (SP.out.on hg6.whole hg6.step (fun r hr=>by omega) (SP.out.rn.keep hg6.step (by decide) (by decide)))
    have RP:=zh hr6
    rw [strs_snoc,← HY.out,← List.map_take,← RI.out] at RP
    rw [← RF.out] at BP
    clear hr6 hg6 SP RB2 X2
    go_wp2_with fail
    go_roundw
    case rel=>exact⟨k+1,ρ6,KLT.out,by go_num,BP.out,RP.out⟩
    case measure=>have:=KLT.out;simp [intOf];omega
   have hkm:k=m:=by have:=KK.out;omega
   subst hkm
   have hkk:(k:Int)≤k:=Int.le_refl _
   have TK:Hid (vs.take k=vs):=zr3 (by rw [← HM.out];exact zr4 _)
   obtain⟨op1,num1,site1,xa1,aa1,ab1,xc1,ca1,cb1,htc,htx⟩:=HTE.out.cells
   have HTX:=zh htx
   obtain⟨xs0,hr20,-⟩:=KB.out.r2
   obtain⟨bA,bC,hvb⟩:=hr20.shape
   have hjl:asj.length=j:=by rw [HASJ.out,zv1,List.length_take,TA.kids_length,← HN2.out];have:=HLT.out;omega
   have HJL:=zh hjl
   rw [hjl] at hvb
   subst hvb
   have s6:V.cell? ⟨sb,6,none⟩=some (.slice bA j bC):=by rw [zb _ _ 6 _ _ _ KB.out.out.1];rfl
   have t0:=(zw_cell.1 htc.c0).2
   have t1:=(zw_cell.1 htc.c1).2
   have t2:=(zw_cell.1 htc.c2).2
   have t3:=(zw_cell.1 htc.c3).2
   have t4:=(zw_cell.1 htc.c4).2
   have t5:=(zw_cell.1 htc.c5).2
   have t6:=(zw_cell.1 htc.c6).2
   have t7:=(zw_cell.1 htc.c7).2
   have RG0:Hid (ρ4 g=0):=(zw_cell.1 htc.c0).1
   obtain⟨ok,hok⟩:∃ q,q=vs.foldl met oj:=⟨_,rfl⟩
   rw [TK.out,← hok] at KB KR
   have HOK:Hid (ok.Nodup):=by rw [hok];exact folds_nodup (fun o s h=>met_nodup h) _ _ NDJ.out
   have PRK:Hid ((metE e1 ok).length≤1000):=by
    have h:=PRE.out
    show _≤_
    rw [hok]
    exact zr5 (List.IsPrefix.length_le h) HML.out
   have HOF:Hid (mA oj (vs,e1)=metE e1 ok):=by show _=_;rw [hok];rfl
   have HVM:Hid (vs.map (rnk (metE e1 ok))=vs.map (rnk ok)):=vars_more (o:=oj) (metE_pre e1 ok) (by rw [hok];exact List.prefix_refl _)
   have CB:=zh (IH.out e1 (by have h1:=size_nth HKID.out;have h2:=HE.out;rw [TE.size] at h2;simp only at h1;omega) (op:=op1) (num:=num1) (site:=site1) (ca:=ca1) (cb:=cb1) (HTX.out.kept (zw_ch (Ch.refl (M:=fun _=>False) KB.out.ch.fresh).drew id))
    KB.out.drew.rn KB.out.drew.ch.fresh HOK.out PRK.out (slimA_nth arms j vs e1 HS.out.2.2.2.1 HNTH.out).2)
   have KBD:=zh KB.out.drew
   have KRD:Hid (RB V.drew w.heap.size ρ4 26 9 1 (.slice lA k lC) k (strs (vs.map (rnk ok)))):=KR.out.keep (M:=fun _=>False) (Ch.refl KB.out.ch.fresh).drew id
   clear hlt hbd hrb yat htc htx hr20 hjl hok KB KR z6
   have z6:V.cell? ⟨bb,6,none⟩=some (.slice (some ⟨g,o,none⟩) n2 ca):=by
    have h:V.drew.cell? ⟨bb,6,none⟩=some (.slice (some ⟨g,o,none⟩) arms.length ca):=by rw [zb _ _ 6 _ _ _ KBD.out.box.1];rfl
    rw [HN2.out];exact h
   go_wp2_with fail
   refine wp_region_part (S:=fun w'=>w'.cell? ⟨sb,6,none⟩=some (.slice bA j bC)∧w'.cell? ⟨bb,6,none⟩=some (.slice (some ⟨g,o,none⟩) n2 ca)∧w'.cell? ⟨g,o+j*10,none⟩=some (.string con) ∧
    w'.cell? ⟨g,o+j*10+2,none⟩=some (.int .i64 e1.kind)∧w'.cell? ⟨g,o+j*10+2+1,none⟩=some (.string e1.name)∧w'.cell? ⟨g,o+j*10+2+2,none⟩=some (.string op1)∧w'.cell? ⟨g,o+j*10+2+3,none⟩=some (.int .i64 num1) ∧
    w'.cell? ⟨g,o+j*10+2+4,none⟩=some (.int .i64 site1)∧w'.cell? ⟨g,o+j*10+2+5,none⟩=some (.slice xa1 e1.args.length xc1)∧w'.cell? ⟨g,o+j*10+2+6,none⟩=some (.slice aa1 e1.arms.length ca1)∧w'.cell? ⟨g,o+j*10+2+7,none⟩=some (.slice ab1 e1.body.length cb1))
    [true,true,true,true,true,true,true,true,true,true,true,true,true,true,true,true,false,false,false] (by kernel_rfl) (by kernel_rfl) (fun _ _ d _ _ h=>by cases d<;>exact h) ⟨s6,z6,y0,t0,t1,t2,t3,t4,t5,t6,t7⟩ ?_
   iterate 16 (refine wpRd_step (v:=?_) (Or.inl ⟨by rfl,?_⟩) ?_;rotate_left;(intro wz hSw;obtain⟨k0,k1,k2,k3,k4,k5,k6,k7,k8,k9,k10⟩:=hSw;go_simp;try with_reducible rfl);try simp only [Act.put,zq4,zq5,zq6])
   refine wpEf_step (fun K hK=>?_)
   go_simp
   refine CB.out.mono ?_
   rintro en V2 ⟨ρ5,xa2,aa2,ab2,xc2,ca2,cb2,rfl,hc5,hr5,hx5,hf5⟩
   have BA:=zh (KBD.out.on (KBD.out.ch.trans hc5) hc5 (fun r hr=>by rcases hr with rfl | rfl<;>omega) hr5)
   have RA:Hid (RB V2 w.heap.size ρ5 26 9 1 (.slice lA k lC) k (strs (vs.map (rnk ok)))):=KRD.out.keep hc5 (by intro h;rcases h with h | h<;>cases h)
   have HX5:=zh hx5
   have ng:¬ NM (ρ4 g):=by rw [RG0.out];intro h;rcases h with h | h<;>cases h
   have ns:¬ NM (ρ4 sb):=by rw [KBD.out.out.2];intro h;rcases h with h | h<;>cases h
   have nb:¬ NM (ρ4 bb):=by rw [KBD.out.box.2];intro h;rcases h with h | h<;>cases h
   refine hK.out _ _ ⟨hc5.cell s6 ns,hc5.cell z6 nb,hc5.cell y0 ng,hc5.cell t0 ng,hc5.cell t1 ng,hc5.cell t2 ng,hc5.cell t3 ng,hc5.cell t4 ng,hc5.cell t5 ng,hc5.cell t6 ng,hc5.cell t7 ng⟩ (fun hHeld=>?_)
   clear hK K hc5 hr5 hx5 hf5 ng ns nb CB KBD KRD s6 z6 y0 y1 t0 t1 t2 t3 t4 t5 t6 t7
   obtain⟨k0,k1,k2,k3,k4,k5,k6,k7,k8,k9,k10⟩:=hHeld
   try simp only [Act.put,zq4,zq5,zq6]
   refine wpEf_step (fun K hK=>?_)
   go_simp
   refine hK.out _ _ ⟨k0,k1,k2,k3,k4,k5,k6,k7,k8,k9,k10⟩ (fun hHeld=>?_)
   clear hK K hHeld
   try simp only [Act.put,zq4,zq5,zq6]
   refine wpEf_step (fun K hK=>?_)
   go_simp
   refine hK.out _ _ ⟨zs4 _ k0,zs4 _ k1,zs4 _ k2,zs4 _ k3,zs4 _ k4,zs4 _ k5,zs4 _ k6,zs4 _ k7,zs4 _ k8,zs4 _ k9,zs4 _ k10⟩ (fun hHeld=>?_)
   clear hK K hHeld k0 k1 k2 k3 k4 k5 k6 k7 k8 k9 k10
   try simp only [Act.put,zq4,zq5,zq6]
   refine wpEf_nil ?_
   simp only [behind]
   obtain⟨er,her⟩:∃ q,q=e1.ren (rnk (metE e1 ok)):=⟨_,rfl⟩
   rw [← her] at HX5
   rw [← her]
   have HER:=zh her
   have SP:=zh ((BA.out.below ((zs9 _ _).alloc (zr4 _) (.cells #[.string con,.slice lA k lC,.int .i64 er.kind,.string er.name,.string op1,.int .i64 num1,.int .i64 site1,.slice xa2 er.args.length xc2,.slice aa2 er.arms.length ca2,.slice ab2 er.body.length cb2] 148))).free)
   have X2:=zh (zs2 V2 (.cells #[.string con,.slice lA k lC,.int .i64 er.kind,.string er.name,.string op1,.int .i64 num1,.int .i64 site1,.slice xa2 er.args.length xc2,.slice aa2 er.arms.length ca2,.slice ab2 er.body.length cb2] 148))
   have KA:Hid (Ch (fun _=>False) ρ5 ρ5 V2 (V2.alloc (.cells #[.string con,.slice lA k lC,.int .i64 er.kind,.string er.name,.string op1,.int .i64 num1,.int .i64 site1,.slice xa2 er.args.length xc2,.slice aa2 er.arms.length ca2,.slice ab2 er.body.length cb2] 148))):=Ch.of_below ((zs9 _ _).alloc (zr4 _) _) BA.out.ch.fresh
   have AP:Hid (ArmP (Zw (fr26 w ρ5) (V2.alloc (.cells #[.string con,.slice lA k lC,.int .i64 er.kind,.string er.name,.string op1,.int .i64 num1,.int .i64 site1,.slice xa2 er.args.length xc2,.slice aa2 er.arms.length ca2,.slice ab2 er.body.length cb2] 148))) (renP (rnk (metE e1 ok)) (vs,e1)) [.string con,.slice lA k lC,.int .i64 er.kind,.string er.name,.string op1,.int .i64 num1,.int .i64 site1,.slice xa2 er.args.length xc2,.slice aa2 er.arms.length ca2,.slice ab2 er.body.length cb2]):=by
    refine⟨con,_,_,rfl,?_,op1,num1,site1,xa2,aa2,ab2,xc2,ca2,cb2,by show _=(teC (e1.ren (rnk (metE e1 ok))) _ _ _ _ _ _ _ _ _).toList;rw [← HER.out],?_⟩
    ·show StrsAt _ _ (vs.map (rnk (metE e1 ok)))
     rw [HVM.out]
     exact strs_of_rb (RA.out.keep KA.out id) (by rw [zv1];exact HM.out)
    show TEX _ (e1.ren (rnk (metE e1 ok))) _ _ _ _
    rw [← HER.out]
    exact HX5.out.kept ((zw_ch KA.out id).trans (zw_more fun k=>fr26_zero))
   obtain⟨xs,hr2,hg2⟩:=SP.out.r2
   rw [HJL.out] at hr2
   have RB2:=zh hr2
   have GR2:=zh hg2
   have NB:Hid (j+1≤maxLen∧(j+1)*168≤140737488355328):=by show _∧_;have:=HLT.out;simp only [maxLen];omega
   clear hr2 hg2 her KA RA BA HX5
   go_wp2_with (at_builtin;refine wpList_append_rb rfl _ _ 24 rfl 148 i148 (.agg #[.string ⟨#[]⟩,.slice none 0 0,.int .i64 0,.string ⟨#[]⟩,.string ⟨#[]⟩,.int .i64 0,.int .i64 0,.slice none 0 0,.slice none 0 0,.slice none 0 0]) 10 168 Tryz.underlying24 HI148.out.1 HI148.out.2.1 HI148.out.2.2.1 HI148.out.2.2.2 rfl (by decide) NM w ρ (fr26 w ρ5) 24 (.slice bA j bC) j xs rfl RB2.out SP.out.ch ⟨V2.heap.size,0,none⟩ 1 1 [.string con,.slice lA k lC,.int .i64 er.kind,.string er.name,.string op1,.int .i64 num1,.int .i64 site1,.slice xa2 er.args.length xc2,.slice aa2 er.arms.length ca2,.slice ab2 er.body.length cb2] rfl rfl (news_of X2.out) (fun u hu=>by simp at hu;rcases hu with rfl | rfl | rfl | rfl | rfl | rfl | rfl | rfl | rfl | rfl<;>rfl) NB.out.1 NB.out.2 ?_)
   intro a3 c3 V3 ρ6 hr6 hg6
   have BP:=zh (SP.out.put2 GR2.out (by rw [HJL.out];exact hr6) hg6 AP.out rfl)
   have O3:=zh (hg6.step.keep SP.out.out.1 (by rw [SP.out.out.2];decide))
   have f6:V3.frozen? ⟨sb,6,none⟩=false:=zs1 _ _ 6 _ _ O3.out
   have q6:V3.cell? ⟨sb,6,none⟩=some (.slice bA j bC):=by rw [zb _ _ 6 _ _ _ O3.out];rfl
   clear hr6 hg6 SP GR2 RB2 X2 O3 AP
   go_upto_region 16 with fail
   obtain⟨V4,hV4⟩:∃ W,W=V3.setCell ⟨sb,6,none⟩ (.slice a3 (j+1) c3):=⟨_,rfl⟩
   rw [← hV4] at BP
   rw [← hV4]
   clear hV4 f6 q6
   have RI:=zh (arms_snoc HKID.out o2)
   have RF:=zh (folds_snoc (f:=mA) HKID.out o2)
   rw [← HOJ.out,HOF.out] at RI RF
   rw [← HASJ.out] at RI
   go_wp2_with fail
   go_roundw
   case rel=>exact⟨j+1,ρ6,_,HLT.out,by go_num,by rw [RI.out,RF.out];exact BP.out⟩
   case measure=>have:=HLT.out;simp [intOf];omega
  have hjn:j=n2:=by have:=KI.out;omega
  subst hjn
  have hgz2:(j:Int)≤j:=Int.le_refl _
  have TK:Hid (arms.kids.take j=arms.kids):=zr3 (by rw [TA.kids_length,← HN2.out];exact zr4 _)
  obtain⟨o3,ho3⟩:∃ q,q=arms.kids.foldl mA o2:=⟨_,rfl⟩
  have HO3:=zh ho3
  have ND3:Hid o3.Nodup:=by rw [ho3];exact folds_nodup mA_nodup _ _ HO2.out
  have MET3:Hid (metE (.mk kd nm us arms body) old=(TB.list body).foldl (fun o e=>metE e o) o3):=by show _=_;rw [MET.out,ho3,metA_kids,metB_list]
  obtain⟨as3,has3⟩:∃ q,q=arms.kids.map (renP (rnk o3)):=⟨_,rfl⟩
  have HAS:=zh has3
  rw [TK.out,← ho3,← has3] at KB
  obtain⟨i27,p1,p2,p3,p4⟩:=info_parts Tryz.info27
  have HI27:=zh (And.intro p1 (And.intro p2 (And.intro p3 p4)))
  clear hlt hbd ho3 has3 p1 p2 p3 p4
  go_wp2_with fail
  go_loopw [11] (fun iv wr=>∃ (i:Nat) (ρ3:Nat→Nat) (vc:Value),i≤n3∧iv = .int .i64 i∧BS w ρ rb bb za sb (.mk kd nm us arms body) op num site xa aa ab xc ca cb wr ρ3 (((TB.list body).take i).foldl (fun o e=>metE e o) o3) nm' us1 as3 (((TB.list body).take i).map (TE.ren (rnk (((TB.list body).take i).foldl (fun o e=>metE e o) o3)))) va vb vc) (fun iv _=>n3 - (intOf iv).toNat)
  case atStart=>exact⟨0,ρ3,_,zv3 _,rfl,KB.out⟩
  rename World=>wo
  rename World=>V
  obtain⟨t,ρ4,vc,ht,rfl,hbd⟩:=hrel
  have KT:=zh ht
  have KC:=zh hbd
  have z7:V.cell? ⟨bb,7,none⟩=some (.slice ab body.length cb):=by rw [zb _ _ 7 _ _ _ hbd.box.1];rfl
  rw [← HN3.out] at z7
  clear ht KB z6
  by_cases hlt:t<n3
  ·have htz:(t:Int)<n3:=by omega
   have ht0:(0:Int)≤t:=by omega
   have TLT:=zh hlt
   obtain⟨e1,hnth⟩:∃ p,(TB.list body)[t]?=some p:=⟨_,zq9 (by rw [TB.list_length,← HN3.out];exact hlt)⟩
   have HKID:=zh hnth
   rw [TB.list_nth] at hnth
   have HNTH:=zh hnth
   obtain⟨g,o,rfl,hte⟩:=hbd.rest hnth
   obtain⟨op1,num1,site1,xa1,aa1,ab1,xc1,ca1,cb1,htc,htx⟩:=hte.cells
   have HTX:=zh htx
   have t0:=(zw_cell.1 htc.c0).2
   have t1:=(zw_cell.1 htc.c1).2
   have t2:=(zw_cell.1 htc.c2).2
   have t3:=(zw_cell.1 htc.c3).2
   have t4:=(zw_cell.1 htc.c4).2
   have t5:=(zw_cell.1 htc.c5).2
   have t6:=(zw_cell.1 htc.c6).2
   have t7:=(zw_cell.1 htc.c7).2
   have RG0:Hid (ρ4 g=0):=(zw_cell.1 htc.c0).1
   obtain⟨ok,hok⟩:∃ q,q=((TB.list body).take t).foldl (fun o e=>metE e o) o3:=⟨_,rfl⟩
   obtain⟨bs4,hbs4⟩:∃ q,q=((TB.list body).take t).map (TE.ren (rnk ok)):=⟨_,rfl⟩
   rw [← hok,← hbs4] at KC
   have RI:=zh (bodies_snoc HKID.out o3)
   have RF:=zh (folds_snoc (f:=fun o e=>metE e o) HKID.out o3)
   rw [← hok] at RI RF
   rw [← hbs4] at RI
   have HOK:Hid (ok.Nodup):=by rw [hok];exact folds_nodup (fun o s h=>metE_nodup s o h) _ _ ND3.out
   have PRK:Hid ((metE e1 ok).length≤1000):=by
    refine zr5 (List.IsPrefix.length_le ?_) HML.out
    rw [MET3.out,← RF.out]
    exact folds_take (fun o e=>metE_pre e o) _ _ _
   have hjl:bs4.length=t:=by rw [hbs4,zv1,List.length_take,TB.list_length,← HN3.out];omega
   have HJL:=zh hjl
   obtain⟨xs0,hr30,-⟩:=KC.out.r3
   obtain⟨bA,bC,hvb⟩:=hr30.shape
   rw [hjl] at hvb
   subst hvb
   have s7:V.cell? ⟨sb,7,none⟩=some (.slice bA t bC):=by rw [zb _ _ 7 _ _ _ KC.out.out.1];rfl
   have CB:=zh (IH.out e1 (by have h1:=sizeB_nth HNTH.out;have h2:=HE.out;rw [TE.size] at h2;omega) (op:=op1) (num:=num1) (site:=site1) (ca:=ca1) (cb:=cb1) (HTX.out.kept (zw_ch (Ch.refl (M:=fun _=>False) KC.out.ch.fresh).drew id))
    KC.out.drew.rn KC.out.drew.ch.fresh HOK.out PRK.out (slimB_nth body t e1 HS.out.2.2.2.2 HNTH.out))
   have KBD:=zh KC.out.drew
   clear hlt hbd hnth hte htc htx hok hbs4 hjl hr30 KC
   go_wp2_with fail
   refine wp_region_part (S:=fun w'=>w'.cell? ⟨sb,7,none⟩=some (.slice bA t bC)∧w'.cell? ⟨bb,7,none⟩=some (.slice (some ⟨g,o,none⟩) n3 cb) ∧
    w'.cell? ⟨g,o+t*8,none⟩=some (.int .i64 e1.kind)∧w'.cell? ⟨g,o+t*8+1,none⟩=some (.string e1.name)∧w'.cell? ⟨g,o+t*8+2,none⟩=some (.string op1)∧w'.cell? ⟨g,o+t*8+3,none⟩=some (.int .i64 num1) ∧
    w'.cell? ⟨g,o+t*8+4,none⟩=some (.int .i64 site1)∧w'.cell? ⟨g,o+t*8+5,none⟩=some (.slice xa1 e1.args.length xc1)∧w'.cell? ⟨g,o+t*8+6,none⟩=some (.slice aa1 e1.arms.length ca1)∧w'.cell? ⟨g,o+t*8+7,none⟩=some (.slice ab1 e1.body.length cb1))
    [true,true,true,true,true,true,true,true,false,false] (by kernel_rfl) (by kernel_rfl) (fun _ _ d _ _ h=>by cases d<;>exact h) ⟨s7,z7,t0,t1,t2,t3,t4,t5,t6,t7⟩ ?_
   iterate 8 (refine wpRd_step (v:=?_) (Or.inl ⟨by rfl,?_⟩) ?_;rotate_left;(intro wz hSw;obtain⟨k0,k1,k2,k3,k4,k5,k6,k7,k8,k9⟩:=hSw;go_simp;try with_reducible rfl);try simp only [Act.put,zq4,zq5,zq6])
   refine wpEf_step (fun K hK=>?_)
   go_simp
   refine CB.out.mono ?_
   rintro en V2 ⟨ρ5,xa2,aa2,ab2,xc2,ca2,cb2,rfl,hc5,hr5,hx5,hf5⟩
   have BA:=zh (KBD.out.on (KBD.out.ch.trans hc5) hc5 (fun r hr=>by rcases hr with rfl | rfl<;>omega) hr5)
   have HX5:=zh hx5
   have ng:¬ NM (ρ4 g):=by rw [RG0.out];intro h;rcases h with h | h<;>cases h
   have ns:¬ NM (ρ4 sb):=by rw [KBD.out.out.2];intro h;rcases h with h | h<;>cases h
   have nb:¬ NM (ρ4 bb):=by rw [KBD.out.box.2];intro h;rcases h with h | h<;>cases h
   refine hK.out _ _ ⟨hc5.cell s7 ns,hc5.cell z7 nb,hc5.cell t0 ng,hc5.cell t1 ng,hc5.cell t2 ng,hc5.cell t3 ng,hc5.cell t4 ng,hc5.cell t5 ng,hc5.cell t6 ng,hc5.cell t7 ng⟩ (fun hHeld=>?_)
   clear hK K hc5 hr5 hx5 hf5 ng ns nb CB KBD s7 z7 t0 t1 t2 t3 t4 t5 t6 t7
   obtain⟨k0,k1,k2,k3,k4,k5,k6,k7,k8,k9⟩:=hHeld
   try simp only [Act.put,zq4,zq5,zq6]
   refine wpEf_step (fun K hK=>?_)
   go_simp
   refine hK.out _ _ ⟨zs4 _ k0,zs4 _ k1,zs4 _ k2,zs4 _ k3,zs4 _ k4,zs4 _ k5,zs4 _ k6,zs4 _ k7,zs4 _ k8,zs4 _ k9⟩ (fun hHeld=>?_)
   clear hK K hHeld k0 k1 k2 k3 k4 k5 k6 k7 k8 k9
   try simp only [Act.put,zq4,zq5,zq6]
   refine wpEf_nil ?_
   simp only [behind]
   obtain⟨er,her⟩:∃ q,q=e1.ren (rnk (metE e1 ok)):=⟨_,rfl⟩
   rw [← her] at HX5
   rw [← her]
   have HER:=zh her
   have SP:=zh (BA.out.below ((zs9 _ _).alloc (zr4 _) (.cells #[.int .i64 er.kind,.string er.name,.string op1,.int .i64 num1,.int .i64 site1,.slice xa2 er.args.length xc2,.slice aa2 er.arms.length ca2,.slice ab2 er.body.length cb2] 27)))
   have X2:=zh (zs2 V2 (.cells #[.int .i64 er.kind,.string er.name,.string op1,.int .i64 num1,.int .i64 site1,.slice xa2 er.args.length xc2,.slice aa2 er.arms.length ca2,.slice ab2 er.body.length cb2] 27))
   have KA:Hid (Ch (fun _=>False) ρ5 ρ5 V2 (V2.alloc (.cells #[.int .i64 er.kind,.string er.name,.string op1,.int .i64 num1,.int .i64 site1,.slice xa2 er.args.length xc2,.slice aa2 er.arms.length ca2,.slice ab2 er.body.length cb2] 27))):=Ch.of_below ((zs9 _ _).alloc (zr4 _) _) BA.out.ch.fresh
   have AP:Hid (BodP (Zw ρ5 (V2.alloc (.cells #[.int .i64 er.kind,.string er.name,.string op1,.int .i64 num1,.int .i64 site1,.slice xa2 er.args.length xc2,.slice aa2 er.arms.length ca2,.slice ab2 er.body.length cb2] 27))) er [.int .i64 er.kind,.string er.name,.string op1,.int .i64 num1,.int .i64 site1,.slice xa2 er.args.length xc2,.slice aa2 er.arms.length ca2,.slice ab2 er.body.length cb2]):=⟨op1,num1,site1,xa2,aa2,ab2,xc2,ca2,cb2,rfl,HX5.out.kept (zw_ch KA.out id)⟩
   obtain⟨xs,hr2,hg2⟩:=SP.out.r3
   rw [HJL.out] at hr2
   have RB2:=zh hr2
   have GR2:=zh hg2
   have NB:Hid (t+1≤maxLen∧(t+1)*128≤140737488355328):=by show _∧_;have:=TLT.out;simp only [maxLen];omega
   clear hr2 hg2 her KA BA HX5
   go_wp2_with (at_builtin;refine wpList_append_rb rfl _ _ 25 rfl 27 i27 (.agg #[.int .i64 0,.string ⟨#[]⟩,.string ⟨#[]⟩,.int .i64 0,.int .i64 0,.slice none 0 0,.slice none 0 0,.slice none 0 0]) 8 128 Tryz.underlying25 HI27.out.1 HI27.out.2.1 HI27.out.2.2.1 HI27.out.2.2.2 rfl (by decide) NM w ρ ρ5 25 (.slice bA t bC) t xs rfl RB2.out SP.out.ch ⟨V2.heap.size,0,none⟩ 1 1 [.int .i64 er.kind,.string er.name,.string op1,.int .i64 num1,.int .i64 site1,.slice xa2 er.args.length xc2,.slice aa2 er.arms.length ca2,.slice ab2 er.body.length cb2] rfl rfl (news_of X2.out) (fun u hu=>by simp at hu;rcases hu with rfl | rfl | rfl | rfl | rfl | rfl | rfl | rfl<;>rfl) NB.out.1 NB.out.2 ?_)
   intro a3 c3 V3 ρ6 hr6 hg6
   have BP:=zh (SP.out.put3 GR2.out (by rw [HJL.out];exact hr6) hg6 AP.out rfl)
   have O3:=zh (hg6.step.keep SP.out.out.1 (by rw [SP.out.out.2];decide))
   have f7:V3.frozen? ⟨sb,7,none⟩=false:=zs1 _ _ 7 _ _ O3.out
   have q7:V3.cell? ⟨sb,7,none⟩=some (.slice bA t bC):=by rw [zb _ _ 7 _ _ _ O3.out];rfl
   clear hr6 hg6 SP GR2 RB2 X2 O3 AP
   go_upto_region 25 with fail
   obtain⟨V4,hV4⟩:∃ W,W=V3.setCell ⟨sb,7,none⟩ (.slice a3 (t+1) c3):=⟨_,rfl⟩
   rw [← hV4] at BP
   rw [← hV4]
   clear hV4 f7 q7
   go_wp2_with fail
   go_roundw
   case rel=>exact⟨t+1,ρ6,_,TLT.out,by go_num,by rw [RI.out,RF.out,← HER.out];exact BP.out⟩
   case measure=>have:=TLT.out;simp [intOf];omega
  have htn:t=n3:=by have:=KT.out;omega
  subst htn
  have hgz3:(t:Int)≤t:=Int.le_refl _
  have TKB:Hid ((TB.list body).take t=TB.list body):=zr3 (by rw [TB.list_length,← HN3.out];exact zr4 _)
  rw [TKB.out,← MET3.out] at KC
  obtain⟨oF,hoF⟩:∃ q,q=metE (.mk kd nm us arms body) old:=⟨_,rfl⟩
  rw [← hoF] at KC
  have HOF:=zh hoF
  have P3F:Hid (o3 <+: oF):=by show _ <+: _;rw [hoF,MET3.out];exact folds_pre (fun o e=>metE_pre e o) _ _
  have P23:Hid (o2 <+: o3):=by show _ <+: _;rw [HO3.out];exact folds_pre mA_pre _ _
  have E1:Hid (us1=((TE.mk kd nm us arms body).ren (rnk oF)).args):=by
   show _=us.map (rn0 oF)
   rw [HUS.out]
   exact(atoms_more (o:=old) ((P12.out.trans P23.out).trans P3F.out) (by rw [HO1E.out];exact List.prefix_refl _)).symm
  have E2:Hid (nm'=((TE.mk kd nm us arms body).ren (rnk oF)).name):=by
   show _=rn0 oF nm
   rw [HNM.out,HO2E.out]
   exact(rn0_pre (us:=[nm]) (o:=o1) (o1:=oF) (by show met0 o1 nm <+: _;rw [← HO2E.out];exact P23.out.trans P3F.out) zr7).symm
  have E3:Hid (as3=((TE.mk kd nm us arms body).ren (rnk oF)).arms.kids):=by
   show _=(arms.ren (rnk oF)).kids
   rw [TA.kids_ren,HAS.out]
   exact(arms_more (o:=o2) P3F.out (by rw [HO3.out];exact List.prefix_refl _)).symm
  have E4:Hid ((TB.list body).map (TE.ren (rnk oF))=TB.list ((TE.mk kd nm us arms body).ren (rnk oF)).body):=(TB.list_ren _ _).symm
  obtain⟨eF,heF⟩:∃ q,q=(TE.mk kd nm us arms body).ren (rnk oF):=⟨_,rfl⟩
  have KF:Hid (eF.kind=kd):=by rw [heF];rfl
  rw [← heF] at E1 E2 E3 E4
  have HEF:=zh heF
  rw [E1.out,E2.out,E3.out,E4.out] at KC
  obtain⟨xs1,hr1,-⟩:=KC.out.r1
  obtain⟨xaF,xcF,hva⟩:=hr1.shape
  subst hva
  obtain⟨xs2,hr2,-⟩:=KC.out.r2
  obtain⟨aaF,caF,hvb⟩:=hr2.shape
  subst hvb
  obtain⟨xs3,hr3,-⟩:=KC.out.r3
  obtain⟨abF,cbF,hvc⟩:=hr3.shape
  subst hvc
  rw [TA.kids_length,TB.list_length] at KC
  obtain⟨⟨cs,d1,d2⟩,-⟩:=KC.out.res
  obtain⟨c0,c1,c2,c3,c4,c5,c6,c7,rfl⟩:=arr8 d2
  have D1:=zh d1
  have q0:V.cell? ⟨sb,0,none⟩=some (.int .i64 kd):=by rw [zb _ _ 0 _ _ _ KC.out.out.1];rfl
  have q1:V.cell? ⟨sb,1,none⟩=some (.string eF.name):=by rw [zb _ _ 1 _ _ _ KC.out.out.1];rfl
  have q2:V.cell? ⟨sb,2,none⟩=some (.string op):=by rw [zb _ _ 2 _ _ _ KC.out.out.1];rfl
  have q3:V.cell? ⟨sb,3,none⟩=some (.int .i64 num):=by rw [zb _ _ 3 _ _ _ KC.out.out.1];rfl
  have q4:V.cell? ⟨sb,4,none⟩=some (.int .i64 site):=by rw [zb _ _ 4 _ _ _ KC.out.out.1];rfl
  have q5:V.cell? ⟨sb,5,none⟩=some (.slice xaF eF.args.length xcF):=by rw [zb _ _ 5 _ _ _ KC.out.out.1];rfl
  have q6:V.cell? ⟨sb,6,none⟩=some (.slice aaF eF.arms.length caF):=by rw [zb _ _ 6 _ _ _ KC.out.out.1];rfl
  have q7:V.cell? ⟨sb,7,none⟩=some (.slice abF eF.body.length cbF):=by rw [zb _ _ 7 _ _ _ KC.out.out.1];rfl
  have r0:V.cell? ⟨za,0,none⟩=some c0:=by rw [zb _ _ 0 _ _ _ d1];rfl
  have r1:V.cell? ⟨za,1,none⟩=some c1:=by rw [zb _ _ 1 _ _ _ d1];rfl
  have r2:V.cell? ⟨za,2,none⟩=some c2:=by rw [zb _ _ 2 _ _ _ d1];rfl
  have r3:V.cell? ⟨za,3,none⟩=some c3:=by rw [zb _ _ 3 _ _ _ d1];rfl
  have r4:V.cell? ⟨za,4,none⟩=some c4:=by rw [zb _ _ 4 _ _ _ d1];rfl
  have r5:V.cell? ⟨za,5,none⟩=some c5:=by rw [zb _ _ 5 _ _ _ d1];rfl
  have r6:V.cell? ⟨za,6,none⟩=some c6:=by rw [zb _ _ 6 _ _ _ d1];rfl
  have r7:V.cell? ⟨za,7,none⟩=some c7:=by rw [zb _ _ 7 _ _ _ d1];rfl
  have rf:∀ q,V.frozen? ⟨za,q,none⟩=false:=fun q=>zs1 _ _ q _ _ d1
  have BF:=zh ((((((((KC.out.setRes 0 (.int .i64 kd)).setRes 1 (.string eF.name)).setRes 2 (.string op)).setRes 3 (.int .i64 num)).setRes 4 (.int .i64 site)).setRes 5 (.slice xaF eF.args.length xcF)).setRes 6 (.slice aaF eF.arms.length caF)).setRes 7 (.slice abF eF.body.length cbF))
  have DF:=zh (heap_setCell_same _ _ 7 _ _ (.slice abF eF.body.length cbF) (heap_setCell_same _ _ 6 _ _ (.slice aaF eF.arms.length caF) (heap_setCell_same _ _ 5 _ _ (.slice xaF eF.args.length xcF) (heap_setCell_same _ _ 4 _ _ (.int .i64 site) (heap_setCell_same _ _ 3 _ _ (.int .i64 num) (heap_setCell_same _ _ 2 _ _ (.string op) (heap_setCell_same _ _ 1 _ _ (.string eF.name) (heap_setCell_same _ _ 0 _ _ (.int .i64 kd) d1))))))))
  clear hlt hbd hoF heF hr1 hr2 hr3 d1 d2 KC
  go_wp2_with fail
  obtain⟨WF,hWF⟩:∃ W,W=(((((((V.setCell ⟨za,0,none⟩ (.int .i64 kd)).setCell ⟨za,1,none⟩ (.string eF.name)).setCell ⟨za,2,none⟩ (.string op)).setCell ⟨za,3,none⟩ (.int .i64 num)).setCell ⟨za,4,none⟩ (.int .i64 site)).setCell ⟨za,5,none⟩ (.slice xaF eF.args.length xcF)).setCell ⟨za,6,none⟩ (.slice aaF eF.arms.length caF)).setCell ⟨za,7,none⟩ (.slice abF eF.body.length cbF):=⟨_,rfl⟩
  rw [← hWF] at BF DF
  rw [← hWF]
  simp only [zq4,zq5,zq6] at DF
  clear hWF q0 q1 q2 q3 q4 q5 q6 q7 r0 r1 r2 r3 r4 r5 r6 r7 rf
  have y0:WF.cell? ⟨za,0,none⟩=some (.int .i64 kd):=by rw [zb _ _ 0 _ _ _ DF.out];rfl
  have y1:WF.cell? ⟨za,1,none⟩=some (.string eF.name):=by rw [zb _ _ 1 _ _ _ DF.out];rfl
  have y2:WF.cell? ⟨za,2,none⟩=some (.string op):=by rw [zb _ _ 2 _ _ _ DF.out];rfl
  have y3:WF.cell? ⟨za,3,none⟩=some (.int .i64 num):=by rw [zb _ _ 3 _ _ _ DF.out];rfl
  have y4:WF.cell? ⟨za,4,none⟩=some (.int .i64 site):=by rw [zb _ _ 4 _ _ _ DF.out];rfl
  have y5:WF.cell? ⟨za,5,none⟩=some (.slice xaF eF.args.length xcF):=by rw [zb _ _ 5 _ _ _ DF.out];rfl
  have y6:WF.cell? ⟨za,6,none⟩=some (.slice aaF eF.arms.length caF):=by rw [zb _ _ 6 _ _ _ DF.out];rfl
  have y7:WF.cell? ⟨za,7,none⟩=some (.slice abF eF.body.length cbF):=by rw [zb _ _ 7 _ _ _ DF.out];rfl
  refine bodyPost_ret (v := .agg #[.int .i64 kd,.string eF.name,.string op,.int .i64 num,.int .i64 site,.slice xaF eF.args.length xcF,.slice aaF eF.arms.length caF,.slice abF eF.body.length cbF]) (by simp [results,Tryz.results93,go_sem,y0,y1,y2,y3,y4,y5,y6,y7];try rfl) rfl ?_
  have hb:rb<w.heap.size:=by obtain⟨v,hv⟩:=HRN.out;exact(zq7.1 hv.obj).1
  refine⟨rEnd w ρ4,xaF,aaF,abF,xcF,caF,cbF,?_,BF.out.ch.rEnd,?_,?_,fun k hk=>rEnd_new hk⟩
  ·rw [← HOF.out,← HEF.out,← KF.out]
  ·rw [← HOF.out];exact BF.out.rn.rEnd hb
  rw [← HOF.out,← HEF.out];exact BF.out.built rfl rfl rfl
end
section
open RG
mutual
def bndE:TE→List Nm
 | .mk _ n _ arms body=>bndB n body++bndA arms
def bndA:TA→List Nm
 | .nil=>[]
 | .cons vs e r=>vs++bndE e++bndA r
def bndB (n:Nm):TB→List Nm
 | .nil=>[]
 | .cons e r=>n :: (bndE e++bndB n r)
end
mutual
def nmsE:TE→List Nm
 | .mk _ n _ arms body=>n :: (nmsB body++nmsA arms)
def nmsA:TA→List Nm
 | .nil=>[]
 | .cons _ e r=>nmsE e++nmsA r
def nmsB:TB→List Nm
 | .nil=>[]
 | .cons e r=>nmsE e++nmsB r
end
mutual
theorem nmsE_length:∀ e:TE,(nmsE e).length=e.size
 | .mk k n us arms body=>by rw [nmsE,zv2,zr2,nmsB_length body,nmsA_length arms,TE.size]
theorem nmsA_length:∀ e:TA,(nmsA e).length=e.size
 | .nil=>rfl
 | .cons vs e r=>by rw [nmsA,zr2,nmsE_length e,nmsA_length r,TA.size]
theorem nmsB_length:∀ e:TB,(nmsB e).length=e.size
 | .nil=>rfl
 | .cons e r=>by rw [nmsB,zr2,nmsE_length e,nmsB_length r,TB.size]
end
theorem met_sub {o:List Nm}{s x:Nm}(h:x∈met o s):x∈o∨x=s:=by
 by_cases hs:s∈o
 ·rw [met_mem hs] at h;exact .inl h
 rw [met_new hs,List.mem_append,List.mem_singleton] at h;exact h
theorem met0_sub {o:List Nm}{s x:Nm}(h:x∈met0 o s):x∈o∨(x=s∧s.size≠0):=by
 unfold met0 at h
 split at h
 ·exact .inl h
 rename_i h0
 rcases met_sub h with h | h
 ·exact .inl h
 exact .inr ⟨h,h0⟩
theorem foldl_sub {f:List Nm→Nm→List Nm}{P:Nm→Prop}(hf:∀ o s x,x∈f o s→x∈o∨(x=s∧P s)):∀ (l:List Nm) (o:List Nm) (x:Nm),x∈l.foldl f o→x∈o∨(x∈l∧P x)
 | [],o,x,h => .inl h
 | s :: l,o,x,h=>by
  rcases foldl_sub hf l _ x h with h | h
  ·rcases hf o s x h with h | ⟨rfl,h⟩
   ·exact .inl h
   exact .inr ⟨zr7,h⟩
  exact .inr ⟨zr8 _ h.1,h.2⟩
mutual
theorem metE_sub:∀ (e:TE) (s o:List Nm) (x:Nm),e.inScope s=true→x∈metE e o→x∈o∨x∈s∨x∈bndE e∨x∈nmsE e
 | .mk k n us arms body,s,o,x,h,hx=>by
  rw [TE.inScope,Bool.and_eq_true,Bool.and_eq_true] at h
  rw [metE] at hx
  rw [bndE,nmsE]
  simp only [List.mem_cons,List.mem_append]
  rcases metB_sub body n s _ x h.1.2 hx with hx | hx | hx | hx
  ·rcases metA_sub arms s _ x h.2 hx with hx | hx | hx | hx
   ·rcases met0_sub hx with hx | ⟨rfl,-⟩
    ·rcases foldl_sub (P:=fun x=>x.size≠0) (fun o s x h=>met0_sub h) us o x hx with hx | ⟨hx,h0⟩
     ·exact .inl hx
     have h1:=List.all_eq_true.1 h.1.1 x (List.mem_filter.2 ⟨hx,by simpa using h0⟩)
     exact .inr (.inl (zx.1 h1))
    exact .inr (.inr (.inr (.inl rfl)))
   ·exact .inr (.inl hx)
   ·exact .inr (.inr (.inl (.inr hx)))
   exact .inr (.inr (.inr (.inr (.inr hx))))
  ·exact .inr (.inl hx)
  ·exact .inr (.inr (.inl (.inl hx)))
  exact .inr (.inr (.inr (.inr (.inl hx))))
theorem metA_sub:∀ (e:TA) (s o:List Nm) (x:Nm),e.inScope s=true→x∈metA e o→x∈o∨x∈s∨x∈bndA e∨x∈nmsA e
 | .nil,s,o,x,h,hx=>by rw [metA] at hx;exact .inl hx
 | .cons vs e r,s,o,x,h,hx=>by
  rw [TA.inScope,Bool.and_eq_true] at h
  rw [metA] at hx
  rw [bndA,nmsA]
  simp only [List.mem_append]
  rcases metA_sub r s _ x h.2 hx with hx | hx | hx | hx
  ·rcases metE_sub e (vs++s) _ x h.1 hx with hx | hx | hx | hx
   ·rcases foldl_sub (P:=fun _=>True) (fun o s x h=>by rcases met_sub h with h | h;exact .inl h;exact .inr ⟨h,trivial⟩) vs o x hx with hx | ⟨hx,-⟩
    ·exact .inl hx
    exact .inr (.inr (.inl (.inl (.inl hx))))
   ·rcases List.mem_append.1 hx with hx | hx
    ·exact .inr (.inr (.inl (.inl (.inl hx))))
    exact .inr (.inl hx)
   ·exact .inr (.inr (.inl (.inl (.inr hx))))
   exact .inr (.inr (.inr (.inl hx)))
  ·exact .inr (.inl hx)
  ·exact .inr (.inr (.inl (.inr hx)))
  exact .inr (.inr (.inr (.inr hx)))
theorem metB_sub:∀ (e:TB) (n:Nm) (s o:List Nm) (x:Nm),e.inScope n s=true→x∈metB e o→x∈o∨x∈s∨x∈bndB n e∨x∈nmsB e
 | .nil,n,s,o,x,h,hx=>by rw [metB] at hx;exact .inl hx
 | .cons e r,n,s,o,x,h,hx=>by
  rw [TB.inScope,Bool.and_eq_true] at h
  rw [metB] at hx
  rw [bndB,nmsB]
  simp only [List.mem_append,List.mem_cons]
  rcases metB_sub r n s _ x h.2 hx with hx | hx | hx | hx
  ·rcases metE_sub e ([n]++s) _ x h.1 hx with hx | hx | hx | hx
   ·exact .inl hx
   ·rcases List.mem_append.1 hx with hx | hx
    ·exact .inr (.inr (.inl (.inl (List.mem_singleton.1 hx))))
    exact .inr (.inl hx)
   ·exact .inr (.inr (.inl (.inr (.inl hx))))
   exact .inr (.inr (.inr (.inl hx)))
  ·exact .inr (.inl hx)
  ·exact .inr (.inr (.inl (.inr (.inr hx))))
  exact .inr (.inr (.inr (.inr hx)))
end
mutual
theorem bndE_met:∀ (e:TE) (o:List Nm) (x:Nm),x.size≠0→x∈bndE e→x∈metE e o
 | .mk k n us arms body,o,x,h0,hx=>by
  rw [bndE,List.mem_append] at hx
  rw [metE]
  rcases hx with hx | hx
  ·by_cases hn:x=n
   ·subst hn
    refine((metA_pre arms _).trans (metB_pre body _)).subset ?_
    unfold met0
    rw [if_neg h0]
    exact met_in _ _
   exact bndB_met body n _ x h0 hn hx
  exact(metB_pre body _).subset (bndA_met arms _ x h0 hx)
theorem bndA_met:∀ (e:TA) (o:List Nm) (x:Nm),x.size≠0→x∈bndA e→x∈metA e o
 | .nil,o,x,h0,hx=>by rw [bndA] at hx;cases hx
 | .cons vs e r,o,x,h0,hx=>by
  rw [bndA,List.mem_append,List.mem_append] at hx
  rw [metA]
  rcases hx with (hx | hx) | hx
  ·exact((metE_pre e _).trans (metA_pre r _)).subset (fold_in met_pre vs o x (fun o=>met_in o x) hx)
  ·exact(metA_pre r _).subset (bndE_met e _ x h0 hx)
  exact bndA_met r _ x h0 hx
theorem bndB_met:∀ (e:TB) (n:Nm) (o:List Nm) (x:Nm),x.size≠0→x≠n→x∈bndB n e→x∈metB e o
 | .nil,n,o,x,h0,hn,hx=>by rw [bndB] at hx;cases hx
 | .cons e r,n,o,x,h0,hn,hx=>by
  rw [bndB,List.mem_cons,List.mem_append] at hx
  rw [metB]
  rcases hx with hx | hx | hx
  ·exact absurd hx hn
  ·exact(metB_pre r _).subset (bndE_met e _ x h0 hx)
  exact bndB_met r n _ x h0 hn hx
end
def bndL (l:List (List Nm×TE)):List Nm:=l.flatMap fun p=>p.1++bndE p.2
theorem bndA_kids:∀ a:TA,bndA a=bndL a.kids
 | .nil=>rfl
 | .cons vs e r=>by rw [bndA,TA.kids,bndA_kids r];unfold bndL;rw [List.flatMap_cons]
theorem bndB_kids (n:Nm):∀ a:TB,bndB n a=bndL (a.kids n)
 | .nil=>rfl
 | .cons e r=>by rw [bndB,TB.kids,bndB_kids n r];unfold bndL;rw [List.flatMap_cons];rfl
theorem bndE_kids (e:TE):bndE e=bndL e.kids:=by
 obtain⟨k,n,us,arms,body⟩:=e
 rw [bndE,bndA_kids,bndB_kids]
 unfold bndL TE.kids
 rw [List.flatMap_append];rfl
theorem bndL_vars:∀ (f n:Nat) (l:List (List Nm×TE)),sizes l≤f→∀ x,x∈vars (layS n l)↔x∈bndL l
 | _,n,[],_,x=>by simp [bndL,layS,lay,vars,zw]
 | 0,n,(bs,e) :: r,h,_=>by rw [zg] at h;have:=e.size_pos;simp at h;omega
 | f+1,n,(bs,e) :: r,h,x=>by
  rw [zg] at h
  have hs:sizes (e.kids++r)≤f:=by rw [zr];have:=e.size_kids;simp at h;omega
  rw [layS_cons,vars_cons,List.mem_append,bndL_vars f (n+1) (e.kids++r) hs x]
  unfold bndL
  rw [List.flatMap_append,List.flatMap_cons,List.mem_append,List.mem_append,List.mem_append]
  have:bndE e=e.kids.flatMap fun p=>p.1++bndE p.2:=bndE_kids e
  rw [this]
  constructor
  ·rintro (h | h | h)
   ·exact .inl (.inl h)
   ·exact .inl (.inr h)
   exact .inr h
  rintro ((h | h) | h)
  ·exact .inl h
  ·exact .inr (.inl h)
  exact .inr (.inr h)
theorem slimA_kids:∀ a:TA,(∀ p∈a.kids,p.1.length≤16∧slimE p.2)→slimA a
 | .nil,_=>by rw [slimA];trivial
 | .cons vs e r,h=>by
  rw [slimA]
  have h0:=h (vs,e) (by rw [TA.kids];exact zr7)
  exact⟨h0.1,h0.2,slimA_kids r fun p hp=>h p (by rw [TA.kids];exact zr8 _ hp)⟩
theorem slimB_kids (n:Nm):∀ a:TB,(∀ p∈a.kids n,slimE p.2)→slimB a
 | .nil,_=>by rw [slimB];trivial
 | .cons e r,h=>by
  rw [slimB]
  exact⟨h ([n],e) (by rw [TB.kids];exact zr7),slimB_kids n r fun p hp=>h p (by rw [TB.kids];exact zr8 _ hp)⟩
theorem stack_slim:∀ (f n:Nat) (l:List (List Nm×TE)),sizes l≤f→(∀ d∈layS n l,nodeOk d.e=true)→∀ p∈l,slimE p.2
 | _,n,[],_,_,p,hp=>absurd hp (by simp)
 | 0,n,(bs,e) :: r,h,_,_,_=>by rw [zg] at h;have:=e.size_pos;simp at h;omega
 | f+1,n,(bs,e) :: r,h,hn,p,hp=>by
  rw [zg] at h
  have hs:sizes (e.kids++r)≤f:=by rw [zr];have:=e.size_kids;simp at h;omega
  rw [layS_cons] at hn
  have ih:=stack_slim f (n+1) (e.kids++r) hs (fun d hd=>hn d (zr8 _ hd))
  rcases List.mem_cons.1 hp with rfl | hp
  ·have h1:=hn _ zr7
   have h2:=nodeOk_iff.1 h1
   unfold nodeOk at h1
   rw [Bool.and_eq_true,List.all_eq_true] at h1
   obtain⟨k,nm,us,arms,body⟩:=e
   have h3:arms.length≤16:=by
    have h4:=h2.2.2.2
    split at h4
    ·exact h4.2.2.2.1
    have:TA.length arms=0:=h4
    omega
   have h5:body.length≤16:=by
    have h4:TB.length body=_:=h2.2.1
    rw [h4];split<;>omega
   show slimE _
   rw [slimE]
   refine⟨h2.2.2.1,h3,h5,slimA_kids arms fun q hq=>⟨?_,ih q (zr6 _ (List.mem_append_right _ hq))⟩,slimB_kids nm body fun q hq=>ih q (zr6 _ (zr6 _ hq))⟩
   have:=h1.2 q (List.mem_append_right _ hq)
   simpa using this
  exact ih p (List.mem_append_right _ hp)
def metF (ps:List Nm) (e:TE):List Nm:=metE e (ps.foldl met [])
theorem metF_nodup (ps:List Nm) (e:TE):(metF ps e).Nodup:=metE_nodup e _ (fold_nodup (fun o s h=>met_nodup h) ps [] List.nodup_nil)
theorem metF_vars {isName:Nm→Bool}{ps:List Nm}{e:TE}(h:RG.Good isName ps e) (h0:∀ x,isName x=true→x.size≠0) {x:Nm}(hx:x∈vars (F0 ps e)):x∈metF ps e:=by
 have hs:=h0 x (h.names x hx)
 have hb:=(bndL_vars _ 0 [(ps,e)] (zr4 _) x).1 hx
 unfold bndL at hb
 rw [List.flatMap_cons,List.flatMap_nil,List.append_nil,List.mem_append] at hb
 rcases hb with hb | hb
 ·exact(metE_pre e _).subset (fold_in met_pre ps [] x (fun o=>met_in o x) hb)
 exact bndE_met e _ x hs hb
theorem metF_few {isName:Nm→Bool}{ps:List Nm}{e:TE}(h:RG.Good isName ps e):(metF ps e).length≤(vars (F0 ps e)).length+e.size:=by
 rw [← nmsE_length e,← zr2]
 refine nodup_len (metF_nodup ps e) fun x hx=>?_
 have hb:∀ x,x∈ps∨x∈bndE e→x∈vars (F0 ps e):=fun x hx=>(bndL_vars _ 0 [(ps,e)] (zr4 _) x).2 (by
  unfold bndL
  rw [List.flatMap_cons,List.flatMap_nil,List.append_nil,List.mem_append];exact hx)
 rcases metE_sub e ps _ x h.inScope hx with hx | hx | hx | hx
 ·rcases foldl_sub (P:=fun _=>True) (fun o s x h=>by rcases met_sub h with h | h;exact .inl h;exact .inr ⟨h,trivial⟩) ps [] x hx with hx | ⟨hx,-⟩
  ·cases hx
  exact zr6 _ (hb x (.inl hx))
 ·exact zr6 _ (hb x (.inl hx))
 ·exact zr6 _ (hb x (.inr hx))
 exact List.mem_append_right _ hx
theorem metF_ren {isName:Nm→Bool}{ps:List Nm}{e:TE}(h:RG.Good isName ps e) (h0:∀ x,isName x=true→x.size≠0) (hl:(metF ps e).length≤700):Ren (rnk (metF ps e)) (F0 ps e):=by
 refine⟨fun x hx y hy he=>?_,fun x _=>yk_size _⟩
 obtain⟨i,hi⟩:=List.getElem?_of_mem (metF_vars h h0 hx)
 obtain⟨j,hj⟩:=List.getElem?_of_mem (metF_vars h h0 hy)
 have hn:=metF_nodup ps e
 unfold rnk at he
 rw [numOf_at hn hi,numOf_at hn hj] at he
 have hi':=(zq8.1 hi).1
 have hj':=(zq8.1 hj).1
 have:=yk_inj (by omega) (by omega) he
 subst this
 exact Option.some.inj (hi.symm.trans hj)
theorem metF_name {isName:Nm→Bool}{ps:List Nm}{e:TE}(h:RG.Good isName ps e) (h0:∀ x,isName x=true→x.size≠0) (hl:(metF ps e).length≤700) {x:Nm}(hx:x∈vars (F0 ps e)):isNm (rnk (metF ps e) x)=true:=by
 obtain⟨i,hi⟩:=List.getElem?_of_mem (metF_vars h h0 hx)
 have hi':=(zq8.1 hi).1
 unfold rnk
 rw [numOf_at (metF_nodup ps e) hi]
 exact yk_name (by omega)
end
section
open Go.RowKit RG Go.Maps
def ParP (p:Nm×Bool) (u:List Value):Prop:=u=[.string p.1,.bool p.2]
def Ob (W:World) (ρ:Nat→Nat) (k r:Nat) (T:TypeId) (cs:Array Value):Prop:=W.heap[k]?=some (.cells cs T (0,0))∧ρ k=r
theorem Ob.keep {M:Nat→Prop}{W W':World} {ρ ρ':Nat→Nat}{k r:Nat}{T:TypeId}{cs:Array Value}(h:Ob W ρ k r T cs) (c:Ch M ρ ρ' W W') (hn:¬ M r):Ob W' ρ' k r T cs :=
 ⟨c.keep h.1 (by rw [h.2];exact hn),(c.keepRole h.1).trans h.2⟩
theorem Ob.cell {W:World} {ρ:Nat→Nat}{k r:Nat}{T:TypeId}{cs:Array Value}(h:Ob W ρ k r T cs) (j:Nat) {v:Value}(hv:cs[j]?=some v):W.cell? ⟨k,j,none⟩=some v:=by
 rw [zb _ _ j _ _ _ h.1];exact hv
theorem Ob.frozen {W:World} {ρ:Nat→Nat}{k r:Nat}{T:TypeId}{cs:Array Value}(h:Ob W ρ k r T cs) (j:Nat):W.frozen? ⟨k,j,none⟩=false:=zs1 _ _ j _ _ h.1
theorem Ob.set {W:World} {ρ:Nat→Nat}{k r:Nat}{T:TypeId}{cs:Array Value}(h:Ob W ρ k r T cs) (j:Nat) (v:Value):Ob (W.setCell ⟨k,j,none⟩ v) ρ k r T (cs.setIfInBounds j v) :=
 ⟨heap_setCell_same _ _ j _ _ _ h.1,h.2⟩
theorem Ob.new {W:World} {ρ:Nat→Nat}{T:TypeId}{cs:Array Value}(r:Nat):Ob (W.alloc (.cells cs T)) (roleAt ρ W.heap.size r) W.heap.size r T cs:=⟨zs2 W _,roleAt_same _ _ _⟩
structure PS (w0:World) (ρ0:Nat→Nat) (g bb rb za sb fb:Nat) (ps:List Nm) (e:TE) (pv:Value) (xa aa ab:Option Addr) (xc:Nat) (W:World) (ρ:Nat→Nat) (old:List Nm) (fcs scs:Array Value) (lv:Value) (qs:List (Nm×Bool)):Prop where
 ch:Ch NM ρ0 ρ w0 W
 rn:RnR W ρ rb old
 pin:ParamsAt (Zw ρ W) pv ps
 inn:TEX (Zw ρ W) e xa aa ab xc
 box:Ob W ρ bb 0 128 #[.slice none 0 0,.slice none 0 0,.slice (some ⟨g,0,none⟩) 1 1,.slice none 0 0]
 res:Ob W ρ za 27 128 #[.slice none 0 0,.slice none 0 0,.slice none 0 0,.slice none 0 0]
 out:Ob W ρ sb 22 128 scs
 fn:Ob W ρ fb 28 29 fcs
 new:w0.heap.size≤za∧w0.heap.size≤sb∧w0.heap.size≤fb∧w0.heap.size≤rb
 row:∃ xs,RB W w0.heap.size ρ 23 70 2 lv qs.length xs∧GR 2 ParP qs xs
section
variable {w0:World} {ρ0:Nat→Nat} {g bb rb za sb fb:Nat} {ps:List Nm} {e:TE} {pv:Value} {xa aa ab:Option Addr} {xc:Nat} {W:World} {ρ:Nat→Nat} {old:List Nm} {fcs scs:Array Value} {lv:Value} {qs:List (Nm×Bool)}
theorem PS.on (h:PS w0 ρ0 g bb rb za sb fb ps e pv xa aa ab xc W ρ old fcs scs lv qs) {M:Nat→Prop}{W':World} {ρ':Nat→Nat}{old':List Nm}(whole:Ch NM ρ0 ρ' w0 W') (c:Ch M ρ ρ' W W')
  (hM:∀ r,M r→r=20∨r=21∨r=24) (hrn:RnR W' ρ' rb old'):PS w0 ρ0 g bb rb za sb fb ps e pv xa aa ab xc W' ρ' old' fcs scs lv qs:=by
 have nn:∀ r,r=0∨r=22∨r=23∨r=27∨r=28→¬ M r:=fun r hr x=>by have:=hM r x;omega
 have k:=zw_ch c (nn 0 (by omega))
 obtain⟨xs,a,b⟩:=h.row
 exact⟨whole,hrn,h.pin.kept k,h.inn.kept k,h.box.keep c (nn _ (by omega)),h.res.keep c (nn _ (by omega)),h.out.keep c (nn _ (by omega)),h.fn.keep c (nn _ (by omega)),h.new,⟨xs,a.keep c (nn _ (by omega)),b⟩⟩
theorem PS.below (h:PS w0 ρ0 g bb rb za sb fb ps e pv xa aa ab xc W ρ old fcs scs lv qs) {W':World}(hb:Below W.heap.size W W'):PS w0 ρ0 g bb rb za sb fb ps e pv xa aa ab xc W' ρ old fcs scs lv qs:=by
 have c:Ch (fun _=>False) ρ ρ W W':=Ch.of_below hb h.ch.fresh
 exact h.on (h.ch.trans (c.mono (fun _ x=>x.elim))) c (fun _ x=>x.elim) (h.rn.keep c id id)
theorem PS.drew (h:PS w0 ρ0 g bb rb za sb fb ps e pv xa aa ab xc W ρ old fcs scs lv qs):PS w0 ρ0 g bb rb za sb fb ps e pv xa aa ab xc W.drew ρ old fcs scs lv qs :=
 h.on (M:=fun _=>False) h.ch.drew (Ch.refl h.ch.fresh).drew (fun _ x=>x.elim) (h.rn.keep (M:=fun _=>False) (Ch.refl h.ch.fresh).drew id id)
theorem PS.grow (h:PS w0 ρ0 g bb rb za sb fb ps e pv xa aa ab xc W ρ old fcs scs lv qs) {W':World} {ρ':Nat→Nat}{q:Nm×Bool}{x xs:List Value}{lv':Value}(hxs:GR 2 ParP qs xs) (hr:RB W' w0.heap.size ρ' 23 70 2 lv' (qs.length+1) (xs++x)) (gw:Grew NM w0 ρ0 W ρ W' ρ' 23)
  (hp:ParP q x) (hl:x.length=2):PS w0 ρ0 g bb rb za sb fb ps e pv xa aa ab xc W' ρ' old fcs scs lv' (qs++[q]):=by
 have k:=zw_ch gw.step (by decide)
 exact⟨gw.whole,h.rn.keep gw.step (by decide) (by decide),h.pin.kept k,h.inn.kept k,h.box.keep gw.step (by decide),h.res.keep gw.step (by decide),h.out.keep gw.step (by decide),h.fn.keep gw.step (by decide),h.new,⟨xs++x,by rw [zr2];exact hr,.snoc hxs hp hl⟩⟩
theorem PS.setF (h:PS w0 ρ0 g bb rb za sb fb ps e pv xa aa ab xc W ρ old fcs scs lv qs) (j:Nat) (v:Value):PS w0 ρ0 g bb rb za sb fb ps e pv xa aa ab xc (W.setCell ⟨fb,j,none⟩ v) ρ old (fcs.setIfInBounds j v) scs lv qs:=by
 have c:Ch (· = 28) ρ ρ W (W.setCell ⟨fb,j,none⟩ v):=(Ch.refl h.ch.fresh).setCell _ _ fun _=>h.fn.2
 have k:=zw_ch c (by decide)
 obtain⟨xs,a,b⟩:=h.row
 exact⟨h.ch.setCell _ _ fun hlt=>absurd hlt (by show ¬ fb<_;have:=h.new.2.2.1;omega),h.rn.keep c (by decide) (by decide),h.pin.kept k,h.inn.kept k,h.box.keep c (by decide),h.res.keep c (by decide),h.out.keep c (by decide),h.fn.set j v,h.new,⟨xs,a.keep c (by decide),b⟩⟩
theorem PS.setS (h:PS w0 ρ0 g bb rb za sb fb ps e pv xa aa ab xc W ρ old fcs scs lv qs) (j:Nat) (v:Value):PS w0 ρ0 g bb rb za sb fb ps e pv xa aa ab xc (W.setCell ⟨sb,j,none⟩ v) ρ old fcs (scs.setIfInBounds j v) lv qs:=by
 have c:Ch (· = 22) ρ ρ W (W.setCell ⟨sb,j,none⟩ v):=(Ch.refl h.ch.fresh).setCell _ _ fun _=>h.out.2
 have k:=zw_ch c (by decide)
 obtain⟨xs,a,b⟩:=h.row
 exact⟨h.ch.setCell _ _ fun hlt=>absurd hlt (by show ¬ sb<_;have:=h.new.2.1;omega),h.rn.keep c (by decide) (by decide),h.pin.kept k,h.inn.kept k,h.box.keep c (by decide),h.res.keep c (by decide),h.out.set j v,h.fn.keep c (by decide),h.new,⟨xs,a.keep c (by decide),b⟩⟩
end
theorem params_of {w0 W:World} {ρ:Nat→Nat}{lv:Value}{qs:List (Nm×Bool)}{xs:List Value}(a:RB W w0.heap.size ρ 23 70 2 lv qs.length xs) (b:GR 2 ParP qs xs) {ns:List Nm}(hn:qs.map Prod.fst=ns):ParamsAt W lv ns:=by
 obtain⟨ad,c,rfl⟩:=a.shape
 have hl:ns.length=qs.length:=by rw [← hn,zv1]
 refine⟨ad,c,by rw [hl],fun h0=>?_⟩
 obtain⟨gg,q1,q2,q3,q4⟩:=row_cells a b rfl (by omega)
 refine⟨gg,0,q1,fun i n hi=>?_⟩
 rw [← hn,List.getElem?_map,Option.map_eq_some_iff] at hi
 obtain⟨⟨n',m⟩,hq,rfl⟩:=hi
 obtain⟨u,rfl,hu⟩:=q4 i _ hq
 exact⟨m,by have:=hu 0 (by decide);first | (simp;done) | simpa using this,by have:=hu 1 (by decide);first | (simp;done) | simpa using this⟩
end
section
open Go.RowKit RG Go.Maps RF
theorem no_of {v:Bool}{P:Prop}(h:v=true↔P) (hn:¬ P):v=false:=by
 cases v with
 | false=>rfl
 | true=>exact absurd (h.1 rfl) hn
theorem yes_of {v:Bool}{P:Prop}(h:v=true↔P) (hp:P):v=true:=h.2 hp
def BoP (w:World) (v:Value) (e:Ending) (w':World):Prop:=e = .returned v∧Below w.heap.size w w'
theorem shaped_any {w:World}{e:TE}{op:ByteArray}{num site:Int}{xa aa ab:Option Addr}{xc ca cb:Nat}(h:TEX w e xa aa ab xc):Calls Tryz.prog 82 #[teV e op num site xa aa ab xc ca cb] w (BoP w (.bool (nodeOk e))):=by
 obtain⟨v,hv⟩:∃ v,v=nodeOk e:=⟨_,rfl⟩
 rw [← hv]
 have hform := @nodeOk_iff e
 rw [← hv] at hform
 have HAT:=zh h.atoms
 have HAR:=zh h.arms
 show Calls Tryz.prog 82 #[.agg #[.int .i64 e.kind,.string e.name,.string op,.int .i64 num,.int .i64 site,.slice xa e.args.length xc,.slice aa e.arms.length ca,.slice ab e.body.length cb]] w _
 obtain⟨k,hk⟩:∃ x,x=e.kind:=⟨_,rfl⟩
 obtain⟨nm,hnm⟩:∃ x,x=e.name:=⟨_,rfl⟩
 obtain⟨hdn,hhd⟩:∃ x,x=e.args.headD ⟨#[]⟩:=⟨_,rfl⟩
 obtain⟨ng,hng⟩:∃ x,x=e.args.length:=⟨_,rfl⟩
 obtain⟨na,hna⟩:∃ x,x=e.arms.length:=⟨_,rfl⟩
 obtain⟨nb,hnb⟩:∃ x,x=e.body.length:=⟨_,rfl⟩
 rw [← hk,← hng,← hna,← hnb,← hhd] at hform
 rw [← hk,← hnm,← hng,← hna,← hnb]
 rw [← hna] at HAR
 rw [← hng] at HAT
 have HV:=zh hform
 have HNG:=zh hng
 have HNA:=zh hna
 have HH:=zh hhd
 have B0:Hid (Below w.heap.size w (w.alloc (.cells #[.int .i64 k,.string nm,.string op,.int .i64 num,.int .i64 site,.slice xa ng xc,.slice aa na ca,.slice ab nb cb] 27))):=(zs9 _ _).alloc (zr4 _) _
 clear h hv hform hk hnm hhd hng hna hnb
 by_cases k1:k<1
 ·have d1:decide (1≤k)=false:=by simp;omega
  have d2:decide (k<1)=true:=by simp;omega
  have E:Hid (v=false):=no_of HV.out (by intro h;have:=h.1.1;omega)
  clear k1
  go_enter Tryz.func82,Tryz.ntmps82
  go_wp2_with fail
  go_ret
  exact⟨by rw [E.out];rfl,B0.out⟩
 have d1:decide (1≤k)=true:=by simp;omega
 have d2:decide (k<1)=false:=by simp;omega
 by_cases k2:10<k
 ·have d3:decide (k≤6)=false:=by simp;omega
  have d4:decide (10<k)=true:=by simp;omega
  have E:Hid (v=false):=no_of HV.out (by intro h;have:=h.1.2;omega)
  clear k1 k2
  go_enter Tryz.func82,Tryz.ntmps82
  go_wp2_with fail
  go_ret
  exact⟨by rw [E.out];rfl,B0.out⟩
 have d4:decide (10<k)=false:=by simp;omega
 by_cases k6:k≤6
 ·have d3:decide (k≤6)=true:=by simp;omega
  by_cases b1:nb=1
  ·have d5:((nb:Int) != 1)=false:=by simp [b1]
   by_cases g1:16<ng
   ·have d6:decide (16<(ng:Int))=true:=by simp;omega
    have E:Hid (v=false):=no_of HV.out (by intro h;have:=h.2.2.1;omega)
    clear k1 k2 k6 b1 g1
    go_enter Tryz.func82,Tryz.ntmps82
    go_wp2_with fail
    go_ret
    exact⟨by rw [E.out];rfl,B0.out⟩
   have d6:decide (16<(ng:Int))=false:=by simp;omega
   have d7:(k != 7)=true:=by simp;omega
   have k7:k≠7:=by omega
   by_cases a1:na=0
   ·have d8:((na:Int)==0)=true:=by simp [a1]
    have E:Hid (v=true):=yes_of HV.out (by refine⟨by omega,?_,by omega,by rw [if_neg k7];exact a1⟩;first | (rw [if_pos (by omega)];exact b1) | (rw [if_neg (by omega)];exact b1))
    clear k1 k2 k6 b1 g1 k7 a1
    go_enter Tryz.func82,Tryz.ntmps82
    go_wp2_with fail
    go_ret
    exact⟨by rw [E.out];rfl,B0.out⟩
   have d8:((na:Int)==0)=false:=by simp;omega
   have E:Hid (v=false):=no_of HV.out (by intro h;have:=h.2.2.2;rw [if_neg k7] at this;exact a1 this)
   clear k1 k2 k6 b1 g1 k7 a1
   go_enter Tryz.func82,Tryz.ntmps82
   go_wp2_with fail
   go_ret
   exact⟨by rw [E.out];rfl,B0.out⟩
  have d5:((nb:Int) != 1)=true:=by simp;omega
  have E:Hid (v=false):=no_of HV.out (by intro h;have:=h.2.1;rw [if_pos k6] at this;omega)
  clear k1 k2 k6 b1
  go_enter Tryz.func82,Tryz.ntmps82
  go_wp2_with fail
  go_ret
  exact⟨by rw [E.out];rfl,B0.out⟩
 have d3:decide (k≤6)=false:=by simp;omega
 by_cases k7:k=7
 ·skip
  by_cases b1:nb=0
  ·have d5:((nb:Int) != 0)=false:=by simp [b1]
   by_cases g1:16<ng
   ·have d6:decide (16<(ng:Int))=true:=by simp;omega
    have E:Hid (v=false):=no_of HV.out (by intro h;have:=h.2.2.1;omega)
    clear k1 k2 k6 k7 b1 g1
    go_enter Tryz.func82,Tryz.ntmps82
    go_wp2_with fail
    go_ret
    exact⟨by rw [E.out];rfl,B0.out⟩
   have d6:decide (16<(ng:Int))=false:=by simp;omega
   have d7:(k != 7)=false:=by simp [k7]
   have H7:Hid (v=true↔ng=1∧hdn.size≠0∧1≤na∧na≤16∧∀ p∈e.arms.kids,p.1.length≤16):=by
    show _↔_
    rw [HV.out,if_pos k7,if_neg (by omega)]
    exact⟨fun h=>h.2.2.2,fun h=>⟨by omega,b1,by omega,h⟩⟩
   clear k1 k2 k6 k7 b1 g1
   by_cases n1:ng=1
   ·have d8:((ng:Int) != 1)=false:=by simp [n1]
    obtain⟨ad,c,hsl,hat⟩:=HAT.out.at'
    simp only [Value.slice.injEq] at hsl
    obtain⟨rfl,-,rfl⟩:=hsl
    obtain⟨g,q,rfl,hat2⟩:=hat (by rw [← HNG.out];omega)
    obtain⟨mm,hm,_⟩:=hat2 0 hdn (by rw [HH.out];have:=HNG.out;cases hx:e.args with | nil=>rw [hx] at this;simp at this;omega | cons a t=>rfl)
    rw [Nat.zero_mul,Nat.add_zero] at hm
    have hm:=zd B0.out _ _ hm
    have i1:(0:Int)<ng:=by omega
    have i2:0<ng:=by omega
    have N1:=zh n1
    clear hat hat2 n1
    by_cases s0:hdn.size=0
    ·have c2:hdn.toList.isEmpty=true:=toList_empty s0
     have E:Hid (v=false):=no_of H7.out (by intro h;exact h.2.1 s0)
     clear s0
     go_enter Tryz.func82,Tryz.ntmps82
     go_wp2_with fail
     go_ret
     exact⟨by rw [E.out];rfl,B0.out⟩
    have c2:hdn.toList.isEmpty=false:=toList_full s0
    by_cases a1:na<1
    ·have c3:decide ((na:Int)<1)=true:=by simp;omega
     have E:Hid (v=false):=no_of H7.out (by intro h;have:=h.2.2.1;omega)
     clear s0 a1
     go_enter Tryz.func82,Tryz.ntmps82
     go_wp2_with fail
     go_ret
     exact⟨by rw [E.out];rfl,B0.out⟩
    have c3:decide ((na:Int)<1)=false:=by simp;omega
    by_cases a2:16<na
    ·have c4:decide (16<(na:Int))=true:=by simp;omega
     have E:Hid (v=false):=no_of H7.out (by intro h;have:=h.2.2.2.1;omega)
     clear s0 a1 a2
     go_enter Tryz.func82,Tryz.ntmps82
     go_wp2_with fail
     go_ret
     exact⟨by rw [E.out];rfl,B0.out⟩
    have c4:decide (16<(na:Int))=false:=by simp;omega
    have H8:Hid (v=true↔∀ p∈e.arms.kids,p.1.length≤16):=by
     show _↔_
     rw [H7.out]
     exact⟨fun h=>h.2.2.2.2,fun h=>⟨N1.out,s0,by omega,by omega,h⟩⟩
    have hnz:(na:Int)≤16:=by omega
    obtain⟨ga,oa,rfl,hta⟩:=HAR.out (by omega)
    have HTA:=zh hta
    clear s0 a1 a2 hta
    go_enter Tryz.func82,Tryz.ntmps82
    go_wp2_with fail
    go_loopw [4] (fun iv wr=>∃ i:Nat,i≤na∧iv = .int .i64 i∧wr=w.alloc (.cells #[.int .i64 k,.string nm,.string op,.int .i64 num,.int .i64 site,.slice (some ⟨g,q,none⟩) ng xc,.slice (some ⟨ga,oa,none⟩) na ca,.slice ab nb cb] 27)∧∀ (j:Nat) (p:List Nm×TE),j<i→e.arms.kids[j]?=some p→p.1.length≤16) (fun iv _=>na - (intOf iv).toNat)
    case atStart=>exact⟨0,zv3 _,rfl,rfl,fun j p h=>absurd h (Nat.not_lt_zero _)⟩
    obtain⟨i,hi,rfl,rfl,hall⟩:=hrel
    have KI:=zh hi
    have AL:=zh hall
    clear hi hall
    by_cases hlt:i<na
    ·have hlz:(i:Int)<na:=by omega
     have hi0:(0:Int)≤i:=by omega
     have HLT:=zh hlt
     obtain⟨⟨vs,te⟩,hp⟩:∃ p,e.arms.kids[i]?=some p:=⟨_,zq9 (by rw [TA.kids_length,← HNA.out];exact hlt)⟩
     obtain⟨⟨con,vv,y0,y1,hst⟩,-⟩:=TAAt.nth e.arms ga oa i vs te HTA.out (by rw [← TA.nth_kids];exact hp)
     obtain⟨_,sa,sc,rfl,_⟩:=hst
     have y1:=zd B0.out _ _ y1
     obtain⟨nv,hnv⟩:∃ x,x=vs.length:=⟨_,rfl⟩
     rw [← hnv] at y1
     have HP:=zh hp
     have HNV:=zh hnv
     clear hlt hp y0 hnv
     by_cases v1:16<nv
     ·have c5:decide (16<(nv:Int))=true:=by simp;omega
      have E:Hid (v=false):=no_of H8.out (fun h=>by have:=h _ (zr1 HP.out);have:=HNV.out;simp only [] at *;omega)
      clear v1
      go_wp2_with fail
      go_ret
      exact⟨by rw [E.out];rfl,B0.out⟩
     have c5:decide (16<(nv:Int))=false:=by simp;omega
     have AX:Hid (∀ (j:Nat) (p:List Nm×TE),j<i+1→e.arms.kids[j]?=some p→p.1.length≤16):=fun j p h1 h2=>by
      by_cases e0:j=i
      ·subst e0
       rw [HP.out,zt3] at h2
       subst h2
       have:=HNV.out;simp only [];omega
      exact AL.out j p (by omega) h2
     clear v1
     go_wp2_with fail
     go_roundw
     case rel=>exact⟨i+1,HLT.out,by go_num,by first | rfl | trivial,AX.out⟩
     case measure=>have:=HLT.out;simp [intOf];omega
    have hlz:(na:Int)≤i:=by omega
    have E:Hid (v=true):=yes_of H8.out (fun p hp=>by
     obtain⟨j,hj⟩:=List.mem_iff_getElem?.1 hp
     exact AL.out j p (by have:=(zq8.1 hj).1;rw [TA.kids_length,← HNA.out] at this;omega) hj)
    clear hlt
    go_wp2_with fail
    go_ret
    exact⟨by rw [E.out];rfl,B0.out⟩
   have d8:((ng:Int) != 1)=true:=by simp;omega
   have E:Hid (v=false):=no_of H7.out (by intro h;exact n1 h.1)
   clear n1
   go_enter Tryz.func82,Tryz.ntmps82
   go_wp2_with fail
   go_ret
   exact⟨by rw [E.out];rfl,B0.out⟩
  have d5:((nb:Int) != 0)=true:=by simp;omega
  have E:Hid (v=false):=no_of HV.out (by intro h;have:=h.2.1;rw [if_neg k6] at this;omega)
  clear k1 k2 k6 k7 b1
  go_enter Tryz.func82,Tryz.ntmps82
  go_wp2_with fail
  go_ret
  exact⟨by rw [E.out];rfl,B0.out⟩
 skip
 by_cases b1:nb=0
 ·have d5:((nb:Int) != 0)=false:=by simp [b1]
  by_cases g1:16<ng
  ·have d6:decide (16<(ng:Int))=true:=by simp;omega
   have E:Hid (v=false):=no_of HV.out (by intro h;have:=h.2.2.1;omega)
   clear k1 k2 k6 b1 g1
   go_enter Tryz.func82,Tryz.ntmps82
   go_wp2_with fail
   go_ret
   exact⟨by rw [E.out];rfl,B0.out⟩
  have d6:decide (16<(ng:Int))=false:=by simp;omega
  have d7:(k != 7)=true:=by simp;omega
  have k7:k≠7:=by omega
  by_cases a1:na=0
  ·have d8:((na:Int)==0)=true:=by simp [a1]
   have E:Hid (v=true):=yes_of HV.out (by refine⟨by omega,?_,by omega,by rw [if_neg k7];exact a1⟩;first | (rw [if_pos (by omega)];exact b1) | (rw [if_neg (by omega)];exact b1))
   clear k1 k2 k6 b1 g1 k7 a1
   go_enter Tryz.func82,Tryz.ntmps82
   go_wp2_with fail
   go_ret
   exact⟨by rw [E.out];rfl,B0.out⟩
  have d8:((na:Int)==0)=false:=by simp;omega
  have E:Hid (v=false):=no_of HV.out (by intro h;have:=h.2.2.2;rw [if_neg k7] at this;exact a1 this)
  clear k1 k2 k6 b1 g1 k7 a1
  go_enter Tryz.func82,Tryz.ntmps82
  go_wp2_with fail
  go_ret
  exact⟨by rw [E.out];rfl,B0.out⟩
 have d5:((nb:Int) != 0)=true:=by simp;omega
 have E:Hid (v=false):=no_of HV.out (by intro h;have:=h.2.1;rw [if_neg k6] at this;omega)
 clear k1 k2 k6 b1
 go_enter Tryz.func82,Tryz.ntmps82
 go_wp2_with fail
 go_ret
 exact⟨by rw [E.out];rfl,B0.out⟩
theorem sizes_len:∀ l:List (List Nm×TE),l.length≤sizes l
 | []=>zv3 _
 | p :: l=>by
  have:=sizes_len l
  have:=p.2.size_pos
  rw [zg,zv2];omega
def MsP (w:World) (b c:Nat) (e:TE) (en:Ending) (w':World):Prop :=
 w.grownBy w' (some b)∧((c+e.size≤20000∧en = .returned (.bool true)∧w'.cell? ⟨b,0,none⟩=some (.int .i64 ((c+e.size:Nat):Int))∧w'.frozen? ⟨b,0,none⟩=false)∨(20000<c+e.size∧en = .returned (.bool false)))
theorem measure_any (N:Nat):∀ (e:TE),e.size≤N→∀ {W w:World}{op:ByteArray}{num site:Int}{xa aa ab:Option Addr}{xc ca cb b c:Nat}{d:Int},TEX W e xa aa ab xc→Below W.heap.size W w→W.heap.size≤b →
  w.cell? ⟨b,0,none⟩=some (.int .i64 (c:Int))→w.frozen? ⟨b,0,none⟩=false→c≤20000→0≤d→d≤c+1→Calls Tryz.prog 50 #[teV e op num site xa aa ab xc ca cb,.int .i64 d,.pointer (some ⟨b,0,none⟩)] w (MsP w b c e):=by
 induction N with
 | zero=>intro e hN;have:=e.size_pos;omega
 | succ N ih =>
  intro e hN W w op num site xa aa ab xc ca cb b c d hx hB hb hc hf hc2 hd0 hd
  have IH:=zh ih
  clear ih
  have HAR:=zh hx.arms
  have HBO:=zh hx.body
  have hsz:e.size=sizes (e.body.kids e.name)+sizes e.arms.kids+1:=by rw [TB.sizes_kids,TA.sizes_kids];cases e;rfl
  have HSZ:=zh hsz
  have HNN:=zh hN
  have HB:=zh hB
  have HBB:=zh hb
  show Calls Tryz.prog 50 #[.agg #[.int .i64 e.kind,.string e.name,.string op,.int .i64 num,.int .i64 site,.slice xa e.args.length xc,.slice aa e.arms.length ca,.slice ab e.body.length cb],.int .i64 d,.pointer (some ⟨b,0,none⟩)] w _
  obtain⟨k,hk⟩:∃ x,x=e.kind:=⟨_,rfl⟩
  obtain⟨nm,hnm⟩:∃ x,x=e.name:=⟨_,rfl⟩
  obtain⟨ng,hng⟩:∃ x,x=e.args.length:=⟨_,rfl⟩
  obtain⟨na,hna⟩:∃ x,x=e.arms.length:=⟨_,rfl⟩
  obtain⟨nb,hnb⟩:∃ x,x=e.body.length:=⟨_,rfl⟩
  rw [← hk,← hnm,← hng,← hna,← hnb]
  rw [← hna] at HAR
  rw [← hnb] at HBO
  have HNA:=zh hna
  have HNB:=zh hnb
  have HC2:=zh hc2
  have hblt:b<w.heap.size:=zs3 w _ hc
  have hcz:(c:Int)≤20000:=by omega
  have hpos:=e.size_pos
  have HPOS:=zh hpos
  obtain⟨w0,hw0⟩:∃ x,x=w.alloc (.cells #[.int .i64 k,.string nm,.string op,.int .i64 num,.int .i64 site,.slice xa ng xc,.slice aa na ca,.slice ab nb cb] 27):=⟨_,rfl⟩
  have O0:Hid (w0.heap[w.heap.size]?=some (.cells #[.int .i64 k,.string nm,.string op,.int .i64 num,.int .i64 site,.slice xa ng xc,.slice aa na ca,.slice ab nb cb] 27 (0,0))):=by show _=_;rw [hw0];exact zs2 w _
  have hb0:w0.heap[b]?=w.heap[b]?:=by rw [hw0];exact zt2 _ _ _ hblt
  have c0:w0.cell? ⟨b,0,none⟩=some (.int .i64 (c:Int)):=(World.cell?_of_block (a:=⟨b,0,none⟩) hb0).trans hc
  have f0:w0.frozen? ⟨b,0,none⟩=false:=(World.frozen?_of_block (a:=⟨b,0,none⟩) hb0).trans hf
  have G0:Hid (w.grownBy w0 (some b)):=by rw [hw0];exact World.grownBy_alloc _ _ _
  have BLT:=zh hblt
  have bne:b≠w.heap.size:=by omega
  have HD:=zh hd
  clear hx hsz hN hB hb hk hnm hng hna hnb hc hf hb0 hpos
  have O1:Hid ((w0.setCell ⟨b,0,none⟩ (.int .i64 ((c:Int)+1))).heap[w.heap.size]?=some (.cells #[.int .i64 k,.string nm,.string op,.int .i64 num,.int .i64 site,.slice xa ng xc,.slice aa na ca,.slice ab nb cb] 27 (0,0))):=(zt1 _ _ _ _ (by show w.heap.size≠b;omega)).trans O0.out
  have C1:Hid ((w0.setCell ⟨b,0,none⟩ (.int .i64 ((c:Int)+1))).cell? ⟨b,0,none⟩=some (.int .i64 ((c:Int)+1))):=World.cell?_setCell_same _ _ _ c0
  have F1:Hid ((w0.setCell ⟨b,0,none⟩ (.int .i64 ((c:Int)+1))).frozen? ⟨b,0,none⟩=false):=by show _=_;rw [World.frozen?_setCell];exact f0
  have G1:Hid (w.grownBy (w0.setCell ⟨b,0,none⟩ (.int .i64 ((c:Int)+1))) (some b)):=grown_trans G0.out (grown_setCell w0 ⟨b,0,none⟩ _) (fun r e=>by simp at e;exact .inl e.symm)
  by_cases hbig:20000<c+1
  ·have d1:decide (20000<(c:Int)+1)=true:=by simp;omega
   have E:Hid (20000<c+e.size):=by show _<_;have:=HPOS.out;omega
   clear hbig
   go_enter Tryz.func50,Tryz.ntmps50
   go_upto_region 1 with fail
   rw [← hw0]
   clear hw0
   go_wp2_with fail
   go_ret
   exact⟨G1.out,.inr ⟨E.out,rfl⟩⟩
  have d1:decide (20000<(c:Int)+1)=false:=by simp;omega
  have d2:decide (20000<d)=false:=by simp;omega
  have hC1:c+1≤20000:=by omega
  have HC1:=zh hC1
  have hd2:d≤20000:=by omega
  clear hbig
  go_enter Tryz.func50,Tryz.ntmps50
  go_upto_region 1 with fail
  rw [← hw0]
  clear hw0
  go_wp2_with fail
  go_loopw [7] (fun iv wr=>∃ i t:Nat,i≤na∧iv = .int .i64 i∧t=c+1+sizes (e.arms.kids.take i)∧t≤20000∧wr.cell? ⟨b,0,none⟩=some (.int .i64 (t:Int))∧wr.frozen? ⟨b,0,none⟩=false∧w.grownBy wr (some b)∧wr.heap[w.heap.size]?=some (.cells #[.int .i64 k,.string nm,.string op,.int .i64 num,.int .i64 site,.slice xa ng xc,.slice aa na ca,.slice ab nb cb] 27 (0,0))) (fun iv _=>na - (intOf iv).toNat)
  case atStart=>exact⟨0,c+1,zv3 _,rfl,by simp [zw],HC1.out,C1.out,F1.out,G1.out,O1.out⟩
  obtain⟨i,t,hi,rfl,ht,htl,hcl,hfr,hg,ho⟩:=hrel
  have KI:=zh hi
  have HT:=zh ht
  have HTL:=zh htl
  have HCL:=zh hcl
  have HFR:=zh hfr
  have HG:=zh hg
  have HO:=zh ho
  have z6:wr.cell? ⟨w.heap.size,6,none⟩=some (.slice aa na ca):=by rw [zb _ _ _ _ _ _ ho];rfl
  have z7:wr.cell? ⟨w.heap.size,7,none⟩=some (.slice ab nb cb):=by rw [zb _ _ _ _ _ _ ho];rfl
  have BW:Hid (Below W.heap.size W wr):=HB.out.grown hg HB.out.size (fun r e=>by simp at e;have:=HBB.out;omega)
  clear hi ht htl hcl hfr hg ho c0 f0
  rename World=>wA
  by_cases hlt:i<na
  ·have hlz:(i:Int)<na:=by omega
   have hiz:(i:Int)≤20000:=by have h1:=sizes_len (e.arms.kids.take i);rw [List.length_take,TA.kids_length,← HNA.out] at h1;have:=HT.out;have:=HTL.out;omega
   have hi0:(0:Int)≤i:=by omega
   have HLT:=zh hlt
   obtain⟨ga,oa,rfl,hta⟩:=HAR.out (by omega)
   obtain⟨⟨vs,te⟩,hp⟩:∃ p,e.arms.kids[i]?=some p:=⟨_,zq9 (by rw [TA.kids_length,← HNA.out];exact hlt)⟩
   obtain⟨-,hte⟩:=TAAt.nth e.arms ga oa i vs te hta (by rw [← TA.nth_kids];exact hp)
   obtain⟨op1,num1,site1,xa1,aa1,ab1,xc1,ca1,cb1,hcs,hx1⟩:=hte.cells
   obtain⟨q0,q1,q2,q3,q4,q5,q6,q7⟩:=hcs.kept (zd BW.out)
   have hsum:=sizes_take hp
   have hle:=sizes_take_le (l:=e.arms.kids) (i+1)
   simp only [] at hsum
   have HP:Hid (sizes (e.arms.kids.take (i+1))=sizes (e.arms.kids.take i)+te.size):=hsum
   have CL:=zh (IH.out te (by have:=HSZ.out;have:=HNN.out;omega) (op:=op1) (num:=num1) (site:=site1) (ca:=ca1) (cb:=cb1) (d:=d+1) hx1 BW.out HBB.out HCL.out HFR.out HTL.out (by omega) (by have:=HT.out;have:=HD.out;omega))
   have SUM:Hid (c+1+sizes (e.arms.kids.take i)+te.size≤c+e.size):=by show _≤_;have:=HSZ.out;omega
   clear hlt hta hp hte hcs hx1 hsum hle
   go_wp2_with fail
   refine CL.out.mono ?_
   rintro en w2 ⟨hg2,⟨h1,rfl,h2,h3⟩|⟨h1,rfl⟩⟩
   ·have G2:Hid (w.grownBy w2 (some b)):=grown_trans HG.out hg2 (fun r e=>by simp at e;exact .inl e.symm)
    have O2:Hid (w2.heap[w.heap.size]?=some (.cells #[.int .i64 k,.string nm,.string op,.int .i64 num,.int .i64 site,.slice xa ng xc,.slice (some ⟨ga,oa,none⟩) na ca,.slice ab nb cb] 27 (0,0))):=(hg2.block _ (zq7.1 HO.out).1 (fun e=>by simp at e;have:=BLT.out;omega)).trans HO.out
    have K1:=zh h1
    have K2:=zh h2
    have K3:=zh h3
    clear hg2 h1 h2 h3 z6 z7 q0 q1 q2 q3 q4 q5 q6 q7
    go_wp2_with fail
    go_roundw
    case rel=>exact⟨i+1,t+te.size,HLT.out,by go_num,by have:=HT.out;have:=HP.out;omega,K1.out,K2.out,K3.out,G2.out,O2.out⟩
    case measure=>have:=HLT.out;simp [intOf];omega
   have G2:Hid (w.grownBy w2 (some b)):=grown_trans HG.out hg2 (fun r e=>by simp at e;exact .inl e.symm)
   have E:Hid (20000<c+e.size):=by show _<_;have:=SUM.out;have:=HT.out;omega
   clear hg2 h1 z6 z7 q0 q1 q2 q3 q4 q5 q6 q7
   go_wp2_with fail
   go_ret
   exact⟨G2.out,.inr ⟨E.out,rfl⟩⟩
  have hlz:(na:Int)≤i:=by omega
  have hdi:decide (i<na)=false:=by simp;omega
  have HT2:Hid (t=c+1+sizes e.arms.kids):=by
   show _=_
   rw [HT.out,zr3 (by rw [TA.kids_length,← HNA.out];omega)]
  clear hlt HT
  go_wp2_with fail
  go_loopw [8] (fun iv wr=>∃ i s:Nat,i≤nb∧iv = .int .i64 i∧s=t+sizes ((e.body.kids e.name).take i)∧s≤20000∧wr.cell? ⟨b,0,none⟩=some (.int .i64 (s:Int))∧wr.frozen? ⟨b,0,none⟩=false∧w.grownBy wr (some b)∧wr.heap[w.heap.size]?=some (.cells #[.int .i64 k,.string nm,.string op,.int .i64 num,.int .i64 site,.slice xa ng xc,.slice aa na ca,.slice ab nb cb] 27 (0,0))) (fun iv _=>nb - (intOf iv).toNat)
  case atStart=>exact⟨0,t,zv3 _,rfl,by simp [zw],HTL.out,HCL.out,HFR.out,HG.out,HO.out⟩
  obtain⟨i2,s,hi,rfl,hs,hsl,hcl,hfr,hg,ho⟩:=hrel
  have KI2:=zh hi
  have HS:=zh hs
  have HSL:=zh hsl
  have HCL2:=zh hcl
  have HFR2:=zh hfr
  have HG2:=zh hg
  have HO2:=zh ho
  clear z6 z7
  have z7:wr.cell? ⟨w.heap.size,7,none⟩=some (.slice ab nb cb):=by rw [zb _ _ _ _ _ _ ho];rfl
  have BW2:Hid (Below W.heap.size W wr):=HB.out.grown hg HB.out.size (fun r e=>by simp at e;have:=HBB.out;omega)
  clear hi hs hsl hcl hfr hg ho
  by_cases hlt:i2<nb
  ·have hlz2:(i2:Int)<nb:=by omega
   have hiz:(i2:Int)≤20000:=by have h1:=sizes_len ((e.body.kids e.name).take i2);rw [List.length_take,TB.kids_length,← HNB.out] at h1;have:=HS.out;have:=HSL.out;omega
   have hi0:(0:Int)≤i2:=by omega
   have HLT:=zh hlt
   obtain⟨gb,ob,rfl,htb⟩:=HBO.out (by omega)
   obtain⟨p,hp⟩:∃ p,(e.body.kids e.name)[i2]?=some p:=⟨_,zq9 (by rw [TB.kids_length,← HNB.out];exact hlt)⟩
   obtain⟨te,hn,rfl⟩:∃ te,TB.nth e.body i2=some te∧p=([e.name],te):=by
    rw [TB.nth_kids] at hp
    obtain⟨te,h1,h2⟩:=Option.map_eq_some_iff.1 hp
    exact⟨te,h1,h2.symm⟩
   have hte:=TBAt.nth e.body gb ob i2 te htb hn
   obtain⟨op1,num1,site1,xa1,aa1,ab1,xc1,ca1,cb1,hcs,hx1⟩:=hte.cells
   obtain⟨q0,q1,q2,q3,q4,q5,q6,q7⟩:=hcs.kept (zd BW2.out)
   have hsum:=sizes_take hp
   have hle:=sizes_take_le (l:=e.body.kids e.name) (i2+1)
   simp only [] at hsum
   have HP:Hid (sizes ((e.body.kids e.name).take (i2+1))=sizes ((e.body.kids e.name).take i2)+te.size):=hsum
   have CL:=zh (IH.out te (by have:=HSZ.out;have:=HNN.out;omega) (op:=op1) (num:=num1) (site:=site1) (ca:=ca1) (cb:=cb1) (d:=d+1) hx1 BW2.out HBB.out HCL2.out HFR2.out HSL.out (by omega) (by have:=HS.out;have:=HT2.out;have:=HD.out;omega))
   have SUM:Hid (t+sizes ((e.body.kids e.name).take i2)+te.size≤c+e.size):=by show _≤_;have:=HSZ.out;have:=HT2.out;omega
   clear hlt htb hp hn hte hcs hx1 hsum hle
   go_wp2_with fail
   refine CL.out.mono ?_
   rintro en w2 ⟨hg2,⟨h1,rfl,h2,h3⟩|⟨h1,rfl⟩⟩
   ·have G2:Hid (w.grownBy w2 (some b)):=grown_trans HG2.out hg2 (fun r e=>by simp at e;exact .inl e.symm)
    have O2:Hid (w2.heap[w.heap.size]?=some (.cells #[.int .i64 k,.string nm,.string op,.int .i64 num,.int .i64 site,.slice xa ng xc,.slice aa na ca,.slice (some ⟨gb,ob,none⟩) nb cb] 27 (0,0))):=(hg2.block _ (zq7.1 HO2.out).1 (fun e=>by simp at e;have:=BLT.out;omega)).trans HO2.out
    have K1:=zh h1
    have K2:=zh h2
    have K3:=zh h3
    clear hg2 h1 h2 h3 z7 q0 q1 q2 q3 q4 q5 q6 q7
    go_wp2_with fail
    go_roundw
    case rel=>exact⟨i2+1,s+te.size,HLT.out,by go_num,by have:=HS.out;have:=HP.out;omega,K1.out,K2.out,K3.out,G2.out,O2.out⟩
    case measure=>have:=HLT.out;simp [intOf];omega
   have G2:Hid (w.grownBy w2 (some b)):=grown_trans HG2.out hg2 (fun r e=>by simp at e;exact .inl e.symm)
   have E:Hid (20000<c+e.size):=by show _<_;have:=SUM.out;have:=HS.out;omega
   clear hg2 h1 z7 q0 q1 q2 q3 q4 q5 q6 q7
   go_wp2_with fail
   go_ret
   exact⟨G2.out,.inr ⟨E.out,rfl⟩⟩
  have hlz2:(nb:Int)≤i2:=by omega
  have hdi2:decide (i2<nb)=false:=by simp;omega
  have SE:Hid (s=c+e.size):=by
   show _=_
   have h1:=HS.out
   rw [zr3 (by rw [TB.kids_length,← HNB.out];omega)] at h1
   have:=HT2.out;have:=HSZ.out;omega
  clear hlt
  go_wp2_with fail
  go_ret
  exact⟨HG2.out,.inl ⟨by have:=SE.out;have:=HSL.out;omega,rfl,by rw [← SE.out];exact HCL2.out,HFR2.out⟩⟩
end
section
open Go.RowKit RG Go.Maps RF
def OM (r:Nat):Prop:=2≤r∧r≠9
theorem OM.no0:¬ OM 0:=by unfold OM;omega
structure ByV (w:World) (ρ0:Nat→Nat) (fb:Nat) (st:St) (sc:List (Nm×Nat)) (scv:Value) (bb:Nat) (cells:Array Value) (sv su sn sb sa so:Value) (us ns bs os:List Value) (na no:Nat) (acc:List Nat) (ρ:Nat→Nat) (uv:Value) (W:World):Prop where
 fl:FlV W ρ fb st sv su sn sb sa so us ns bs os na no
 ch:Ch (fun r=>OM r∨r=9) ρ0 ρ w W
 row:RR W ρ 9 3 1 uv acc.length (nats acc)
 scp:ScR W ρ sc scv
 box:W.heap[bb]?=some (.cells cells 27 (0,0))
 boxr:ρ bb=0
section
variable {w:World} {ρ0:Nat→Nat} {fb:Nat} {st:St} {sc:List (Nm×Nat)} {scv:Value} {bb:Nat} {cells:Array Value} {sv su sn sb sa so:Value} {us ns bs os:List Value} {na no:Nat} {acc:List Nat} {ρ:Nat→Nat} {uv:Value} {W:World}
theorem ByV.below (h:ByV w ρ0 fb st sc scv bb cells sv su sn sb sa so us ns bs os na no acc ρ uv W) {V:World}(hb:Below W.heap.size W V):ByV w ρ0 fb st sc scv bb cells sv su sn sb sa so us ns bs os na no acc ρ uv V :=
 have c:Ch (fun _=>False) ρ ρ W V:=Ch.of_below hb h.ch.fresh
 ⟨h.fl.below hb h.ch.fresh,h.ch.trans (c.mono fun _ h=>h.elim),h.row.keep c id,ScR.keep c id h.scp,zm hb h.box,h.boxr⟩
theorem ByV.more (h:ByV w ρ0 fb st sc scv bb cells sv su sn sb sa so us ns bs os na no acc ρ uv W) {V:World} {ρ':Nat→Nat}{v':Value}{n:Nat}(c:Ch (· = 9) ρ ρ' W V) (hr:RR V ρ' 9 3 1 v' (acc.length+1) (nats acc++[.int .i64 (n:Int)])) :
  ByV w ρ0 fb st sc scv bb cells sv su sn sb sa so us ns bs os na no (acc++[n]) ρ' v' V :=
 ⟨h.fl.keep9 c,h.ch.trans (c.mono fun r hr => .inr hr),by rw [zr2,List.length_singleton,nats_append];exact hr,ScR.keep c (by decide) h.scp,c.keep h.box (by rw [h.boxr];decide),(c.keepRole h.box).trans h.boxr⟩
end
structure NdV (w:World) (ρ0:Nat→Nat) (fb:Nat) (st:St) (sc:List (Nm×Nat)) (scv:Value) (bb:Nat) (cells:Array Value) (ρ:Nat→Nat) (W:World):Prop where
 fl:FlR W ρ fb st
 ch:Ch OM ρ0 ρ w W
 nine:∀ k,ρ k≠9
 scp:ScR W ρ sc scv
 box:W.heap[bb]?=some (.cells cells 27 (0,0))
 boxr:ρ bb=0
section
variable {w:World} {ρ0:Nat→Nat} {fb:Nat} {st:St} {sc:List (Nm×Nat)} {scv:Value} {bb:Nat} {cells:Array Value} {ρ:Nat→Nat} {W:World}
theorem FlR.keep (h:FlR W ρ fb st) {M:Nat→Prop} {ρ':Nat→Nat}{V:World}(c:Ch M ρ ρ' W V) (hM:∀ r,M r→r=1):FlR V ρ' fb st:=by
 obtain⟨a,b,c1,d,e,f,g,i,j,k,h⟩:=h
 exact⟨a,b,c1,d,e,f,g,i,j,k,h.keep c hM⟩
theorem FlR.below (h:FlR W ρ fb st) {V:World}(hb:Below W.heap.size W V) (hρ:∀ k,W.heap.size≤k→ρ k=0):FlR V ρ fb st :=
 h.keep (Ch.of_below (M:=fun _=>False) hb hρ) fun _ h=>h.elim
theorem NdV.below (h:NdV w ρ0 fb st sc scv bb cells ρ W) {V:World}(hb:Below W.heap.size W V):NdV w ρ0 fb st sc scv bb cells ρ V :=
 have c:Ch (fun _=>False) ρ ρ W V:=Ch.of_below hb h.ch.fresh
 ⟨h.fl.below hb h.ch.fresh,h.ch.trans (c.mono fun _ h=>h.elim),h.nine,ScR.keep c id h.scp,zm hb h.box,h.boxr⟩
theorem NdV.next (h:NdV w ρ0 fb st sc scv bb cells ρ W) {V:World} {ρ':Nat→Nat}{st':St}(c:Ch OM ρ ρ' W V) (hf:FlR V ρ' fb st') (h9:∀ k,ρ' k≠9):NdV w ρ0 fb st' sc scv bb cells ρ' V :=
 ⟨hf,h.ch.trans c,h9,ScR.keep c OM.no0 h.scp,c.keep h.box (by rw [h.boxr];exact OM.no0),(c.keepRole h.box).trans h.boxr⟩
theorem NdV.low (h:NdV w ρ0 fb st sc scv bb cells ρ W) {X:World}(hB:Below X.heap.size X w) (h0:∀ k,k<X.heap.size→ρ0 k=0):Below X.heap.size X W∧∀ k,k<X.heap.size→ρ k=0 :=
 ⟨hB.trans (h.ch.below hB.size fun k hk=>by rw [h0 k hk];exact OM.no0),fun k hk=>(h.ch.role k (zt5 hk hB.size)).trans (h0 k hk)⟩
theorem BM.om {r:Nat}(h:BM r):OM r:=by unfold BM at h;unfold OM;omega
theorem NdV.link {st1:St}{sv su sn sb sa so:Value}{us ns bs os:List Value}{na no:Nat}(h:NdV w ρ0 fb st1 sc scv bb cells ρ W) (hf:FlV W ρ fb st1 sv su sn sb sa so us ns bs os na no) (hna:na=st1.binds.length) (hno:no=st1.binds.length)
  {i g n c0:Nat} {v':Value} {l:List Nat} {x:Nat} (hi:st1.next[i]?=some l) (hsn:sn = .slice (some ⟨g,0,none⟩) n c0) {V V1:World} (hb:Below W.heap.size W V) {ρ':Nat→Nat} (c:Ch (· = 10+i) ρ ρ' V V1) (hr:RR V1 ρ' (10+i) 3 1 v' (l.length+1) (nats l++[.int .i64 (x:Int)]))
  (hq:∀ q,V.heap.size≤q→ρ' q=0∨ρ' q=10+i) (hx:x=st1.binds.length - 1):NdV w ρ0 fb (st1.link i) sc scv bb cells ρ' (V1.setCell ⟨g,i,none⟩ v'):=by
 obtain⟨f2,c2⟩:=(hf.below hb h.ch.fresh).putLink (v:=v') hi hsn c hr
 have hn:=n9_step c h.nine hq (by omega)
 subst hx
 rw [hna,hno] at f2
 exact(h.below hb).next (c2.mono fun r hr=>by unfold OM;omega) ⟨sv,su,sn,sb,sa,so,us,_,bs,os,f2⟩ hn
end
theorem mem_take_more {l:List Nat}{j n y:Nat}(h:l[j]?=some y):decide (n∈l.take (j+1))=(decide (n∈l.take j)||decide (y=n)):=by
 rw [List.take_add_one,h,Bool.eq_iff_iff,Bool.or_eq_true,decide_eq_true_eq,decide_eq_true_eq,decide_eq_true_eq,List.mem_append]
 refine or_congr Iff.rfl ?_
 show n∈[y]↔_
 rw [List.mem_singleton]
 exact eq_comm
def ByP (w:World) (ρ:Nat→Nat) (fb:Nat) (r:Option St) (e:Ending) (w':World):Prop :=
 ∃ ρ',Ch OM ρ ρ' w w'∧(∀ k,ρ' k≠9)∧e = .returned (.bool r.isSome)∧∀ st',r=some st'→FlR w' ρ' fb st'
end
end Go.Proofs.YtnkahlloahgifaaGreatDoor
