/- Part. -/
import Derived.Test.YtnkahlloahgifaaGreatDoorVLxE
set_option maxHeartbeats 16000000
set_option maxRecDepth 100000
set_option linter.unusedSimpArgs false
set_option linter.unusedVariables false
namespace Go.Proofs.YtnkahlloahgifaaGreatDoor
open Go.RowKit RG Go.Maps
theorem fields61:Tryz.prog.underlying 61=some (.struct (Tryz.prog.fieldsOf 61)):=by kernel_rfl
theorem stood61:Tryz.prog.stoodInHeld 61=false:=by kernel_rfl
theorem list61:(Tryz.prog.fieldsOf 61).toList.map (fun f=>(f.name,f.type,f.offset))=[("Name",9,0),("Reg",3,1)]:=by kernel_rfl
theorem eq61 (x y:Nm) (r s:Int) (m:World):(Op.equalIn 10000 61 (.agg #[.string x,.int .i64 r]) (.agg #[.string y,.int .i64 s])).run Tryz.prog m = .ok ((x.toList==y.toList)&&(r==s)) m:=by
 rw [run_equalIn_agg m 9999 61 _ _ fields61 stood61]
 have h:=list61
 cases hf:(Tryz.prog.fieldsOf 61).toList with
 | nil=>rw [hf] at h;cases h
 | cons f1 fs =>
  rw [hf] at h
  cases fs with
  | nil=>simp at h
  | cons f2 fs =>
   simp only [List.map_cons,List.cons.injEq,Prod.mk.injEq,List.map_eq_nil_iff] at h
   obtain⟨⟨n1,t1,o1⟩,⟨n2,t2,o2⟩,rfl⟩:=h
   have p1:(part 9 #[Value.string x,.int .i64 r] 0).run Tryz.prog m = .ok (.string x) m:=by kernel_rfl
   have p2:(part 9 #[Value.string y,.int .i64 s] 0).run Tryz.prog m = .ok (.string y) m:=by kernel_rfl
   have p3:(part 3 #[Value.string x,.int .i64 r] 1).run Tryz.prog m = .ok (.int .i64 r) m:=by kernel_rfl
   have p4:(part 3 #[Value.string y,.int .i64 s] 1).run Tryz.prog m = .ok (.int .i64 s) m:=by kernel_rfl
   have e1:=run_equalIn_string (P:=Tryz.prog) m 9998 9 x y Tryz.underlying9
   have e2:=run_equalIn_int (P:=Tryz.prog) m 9998 3 .i64 .i64 r s Tryz.underlying3
   have d1:f1.name ≠ "_" := by rw [n1];decide
   have d2:f2.name ≠ "_" := by rw [n2];decide
   simp only [Op.eqFields,if_pos d1,if_pos d2,t1,t2,o1,o2,Sem.run_bind,p1,p2,p3,p4,Result.andThen_ok,e1,e2]
   cases h1:(x.toList==y.toList)<;>cases h2:(r==s)<;>simp [Sem.run_ite,Sem.run_bind,p3,p4,Result.andThen_ok,e2,h2]
theorem pair_beq (a b:Nm×Int):((a.1.toList==b.1.toList)&&(a.2==b.2))=decide (a=b):=by
 rw [bytes_beq,Bool.eq_iff_iff,Bool.and_eq_true,decide_eq_true_eq,decide_eq_true_eq,beq_iff_eq]
 constructor
 ·rintro ⟨h1,h2⟩;exact Prod.ext h1 h2
 rintro rfl;exact⟨rfl,rfl⟩
theorem sameAlloc_any {w:World}{n0 n1:Int}{v u:Value}{a b:List (Nm×Int)}(ha:VarsAt w v a) (hb:VarsAt w u b) (hl:a.length≤1000000000000) :
  Calls Tryz.prog 30 #[.agg #[.int .i64 n0,v],.agg #[.int .i64 n1,u]] w fun en w'=>Below w.heap.size w w'∧en = .returned (.bool (decide (n0=n1)&&decide (a=b))):=by
 obtain⟨aa,ac,rfl,hat⟩:=ha
 obtain⟨ba,bc,rfl,hbt⟩:=hb
 have HAT:=zh hat
 have HBT:=zh hbt
 obtain⟨n,hn⟩:∃ n,n=a.length:=⟨_,rfl⟩
 obtain⟨m,hm⟩:∃ m,m=b.length:=⟨_,rfl⟩
 rw [← hn] at hl ⊢
 rw [← hm]
 have HN:=zh hn
 have HM:=zh hm
 have hnz:(n:Int)≤1000000000000:=by omega
 have B0:Hid (Below w.heap.size w ((w.alloc (.cells #[.int .i64 n0,.slice aa n ac] 56)).alloc (.cells #[.int .i64 n1,.slice ba m bc] 56))):=((zs9 _ _).alloc (zr4 _) _).alloc (by simp) _
 have O0:Hid (((w.alloc (.cells #[.int .i64 n0,.slice aa n ac] 56)).alloc (.cells #[.int .i64 n1,.slice ba m bc] 56)).heap[w.heap.size]?=some (.cells #[.int .i64 n0,.slice aa n ac] 56 (0,0))):=(zt2 _ _ _ (by simp)).trans (zs2 w _)
 have P0:Hid (((w.alloc (.cells #[.int .i64 n0,.slice aa n ac] 56)).alloc (.cells #[.int .i64 n1,.slice ba m bc] 56)).heap[w.heap.size+1]?=some (.cells #[.int .i64 n1,.slice ba m bc] 56 (0,0))):=by
  have:=zs2 (w.alloc (.cells #[.int .i64 n0,.slice aa n ac] 56)) (.cells #[.int .i64 n1,.slice ba m bc] 56)
  rw [World.size_alloc] at this
  exact this
 clear hat hbt hn hm hl
 by_cases h0:n0=n1
 ·have e0:(n0 != n1)=false:=by simp [h0]
  have D0:Hid (decide (n0=n1)=true):=by show _=_;simp [h0]
  rw [D0.out,Bool.true_and]
  clear h0
  by_cases h1:n=m
  ·have e1:((n:Int) != (m:Int))=false:=by simp [h1]
   have e1':(n != m)=false:=by simp [h1]
   have HNM:=zh h1
   clear h1
   go_enter Tryz.func30,Tryz.ntmps30
   go_upto_region 1 with fail
   obtain⟨w1,hw1⟩:∃ W,W=(w.alloc (.cells #[.int .i64 n0,.slice aa n ac] 56)).alloc (.cells #[.int .i64 n1,.slice ba m bc] 56):=⟨_,rfl⟩
   rw [← hw1] at O0 P0 B0 ⊢
   have K1:Hid (w.heap.size+2≤w1.heap.size):=by show _≤_;rw [hw1];simp
   have f0:w1.cell? ⟨w.heap.size,0,none⟩=some (.int .i64 n0):=by rw [zb _ _ 0 _ _ _ O0.out];rfl
   have f1:w1.cell? ⟨w.heap.size,1,none⟩=some (.slice aa n ac):=by rw [zb _ _ 1 _ _ _ O0.out];rfl
   have g0:w1.cell? ⟨w.heap.size+1,0,none⟩=some (.int .i64 n1):=by rw [zb _ _ 0 _ _ _ P0.out];rfl
   have g1:w1.cell? ⟨w.heap.size+1,1,none⟩=some (.slice ba m bc):=by rw [zb _ _ 1 _ _ _ P0.out];rfl
   clear hw1
   go_wp2_with fail
   clear f0 f1 g0 g1
   go_loopw [5] (fun iv wr=>∃ k:Nat,k≤n∧iv = .int .i64 k∧Below w1.heap.size w1 wr∧(∀ j,j<k→a[j]?=b[j]?)) (fun iv _=>n - (intOf iv).toNat)
   case atStart=>exact⟨0,Nat.zero_le _,rfl,zs9 _ _,fun j hj=>absurd hj (Nat.not_lt_zero _)⟩
   obtain⟨k,hk,rfl,hb,hq⟩:=hrel
   have HK:=zh hk
   have HB:=zh hb
   have HQ:=zh hq
   have BW:Hid (Below w.heap.size w wr):=B0.out.trans (hb.mono B0.out.size)
   have f1:wr.cell? ⟨w.heap.size,1,none⟩=some (.slice aa n ac):=by rw [zb _ _ 1 _ _ _ ((hb.block _ (by have:=K1.out;omega)).trans O0.out)];rfl
   have g1:wr.cell? ⟨w.heap.size+1,1,none⟩=some (.slice ba m bc):=by rw [zb _ _ 1 _ _ _ ((hb.block _ (by have:=K1.out;omega)).trans P0.out)];rfl
   clear hk hb hq
   by_cases hlt:k<n
   ·have hlz:(k:Int)<n:=by omega
    have hlm:(k:Int)<m:=by have:=HNM.out;omega
    have hk0:(0:Int)≤k:=by omega
    have HLT:=zh hlt
    obtain⟨g,o,rfl,hat⟩:=HAT.out (by have:=HN.out;omega)
    obtain⟨g2,o2,rfl,hbt⟩:=HBT.out (by have:=HM.out;have:=HNM.out;omega)
    obtain⟨⟨x,r⟩,hx⟩:∃ m,a[k]?=some m:=⟨_,zq9 (by have:=HN.out;omega)⟩
    obtain⟨⟨y,s⟩,hy⟩:∃ m,b[k]?=some m:=⟨_,zq9 (by have:=HM.out;have:=HNM.out;omega)⟩
    obtain⟨y0,y1⟩:=hat k _ hx
    obtain⟨z0,z1⟩:=hbt k _ hy
    have y0:=zd BW.out _ _ y0
    have y1:=zd BW.out _ _ y1
    have z0:=zd BW.out _ _ z0
    have z1:=zd BW.out _ _ z1
    simp only [] at y0 y1 z0 z1
    have HX:=zh hx
    have HY:=zh hy
    have q61:=eq61 x y r s
    have PB:=zh (pair_beq (x,r) (y,s))
    simp only [] at PB
    obtain⟨d,hd⟩:∃ d,d=((x.toList==y.toList)&&(r==s)):=⟨_,rfl⟩
    rw [← hd] at q61 PB
    clear hlt hat hbt hx hy hd
    cases d with
    | true =>
     have NX:Hid (∀ j,j<k+1→a[j]?=b[j]?):=fun j hj=>by
      by_cases e:j=k
      ·subst e
       rw [HX.out,HY.out]
       have:=PB.out
       simp at this
       rw [this.1,this.2]
      exact HQ.out j (by omega)
     go_upto_region 6 with fail
     go_quiet (fail)
     go_wp2_with fail
     go_roundw
     case rel=>exact⟨k+1,HLT.out,by go_num,HB.out.trans (zj _ _ _),NX.out⟩
     case measure=>have:=HLT.out;simp [intOf];omega
    | false =>
     have ND:Hid (decide (a=b)=false):=by
      show _=_
      rw [decide_eq_false_iff_not]
      intro e
      have h1:=HX.out
      rw [e,HY.out] at h1
      have:=PB.out
      simp at this h1
      exact this h1.1.symm h1.2.symm
     go_upto_region 6 with fail
     go_quiet (fail)
     go_wp2_with fail
     go_ret
     exact⟨BW.out.trans (zj _ _ _),by rw [ND.out];rfl⟩
   obtain rfl:k=n:=by have:=HK.out;omega
   have hdi:decide (k<k)=false:=by simp
   have ED:Hid (decide (a=b)=true):=by
    show _=_
    rw [decide_eq_true_eq]
    refine List.ext_getElem? fun i=>?_
    by_cases hi:i<k
    ·exact HQ.out i hi
    rw [List.getElem?_eq_none (by have:=HN.out;omega),List.getElem?_eq_none (by have:=HM.out;have:=HNM.out;omega)]
   clear hlt
   go_wp2_with fail
   go_ret
   exact⟨BW.out,by rw [ED.out];rfl⟩
  have e1:((n:Int) != (m:Int))=true:=by simp;omega
  have e1':(n != m)=true:=by simp;omega
  have ND:Hid (decide (a=b)=false):=by
   show _=_
   rw [decide_eq_false_iff_not]
   rintro rfl
   exact h1 (HN.out.trans HM.out.symm)
  clear h1
  go_enter Tryz.func30,Tryz.ntmps30
  go_upto_region 1 with fail
  obtain⟨w1,hw1⟩:∃ W,W=(w.alloc (.cells #[.int .i64 n0,.slice aa n ac] 56)).alloc (.cells #[.int .i64 n1,.slice ba m bc] 56):=⟨_,rfl⟩
  rw [← hw1] at O0 P0 B0 ⊢
  have f0:w1.cell? ⟨w.heap.size,0,none⟩=some (.int .i64 n0):=by rw [zb _ _ 0 _ _ _ O0.out];rfl
  have f1:w1.cell? ⟨w.heap.size,1,none⟩=some (.slice aa n ac):=by rw [zb _ _ 1 _ _ _ O0.out];rfl
  have g0:w1.cell? ⟨w.heap.size+1,0,none⟩=some (.int .i64 n1):=by rw [zb _ _ 0 _ _ _ P0.out];rfl
  have g1:w1.cell? ⟨w.heap.size+1,1,none⟩=some (.slice ba m bc):=by rw [zb _ _ 1 _ _ _ P0.out];rfl
  clear hw1
  go_wp2_with fail
  go_ret
  exact⟨B0.out,by rw [ND.out];rfl⟩
 have e0:(n0 != n1)=true:=by simp [h0]
 have D0:Hid (decide (n0=n1)=false):=by show _=_;simp [h0]
 rw [D0.out,Bool.false_and]
 clear h0
 go_enter Tryz.func30,Tryz.ntmps30
 go_upto_region 1 with fail
 obtain⟨w1,hw1⟩:∃ W,W=(w.alloc (.cells #[.int .i64 n0,.slice aa n ac] 56)).alloc (.cells #[.int .i64 n1,.slice ba m bc] 56):=⟨_,rfl⟩
 rw [← hw1] at O0 P0 B0 ⊢
 have f0:w1.cell? ⟨w.heap.size,0,none⟩=some (.int .i64 n0):=by rw [zb _ _ 0 _ _ _ O0.out];rfl
 have f1:w1.cell? ⟨w.heap.size,1,none⟩=some (.slice aa n ac):=by rw [zb _ _ 1 _ _ _ O0.out];rfl
 have g0:w1.cell? ⟨w.heap.size+1,0,none⟩=some (.int .i64 n1):=by rw [zb _ _ 0 _ _ _ P0.out];rfl
 have g1:w1.cell? ⟨w.heap.size+1,1,none⟩=some (.slice ba m bc):=by rw [zb _ _ 1 _ _ _ P0.out];rfl
 clear hw1
 go_wp2_with fail
 go_ret
 exact⟨B0.out,rfl⟩
end Go.Proofs.YtnkahlloahgifaaGreatDoor
