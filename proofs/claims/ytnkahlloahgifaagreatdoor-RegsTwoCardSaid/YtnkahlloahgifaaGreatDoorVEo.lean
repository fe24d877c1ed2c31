/- Part. -/
import Derived.Test.YtnkahlloahgifaaGreatDoorVEg
import Derived.Test.YtnkahlloahgifaaGreatDoorVEj
import Derived.Test.YtnkahlloahgifaaGreatDoorVDf
set_option linter.unusedSimpArgs false
set_option linter.unusedVariables false
namespace Go.Proofs.YtnkahlloahgifaaGreatDoor
open Go.RowKit RG Go.Maps RF
theorem modR_any (w:World) (n m:Int) (hn : -9223372036854775808≤n∧n≤9223372036854775807) (h0:0<m) (hm:m<4000000000000000000) :
  Calls Tryz.prog 22 #[.int .i64 n,.int .i64 m] w fun e w'=>e = .returned (.int .i64 (n % m))∧w'=w:=by
 have hb : -m<n.tmod m∧n.tmod m<m:=by
  have h1:=Int.tmod_lt_of_pos n h0
  have h2:=Int.lt_tmod_of_pos n h0
  omega
 have e1:n % m=if n.tmod m<0 then n.tmod m+m else n.tmod m:=by
  have h1:=Int.emod_eq_tmod (a:=n) (b:=m)
  have h2:=Int.emod_nonneg n (show m≠0 by omega)
  have h3:=Int.emod_lt_of_pos n h0
  have h4:(m.natAbs:Int)=m:=by omega
  by_cases hneg:n.tmod m<0
  ·rw [if_pos hneg]
   split at h1<;>omega
  ·rw [if_neg hneg]
   split at h1<;>omega
 by_cases hneg:n.tmod m<0
 ·rw [e1,if_pos hneg]
  go_enter Tryz.func22,Tryz.ntmps22
  go_wp2
  go_ret
  exact⟨rfl,rfl⟩
 ·rw [e1,if_neg hneg]
  go_enter Tryz.func22,Tryz.ntmps22
  go_wp2
  go_ret
  exact⟨rfl,rfl⟩
def vrCells (l:List (Nm×Int)):List Value:=l.flatMap fun m=>[.string m.1,.int .i64 m.2]
theorem vrCells_append (a b:List (Nm×Int)):vrCells (a++b)=vrCells a++vrCells b:=by unfold vrCells;rw [List.flatMap_append]
theorem vrCells_at:∀ (l:List (Nm×Int)) (i:Nat) (m:Nm×Int),l[i]?=some m→(vrCells l)[i*2]?=some (.string m.1)∧(vrCells l)[i*2+1]?=some (.int .i64 m.2)
 | [],i,m,h=>by simp at h
 | a :: l,0,m,h=>by
  simp at h
  subst h
  exact⟨rfl,rfl⟩
 | a :: l,i+1,m,h=>by
  rw [List.getElem?_cons_succ] at h
  have:=vrCells_at l i m h
  rw [show (i+1)*2=i*2+1+1 from by omega]
  exact this
def VrOwn (w:World) (base:Nat) (v:Value) (l:List (Nm×Int)):Prop:=w.ownsRow base 61 2 v l.length (vrCells l)
theorem VrOwn.block {w:World}{base:Nat}{v:Value}{l:List (Nm×Int)}(h:VrOwn w base v l) (h0:0<l.length):∃ (g cap:Nat) (cur:Array Value),v = .slice (some ⟨g,0,none⟩) l.length cap∧base≤g∧w.heap[g]?=some (.cells cur 61 (0,0)) ∧
  ∀ (i:Nat) m,l[i]?=some m→cur[i*2]?=some (.string m.1)∧cur[i*2+1]?=some (.int .i64 m.2):=by
 obtain⟨h1,h2⟩:=h
 rcases h2 with ⟨rfl,hz⟩|⟨g,cap,cur,rfl,hb,hg,k1,k2,k3,k4⟩
 ·omega
 ·refine⟨g,cap,cur,rfl,hb,hg,fun i m hi=>?_⟩
  have hl:=(zq8.1 hi).1
  obtain⟨a,b⟩:=vrCells_at l i m hi
  constructor
  ·rw [← Array.getElem?_toList,← List.getElem?_take_of_lt (show i*2<l.length*2 by omega),k4];exact a
  ·rw [← Array.getElem?_toList,← List.getElem?_take_of_lt (show i*2+1<l.length*2 by omega),k4];exact b
theorem VrOwn.vars {w:World}{base:Nat}{v:Value}{l:List (Nm×Int)}(h:VrOwn w base v l) (h0:0<l.length):VarsAt w v l:=by
 obtain⟨g,cap,cur,rfl,-,hg,hat⟩:=h.block h0
 refine⟨some ⟨g,0,none⟩,cap,rfl,fun _=>⟨g,0,rfl,fun i m hi=>?_⟩⟩
 obtain⟨a,b⟩:=hat i m hi
 rw [Nat.zero_add]
 exact⟨by rw [cell_of_row _ _ _ _ _ _ hg];exact a,by rw [cell_of_row _ _ _ _ _ _ hg];exact b⟩
theorem ident_take {F:List Nd}{j:Nat}{x:Nm}(h:(vars F)[j]?=some x):(ident F).take (j+1)=(ident F).take j++[(x,(j:Int))]:=by
 rw [List.take_add_one]
 congr 1
 unfold ident
 rw [List.getElem?_mapIdx,h];rfl
theorem ident_length (F:List Nd):(ident F).length=(vars F).length:=by unfold ident;rw [List.length_mapIdx]
theorem vars_set {w:World}{g cap k:Nat}{cur:Array Value}{l:List (Nm×Int)}{y:Nm}{r i:Int}(hg:w.heap[g]?=some (.cells cur 61 (0,0))) (hc:∀ (i:Nat) m,l[i]?=some m→cur[i*2]?=some (.string m.1)∧cur[i*2+1]?=some (.int .i64 m.2)) (hk:l[k]?=some (y,r)) :
  VarsAt (w.setCell ⟨g,k*2+1,none⟩ (.int .i64 i)) (.slice (some ⟨g,0,none⟩) l.length cap) (l.set k (y,i)):=by
 have hkl:=(zq8.1 hk).1
 have h1:=heap_setCell_same w g (k*2+1) cur 61 (.int .i64 i) hg
 refine⟨some ⟨g,0,none⟩,cap,by rw [List.length_set],fun _=>⟨g,0,rfl,fun q m hq=>?_⟩⟩
 rw [Nat.zero_add]
 have hcz:k*2+1<cur.size:=(zq7.1 (hc k _ hk).2).1
 rw [cell_of_row _ _ _ _ _ _ h1,cell_of_row _ _ _ _ _ _ h1]
 by_cases e:q=k
 ·subst e
  rw [List.getElem?_set_self hkl,Option.some.injEq] at hq
  subst hq
  constructor
  ·rw [Array.getElem?_setIfInBounds_ne (by omega)];exact(hc q _ hk).1
  ·rw [Array.getElem?_setIfInBounds_self_of_lt hcz]
 ·rw [List.getElem?_set_ne (fun h=>e h.symm)] at hq
  obtain⟨a,b⟩:=hc q m hq
  exact⟨by rw [Array.getElem?_setIfInBounds_ne (by omega)];exact a,by rw [Array.getElem?_setIfInBounds_ne (by omega)];exact b⟩
set_option maxHeartbeats 8000000 in
set_option maxRecDepth 20000 in
theorem two_walk {w:World}(hE:Lx.Env w) {v:Value}{ps:List Nm}{e:TE}(h:FnOk Lx.Env isNm w v ps e) {n0 n1:Int}(hn0 : -9223372036854775808≤n0∧n0≤9223372036854775807) (hn1 : -9223372036854775808≤n1∧n1≤9223372036854775807):Calls Tryz.prog 12 #[v,.agg #[.int .i64 n0,.int .i64 n1]] w (SnP w):=by
 have HK:=zh h
 have HN0:=zh hn0
 have HN1:=zh hn1
 obtain⟨nm,op,ch,pv,va,num,site,aa,ab,ca,cb,ga,oa,gb,ob,rfl,hp,hat,-⟩:=h.val
 obtain⟨xa,xc,rfl,-⟩:=id hat.at'
 obtain⟨pa,pc,rfl,-⟩:=id hp.at'
 clear h hp hat hn0 hn1
 obtain⟨np,hnp⟩:∃ n,n=ps.length:=⟨_,rfl⟩
 obtain⟨na,hna⟩:∃ n,n=e.args.length:=⟨_,rfl⟩
 obtain⟨nc,hnc⟩:∃ n,n=e.arms.length:=⟨_,rfl⟩
 obtain⟨nb,hnb⟩:∃ n,n=e.body.length:=⟨_,rfl⟩
 obtain⟨ek,hek⟩:∃ n,n=e.kind:=⟨_,rfl⟩
 obtain⟨en0,hen⟩:∃ n,n=e.name:=⟨_,rfl⟩
 rw [← hnp,← hna,← hnc,← hnb,← hek,← hen] at HK ⊢
 have HNP:=zh hnp
 clear hnp hna hnc hnb hek hen
 have B0:Hid (Below w.heap.size w ((w.alloc (.cells #[.string nm,.bool ch,.slice pa np pc,.int .i64 ek,.string en0,.string op,.int .i64 num,.int .i64 site,.slice xa na xc,.slice aa nc ca,.slice ab nb cb] 29)).alloc (.cells #[.int .i64 n0,.int .i64 n1] 89))):=((Below.refl _ _).alloc (zr4 _) _).alloc (by simp) _
 have SN:Hid (Calls Tryz.prog 14 #[] ((w.alloc (.cells #[.string nm,.bool ch,.slice pa np pc,.int .i64 ek,.string en0,.string op,.int .i64 num,.int .i64 site,.slice xa na xc,.slice aa nc ca,.slice ab nb cb] 29)).alloc (.cells #[.int .i64 n0,.int .i64 n1] 89)) (SnP ((w.alloc (.cells #[.string nm,.bool ch,.slice pa np pc,.int .i64 ek,.string en0,.string op,.int .i64 num,.int .i64 site,.slice xa na xc,.slice aa nc ca,.slice ab nb cb] 29)).alloc (.cells #[.int .i64 n0,.int .i64 n1] 89)))):=sane_any (HK.out.law.keep _ _ _ (HK.out.law.size _ HK.out.env) HK.out.env B0.out)
 have O0:Hid (((w.alloc (.cells #[.string nm,.bool ch,.slice pa np pc,.int .i64 ek,.string en0,.string op,.int .i64 num,.int .i64 site,.slice xa na xc,.slice aa nc ca,.slice ab nb cb] 29)).alloc (.cells #[.int .i64 n0,.int .i64 n1] 89)).heap[w.heap.size]?=some (.cells #[.string nm,.bool ch,.slice pa np pc,.int .i64 ek,.string en0,.string op,.int .i64 num,.int .i64 site,.slice xa na xc,.slice aa nc ca,.slice ab nb cb] 29 (0,0))):=(Below.heap_alloc _ _ _ (by simp)).trans (heap_alloc_new w _)
 have P0:Hid (((w.alloc (.cells #[.string nm,.bool ch,.slice pa np pc,.int .i64 ek,.string en0,.string op,.int .i64 num,.int .i64 site,.slice xa na xc,.slice aa nc ca,.slice ab nb cb] 29)).alloc (.cells #[.int .i64 n0,.int .i64 n1] 89)).heap[w.heap.size+1]?=some (.cells #[.int .i64 n0,.int .i64 n1] 89 (0,0))):=by
  have:=heap_alloc_new (w.alloc (.cells #[.string nm,.bool ch,.slice pa np pc,.int .i64 ek,.string en0,.string op,.int .i64 num,.int .i64 site,.slice xa na xc,.slice aa nc ca,.slice ab nb cb] 29)) (.cells #[.int .i64 n0,.int .i64 n1] 89)
  rw [World.size_alloc] at this
  exact this
 clear hE
 go_enter Tryz.func12,Tryz.ntmps12
 go_wp2_with fail
 refine SN.out.mono ?_
 rintro en w1 ⟨rfl,hb⟩
 have B1:Hid (Below w.heap.size w w1):=B0.out.trans (hb.mono B0.out.size)
 have O1:=zh ((hb.block _ (by simp;omega)).trans O0.out)
 have P1:=zh ((hb.block _ (by simp)).trans P0.out)
 have L1:Hid (w.heap.size+2≤w1.heap.size):=by have:=hb.size;simp at this;exact this
 have SM:=zh (small_any (HK.out.keep B1.out).val)
 obtain⟨q0,q1,q2,q3,q4,q5,q6,q7,q8,q9,q10⟩:=box11 O1.out
 clear hb SN O0 P0 B0
 go_wp2_with fail
 refine SM.out.mono ?_
 rintro en w2 ⟨hb,b,rfl,hs1,-⟩
 have B2:Hid (Below w.heap.size w w2):=B1.out.trans (hb.mono B1.out.size)
 have O2:=zh ((hb.block _ (by have:=L1.out;omega)).trans O1.out)
 have P2:=zh ((hb.block _ (by have:=L1.out;omega)).trans P1.out)
 have L2:Hid (w.heap.size+2≤w2.heap.size):=zr5 L1.out hb.size
 have S1:=zh hs1
 clear q0 q1 q2 q3 q4 q5 q6 q7 q8 q9 q10 hb hs1 SM
 cases b
 ·go_wp2_with fail
  go_ret
  exact⟨rfl,B2.out⟩
 have BD:=zh (bound_any (HK.out.keep B2.out))
 obtain⟨q0,q1,q2,q3,q4,q5,q6,q7,q8,q9,q10⟩:=box11 O2.out
 go_wp2_with fail
 refine BD.out.mono ?_
 rintro en w3 ⟨hb,⟨hg,lv,rfl,hlv⟩|⟨-,rfl⟩⟩
 rotate_left
 ·have B3:Hid (Below w.heap.size w w3):=B2.out.trans (hb.mono B2.out.size)
  clear q0 q1 q2 q3 q4 q5 q6 q7 q8 q9 q10 hb BD
  go_wp2_with fail
  go_ret
  exact⟨rfl,B3.out⟩
 have B3:Hid (Below w.heap.size w w3):=B2.out.trans (hb.mono B2.out.size)
 have O3:=zh ((hb.block _ (by have:=L2.out;omega)).trans O2.out)
 have P3:=zh ((hb.block _ (by have:=L2.out;omega)).trans P2.out)
 have L3:Hid (w.heap.size+2≤w3.heap.size):=zr5 L2.out hb.size
 have HG:=zh hg
 have SZ:=zh (S1.out (by trivial) hg)
 have FO:=zh (good_fo hg)
 have VEN:Hid ((vars (F0 ps e)).length≤300):=SZ.out.2
 obtain⟨la,lc,rfl,hlat⟩:=hlv.cells
 have LAT0:=zh hlat
 obtain⟨nv,hnv⟩:∃ n,n=(vars (F0 ps e)).length:=⟨_,rfl⟩
 rw [← hnv]
 rw [← hnv] at LAT0 VEN
 have HNV:=zh hnv
 have nvz:(nv:Int)≤300:=by have:=VEN.out;omega
 clear q0 q1 q2 q3 q4 q5 q6 q7 q8 q9 q10 hb hg hlv hlat hnv BD
 by_cases h2:nv<2
 ·have d2:decide ((nv:Int)<2)=true:=by simp;omega
  clear h2
  go_wp2_with fail
  go_ret
  exact⟨rfl,B3.out⟩
 have d2:decide ((nv:Int)<2)=false:=by simp;omega
 have NV2:Hid (2≤nv):=by show _≤_;omega
 have nv2:(2:Int)≤nv:=by omega
 obtain⟨lg,lo,rfl,lat⟩:=LAT0.out (by omega)
 have LAT:=zh lat
 have LGL:Hid (lg<w3.heap.size):=by
  obtain⟨x,hx⟩:∃ x,(vars (F0 ps e))[0]?=some x:=⟨_,zq9 (by have:=HNV.out;omega)⟩
  exact World.block_lt_of_cell? w3 _ (lat 0 x hx)
 have p0:w3.cell? ⟨w.heap.size+1,0,none⟩=some (.int .i64 n0):=by rw [cell_of_row _ _ 0 _ _ _ P3.out];rfl
 have p1:w3.cell? ⟨w.heap.size+1,1,none⟩=some (.int .i64 n1):=by rw [cell_of_row _ _ 1 _ _ _ P3.out];rfl
 obtain⟨i,hi⟩:∃ i:Nat,n0 % ((nv:Int) - 1)=i:=⟨(n0 % ((nv:Int) - 1)).toNat,by have:=Int.emod_nonneg n0 (show (nv:Int) - 1≠0 by omega);omega⟩
 have hil:(i:Int)<(nv:Int) - 1:=by rw [← hi];exact Int.emod_lt_of_pos _ (by omega)
 obtain⟨j,hj⟩:∃ j:Nat,n1 % ((nv:Int) - 1 - i)=j:=⟨(n1 % ((nv:Int) - 1 - i)).toNat,by have:=Int.emod_nonneg n1 (show (nv:Int) - 1 - i≠0 by omega);omega⟩
 have hjl:(j:Int)<(nv:Int) - 1 - i:=by rw [← hj];exact Int.emod_lt_of_pos _ (by omega)
 have M1:=zh (modR_any w3 n0 ((nv:Int) - 1) HN0.out (by omega) (by omega))
 have M2:=zh (modR_any w3 n1 ((nv:Int) - 1 - i) HN1.out (by omega) (by omega))
 rw [hi] at M1
 rw [hj] at M2
 have IJ:Hid (i<nv∧i<i+1+j∧i+1+j<nv):=by show _∧_∧_;omega
 obtain⟨k,hk⟩:∃ k,k=i+1+j:=⟨_,rfl⟩
 have hkz:((i:Int)+1+(j:Int))=(k:Int):=by omega
 have IK:Hid (i<nv∧i<k∧k<nv):=by have:=IJ.out;show _∧_∧_;omega
 have hk0:(0:Int)≤k:=by omega
 have hkl:(k:Int)<nv:=by omega
 have hi0:(0:Int)≤i:=by omega
 have hil2:(i:Int)<nv:=by omega
 clear h2 lat hi hj LAT0 hk IJ
 go_wp2_with fail
 refine M1.out.mono ?_
 rintro en w' ⟨rfl,hw⟩
 rw [hw]
 clear hw
 go_wp2_with fail
 refine M2.out.mono ?_
 rintro en w' ⟨rfl,hw⟩
 rw [hw]
 clear hw
 clear p0 p1 M1 M2
 go_upto_region 10 with fail
 clear hkz hil hjl
 obtain⟨w4,hw4⟩:∃ W,W=w3.alloc (.cells #[.int .i64 nv,.slice none 0 0] 56):=⟨_,rfl⟩
 rw [← hw4]
 have N4:Hid (w4.heap[w3.heap.size]?=some (.cells #[.int .i64 nv,.slice none 0 0] 56 (0,0))):=by show _=_;rw [hw4];exact heap_alloc_new w3 _
 have N4L:Hid (w3.heap.size<w4.heap.size):=by show _<_;rw [hw4];simp
 have K34:Hid (Below w3.heap.size w3 w4):=by show Below _ _ _;rw [hw4];exact(Below.refl _ _).alloc (zr4 _) _
 clear hw4
 obtain⟨ab',hab⟩:∃ b,b=w3.heap.size:=⟨_,rfl⟩
 have HAB:=zh hab
 rw [← hab] at N4 N4L LGL ⊢
 clear hab
 obtain⟨i61,p1,p2,p3,p4⟩:=info_parts Tryz.info61
 have HI:=zh (And.intro p1 (And.intro p2 (And.intro p3 p4)))
 clear p1 p2 p3 p4
 go_wp2_with fail
 go_loopw [11] (fun iv wr=>∃ t:Nat,t≤nv∧iv = .int .i64 t∧∃ v,wr.heap[ab']?=some (.cells #[.int .i64 nv,v] 56 (0,0))∧World.ownsRow wr (ab'+1) 61 2 v t (vrCells ((ident (F0 ps e)).take t))∧Below ab' w3 wr∧ab'+1≤wr.heap.size) (fun iv _=>nv - (intOf iv).toNat)
 case atStart=>exact⟨0,Nat.zero_le _,rfl,_,N4.out,World.ownsRow_nil _ _ _ _,by rw [HAB.out];exact K34.out,N4L.out⟩
 case round =>
  rename World=>V
  obtain⟨t,ht,rfl,v,hcell,hown,hb,hsz⟩:=hrel
  have KT:=zh ht
  have KC:=zh hcell
  have KO:=zh hown
  have KB:=zh hb
  have KS:=zh hsz
  obtain⟨ra,rc,hov⟩:=own_sliceI hown
  subst hov
  clear ht hcell hown hb hsz
  have KL:Hid (w3.heap.size≤V.heap.size):=KB.out.size
  have z0:V.cell? ⟨ab',1,none⟩=some (.slice ra t rc):=by rw [cell_of_row _ _ 1 _ _ _ KC.out];rfl
  by_cases hlt:t<nv
  ·have htz:(t:Int)<nv:=by omega
   have ht0:(0:Int)≤t:=by omega
   have TLT:=zh hlt
   obtain⟨x,hx⟩:∃ x,(vars (F0 ps e))[t]?=some x:=⟨_,zq9 (by have:=HNV.out;omega)⟩
   have HX:=zh hx
   have KBw:Hid (Below w3.heap.size w3 V):=by have:=KB.out;rw [HAB.out] at this;exact this
   have z1:=zd KBw.out _ _ (LAT.out t x hx)
   have hfg:ab'≠lg:=by have:=LGL.out;omega
   have B1x:Hid (Below V.heap.size V ((V.alloc (Obj.cells #[.string x,.int .i64 t] 61)).drew)):=((Below.refl _ _).alloc (zr4 _) _).drew
   have BA:Hid (Below ab' w3 ((V.alloc (Obj.cells #[.string x,.int .i64 t] 61)).drew)):=KB.out.trans (B1x.out.mono (by have:=KS.out;omega))
   have OX:Hid (World.ownsRow ((V.alloc (Obj.cells #[.string x,.int .i64 t] 61)).drew) (ab'+1) 61 2 (.slice ra t rc) t (vrCells ((ident (F0 ps e)).take t))):=owns_keep2 KO.out fun q hq=>B1x.out.block q (World.ownsRow.lt KO.out q hq).2
   have X1:Hid (((V.alloc (Obj.cells #[.string x,.int .i64 t] 61)).drew).heap[V.heap.size]?=some (.cells #[.string x,.int .i64 t] 61 (0,0))):=heap_alloc_new V _
   have NW:Hid (∀ (q:Nat) (u:Value),[Value.string x,Value.int .i64 t][q]?=some u→((V.alloc (Obj.cells #[.string x,.int .i64 t] 61)).drew).cell? ((⟨V.heap.size,0,none⟩:Addr).add q)=some u):=fun q u hu=>by
    rw [Addr.add_lit,cell_of_row _ _ _ _ _ _ X1.out,Nat.zero_add]
    rw [← Array.getElem?_toList];exact hu
   have NB:Hid (t+1≤maxLen∧(t+1)*24≤140737488355328):=by have:=TLT.out;have:=VEN.out;show _∧_;simp only [maxLen];omega
   have z0':((V.alloc (Obj.cells #[.string x,.int .i64 t] 61)).drew).cell? ⟨ab',1,none⟩=some (.slice ra t rc):=zd B1x.out _ _ z0
   have z0'':(V.drew.alloc (Obj.cells #[.string x,.int .i64 t] 61)).cell? ⟨ab',1,none⟩=some (.slice ra t rc):=z0'
   clear hlt hx
   go_wp2_with fail
   refine wp_region_held_drew (S:=(fun w'=>w'.cell? ⟨lg,lo+t,none⟩=some (.string x))) (by kernel_rfl) z1 (fun hHeld=>?_)
   have k0:=hHeld
   refine wpAnyH_take (i:=0) (v:=?_) rfl (by kernel_rfl) (by kernel_rfl) (by kernel_rfl) (fun _ _ _ h=>h) (Or.inl ⟨by rfl,?_⟩) k0 ?_
   rotate_left
   ·(intro wz hSw;have zk0:=hSw;(try simp only [zq1,zq2,zq3]);go_simp;try with_reducible rfl)
   try simp only [Act.put,zq1,zq2,zq3,zq4,zq5,zq6]
   refine wpAnyH_take (i:=2) (v:=?_) rfl (by kernel_rfl) (by kernel_rfl) (by kernel_rfl) (fun _ _ _ h=>h) (Or.inl ⟨by rfl,?_⟩) k0 ?_
   rotate_left
   ·(intro wz hSw;have zk0:=hSw;(try simp only [zq1,zq2,zq3]);go_simp;try with_reducible rfl)
   try simp only [Act.put,zq1,zq2,zq3,zq4,zq5,zq6]
   refine wpAnyH_take (i:=3) (v:=?_) rfl (by kernel_rfl) (by kernel_rfl) (by kernel_rfl) (fun _ _ _ h=>h) (Or.inl ⟨by rfl,?_⟩) k0 ?_
   rotate_left
   ·(intro wz hSw;have zk0:=hSw;(try simp only [zq1,zq2,zq3]);go_simp;try with_reducible rfl)
   try simp only [Act.put,zq1,zq2,zq3,zq4,zq5,zq6]
   refine wpAnyH_take (i:=4) (v:=?_) rfl (by kernel_rfl) (by kernel_rfl) (by kernel_rfl) (fun _ _ _ h=>h) (Or.inl ⟨by rfl,?_⟩) k0 ?_
   rotate_left
   ·(intro wz hSw;have zk0:=hSw;(try simp only [zq1,zq2,zq3]);go_simp;try with_reducible rfl)
   try simp only [Act.put,zq1,zq2,zq3,zq4,zq5,zq6]
   refine wpAnyH_take (i:=5) (v:=?_) rfl (by kernel_rfl) (by kernel_rfl) (by kernel_rfl) (fun _ _ _ h=>h) (Or.inl ⟨by rfl,?_⟩) k0 ?_
   rotate_left
   ·(intro wz hSw;have zk0:=hSw;(try simp only [zq1,zq2,zq3]);go_simp;try with_reducible rfl)
   try simp only [Act.put,zq1,zq2,zq3,zq4,zq5,zq6]
   refine wpAnyH_take (i:=6) (v:=?_) rfl (by kernel_rfl) (by kernel_rfl) (by kernel_rfl) (fun _ _ _ h=>h) (Or.inl ⟨by rfl,?_⟩) k0 ?_
   rotate_left
   ·(intro wz hSw;have zk0:=hSw;(try simp only [zq1,zq2,zq3]);go_simp;try with_reducible rfl)
   try simp only [Act.put,zq1,zq2,zq3,zq4,zq5,zq6]
   refine wpAnyH_take (i:=7) (v:=?_) rfl (by kernel_rfl) (by kernel_rfl) (by kernel_rfl) (fun _ _ _ h=>h) (Or.inl ⟨by rfl,?_⟩) k0 ?_
   rotate_left
   ·(intro wz hSw;have zk0:=hSw;(try simp only [zq1,zq2,zq3]);go_simp;try with_reducible rfl)
   try simp only [Act.put,zq1,zq2,zq3,zq4,zq5,zq6]
   refine wpAnyH_ready (rs:=[1,8]) (by kernel_rfl) (by simp) ?_
   refine AllReadyH.cons rfl (fun K hK=>?_) (AllReadyH.cons rfl (fun K hK=>?_) AllReadyH.nil)
   ·try simp only [zq1,zq2,zq3]
    go_simp
    refine hK.out _ _ ?hs (fun hHeld=>?_)
    case hs=>exact k0
    clear hK K k0
    have k0:=hHeld
    try simp only [Act.put,zq1,zq2,zq3,zq4,zq5,zq6]
    refine wpAnyH_ready (rs:=[8]) (by kernel_rfl) (by simp) ?_
    refine AllReadyH.cons rfl (fun K hK=>?_) AllReadyH.nil
    try simp only [zq1,zq2,zq3]
    go_simp
    refine hK.out _ _ ?hs (fun hHeld=>?_)
    case hs=>first | exact Lib.cell?_alloc_some _ k0 | go_keep
    clear hK K k0
    have k0:=hHeld
    try simp only [Act.put,zq1,zq2,zq3,zq4,zq5,zq6]
    refine wpAnyH_ready (rs:=[9]) (by kernel_rfl) (by simp) ?_
    refine AllReadyH.cons rfl (fun K hK=>?_) AllReadyH.nil
    refine step_append_own rfl _ _ 54 rfl (ab'+1) 61 i61 (.agg #[.string ⟨#[]⟩,.int .i64 0]) 2 24 Tryz.underlying54 HI.out.1 HI.out.2.1 HI.out.2.2.1 HI.out.2.2.2 rfl (by decide) (.slice ra t rc) t (vrCells ((ident (F0 ps e)).take t)) rfl OX.out ⟨V.heap.size,0,none⟩ 1 1 [.string x,.int .i64 t] rfl rfl NW.out (fun u hu=>by simp at hu;rcases hu with rfl | rfl<;>rfl) NB.out.1 NB.out.2 (by have:=KS.out;have:=B1x.out.size;omega) ?_
    intro v4 w4' hown hg
    obtain⟨a4,c4,hv4⟩:=own_sliceI hown
    subst hv4
    have H4:=zh hown
    have G4:=zh hg
    have B4:Hid (Below ab' w3 w4'):=BA.out.grown hg (by have:=BA.out.size;have:=HAB.out;omega) (fun q e=>by have:=(OX.out.lt q e).1;omega)
    have t1:w4'.cell? ⟨lg,lo+t,none⟩=some (.string x):=by have h:=B4.out;rw [HAB.out] at h;exact zd h _ _ (LAT.out t x HX.out)
    have y0:=(hg.block ab' (by have:=KS.out;have:=B1x.out.size;omega) (fun e=>by have:=(OX.out.lt _ e.symm).1;omega)).trans ((B1x.out.block ab' (by have:=KS.out;omega)).trans KC.out)
    have Y0:=zh y0
    have t0:w4'.cell? ⟨ab',1,none⟩=some (.slice ra t rc):=by rw [cell_of_row _ _ 1 _ _ _ y0];rfl
    have t3:w4'.frozen? ⟨ab',1,none⟩=false:=frozen_of_row _ _ 1 _ _ y0
    clear hown hg y0
    (try simp only [])
    refine hK.out _ _ ?hs (fun hHeld=>?_)
    case hs=>exact t1
    clear hK K k0
    have k0:=hHeld
    try simp only [Act.put,zq1,zq2,zq3,zq4,zq5,zq6]
    refine wpAnyH_take (i:=10) (v:=?_) rfl (by kernel_rfl) (by kernel_rfl) (by kernel_rfl) (fun _ _ _ h=>h) (Or.inl ⟨by rfl,?_⟩) k0 ?_
    rotate_left
    ·(intro wz hSw;have zk0:=hSw;(try simp only [zq1,zq2,zq3]);go_simp;try with_reducible rfl)
    try simp only [Act.put,zq1,zq2,zq3,zq4,zq5,zq6]
    refine wpAnyH_ready (rs:=[11]) (by kernel_rfl) (by simp) ?_
    refine AllReadyH.cons rfl (fun K hK=>?_) AllReadyH.nil
    try simp only [zq1,zq2,zq3]
    go_simp
    refine hK.out _ _ ?hs (fun hHeld=>?_)
    case hs=>first | assumption | (rw [World.cell?_setCell_far _ _ _ _ hfg];assumption)
    clear hK K hHeld k0
    refine wpAnyH_done (by kernel_rfl) ?_ _
    obtain⟨V6,hV6⟩:∃ W,W=w4'.setCell ⟨ab',1,none⟩ (.slice a4 (t+1) c4):=⟨_,rfl⟩
    try rw [← hV6]
    have C6:Hid (V6.heap[ab']?=some (.cells #[.int .i64 nv,.slice a4 (t+1) c4] 56 (0,0))):=by show _=_;rw [hV6];exact heap_setCell_same _ _ 1 _ _ _ Y0.out
    have O6:Hid (World.ownsRow V6 (ab'+1) 61 2 (.slice a4 (t+1) c4) (t+1) (vrCells ((ident (F0 ps e)).take (t+1)))):=by
     show World.ownsRow _ _ _ _ _ _ _
     rw [ident_take HX.out,vrCells_append,hV6]
     exact owns_keep2 H4.out fun q hq=>Below.heap_setCell _ _ _ _ (by have:=(H4.out.lt q hq).1;show q≠ab';omega)
    have B6:Hid (Below ab' w3 V6):=by show Below _ _ _;rw [hV6];exact B4.out.setCell (zr4 _) _
    have S6:Hid (ab'+1≤V6.heap.size):=by have:=(zq7.1 C6.out).1;exact this
    clear H4 G4 B4 Y0 OX NW X1 t0 t1 t3 z0 z0' z0'' z1 hV6
    go_wp2_with fail
    go_roundw
    case rel=>exact⟨t+1,TLT.out,by go_num,_,C6.out,O6.out,B6.out,S6.out⟩
    case measure=>have:=TLT.out;simp [intOf];omega
   ·try simp only [zq1,zq2,zq3]
    go_simp
    refine hK.out _ _ ?hs (fun hHeld=>?_)
    case hs=>first | exact Lib.cell?_alloc_some _ k0 | go_keep
    clear hK K k0
    have k0:=hHeld
    try simp only [Act.put,zq1,zq2,zq3,zq4,zq5,zq6]
    refine wpAnyH_ready (rs:=[1]) (by kernel_rfl) (by simp) ?_
    refine AllReadyH.cons rfl (fun K hK=>?_) AllReadyH.nil
    try simp only [zq1,zq2,zq3]
    go_simp
    refine hK.out _ _ ?hs (fun hHeld=>?_)
    case hs=>exact k0
    clear hK K k0
    have k0:=hHeld
    try simp only [Act.put,zq1,zq2,zq3,zq4,zq5,zq6]
    refine wpAnyH_ready (rs:=[9]) (by kernel_rfl) (by simp) ?_
    refine AllReadyH.cons rfl (fun K hK=>?_) AllReadyH.nil
    refine step_append_own rfl _ _ 54 rfl (ab'+1) 61 i61 (.agg #[.string ⟨#[]⟩,.int .i64 0]) 2 24 Tryz.underlying54 HI.out.1 HI.out.2.1 HI.out.2.2.1 HI.out.2.2.2 rfl (by decide) (.slice ra t rc) t (vrCells ((ident (F0 ps e)).take t)) rfl OX.out ⟨V.heap.size,0,none⟩ 1 1 [.string x,.int .i64 t] rfl rfl NW.out (fun u hu=>by simp at hu;rcases hu with rfl | rfl<;>rfl) NB.out.1 NB.out.2 (by have:=KS.out;have:=B1x.out.size;omega) ?_
    intro v4 w4' hown hg
    obtain⟨a4,c4,hv4⟩:=own_sliceI hown
    subst hv4
    have H4:=zh hown
    have G4:=zh hg
    have B4:Hid (Below ab' w3 w4'):=BA.out.grown hg (by have:=BA.out.size;have:=HAB.out;omega) (fun q e=>by have:=(OX.out.lt q e).1;omega)
    have t1:w4'.cell? ⟨lg,lo+t,none⟩=some (.string x):=by have h:=B4.out;rw [HAB.out] at h;exact zd h _ _ (LAT.out t x HX.out)
    have y0:=(hg.block ab' (by have:=KS.out;have:=B1x.out.size;omega) (fun e=>by have:=(OX.out.lt _ e.symm).1;omega)).trans ((B1x.out.block ab' (by have:=KS.out;omega)).trans KC.out)
    have Y0:=zh y0
    have t0:w4'.cell? ⟨ab',1,none⟩=some (.slice ra t rc):=by rw [cell_of_row _ _ 1 _ _ _ y0];rfl
    have t3:w4'.frozen? ⟨ab',1,none⟩=false:=frozen_of_row _ _ 1 _ _ y0
    clear hown hg y0
    (try simp only [])
    refine hK.out _ _ ?hs (fun hHeld=>?_)
    case hs=>exact t1
    clear hK K k0
    have k0:=hHeld
    try simp only [Act.put,zq1,zq2,zq3,zq4,zq5,zq6]
    refine wpAnyH_take (i:=10) (v:=?_) rfl (by kernel_rfl) (by kernel_rfl) (by kernel_rfl) (fun _ _ _ h=>h) (Or.inl ⟨by rfl,?_⟩) k0 ?_
    rotate_left
    ·(intro wz hSw;have zk0:=hSw;(try simp only [zq1,zq2,zq3]);go_simp;try with_reducible rfl)
    try simp only [Act.put,zq1,zq2,zq3,zq4,zq5,zq6]
    refine wpAnyH_ready (rs:=[11]) (by kernel_rfl) (by simp) ?_
    refine AllReadyH.cons rfl (fun K hK=>?_) AllReadyH.nil
    try simp only [zq1,zq2,zq3]
    go_simp
    refine hK.out _ _ ?hs (fun hHeld=>?_)
    case hs=>first | assumption | (rw [World.cell?_setCell_far _ _ _ _ hfg];assumption)
    clear hK K hHeld k0
    refine wpAnyH_done (by kernel_rfl) ?_ _
    obtain⟨V6,hV6⟩:∃ W,W=w4'.setCell ⟨ab',1,none⟩ (.slice a4 (t+1) c4):=⟨_,rfl⟩
    try rw [← hV6]
    have C6:Hid (V6.heap[ab']?=some (.cells #[.int .i64 nv,.slice a4 (t+1) c4] 56 (0,0))):=by show _=_;rw [hV6];exact heap_setCell_same _ _ 1 _ _ _ Y0.out
    have O6:Hid (World.ownsRow V6 (ab'+1) 61 2 (.slice a4 (t+1) c4) (t+1) (vrCells ((ident (F0 ps e)).take (t+1)))):=by
     show World.ownsRow _ _ _ _ _ _ _
     rw [ident_take HX.out,vrCells_append,hV6]
     exact owns_keep2 H4.out fun q hq=>Below.heap_setCell _ _ _ _ (by have:=(H4.out.lt q hq).1;show q≠ab';omega)
    have B6:Hid (Below ab' w3 V6):=by show Below _ _ _;rw [hV6];exact B4.out.setCell (zr4 _) _
    have S6:Hid (ab'+1≤V6.heap.size):=by have:=(zq7.1 C6.out).1;exact this
    clear H4 G4 B4 Y0 OX NW X1 t0 t1 t3 z0 z0' z0'' z1 hV6
    go_wp2_with fail
    go_roundw
    case rel=>exact⟨t+1,TLT.out,by go_num,_,C6.out,O6.out,B6.out,S6.out⟩
    case measure=>have:=TLT.out;simp [intOf];omega
  ·have htz:(nv:Int)≤t:=by omega
   have hdt:decide (t<nv)=false:=by simp;omega
   have htn:t=nv:=by have:=KT.out;omega
   subst htn
   clear hlt
   have IDL:Hid ((ident (F0 ps e)).length=t):=by show _=_;rw [ident_length,HNV.out]
   have VO:VrOwn V (ab'+1) (.slice ra t rc) (ident (F0 ps e)):=by
    unfold VrOwn
    rw [IDL.out]
    have:=KO.out
    rw [zr3 (by rw [IDL.out];exact zr4 _)] at this
    exact this
   have VV0:=zh (VO.vars (by rw [IDL.out];have:=NV2.out;omega))
   obtain⟨g,cap,cur,hs,hbg,hcur,hcat⟩:=VO.block (by rw [IDL.out];have:=NV2.out;omega)
   rw [IDL.out] at hs
   simp only [Value.slice.injEq,true_and] at hs
   obtain⟨rfl,rfl⟩:=hs
   have CUR:=zh hcur
   have CAT:=zh hcat
   have GB:=zh hbg
   have hb:Below w3.heap.size w3 V:=by have:=KB.out;rw [HAB.out] at this;exact this
   have BV:Hid (Below w.heap.size w V):=B3.out.trans (hb.mono B3.out.size)
   have OV:Hid (V.heap[w.heap.size]?=some (.cells #[.string nm,.bool ch,.slice pa np pc,.int .i64 ek,.string en0,.string op,.int .i64 num,.int .i64 site,.slice xa na xc,.slice aa nc ca,.slice ab nb cb] 29 (0,0))):=(hb.block _ (by have:=L3.out;omega)).trans O3.out
   have PV:Hid (V.heap[w.heap.size+1]?=some (.cells #[.int .i64 n0,.int .i64 n1] 89 (0,0))):=(hb.block _ (by have:=L3.out;omega)).trans P3.out
   have LV:Hid (w.heap.size+2≤V.heap.size):=zr5 L3.out hb.size
   have KB3V:=zh hb
   have ABW:Hid (w.heap.size+2≤ab'):=by have:=L3.out;have:=HAB.out;show _≤_;omega
   have b0:V.cell? ⟨ab',0,none⟩=some (.int .i64 t):=by rw [cell_of_row _ _ 0 _ _ _ KC.out];rfl
   have CK:=zh (check_any (HK.out.keep BV.out) (regs:=(t:Nat)) VV0.out)
   have RT:Hid (right (F0 ps e) ps.length ((t:Nat):Int) (ident (F0 ps e))=true):=by
    show _=_
    have h1:=ident_right FO.out (params:=ps.length) (by have:=VEN.out;have:=HNV.out;omega)
    rw [← HNV.out] at h1
    exact h1
   clear hcur hcat hbg hb VO KO
   obtain⟨q0,q1,q2,q3,q4,q5,q6,q7,q8,q9,q10⟩:=box11 OV.out
   go_wp2_with fail
   refine CK.out.mono ?_
   rintro en w5 ⟨hb,⟨-,rfl⟩|⟨hng,-⟩⟩
   rotate_left
   ·exact absurd HG.out hng
   rw [RT.out,if_pos rfl]
   have B5:Hid (Below w.heap.size w w5):=BV.out.trans (hb.mono BV.out.size)
   have O5:=zh ((hb.block _ (by have:=LV.out;omega)).trans OV.out)
   have P5:=zh ((hb.block _ (by have:=LV.out;omega)).trans PV.out)
   have L5:Hid (w.heap.size+2≤w5.heap.size):=zr5 LV.out hb.size
   have C5:Hid (w5.heap[ab']?=some (.cells #[.int .i64 t,.slice (some ⟨g,0,none⟩) t rc] 56 (0,0))):=(hb.block _ (zq7.1 KC.out).1).trans KC.out
   have G5:Hid (w5.heap[g]?=some (.cells cur 61 (0,0))):=(hb.block _ (zq7.1 CUR.out).1).trans CUR.out
   have KB35:Hid (Below w3.heap.size w3 w5):=KB3V.out.trans (hb.mono KB3V.out.size)
   clear q0 q1 q2 q3 q4 q5 q6 q7 q8 q9 q10 hb b0 z0 CK RT VV0
   have e1:w5.cell? ⟨ab',1,none⟩=some (.slice (some ⟨g,0,none⟩) t rc):=by rw [cell_of_row _ _ 1 _ _ _ C5.out];rfl
   obtain⟨x,hx⟩:∃ x,(vars (F0 ps e))[i]?=some x:=⟨_,zq9 (by have:=IK.out;have:=HNV.out;omega)⟩
   obtain⟨y,hy⟩:∃ y,(vars (F0 ps e))[k]?=some y:=⟨_,zq9 (by have:=IK.out;have:=HNV.out;omega)⟩
   have HX:=zh hx
   have HY:=zh hy
   have idk:(ident (F0 ps e))[k]?=some (y,(k:Int)):=by unfold ident;rw [List.getElem?_mapIdx,hy];rfl
   have IDK:=zh idk
   have e2:w5.cell? ⟨g,k*2+1,none⟩=some (.int .i64 k):=by rw [cell_of_row _ _ _ _ _ _ G5.out];exact(CAT.out k _ idk).2
   have e3:w5.frozen? ⟨g,k*2+1,none⟩=false:=frozen_of_row _ _ _ _ _ G5.out
   clear hx hy idk
   go_upto_region 17 with fail
   obtain⟨w6,hw6⟩:∃ W,W=w5.setCell ⟨g,k*2+1,none⟩ (.int .i64 i):=⟨_,rfl⟩
   rw [← hw6]
   have V6:Hid (VarsAt w6 (.slice (some ⟨g,0,none⟩) t rc) ((ident (F0 ps e)).set k (y,(i:Int)))):=by
    have h1:=vars_set (i:=(i:Int)) (cap:=rc) G5.out CAT.out IDK.out
    rw [IDL.out] at h1
    show VarsAt _ _ _
    rw [hw6];exact h1
   have B6:Hid (Below w.heap.size w w6):=by show Below _ _ _;rw [hw6];exact B5.out.setCell (by have:=GB.out;have:=ABW.out;show w.heap.size≤g;omega) _
   have O6:Hid (w6.heap[w.heap.size]?=some (.cells #[.string nm,.bool ch,.slice pa np pc,.int .i64 ek,.string en0,.string op,.int .i64 num,.int .i64 site,.slice xa na xc,.slice aa nc ca,.slice ab nb cb] 29 (0,0))):=by show _=_;rw [hw6];exact(Below.heap_setCell _ _ _ _ (by have:=GB.out;have:=ABW.out;show w.heap.size≠g;omega)).trans O5.out
   have L6:Hid (w.heap.size+2≤w6.heap.size):=by have:=L5.out;show _≤_;rw [hw6];simpa using this
   have C6:Hid (w6.heap[ab']?=some (.cells #[.int .i64 t,.slice (some ⟨g,0,none⟩) t rc] 56 (0,0))):=by show _=_;rw [hw6];exact(Below.heap_setCell _ _ _ _ (by have:=GB.out;show ab'≠g;omega)).trans C5.out
   have KB36:Hid (Below w3.heap.size w3 w6):=by show Below _ _ _;rw [hw6];exact KB35.out.setCell (by have:=GB.out;have:=HAB.out;show w3.heap.size≤g;omega) _
   have xcell:=zd KB36.out _ _ (LAT.out i x HX.out)
   have ycell:=zd KB36.out _ _ (LAT.out k y HY.out)
   have XV:=zh (zr1 HX.out)
   have YV:=zh (zr1 HY.out)
   have NSZ:Hid (∀ z∈vars (F0 ps e),z.size≤maxLen):=fun z hz=>by
    obtain⟨d,hd,hz⟩:=List.mem_flatMap.1 hz
    exact(HK.out.sz d hd).1 z hz
   have CF:Hid (∀ W,Below w6.heap.size w6 W→Calls Tryz.prog 21 #[.agg #[.string nm,.bool ch,.slice pa np pc,.int .i64 ek,.string en0,.string op,.int .i64 num,.int .i64 site,.slice xa na xc,.slice aa nc ca,.slice ab nb cb],.string x,.string y] W (fun en w'=>en = .returned (.tuple #[.bool (conflict (F0 ps e) x y),.int .i64 0])∧Below W.heap.size W w')):=fun W hW=>by
    refine(conflict_any (HK.out.keep (B6.out.trans (hW.mono B6.out.size))) x y (NSZ.out x XV.out) (NSZ.out y YV.out)).mono ?_
    rintro en w' ⟨hb',⟨-,-,-,rfl⟩|⟨-,ho,-⟩|⟨hg,-⟩⟩
    ·exact⟨rfl,hb'⟩
    ·exact absurd ho (by simp [XV.out,YV.out])
    ·exact absurd HG.out hg
   have TWO:Hid (right (F0 ps e) ps.length ((t:Nat):Int) ((ident (F0 ps e)).set k (y,(i:Int)))=(!(conflict (F0 ps e) x y)&&decide (ps.length≤k))):=by
    show _=_
    have h1:=two_right FO.out (params:=ps.length) (by have:=VEN.out;have:=HNV.out;omega) HX.out HY.out IK.out.2.1
    rw [← HNV.out] at h1
    exact h1
   obtain⟨cf,hcf⟩:∃ b,b=conflict (F0 ps e) x y:=⟨_,rfl⟩
   rw [← hcf] at CF TWO
   have IDL2:Hid (((ident (F0 ps e)).set k (y,(i:Int))).length=t):=by show _=_;rw [List.length_set];exact IDL.out
   clear hw6 e1 e2 e3 hcf C5 G5 KB35
   obtain⟨q0,q1,q2,q3,q4,q5,q6,q7,q8,q9,q10⟩:=box11 O6.out
   go_region_held3 (fun w'=>w'.cell? ⟨w.heap.size,0,none⟩=some (.string nm)∧w'.cell? ⟨w.heap.size,1,none⟩=some (.bool ch)∧w'.cell? ⟨w.heap.size,2,none⟩=some (.slice pa np pc)∧w'.cell? ⟨w.heap.size,3,none⟩=some (.int .i64 ek)∧w'.cell? ⟨w.heap.size,4,none⟩=some (.string en0)∧w'.cell? ⟨w.heap.size,5,none⟩=some (.string op)∧w'.cell? ⟨w.heap.size,6,none⟩=some (.int .i64 num)∧w'.cell? ⟨w.heap.size,7,none⟩=some (.int .i64 site)∧w'.cell? ⟨w.heap.size,8,none⟩=some (.slice xa na xc)∧w'.cell? ⟨w.heap.size,9,none⟩=some (.slice aa nc ca)∧w'.cell? ⟨w.heap.size,10,none⟩=some (.slice ab nb cb)∧w'.cell? ⟨lg,lo+i,none⟩=some (.string x)∧w'.cell? ⟨lg,lo+k,none⟩=some (.string y)) ((go_split_ands;(refine⟨?_,?_,?_,?_,?_,?_,?_,?_,?_,?_,?_,?_,?_⟩<;>(first | assumption | exact zd hb9 _ _ (by assumption))))) ((go_at_call 21;refine(CF.out _ ((Below.refl _ _).drew)).mono ?_;rintro e9 w9 ⟨rfl,hb9⟩))
   all_goals
    have hb:Below w6.heap.size w6 w9:=(Below.refl _ _).drew.trans hb9
    have B9:Hid (Below w.heap.size w w9):=B6.out.trans (hb.mono B6.out.size)
    have O9:=zh ((hb.block _ (by have:=L6.out;omega)).trans O6.out)
    have L9:Hid (w.heap.size+2≤w9.heap.size):=zr5 L6.out hb.size
    have C9:Hid (w9.heap[ab']?=some (.cells #[.int .i64 t,.slice (some ⟨g,0,none⟩) t rc] 56 (0,0))):=(hb.block _ (zq7.1 C6.out).1).trans C6.out
    have CK:=zh (check_any (HK.out.keep B9.out) (regs:=(t:Nat)) (V6.out.kept (zd hb)))
    clear q0 q1 q2 q3 q4 q5 q6 q7 q8 q9 q10 hb hb9 xcell ycell
    obtain⟨q0,q1,q2,q3,q4,q5,q6,q7,q8,q9,q10⟩:=box11 O9.out
    have c0:w9.cell? ⟨ab',0,none⟩=some (.int .i64 t):=by rw [cell_of_row _ _ 0 _ _ _ C9.out];rfl
    have c1:w9.cell? ⟨ab',1,none⟩=some (.slice (some ⟨g,0,none⟩) t rc):=by rw [cell_of_row _ _ 1 _ _ _ C9.out];rfl
    go_wp2_with fail
    refine CK.out.mono ?_
    rintro en w10 ⟨hb,⟨-,rfl⟩|⟨hng,-⟩⟩
    rotate_left
    ·exact absurd HG.out hng
    rw [TWO.out]
    have B10:Hid (Below w.heap.size w w10):=B9.out.trans (hb.mono B9.out.size)
    have O10:=zh ((hb.block _ (by have:=L9.out;omega)).trans O9.out)
    clear q0 q1 q2 q3 q4 q5 q6 q7 q8 q9 q10 hb c0 c1 CK
    have r2:w10.cell? ⟨w.heap.size,2,none⟩=some (.slice pa np pc):=by rw [cell_of_row _ _ 2 _ _ _ O10.out];rfl
    by_cases hpk:np≤k
    ·have dp:decide (ps.length≤k)=true:=by have:=HNP.out;simp;omega
     have dk:decide ((np:Int)≤k)=true:=by simp;omega
     have dk2:decide (np≤k)=true:=by simp;omega
     rw [dp]
     clear hpk dp
     cases cf
     ·rw [show (if (!false&&true)=true then (0:Int) else 161)=0 from rfl]
      go_wp2_with fail
      go_ret
      exact⟨rfl,B10.out⟩
     ·rw [show (if (!true&&true)=true then (0:Int) else 161)=161 from rfl]
      go_wp2_with fail
      go_ret
      exact⟨rfl,B10.out⟩
    ·have dp:decide (ps.length≤k)=false:=by have:=HNP.out;simp;omega
     have dk:decide ((np:Int)≤k)=false:=by simp;omega
     have dk2:decide (np≤k)=false:=by simp;omega
     rw [dp]
     clear hpk dp
     cases cf
     ·rw [show (if (!false&&false)=true then (0:Int) else 161)=161 from rfl]
      go_wp2_with fail
      go_ret
      exact⟨rfl,B10.out⟩
     ·rw [show (if (!true&&false)=true then (0:Int) else 161)=161 from rfl]
      go_wp2_with fail
      go_ret
      exact⟨rfl,B10.out⟩
end Go.Proofs.YtnkahlloahgifaaGreatDoor
