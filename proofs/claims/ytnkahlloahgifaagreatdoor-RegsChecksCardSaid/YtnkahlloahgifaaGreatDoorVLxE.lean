/- Part. -/
import Derived.Test.YtnkahlloahgifaaGreatDoorVZ
import Derived.Lib.LazyBuf
import Derived.Deep.OwnRows
import Derived.Deep.RegionLaw
import Derived.Lib.SliceRun
import Derived.Laws.OwnMore
import Derived.Laws.Cover1
import Derived.Shelf.Strings.Builder1
import Derived.Shelf.Strings.Builder2
import Derived.Shelf.Small.Bits
import Derived.Shelf.Small.Strs
import Derived.Shelf.Small.Wraps
import Derived.Shelf.Strings.BuilderF
import Derived.Shelf.Strings.BuilderK
import Derived.Shelf.Utf8.RuneCount
import Derived.Shelf.Strconv.Atoi
import Derived.Shelf.Strconv.Itoa0
import Derived.Shelf.Strconv.Itoa1
import Derived.Shelf.LaysM
import Derived.Shelf.Strconv.Itoa2
import Derived.Shelf.Strconv.Itoa3
import Derived.Shelf.Strconv.AtoiErrFast
import Derived.Shelf.Strconv.ParseIntEmpty
import Derived.Shelf.Strconv.AtoiFail
import Derived.Shelf.Strconv.Clone
import Derived.Shelf.Strconv.SyntaxError
import Derived.Shelf.LaysC
import Derived.Shelf.Strconv.ToError
import Derived.Shelf.Strconv.Lower
import Derived.Shelf.Strconv.ParseUint10
import Derived.Shelf.Strconv.ParseUint10Empty
import Derived.Shelf.Strconv.ParseUint10Any
import Derived.Shelf.Strconv.ParseInt10
import Derived.Shelf.Strconv.AtoiLong
import Derived.Shelf.Strconv.AtoiInnerAll
import Derived.Shelf.Strconv.RangeError
import Derived.Shelf.Strconv.ToErrorRange
import Derived.Shelf.Strconv.AtoiAll
import Derived.Shelf.Strconv.ErrVarAll
import Derived.Shelf.Strings.Search1
import Derived.Shelf.Strings.Search2
import Derived.Shelf.Strings.Search3
import Derived.Shelf.Strings.Count
import Derived.Shelf.Strings.Shaped
import Derived.Shelf.Sort.Plain
import Derived.Shelf.Strings.Prefix
import Derived.Shelf.Strings.Split
import Derived.Shelf.Strings.Replace
import Derived.Shelf.Strings.SplitShaped
import Derived.Shelf.Unicode.Decode
import Derived.Shelf.Strings.RuneCount
import Derived.Shelf.Unicode.DecodeSlow
import Derived.Shelf.Unicode.DecodeAny
import Derived.Shelf.Slices.Turned
import Derived.Ground.Names2Prog
import Derived.Shelf.Slices.SearchI
import Derived.WalkSmall
import Derived.Deep.DeepAppendWide
import Derived.Deep.RegionWith
set_option maxHeartbeats 16000000
set_option maxRecDepth 100000
set_option linter.unusedSimpArgs false
set_option linter.unusedVariables false
namespace Go.Proofs.YtnkahlloahgifaaGreatDoor
open Go.RowKit RG Go.Maps
def TFunV (w:World) (v:Value) (ps:List Nm) (e:TE):Prop :=
 ∃ (nm op:ByteArray) (ch:Bool) (pv va:Value) (num site:Int) (aa ab:Option Addr) (ca cb ga oa gb ob:Nat),
  v = .agg #[.string nm,.bool ch,pv,.int .i64 e.kind,.string e.name,.string op,.int .i64 num,.int .i64 site,va,.slice aa e.arms.length ca,.slice ab e.body.length cb] ∧
   ParamsAt w pv ps∧AtomsAt w va e.args∧(0<e.arms.length→aa=some ⟨ga,oa,none⟩)∧TAAt w e.arms ga oa∧(0<e.body.length→ab=some ⟨gb,ob,none⟩)∧TBAt w e.body gb ob
theorem ParamsAt.kept {w w':World}{v:Value}{ns:List Nm}(h:ParamsAt w v ns) (hb:Kept w w'):ParamsAt w' v ns:=by
 obtain⟨ad,c,h1,h2⟩:=h.at'
 refine⟨ad,c,h1,fun h0=>?_⟩
 obtain⟨g,o,e,h3⟩:=h2 h0
 exact⟨g,o,e,fun i n hi=>by obtain⟨m,a,b⟩:=h3 i n hi;exact⟨m,hb _ _ a,hb _ _ b⟩⟩
theorem TFunV.kept {w w':World}{v:Value}{ps:List Nm}{e:TE}(h:TFunV w v ps e) (hb:Kept w w'):TFunV w' v ps e:=by
 obtain⟨nm,op,ch,pv,va,num,site,aa,ab,ca,cb,ga,oa,gb,ob,h0,h1,h2,h3,h4,h5,h6⟩:=h
 exact⟨nm,op,ch,pv,va,num,site,aa,ab,ca,cb,ga,oa,gb,ob,h0,h1.kept hb,h2.kept hb,h3,TAAt.kept hb _ _ _ h4,h5,TBAt.kept hb _ _ _ h6⟩
structure FnOk (Env:World→Prop) (isName:Nm→Bool) (w:World) (v:Value) (ps:List Nm) (e:TE):Prop where
 law:NLaw Env isName
 env:Env w
 val:TFunV w v ps e
 sz:∀ d∈F0 ps e,(∀ x∈d.binds,x.size≤maxLen)∧∀ x∈d.e.args,x.size≤maxLen
 pl:ps.length*24≤140737488355328
theorem FnOk.keep {Env:World→Prop}{isName:Nm→Bool}{w w':World}{v:Value}{ps:List Nm}{e:TE}(h:FnOk Env isName w v ps e) (hb:Below w.heap.size w w'):FnOk Env isName w' v ps e :=
 ⟨h.law,h.law.keep _ _ _ (h.law.size _ h.env) h.env hb,h.val.kept (zd hb),h.sz,h.pl⟩
theorem FnOk.boxed {Env:World→Prop}{isName:Nm→Bool}{w:World}{v:Value}{ps:List Nm}{e:TE}(h:FnOk Env isName w v ps e):Calls Tryz.prog 58 #[.pointer (some ⟨w.heap.size,0,none⟩)] (w.alloc (.cells v.cells 29)) (fun en w'=>ReadP isName (w.alloc (.cells v.cells 29)) ps e en w'):=by
 have hb:Below w.heap.size w (w.alloc (.cells v.cells 29)):=(zs9 _ _).alloc (zr4 _) _
 have hk:=zd hb
 obtain⟨nm,op,ch,pv,va,num,site,aa,ab,ca,cb,ga,oa,gb,ob,rfl,h1,h2,h3,h4,h5,h6⟩:=h.val
 have hn:=zs2 w (.cells (Value.agg #[.string nm,.bool ch,pv,.int .i64 e.kind,.string e.name,.string op,.int .i64 num,.int .i64 site,va,.slice aa e.arms.length ca,.slice ab e.body.length cb]).cells 29)
 have hpv:∃ a n c,pv = .slice a n c:=by obtain⟨ad,c,e,_⟩:=h1.at';exact⟨_,_,_,e⟩
 have hva:∃ a n c,va = .slice a n c:=by obtain⟨ad,c,e,_⟩:=h2.at';exact⟨_,_,_,e⟩
 obtain⟨pa,pn,pc,rfl⟩:=hpv
 obtain⟨xa,xn,xc,rfl⟩:=hva
 have hcs:(Value.agg #[.string nm,.bool ch,.slice pa pn pc,.int .i64 e.kind,.string e.name,.string op,.int .i64 num,.int .i64 site,.slice xa xn xc,.slice aa e.arms.length ca,.slice ab e.body.length cb]).cells = #[.string nm,.bool ch,.slice pa pn pc,.int .i64 e.kind,.string e.name,.string op,.int .i64 num,.int .i64 site,.slice xa xn xc,.slice aa e.arms.length ca,.slice ab e.body.length cb]:=rfl
 refine read_any h.law (h.law.keep _ _ _ (h.law.size _ h.env) h.env hb) ?_ h.sz h.pl
 rw [hcs] at hn ⊢
 rw [hcs] at hk
 have c:∀ i x,#[Value.string nm,.bool ch,.slice pa pn pc,.int .i64 e.kind,.string e.name,.string op,.int .i64 num,.int .i64 site,.slice xa xn xc,.slice aa e.arms.length ca,.slice ab e.body.length cb][i]?=some x→(w.alloc (.cells #[Value.string nm,.bool ch,.slice pa pn pc,.int .i64 e.kind,.string e.name,.string op,.int .i64 num,.int .i64 site,.slice xa xn xc,.slice aa e.arms.length ca,.slice ab e.body.length cb] 29)).cell? ⟨w.heap.size,i,none⟩=some x:=fun i x hx=>by rw [zb _ _ _ _ _ _ hn];exact hx
 refine⟨⟨_,c 2 _ rfl,h1.kept hk⟩,?_⟩
 obtain⟨k,name,args,arms,body⟩:=e
 rw [TEAt]
 exact⟨op,num,site,_,aa,ab,ca,cb,ga,oa,gb,ob,⟨c 3 _ rfl,c 4 _ rfl,c 5 _ rfl,c 6 _ rfl⟩,⟨c 7 _ rfl,c 8 _ rfl,c 9 _ rfl,c 10 _ rfl⟩,h2.kept hk,h3,TAAt.kept hk _ _ _ h4,h5,TBAt.kept hk _ _ _ h6⟩
def CntP (isName:Nm→Bool) (w:World) (ps:List Nm) (e:TE) (en:Ending) (w':World):Prop :=
 Below w.heap.size w w'∧((RG.Good isName ps e∧en = .returned (.tuple #[.int .i64 e.size,.int .i64 0]))∨(¬ RG.Good isName ps e∧en = .returned (.tuple #[.int .i64 0,.int .i64 160])))
theorem Fl.nodesLen {w:World}{A:Ad}{f:Nat}{F:List Nd}(h:Fl w A f F):∃ a c,w.cell? ⟨f,2,none⟩=some (.slice a F.length c):=by
 obtain⟨sl,sn,sv,f0,f1,⟨_,ad,c,rfl,_⟩,f3⟩:=h.at'.flat
 exact⟨ad,c,by rw [zb _ _ 2 _ _ _ f0];rfl⟩
theorem count_any {Env:World→Prop}{isName:Nm→Bool}{w:World}{v:Value}{ps:List Nm}{e:TE}(h:FnOk Env isName w v ps e):Calls Tryz.prog 33 #[v] w (CntP isName w ps e):=by
 have RD:=zh h.boxed
 obtain⟨cs,rfl⟩:∃ cs,v = .agg cs:=by obtain⟨_,_,_,_,_,_,_,_,_,_,_,_,_,_,_,h0,_⟩:=h.val;exact⟨_,h0⟩
 clear h
 go_enter Tryz.func33,Tryz.ntmps33
 go_wp2_with fail
 refine RD.out.mono ?_
 have hB0:Below w.heap.size w (w.alloc (.cells cs 29)):=(zs9 _ _).alloc (zr4 _) _
 have B0:=zh hB0
 clear hB0
 rintro en w1 ⟨hb,⟨hg,A,f,rfl,hfl⟩|⟨hng,rfl⟩⟩
 ·obtain⟨a,c,c2⟩:=hfl.nodesLen
  have HB:Hid (Below w.heap.size w w1):=B0.out.trans (hb.mono B0.out.size)
  have HG:=zh hg
  obtain⟨n,hn⟩:∃ n,n=(F0 ps e).length:=⟨_,rfl⟩
  rw [← hn] at c2
  have HN:=zh hn
  clear hb hg hfl hn
  go_wp2_with fail
  go_ret2
  exact⟨HB.out,.inl ⟨HG.out,by rw [HN.out,F0_length];rfl⟩⟩
 have HB:Hid (Below w.heap.size w w1):=B0.out.trans (hb.mono B0.out.size)
 have HG:=zh hng
 clear hb hng
 go_wp2_with fail
 go_ret2
 exact⟨HB.out,.inr ⟨HG.out,rfl⟩⟩
def BndP (isName:Nm→Bool) (w:World) (ps:List Nm) (e:TE) (en:Ending) (w':World):Prop :=
 Below w.heap.size w w'∧((RG.Good isName ps e∧∃ v,en = .returned (.tuple #[v,.int .i64 0])∧StrsAt w' v (vars (F0 ps e)))∨(¬ RG.Good isName ps e∧en = .returned (.tuple #[.slice none 0 0,.int .i64 160])))
theorem bound_any {Env:World→Prop}{isName:Nm→Bool}{w:World}{v:Value}{ps:List Nm}{e:TE}(h:FnOk Env isName w v ps e):Calls Tryz.prog 37 #[v] w (BndP isName w ps e):=by
 have RD:=zh h.boxed
 obtain⟨cs,rfl⟩:∃ cs,v = .agg cs:=by obtain⟨_,_,_,_,_,_,_,_,_,_,_,_,_,_,_,h0,_⟩:=h.val;exact⟨_,h0⟩
 clear h
 go_enter Tryz.func37,Tryz.ntmps37
 go_wp2_with fail
 refine RD.out.mono ?_
 have hB0:Below w.heap.size w (w.alloc (.cells cs 29)):=(zs9 _ _).alloc (zr4 _) _
 have B0:=zh hB0
 clear hB0
 rintro en w1 ⟨hb,⟨hg,A,f,rfl,hfl⟩|⟨hng,rfl⟩⟩
 ·obtain⟨sl,sn,sv,f0,f1,f2,f3⟩:=hfl.at'.flat
  obtain⟨-,ad,c,hsv,-⟩:=id f3
  have c3:w1.cell? ⟨f,3,none⟩=some (.slice ad (vars (F0 ps e)).length c):=by rw [zb _ _ 3 _ _ _ f0,hsv];rfl
  have HB:Hid (Below w.heap.size w w1):=B0.out.trans (hb.mono B0.out.size)
  have HG:=zh hg
  have HS:Hid (StrsAt w1 (.slice ad (vars (F0 ps e)).length c) (vars (F0 ps e))):=by rw [← hsv];exact f3
  obtain⟨n,hn⟩:∃ n,n=(vars (F0 ps e)).length:=⟨_,rfl⟩
  rw [← hn] at c3 HS
  clear hb hg hfl hn f0 f1 f2 f3 hsv
  go_wp2_with fail
  go_ret2
  exact⟨HB.out,.inl ⟨HG.out,_,rfl,HS.out⟩⟩
 have HB:Hid (Below w.heap.size w w1):=B0.out.trans (hb.mono B0.out.size)
 have HG:=zh hng
 clear hb hng
 go_wp2_with fail
 go_ret2
 exact⟨HB.out,.inr ⟨HG.out,rfl⟩⟩
end Go.Proofs.YtnkahlloahgifaaGreatDoor
namespace Go.Proofs.YtnkahlloahgifaaGreatDoor
open Go.RowKit RG Go.Maps Go.Sort
theorem FnOk.cells {Env:World→Prop}{isName:Nm→Bool}{w:World}{v:Value}{ps:List Nm}{e:TE}(h:FnOk Env isName w v ps e):∃ cs,v = .agg cs:=by obtain⟨_,_,_,_,_,_,_,_,_,_,_,_,_,_,_,h0,_⟩:=h.val;exact⟨_,h0⟩
def WdP (isName:Nm→Bool) (w:World) (ps:List Nm) (e:TE) (en:Ending) (w':World):Prop :=
 Below w.heap.size w w'∧((RG.Good isName ps e∧en = .returned (.tuple #[.int .i64 (width (F0 ps e)),.int .i64 0]))∨(¬ RG.Good isName ps e∧en = .returned (.tuple #[.int .i64 0,.int .i64 160])))
theorem width_any {Env:World→Prop}{isName:Nm→Bool}{w:World}{v:Value}{ps:List Nm}{e:TE}(h:FnOk Env isName w v ps e):Calls Tryz.prog 28 #[v] w (WdP isName w ps e):=by
 have RD:=zh h.boxed
 obtain⟨cs,rfl⟩:=h.cells
 clear h
 go_enter Tryz.func28,Tryz.ntmps28
 go_wp2_with fail
 refine RD.out.mono ?_
 have B0:Hid (Below w.heap.size w (w.alloc (.cells cs 29))):=(zs9 _ _).alloc (zr4 _) _
 rintro en w1 ⟨hb,⟨hg,A,f,rfl,hfl⟩|⟨hng,rfl⟩⟩
 ·have HB:Hid (Below w.heap.size w w1):=B0.out.trans (hb.mono B0.out.size)
  have HG:=zh hg
  have HF:=zh hfl
  clear hb hg hfl
  go_wp2_with fail
  refine(crowd_any HF.out).mono ?_
  rintro en w2 ⟨b,q,rfl,hs,hc,hb2⟩
  obtain⟨n,hn⟩:∃ n,n=(VSet (F0 ps e) q).length:=⟨_,rfl⟩
  have e1:(Builtin.len_ #[108] 3 #[.map (some b)]).run Tryz.prog w2 = .ok (.int .i64 n) w2:=by obtain⟨D,h1,h2,_⟩:=hs;have:=h1.len Tryz.underlying108 3;rw [h2,← hn] at this;exact this
  have HN:Hid (n=width (F0 ps e)):=by show _=_;rw [hn,vset_length];unfold width;rw [hc]
  have HB2:Hid (Below w.heap.size w w2):=HB.out.trans (hb2.mono HB.out.size)
  clear hn hs hc hb2
  go_wp2_with fail
  go_ret2
  exact⟨HB2.out,.inl ⟨HG.out,by rw [HN.out];rfl⟩⟩
 have HB:Hid (Below w.heap.size w w1):=B0.out.trans (hb.mono B0.out.size)
 have HG:=zh hng
 clear hb hng
 go_wp2_with fail
 go_ret2
 exact⟨HB.out,.inr ⟨HG.out,rfl⟩⟩
def FdP (isName:Nm→Bool) (w:World) (ps:List Nm) (e:TE) (at':Int) (en:Ending) (w':World):Prop :=
 Below w.heap.size w w'∧((RG.Good isName ps e∧∃ A f i,at'=(i:Nat)∧i<(F0 ps e).length∧en = .returned (.tuple #[.pointer (some ⟨f,0,none⟩),.pointer (some ⟨A.nb i,0,none⟩),.int .i64 0])∧Fl w' A f (F0 ps e)) ∨
  (RG.Good isName ps e∧(at'<0∨(e.size:Int)≤at')∧en = .returned (.tuple #[.pointer none,.pointer none,.int .i64 3]))∨(¬ RG.Good isName ps e∧en = .returned (.tuple #[.pointer none,.pointer none,.int .i64 160])))
theorem Fl.nodes {w:World}{A:Ad}{f:Nat}{F:List Nd}(h:Fl w A f F):∃ c g o,w.cell? ⟨f,2,none⟩=some (.slice (some ⟨g,o,none⟩) F.length c)∧∀ i,i<F.length→w.cell? ⟨g,o+i,none⟩=some (.pointer (some ⟨A.nb i,0,none⟩)):=by
 obtain⟨sl,sn,sv,f0,f1,⟨-,ad,c,rfl,f2⟩,f3⟩:=h.at'.flat
 obtain⟨g,o,rfl,hat⟩:=f2 h.fo.pos
 exact⟨c,g,o,by rw [zb _ _ 2 _ _ _ f0];rfl,fun i hi=>hat i _ (ptrs_at (by rw [List.getElem?_map,List.getElem?_range hi];rfl))⟩
theorem found_any {Env:World→Prop}{isName:Nm→Bool}{w:World}{v:Value}{ps:List Nm}{e:TE}(h:FnOk Env isName w v ps e) (at':Int):Calls Tryz.prog 55 #[.pointer (some ⟨w.heap.size,0,none⟩),.int .i64 at'] (w.alloc (.cells v.cells 29)) (FdP isName w ps e at'):=by
 have RD:=zh h.boxed
 obtain⟨cs,rfl⟩:=h.cells
 have B0:Hid (Below w.heap.size w (w.alloc (.cells cs 29))):=(zs9 _ _).alloc (zr4 _) _
 clear h
 show Calls Tryz.prog 55 _ (w.alloc (.cells cs 29)) _
 go_enter Tryz.func55,Tryz.ntmps55
 go_wp2_with fail
 refine RD.out.mono ?_
 rintro en w1 ⟨hb,⟨hg,A,f,rfl,hfl⟩|⟨hng,rfl⟩⟩
 ·obtain⟨c,g,o,c2,hat⟩:=hfl.nodes
  have HB:Hid (Below w.heap.size w w1):=B0.out.trans (hb.mono B0.out.size)
  have HG:=zh hg
  have HF:=zh hfl
  have HAT:=zh hat
  obtain⟨n,hn⟩:∃ n,n=(F0 ps e).length:=⟨_,rfl⟩
  rw [← hn] at c2
  have HN:=zh hn
  have HNZ:Hid (n=e.size):=by show _=_;rw [hn,F0_length]
  clear hb hg hfl hat hn
  by_cases h0:at'<0
  ·have H0:=zh h0
   go_wp2_with fail
   go_ret3
   exact⟨HB.out,.inr (.inl ⟨HG.out,.inl H0.out,rfl⟩)⟩
  have d0:decide (at'<0)=false:=by simpa using h0
  by_cases h1:(n:Int)≤at'
  ·have H1:=zh h1
   go_wp2_with fail
   go_ret3
   exact⟨HB.out,.inr (.inl ⟨HG.out,.inr (by rw [← HNZ.out];exact H1.out),rfl⟩)⟩
  have d1:decide ((n:Int)≤at')=false:=by simpa using h1
  obtain⟨i,rfl⟩:∃ i:Nat,at'=i:=⟨at'.toNat,by omega⟩
  have hi:i<n:=by omega
  have hci:=HAT.out i (by rw [← HN.out];exact hi)
  have hiz:(i:Int)<n:=by omega
  have hi0:(0:Int)≤i:=by omega
  have HI:=zh hi
  clear h0 h1
  go_wp2_with fail
  go_quiet (fail)
  go_wp2_with fail
  go_ret3
  exact⟨HB.out.trans (zj _ _ _),.inl ⟨HG.out,A,f,i,rfl,by rw [← HN.out];exact HI.out,rfl,HF.out.keep (zj _ _ _)⟩⟩
 have HB:Hid (Below w.heap.size w w1):=B0.out.trans (hb.mono B0.out.size)
 have HG:=zh hng
 clear hb hng
 go_wp2_with fail
 go_ret3
 exact⟨HB.out,.inr (.inr ⟨HG.out,rfl⟩)⟩
def LvP (isName:Nm→Bool) (w:World) (ps:List Nm) (e:TE) (at':Int) (ans:Nat→List Nm) (en:Ending) (w':World):Prop :=
 Below w.heap.size w w'∧((RG.Good isName ps e∧∃ (i:Nat) (v:Value),at'=i∧i<(F0 ps e).length∧en = .returned (.tuple #[v,.int .i64 0])∧StrsAt w' v (ans i)) ∨
  (RG.Good isName ps e∧(at'<0∨(e.size:Int)≤at')∧en = .returned (.tuple #[.slice none 0 0,.int .i64 3]))∨(¬ RG.Good isName ps e∧en = .returned (.tuple #[.slice none 0 0,.int .i64 160])))
theorem NmP.strs {w w':World}{ns:List Nm}{en:Ending}(h:NmP w ns en w'):∃ a c,en = .returned (.slice a ns.length c)∧StrsAt w' (.slice a ns.length c) ns∧Below w.heap.size w w':=by
 obtain⟨a,c,rfl,hr,hb⟩:=h
 refine⟨a,c,rfl,⟨strs_length _,a,c,rfl,fun h0=>?_⟩,hb⟩
 rcases hr.2 with ⟨_,h1⟩|⟨g,cap,cur,hv,_,hg,k1,k2,k3,k4⟩
 ·omega
 simp only [Value.slice.injEq,true_and] at hv
 obtain⟨rfl,rfl⟩:=hv
 refine⟨g,0,rfl,fun i x hi=>?_⟩
 have hl:=(zq8.1 hi).1
 rw [strs_length] at hl
 rw [Nat.zero_add,zb _ _ _ _ _ _ hg,← Array.getElem?_toList,← List.getElem?_take_of_lt (show i<ns.length*1 by omega),k4]
 exact hi
theorem live_any (SORT:SortLaw) {Env:World→Prop}{isName:Nm→Bool}{w:World}{v:Value}{ps:List Nm}{e:TE}(h:FnOk Env isName w v ps e) (at':Int):Calls Tryz.prog 17 #[v,.int .i64 at'] w (LvP isName w ps e at' (liveAt (F0 ps e))):=by
 have FD:=zh (found_any h at')
 have HSO:=zh SORT
 obtain⟨cs,rfl⟩:=h.cells
 clear h SORT
 go_enter Tryz.func17,Tryz.ntmps17
 go_wp2_with fail
 refine FD.out.mono ?_
 rintro en w1 ⟨hb,⟨hg,A,f,i,rfl,hi,rfl,hfl⟩|⟨hg,ho,rfl⟩|⟨hng,rfl⟩⟩
 ·obtain⟨sx,n0,n1⟩:=hfl.at'.node i hi
  have c2:w1.cell? ⟨A.nb i,2,none⟩=some (.map (some (A.mb i))):=by rw [zb _ _ 2 _ _ _ n0];rfl
  have HS:=zh (hfl.at'.live i hi)
  have HB:=zh hb
  have HG:=zh hg
  have HF:=zh hfl
  have HI:=zh hi
  clear hb hg hfl hi n0 n1
  go_wp2_with fail
  refine(named_any HSO.out HF.out HS.out).mono ?_
  intro en w2 hnm
  obtain⟨a,c,rfl,hst,hb2⟩:=hnm.strs
  have HST:=zh hst
  have HB2:Hid (Below w.heap.size w w2):=HB.out.trans (hb2.mono HB.out.size)
  clear hnm hst hb2
  obtain⟨n,hn⟩:∃ n,n=(named (F0 ps e) (lv (F0 ps e) i)).length:=⟨_,rfl⟩
  rw [← hn] at HST ⊢
  clear hn
  go_wp2_with fail
  go_ret2
  exact⟨HB2.out,.inl ⟨HG.out,i,_,rfl,HI.out,rfl,HST.out⟩⟩
 ·have HB:=zh hb
  have HG:=zh (And.intro hg ho)
  clear hb hg ho
  go_wp2_with fail
  go_ret2
  exact⟨HB.out,.inr (.inl ⟨HG.out.1,HG.out.2,rfl⟩)⟩
 have HB:=zh hb
 have HG:=zh hng
 clear hb hng
 go_wp2_with fail
 go_ret2
 exact⟨HB.out,.inr (.inr ⟨HG.out,rfl⟩)⟩
end Go.Proofs.YtnkahlloahgifaaGreatDoor
namespace Go.Proofs.YtnkahlloahgifaaGreatDoor
open Go.RowKit RG Go.Maps
def MvsAt (w:World) (v:Value) (l:List RM.Mv):Prop :=
 ∃ (ad:Option Addr) (c:Nat),v = .slice ad l.length c∧(0<l.length→∃ g o,ad=some ⟨g,o,none⟩∧∀ (i:Nat) m,l[i]?=some m→w.cell? ⟨g,o+i*2,none⟩=some (.int .i64 m.1)∧w.cell? ⟨g,o+i*2+1,none⟩=some (.int .i64 m.2))
theorem MvsAt.kept {w w':World}{v:Value}{l:List RM.Mv}(h:MvsAt w v l) (hk:Kept w w'):MvsAt w' v l:=by
 obtain⟨ad,c,e,h1⟩:=h
 exact⟨ad,c,e,fun h0=>by obtain⟨g,o,e2,hat⟩:=h1 h0;exact⟨g,o,e2,fun i m hi=>⟨hk _ _ (hat i m hi).1,hk _ _ (hat i m hi).2⟩⟩⟩
theorem isReg_any (r:Int) (w:World):Calls Tryz.prog 96 #[.int .i64 r] w fun e w'=>e = .returned (.bool (RM.isReg r))∧w=w':=by
 by_cases h1:0≤r
 ·by_cases h2:r≤20000
  ·go_enter Tryz.func96,Tryz.ntmps96
   go_wp2_with fail
   go_ret
   exact⟨by simp [RM.isReg,h1,h2],rfl⟩
  have hd:decide (r≤20000)=false:=by simpa using h2
  go_enter Tryz.func96,Tryz.ntmps96
  go_wp2_with fail
  go_ret
  exact⟨by simp [RM.isReg,h1,h2],rfl⟩
 have hd:decide (0≤r)=false:=by simpa using h1
 go_enter Tryz.func96,Tryz.ntmps96
 go_wp2_with fail
 go_ret
 exact⟨by simp [RM.isReg];omega,rfl⟩
theorem isReg_yes {r:Int}(h:RM.isReg r=true) (w:World):Calls Tryz.prog 96 #[.int .i64 r] w fun e w'=>e = .returned (.bool true)∧w=w':=by have:=isReg_any r w;rw [h] at this;exact this
theorem isReg_no {r:Int}(h:RM.isReg r=false) (w:World):Calls Tryz.prog 96 #[.int .i64 r] w fun e w'=>e = .returned (.bool false)∧w=w':=by have:=isReg_any r w;rw [h] at this;exact this
theorem isReg_wf {r:Int}(h:RM.isReg r=true):(Lit.int .i64 r).wf=true:=by
 unfold RM.isReg at h
 simp at h
 exact WalkArith.wf_i64 (by omega)
theorem right_no {spare a b:Int}{s:List Int}{l:List RM.Mv}{k:Nat}(hx:l[k]?=some (a,b)) (h:¬ (RM.isReg a=true∧RM.isReg b=true∧a≠spare∧b≠spare∧a∉s)):RM.rightFrom spare s (l.drop k)=false:=by
 have hk:=(zq8.1 hx).1
 rw [zq9 hk,zt3] at hx
 rw [List.drop_eq_getElem_cons hk,hx,RM.rightFrom]
 apply if_neg
 intro h2
 apply h
 simp only [Bool.and_eq_true,Bool.not_eq_true',decide_eq_false_iff_not,List.any_eq_false,decide_eq_true_eq] at h2
 exact⟨h2.1.1.1.1,h2.1.1.1.2,h2.1.1.2,h2.1.2,fun hm=>h2.2 a hm rfl⟩
theorem right_yes {spare a b:Int}{s:List Int}{l:List RM.Mv}{k:Nat}(hx:l[k]?=some (a,b)) (h1:RM.isReg a=true) (h2:RM.isReg b=true) (h3:a≠spare) (h4:b≠spare) (h5:a∉s):RM.rightFrom spare s (l.drop k)=RM.rightFrom spare (a :: s) (l.drop (k+1)):=by
 have hk:=(zq8.1 hx).1
 rw [zq9 hk,zt3] at hx
 rw [List.drop_eq_getElem_cons hk,hx,RM.rightFrom]
 apply if_pos
 simp only [Bool.and_eq_true,Bool.not_eq_true',decide_eq_false_iff_not,List.any_eq_false,decide_eq_true_eq]
 exact⟨⟨⟨⟨h1,h2⟩,h3⟩,h4⟩,fun x hm e=>h5 (e ▸ hm)⟩
theorem few_of {a b:List Int}(hn:a.Nodup) (hs:∀ x∈a,x∈b) (hb:b.length≤16):a.length≤900000:=by
 by_cases h:b.length≤a.length
 ·have:=(RM.perm_of_sub hn hs h).length_eq
  omega
 omega
theorem imap_run {w:World}{b:Nat}{l:List (Int×Int)}(h:IMap Tryz.prog w b l) {k:Int}(hk:(Lit.int .i64 k).wf=true) (t:TypeId) (ht:Tryz.prog.underlying t=some (.map 3 3)):(Instr.lookup t (.map (some b)) (.int .i64 k) false).run Tryz.prog w = .ok (.int .i64 (iat l k)) w:=by
 obtain⟨D,h1,h2,h3,h4,h5⟩:=h
 obtain⟨c,hrun,hat,_⟩:=h1.lookup_int (int_keyed Tryz.underlying3) ht Tryz.underlying3 (zero3 w) (key_wf Tryz.underlying3 hk)
 have:c=iat l k:=by
  cases hq:ikey l k with
  | true =>
   obtain⟨v,hv⟩:=ikey_iff.1 hq
   rw [(h4 k v hv).2.2] at hat
   simp at hat
   rw [← hat,iat_mem h3 hv]
  | false =>
   have hno:Maps.has D (.int .i64 k)=false:=by
    cases hq2:Maps.has D (.int .i64 k) with
    | false=>rfl
    | true=>rw [ikey_iff.2 (h5 k hq2)] at hq;cases hq
   rw [Maps.atKey_of_not_has hno] at hat
   simp at hat
   rw [← hat,iat_none hq]
 rw [this] at hrun
 exact hrun
theorem iset_run {w:World}{b:Nat}{T:List Int}(h:ISet w b T) {k:Int}(hk:(Lit.int .i64 k).wf=true):(Instr.lookup 108 (.map (some b)) (.int .i64 k) false).run Tryz.prog w = .ok (.int .i64 (if k∈T then 1 else 0)) w:=by
 obtain⟨l,h1,h2,h3,h4⟩:=h
 have:=imap_run h1 hk 108 Tryz.underlying108
 rw [iat_set h1.nodup h3 h4] at this
 exact this
def AmP (w:World) (b:Bool) (e:Ending) (w':World):Prop:=e = .returned (.bool b)∧Below w.heap.size w w'
theorem areMoves_any {w:World}{v:Value}{l:List RM.Mv}{spare:Int}(h:MvsAt w v l):Calls Tryz.prog 68 #[v,.int .i64 spare] w (AmP w (RM.areMoves l spare)):=by
 obtain⟨ad,c,rfl,hat⟩:=h
 have HAT:=zh hat
 obtain⟨n,hn⟩:∃ n,n=l.length:=⟨_,rfl⟩
 rw [← hn]
 have HN:=zh hn
 have hmm := @run_makeMap Tryz.prog
 obtain⟨ans,hans⟩:∃ a,a=RM.areMoves l spare:=⟨_,rfl⟩
 rw [← hans]
 have HA:=zh hans
 clear hat hn hans
 by_cases h16:n≤16
 ·have d16:decide (16<(n:Int))=false:=by simp;omega
  have hnz:(n:Int)≤16:=by omega
  have H16:=zh h16
  clear h16
  cases hsp:RM.isReg spare with
  | false =>
   have E:Hid (ans=false):=by show _=_;rw [HA.out];unfold RM.areMoves;rw [hsp];simp
   have CS:=zh (isReg_no hsp)
   clear hsp
   go_enter Tryz.func68,Tryz.ntmps68
   go_wp2_with (go_at_call 96;refine(CS.out _).mono ?_;rintro e w' ⟨rfl,rfl⟩)
   go_ret
   exact⟨by rw [E.out];rfl,zs9 _ _⟩
  | true =>
   have CS:=zh (isReg_yes hsp)
   have E:Hid (ans=RM.rightFrom spare [] l):=by show _=_;rw [HA.out];unfold RM.areMoves;rw [hsp,← HN.out];simp [H16.out]
   clear hsp
   go_enter Tryz.func68,Tryz.ntmps68
   go_wp2_with (go_at_call 96;refine(CS.out _).mono ?_;rintro e w' ⟨rfl,rfl⟩)
   go_loopw [19] (fun iv wr=>∃ (k:Nat) (s:List Int),k≤n∧iv = .int .i64 k∧ISet wr w.heap.size s∧s.length=k∧Below w.heap.size w wr∧ans=RM.rightFrom spare s (l.drop k)) (fun iv _=>n - (intOf iv).toNat)
   case atStart=>exact⟨0,[],Nat.zero_le _,rfl,ISet.made w,rfl,(zs9 _ _).alloc (zr4 _) _,E.out⟩
   obtain⟨k,s,hk,rfl,hset,hsl,hb,he⟩:=hrel
   have HK:=zh hk
   have HS:=zh hset
   have HSL:=zh hsl
   have HB:=zh hb
   have HE:=zh he
   clear hk hset hsl hb he E hmm
   by_cases hlt:k<n
   ·obtain⟨g,o,rfl,hat⟩:=HAT.out (by have:=HN.out;omega)
    obtain⟨⟨a,b⟩,hx⟩:∃ m,l[k]?=some m:=⟨_,zq9 (by have:=HN.out;omega)⟩
    obtain⟨y0,y1⟩:=hat k _ hx
    have y0:=zd HB.out _ _ y0
    have y1:=zd HB.out _ _ y1
    simp only [] at y0 y1
    have HX:=zh hx
    have HLT:=zh hlt
    have hlz:(k:Int)<n:=by omega
    have V0:Hid (∀ o,ISet (wr.alloc o) w.heap.size s):=fun o=>HS.out.keep (zt2 _ _ _ HS.out.lt)
    have VB:Hid (∀ o,Below w.heap.size w (wr.alloc o)):=fun o=>HB.out.alloc HB.out.size _
    clear hat hx hlt
    cases ha:RM.isReg a with
    | false =>
     have C1:=zh (isReg_no ha)
     have E2:Hid (ans=false):=by show _=_;rw [HE.out];exact right_no HX.out (fun h=>by rw [ha] at h;cases h.1)
     clear ha
     go_wp2_with (go_at_call 96;refine(C1.out _).mono ?_;rintro e w' ⟨rfl,rfl⟩)
     go_ret
     exact⟨by rw [E2.out];rfl,VB.out _⟩
    | true =>
     have C1:=zh (isReg_yes ha)
     have WFA:=zh (isReg_wf ha)
     have HA1:=zh ha
     clear ha
     cases hb2:RM.isReg b with
     | false =>
      have C2:=zh (isReg_no hb2)
      have E2:Hid (ans=false):=by show _=_;rw [HE.out];exact right_no HX.out (fun h=>by rw [hb2] at h;cases h.2.1)
      clear hb2
      go_wp2_with (go_at_call 96;(first | ((with_reducible refine(C1.out _).mono ?_);rintro e w' ⟨rfl,rfl⟩) | ((with_reducible refine(C2.out _).mono ?_);rintro e w' ⟨rfl,rfl⟩)))
      go_ret
      exact⟨by rw [E2.out];rfl,VB.out _⟩
     | true =>
      have C2:=zh (isReg_yes hb2)
      have HB1:=zh hb2
      clear hb2
      by_cases h3:a=spare
      ·have d3:(a==spare)=true:=by simp [h3]
       have E2:Hid (ans=false):=by show _=_;rw [HE.out];exact right_no HX.out (fun h=>h.2.2.1 h3)
       clear h3
       go_wp2_with (go_at_call 96;(first | ((with_reducible refine(C1.out _).mono ?_);rintro e w' ⟨rfl,rfl⟩) | ((with_reducible refine(C2.out _).mono ?_);rintro e w' ⟨rfl,rfl⟩)))
       go_ret
       exact⟨by rw [E2.out];rfl,VB.out _⟩
      have d3:(a==spare)=false:=by simp [h3]
      have H3:=zh h3
      clear h3
      by_cases h4:b=spare
      ·have d4:(b==spare)=true:=by simp [h4]
       have E2:Hid (ans=false):=by show _=_;rw [HE.out];exact right_no HX.out (fun h=>h.2.2.2.1 h4)
       clear h4
       go_wp2_with (go_at_call 96;(first | ((with_reducible refine(C1.out _).mono ?_);rintro e w' ⟨rfl,rfl⟩) | ((with_reducible refine(C2.out _).mono ?_);rintro e w' ⟨rfl,rfl⟩)))
       go_ret
       exact⟨by rw [E2.out];rfl,VB.out _⟩
      have d4:(b==spare)=false:=by simp [h4]
      have H4:=zh h4
      clear h4
      by_cases h5:a∈s
      ·have E2:Hid (ans=false):=by show _=_;rw [HE.out];exact right_no HX.out (fun h=>h.2.2.2.2 h5)
       have e5:∀ o,(Instr.lookup 108 (.map (some w.heap.size)) (.int .i64 a) false).run Tryz.prog (wr.alloc o) = .ok (.int .i64 1) (wr.alloc o):=fun o=>by have:=iset_run (V0.out o) WFA.out;rw [if_pos h5] at this;exact this
       clear h5
       go_wp2_with (first | (go_at_call 96;(first | ((with_reducible refine(C1.out _).mono ?_);rintro e w' ⟨rfl,rfl⟩) | ((with_reducible refine(C2.out _).mono ?_);rintro e w' ⟨rfl,rfl⟩))))
       go_ret
       exact⟨by rw [E2.out];rfl,VB.out _⟩
      have E2:Hid (ans=RM.rightFrom spare (a :: s) (l.drop (k+1))):=by show _=_;rw [HE.out];exact right_yes HX.out HA1.out HB1.out H3.out H4.out h5
      have e5:∀ o,(Instr.lookup 108 (.map (some w.heap.size)) (.int .i64 a) false).run Tryz.prog (wr.alloc o) = .ok (.int .i64 0) (wr.alloc o):=fun o=>by have:=iset_run (V0.out o) WFA.out;rw [if_neg h5] at this;exact this
      clear h5
      go_wp2_with (first | (go_at_call 96;(first | ((with_reducible refine(C1.out _).mono ?_);rintro e w' ⟨rfl,rfl⟩) | ((with_reducible refine(C2.out _).mono ?_);rintro e w' ⟨rfl,rfl⟩))) | (at_mapUpdate;refine wpList_sput rfl _ _ _ rfl w.heap.size s rfl (V0.out _) (zr5 (Nat.le_of_eq HSL.out) (zr5 HK.out (zr5 H16.out (by decide)))) (fun l2 hn2 hs2=>few_of hn2 hs2 (zr5 (Nat.le_of_eq HSL.out) (zr5 HK.out H16.out))) a rfl rfl WFA.out ?_))
      intro w2 hm2 hg2
      have HM2:=zh (hm2.congr (T':=a :: s) (fun q=>by simp [or_comm]))
      have HB2:=zh ((VB.out _).grown hg2 (VB.out _).size (fun r e=>by simp at e;omega))
      clear hm2 hg2
      go_wp2_with fail
      go_roundw
      case rel=>exact⟨k+1,a :: s,HLT.out,by go_num,HM2.out,by rw [List.length_cons,HSL.out],HB2.out,E2.out⟩
      case measure=>have:=HLT.out;simp [intOf];omega
   have hlz:(n:Int)≤k:=by omega
   have E2:Hid (ans=true):=by
    show _=_
    have hkl:l.length≤k:=by have:=HN.out;omega
    rw [HE.out,List.drop_of_length_le hkl]
    rfl
   clear hlt
   go_wp2_with fail
   go_ret
   exact⟨by rw [E2.out];rfl,HB.out⟩
 have d16:decide (16<(n:Int))=true:=by simp;omega
 have E:Hid (ans=false):=by show _=_;rw [HA.out];unfold RM.areMoves;rw [← HN.out];simp [h16]
 clear h16
 go_enter Tryz.func68,Tryz.ntmps68
 go_wp2_with fail
 go_ret
 exact⟨by rw [E.out];rfl,zs9 _ _⟩
end Go.Proofs.YtnkahlloahgifaaGreatDoor
namespace Go.Proofs.YtnkahlloahgifaaGreatDoor
open Go.RowKit RG Go.Maps
structure MFun (G:Nat) (cap:Array Value) (p:RM.Mv→Bool) (Ok:World→Prop):Prop where
 enter:∀ args w,(callFunc G args).run Tryz.prog w = .ok (.enter G args) w
 call:∀ (W:World) (a b:Int),Ok W→Calls Tryz.prog G (#[.agg #[.int .i64 a,.int .i64 b]]++cap) W fun e W'=>e = .returned (.bool (p (a,b)))∧Below W.heap.size W W'
 keep:∀ W W',Ok W→Below W.heap.size W W'→Ok W'
theorem idx_at {l:List RM.Mv}{p:RM.Mv→Bool}{k:Nat}{x:RM.Mv}(h:∀ (i:Nat) m,i<k→l[i]?=some m→p m=false) (hx:l[k]?=some x) (hp:p x=true):l.findIdx p=k:=by
 have hk:=(zq8.1 hx).1
 rw [zq9 hk,zt3] at hx
 rw [List.findIdx_eq hk]
 exact⟨by rw [hx];exact hp,fun j hj=>h j _ hj (zq9 (by omega))⟩
theorem idx_none {l:List RM.Mv}{p:RM.Mv→Bool}(h:∀ (i:Nat) m,l[i]?=some m→p m=false):¬ l.findIdx p<l.length:=fun hl=>by
 have h1:=List.findIdx_getElem (w:=hl)
 rw [h _ _ (zq9 hl)] at h1
 cases h1
def IxP (w:World) (l:List RM.Mv) (p:RM.Mv→Bool) (e:Ending) (w':World):Prop :=
 Below w.heap.size w w'∧e = .returned (.int .i64 (if l.findIdx p<l.length then (l.findIdx p:Int) else -1))
theorem indexFunc_any {G:Nat}{cap:Array Value}{p:RM.Mv→Bool}{Ok:World→Prop}(M:MFun G cap p Ok) {w:World}{v:Value}{l:List RM.Mv}(h:MvsAt w v l) (hl:l.length≤1000000) (hok:Ok w):Calls Tryz.prog 72 #[v,.func (.func G) #[] cap] w (IxP w l p):=by
 obtain⟨ad,c,rfl,hat⟩:=h
 have HAT:=zh hat
 have HM:=zh M
 have HOK:=zh hok
 have eg:=M.enter
 obtain⟨n,hn⟩:∃ n,n=l.length:=⟨_,rfl⟩
 rw [← hn] at hl ⊢
 have HN:=zh hn
 have hnz:(n:Int)≤1000000:=by omega
 clear hat hn hl M hok
 go_enter Tryz.func72,Tryz.ntmps72
 go_wp2_with fail
 go_loopw [8] (fun iv wr=>∃ k:Nat,k≤n∧iv = .int .i64 k∧Below w.heap.size w wr∧∀ (i:Nat) m,i<k→l[i]?=some m→p m=false) (fun iv _=>n - (intOf iv).toNat)
 case atStart=>exact⟨0,Nat.zero_le _,rfl,zs9 _ _,fun i m hi=>absurd hi (Nat.not_lt_zero i)⟩
 obtain⟨k,hk,rfl,hb,hno⟩:=hrel
 have HK:=zh hk
 have HB:=zh hb
 have HNO:=zh hno
 clear hk hb hno
 by_cases hlt:k<n
 ·obtain⟨g,o,rfl,hat⟩:=HAT.out (by have:=HN.out;omega)
  obtain⟨⟨a,b⟩,hx⟩:∃ m,l[k]?=some m:=⟨_,zq9 (by have:=HN.out;omega)⟩
  obtain⟨y0,y1⟩:=hat k _ hx
  have y0:=zd HB.out _ _ y0
  have y1:=zd HB.out _ _ y1
  simp only [] at y0 y1
  have HX:=zh hx
  have HLT:=zh hlt
  have hlz:(k:Int)<n:=by omega
  clear hat hx hlt
  go_wp2_with fail
  refine(HM.out.call wr a b (HM.out.keep _ _ HOK.out HB.out)).mono ?_
  rintro e w1 ⟨rfl,hb1⟩
  have HB1:Hid (Below w.heap.size w w1):=HB.out.trans (hb1.mono HB.out.size)
  clear hb1 y0 y1
  cases hp:p (a,b) with
  | true =>
   have E:Hid (l.findIdx p=k):=idx_at HNO.out HX.out hp
   clear hp
   go_wp2_with fail
   go_ret
   exact⟨HB1.out,by rw [E.out,if_pos (by have:=HLT.out;have:=HN.out;omega)];rfl⟩
  | false =>
   have NX:Hid (∀ (i:Nat) m,i<k+1→l[i]?=some m→p m=false):=fun i m hi hm=>by
    by_cases e2:i=k
    ·subst e2
     rw [HX.out,zt3] at hm
     rw [← hm];exact hp
    exact HNO.out i m (by omega) hm
   clear hp
   go_wp2_with fail
   go_roundw
   case rel=>exact⟨k+1,HLT.out,by go_num,HB1.out,NX.out⟩
   case measure=>have:=HLT.out;simp [intOf];omega
 have hlz:(n:Int)≤k:=by omega
 have E:Hid (¬ l.findIdx p<l.length):=idx_none fun i m hm=>HNO.out i m (by have:=(zq8.1 hm).1;have:=HN.out;omega) hm
 clear hlt
 go_wp2_with fail
 go_ret
 exact⟨HB.out,by rw [if_neg E.out];rfl⟩
end Go.Proofs.YtnkahlloahgifaaGreatDoor
namespace Go.Proofs.YtnkahlloahgifaaGreatDoor
open Go.RowKit RG Go.Maps
theorem same_fun:MFun 71 #[] (fun m=>decide (m.1=m.2)) (fun _=>True) where
 enter:=enters_of Tryz.func71 (by kernel_rfl) rfl
 keep:=fun _ _ _ _=>trivial
 call:=fun W a b _=>by
  simp only [Array.append_empty]
  go_enter Tryz.func71,Tryz.ntmps71
  go_wp2_with fail
  go_ret
  exact⟨by congr 2,(zs9 _ _).alloc (zr4 _) _⟩
theorem from_fun (mb:Nat) (t:Int):MFun 75 #[.pointer (some ⟨mb,0,none⟩)] (fun o=>decide (o.2=t)) (fun W=>W.cell? ⟨mb,0,none⟩=some (.int .i64 t)) where
 enter:=enters_of Tryz.func75 (by kernel_rfl) rfl
 keep:=fun W W' h hb=>zd hb _ _ h
 call:=fun W a b h=>by
  have hlt:mb<W.heap.size:=zs3 W _ h
  simp only [List.append_toArray,List.cons_append,List.nil_append]
  go_enter Tryz.func75,Tryz.ntmps75
  go_wp2_with fail
  go_ret
  exact⟨by congr 2,(zs9 _ _).alloc (zr4 _) _⟩
def CxP (w:World) (b:Bool) (e:Ending) (w':World):Prop:=Below w.heap.size w w'∧e = .returned (.bool b)
theorem containsFunc_any {G:Nat}{cap:Array Value}{p:RM.Mv→Bool}{Ok:World→Prop}(M:MFun G cap p Ok) {w:World}{v:Value}{l:List RM.Mv}(h:MvsAt w v l) (hl:l.length≤1000000) (hok:Ok w):Calls Tryz.prog 74 #[v,.func (.func G) #[] cap] w (CxP w (l.any p)):=by
 have IX:=zh (indexFunc_any M h hl hok)
 have hv:∃ a n c,v = .slice a n c:=by obtain⟨a,c,e,_⟩:=h;exact⟨_,_,_,e⟩
 obtain⟨a,n,c,rfl⟩:=hv
 have HA:Hid (l.any p=decide (l.findIdx p<l.length)):=by
  show _=_
  rw [Bool.eq_iff_iff,decide_eq_true_eq,List.findIdx_lt_length,List.any_eq_true]
 clear M h hl hok
 by_cases hx:l.findIdx p<l.length
 ·have E:Hid (l.any p=true):=by show _=_;rw [HA.out];simpa using hx
  obtain⟨i,hi⟩:∃ i,i=l.findIdx p:=⟨_,rfl⟩
  have IX2:Hid (Calls Tryz.prog 72 #[.slice a n c,.func (.func G) #[] cap] w fun e w'=>Below w.heap.size w w'∧e = .returned (.int .i64 (i:Int))):=by
   refine IX.out.mono ?_
   rintro e w' ⟨hb,he⟩
   rw [if_pos hx,← hi] at he
   exact⟨hb,he⟩
  have hi0:(0:Int)≤i:=by omega
  clear hx hi
  go_enter Tryz.func74,Tryz.ntmps74
  go_wp2_with fail
  refine IX2.out.mono ?_
  rintro e w1 ⟨hb,rfl⟩
  have HB:=zh hb
  clear hb
  go_wp2_with fail
  go_ret
  exact⟨HB.out,by rw [E.out];rfl⟩
 have E:Hid (l.any p=false):=by show _=_;rw [HA.out];simpa using hx
 have IX2:Hid (Calls Tryz.prog 72 #[.slice a n c,.func (.func G) #[] cap] w fun e w'=>Below w.heap.size w w'∧e = .returned (.int .i64 (-1))):=by
  refine IX.out.mono ?_
  rintro e w' ⟨hb,he⟩
  rw [if_neg hx] at he
  exact⟨hb,he⟩
 clear hx
 go_enter Tryz.func74,Tryz.ntmps74
 go_wp2_with fail
 refine IX2.out.mono ?_
 rintro e w1 ⟨hb,rfl⟩
 have HB:=zh hb
 clear hb
 go_wp2_with fail
 go_ret
 exact⟨HB.out,by rw [E.out];rfl⟩
theorem free_fun (rc:Nat) (rest:List RM.Mv) (hl:rest.length≤1000000):MFun 73 #[.pointer (some ⟨rc,0,none⟩)] (RM.free rest) (fun W=>∃ v,W.cell? ⟨rc,0,none⟩=some v∧MvsAt W v rest) where
 enter:=enters_of Tryz.func73 (by kernel_rfl) rfl
 keep:=fun W W' h hb=>by obtain⟨v,h1,h2⟩:=h;exact⟨v,zd hb _ _ h1,h2.kept (zd hb)⟩
 call:=fun W a b h=>by
  obtain⟨v,h1,h2⟩:=h
  have hlt:rc<W.heap.size:=zs3 W _ h1
  have hb:Below W.heap.size W (W.alloc (.cells #[.int .i64 a,.int .i64 b] 81)):=(zs9 _ _).alloc (zr4 _) _
  have hm:(W.alloc (.cells #[.int .i64 a,.int .i64 b] 81)).cell? ⟨W.heap.size,0,none⟩=some (.int .i64 a):=by rw [zb _ _ 0 _ _ _ (zs2 W _)];rfl
  have CX:=zh (containsFunc_any (from_fun W.heap.size a) (h2.kept (zd hb)) hl hm)
  have HB:=zh hb
  have hv:∃ a n c,v = .slice a n c:=by obtain⟨a,c,e,_⟩:=h2;exact⟨_,_,_,e⟩
  obtain⟨va,vn,vc,rfl⟩:=hv
  have HF:Hid (RM.free rest (a,b) = !(rest.any fun o=>decide (o.2=a))):=zh rfl
  obtain⟨q,hq⟩:∃ q,q=rest.any fun o=>decide (o.2=a):=⟨_,rfl⟩
  rw [← hq] at CX HF
  clear h2 hb hm hq
  simp only [List.append_toArray,List.cons_append,List.nil_append]
  cases q with
  | true =>
   go_enter Tryz.func73,Tryz.ntmps73
   go_wp2_with fail
   refine CX.out.mono ?_
   rintro e w1 ⟨hb,rfl⟩
   have HB1:Hid (Below W.heap.size W w1):=HB.out.trans (hb.mono HB.out.size)
   clear hb
   go_wp2_with fail
   go_ret
   exact⟨by rw [HF.out];rfl,HB1.out⟩
  | false =>
   go_enter Tryz.func73,Tryz.ntmps73
   go_wp2_with fail
   refine CX.out.mono ?_
   rintro e w1 ⟨hb,rfl⟩
   have HB1:Hid (Below W.heap.size W w1):=HB.out.trans (hb.mono HB.out.size)
   clear hb
   go_wp2_with fail
   go_ret
   exact⟨by rw [HF.out];rfl,HB1.out⟩
end Go.Proofs.YtnkahlloahgifaaGreatDoor
namespace Go.Proofs.YtnkahlloahgifaaGreatDoor
open Go.RowKit RG Go.Maps
def zy (l:List RM.Mv):List Value:=l.flatMap fun m=>[.int .i64 m.1,.int .i64 m.2]
theorem mvCells_length:∀ l:List RM.Mv,(zy l).length=l.length*2
 | []=>rfl
 | m :: l=>by
  have:=mvCells_length l
  unfold zy at *
  rw [List.flatMap_cons,zr2,this,List.length_cons]
  simp;omega
theorem mvCells_append (a b:List RM.Mv):zy (a++b)=zy a++zy b:=by unfold zy;rw [List.flatMap_append]
theorem mvCells_at:∀ (l:List RM.Mv) (i:Nat) (m:RM.Mv),l[i]?=some m→(zy l)[i*2]?=some (.int .i64 m.1)∧(zy l)[i*2+1]?=some (.int .i64 m.2)
 | [],i,m,h=>by simp at h
 | a :: l,0,m,h=>by
  simp at h
  subst h
  exact⟨rfl,rfl⟩
 | a :: l,i+1,m,h=>by
  rw [List.getElem?_cons_succ] at h
  have:=mvCells_at l i m h
  rw [show (i+1)*2=i*2+1+1 from by omega]
  exact this
theorem mvCells_one {l:List RM.Mv}{u:Value}(h:u∈zy l):u.oneCell'=true:=by
 unfold zy at h
 obtain⟨m,_,hm⟩:=List.mem_flatMap.1 h
 simp at hm
 rcases hm with rfl | rfl<;>rfl
def MvOwn (w:World) (base:Nat) (v:Value) (l:List RM.Mv):Prop:=w.ownsRow base 81 2 v l.length (zy l)
theorem MvOwn.at' {w:World}{base:Nat}{v:Value}{l:List RM.Mv}(h:MvOwn w base v l):MvsAt w v l:=by
 obtain⟨h1,h2⟩:=h
 rcases h2 with ⟨rfl,h0⟩|⟨g,cap,cur,rfl,hb,hg,k1,k2,k3,k4⟩
 ·exact⟨none,0,by rw [h0],fun h=>by omega⟩
 refine⟨some ⟨g,0,none⟩,cap,rfl,fun h0=>⟨g,0,rfl,fun i m hi=>?_⟩⟩
 have hl:=(zq8.1 hi).1
 obtain⟨a,b⟩:=mvCells_at l i m hi
 refine⟨?_,?_⟩
 ·rw [Nat.zero_add,zb _ _ _ _ _ _ hg,← Array.getElem?_toList,← List.getElem?_take_of_lt (show i*2<l.length*2 by omega),k4];exact a
 rw [Nat.zero_add,zb _ _ _ _ _ _ hg,← Array.getElem?_toList,← List.getElem?_take_of_lt (show i*2+1<l.length*2 by omega),k4];exact b
theorem MvsAt.cells {w:World}{ad:Option Addr}{c:Nat}{l:List RM.Mv}(h:MvsAt w (.slice ad l.length c) l) {g o:Nat}(e:ad=some ⟨g,o,none⟩):∀ j u,(zy l)[j]?=some u→w.cell? ((⟨g,o,none⟩:Addr).add j)=some u:=by
 obtain⟨ad',c',e',hat⟩:=h
 intro j u hu
 have hj:=(zq8.1 hu).1
 rw [mvCells_length] at hj
 obtain⟨g',o',e2,hat⟩:=hat (by omega)
 simp only [Value.slice.injEq,true_and] at e'
 rw [← e'.1,e] at e2
 simp only [zt3,Addr.mk.injEq,and_true] at e2
 obtain⟨rfl,rfl⟩:=e2
 obtain⟨m,hm⟩:∃ m,l[j / 2]?=some m:=⟨_,zq9 (by omega)⟩
 obtain⟨y0,y1⟩:=hat _ _ hm
 obtain⟨x0,x1⟩:=mvCells_at l _ m hm
 rw [Addr.add_lit]
 rcases Nat.mod_two_eq_zero_or_one j with h2 | h2
 ·have e3:j / 2*2=j:=by omega
  rw [e3] at x0 y0
  rw [x0,zt3] at hu
  rw [← hu];exact y0
 have e3:j / 2*2+1=j:=by omega
 rw [show o+j / 2*2+1=o+j from by omega] at y1
 rw [e3] at x1
 rw [x1,zt3] at hu
 rw [← hu];exact y1
theorem Tryz.info81:(Tryz.prog.info? 81).map (fun i=>(i.zero,i.size,i.bytes))=some (some (.agg #[.int .i64 0,.int .i64 0]),2,16):=by kernel_rfl
def ClP (w:World) (l:List RM.Mv) (e:Ending) (w':World):Prop:=∃ v,e = .returned v∧MvOwn w' w.heap.size v l∧Below w.heap.size w w'
theorem clone_any {w:World}{v:Value}{l:List RM.Mv}(h:MvsAt w v l) (hl:l.length≤1000000):Calls Tryz.prog 70 #[v] w (ClP w l):=by
 obtain⟨ad,c,rfl,-⟩:=id h
 have H:=zh h
 obtain⟨n,hn⟩:∃ n,n=l.length:=⟨_,rfl⟩
 rw [← hn]
 have HN:=zh hn
 have HL:=zh hl
 clear h hn hl
 cases ad with
 | none =>
  have qn:=fun (w:World)=>run_eql_slice_nil (P:=Tryz.prog) w 74 81 none n c Tryz.underlying74
  have hn0:Hid (n=0):=by
   obtain⟨ad',c',e,hat⟩:=H.out
   refine Nat.eq_zero_of_not_pos fun h0=>?_
   obtain⟨g,o,e2,_⟩:=hat (by rw [← HN.out];exact h0)
   simp only [Value.slice.injEq] at e
   rw [← e.1] at e2
   cases e2
  go_enter Tryz.func70,Tryz.ntmps70
  go_wp2_with fail
  go_ret
  have e0:l=[]:=List.eq_nil_of_length_eq_zero (by rw [← HN.out];exact hn0.out)
  exact⟨_,rfl,by unfold MvOwn;rw [e0];exact World.ownsRow_nil _ _ _ _,zs9 _ _⟩
 | some ad =>
  have qn:=fun (w:World)=>run_eql_slice_nil (P:=Tryz.prog) w 74 81 (some ad) n c Tryz.underlying74
  obtain⟨i0,hi0,hz0,hz1,hz2⟩:=info_parts Tryz.info81
  have HI:=zh (And.intro hi0 (And.intro hz0 (And.intro hz1 hz2)))
  have BW:Hid (Below w.heap.size w (w.alloc (.cells #[] 81))):=(zs9 _ _).alloc (zr4 _) _
  have OW:Hid ((w.alloc (.cells #[] 81)).ownsRow w.heap.size 81 2 (.slice (some ⟨w.heap.size,0,none⟩) 0 0) 0 []):=⟨rfl,.inr ⟨w.heap.size,0,#[],rfl,zr4 _,zs2 w _,zr4 _,Nat.zero_le _,rfl,rfl⟩⟩
  have NW:Hid (∀ (j:Nat) (u:Value),(zy l)[j]?=some u→(w.alloc (.cells #[] 81)).cell? (ad.add j)=some u):=fun j u hu=>by
   have hj:=(zq8.1 hu).1
   rw [mvCells_length] at hj
   obtain⟨ad',c',e,hat⟩:=H.out
   obtain⟨g,o,e2,_⟩:=hat (by omega)
   simp only [Value.slice.injEq] at e
   rw [← e.1,zt3] at e2
   subst e2
   exact zd BW.out _ _ (H.out.cells rfl j u hu)
  have LW:Hid (0+n≤maxLen∧(0+n)*16≤140737488355328):=by have h1:=HL.out;have h2:=HN.out;show _∧_;simp only [maxLen];omega
  clear hi0 hz0 hz1 hz2
  go_enter Tryz.func70,Tryz.ntmps70
  go_wp2_with (at_builtin;refine wpList_append_own _ rfl _ _ 74 rfl w.heap.size 81 i0 (.agg #[.int .i64 0,.int .i64 0]) 2 16 Tryz.underlying74 HI.out.1 HI.out.2.1 HI.out.2.2.1 HI.out.2.2.2 rfl (by decide) (.slice (some ⟨w.heap.size,0,none⟩) 0 0) 0 [] rfl OW.out ad n c (zy l) rfl (by rw [mvCells_length,HN.out]) NW.out (fun u hu=>mvCells_one hu) LW.out.1 LW.out.2 BW.out.size ?_)
  intro v' w1 hown hg _
  have O1:Hid (MvOwn w1 w.heap.size v' l):=by
   show MvOwn _ _ _ _
   rw [HN.out] at hown
   exact hown
  have B1:Hid (Below w.heap.size w w1):=BW.out.grown hg BW.out.size (fun r e=>by simp [Value.ownBlock] at e;omega)
  clear hown hg
  go_wp2_with fail
  go_ret
  exact⟨_,rfl,O1.out,B1.out⟩
end Go.Proofs.YtnkahlloahgifaaGreatDoor
namespace Go.Proofs.YtnkahlloahgifaaGreatDoor
open Go.RowKit RG Go.Maps
def RestAt (w:World) (g:Nat) (v:Value) (l:List RM.Mv):Prop :=
 (l=[]∧v = .slice none 0 0)∨∃ cap f,v = .slice (some ⟨g,0,none⟩) l.length cap∧l.length≤cap∧cap≤maxLen∧w.rowIs g 81 (cap*2) f∧∀ j u,(zy l)[j]?=some u→f j=u
theorem RestAt.mvs {w:World}{g:Nat}{v:Value}{l:List RM.Mv}(h:RestAt w g v l):MvsAt w v l:=by
 rcases h with ⟨rfl,rfl⟩|⟨cap,f,rfl,h1,h2,h3,h4⟩
 ·exact⟨none,0,rfl,fun h=>absurd h (by simp)⟩
 refine⟨some ⟨g,0,none⟩,cap,rfl,fun h0=>⟨g,0,rfl,fun i m hi=>?_⟩⟩
 have hl:=(zq8.1 hi).1
 obtain⟨a,b⟩:=mvCells_at l i m hi
 exact⟨by rw [Nat.zero_add,h3.cell (by omega),h4 _ _ a],by rw [Nat.zero_add,h3.cell (by omega),h4 _ _ b]⟩
theorem RestAt.keep {w w':World}{g:Nat}{v:Value}{l:List RM.Mv}(h:RestAt w g v l) (hb:w'.heap[g]?=w.heap[g]?):RestAt w' g v l:=by
 rcases h with h | ⟨cap,f,h0,h1,h2,h3,h4⟩
 ·exact .inl h
 exact .inr ⟨cap,f,h0,h1,h2,h3.of_block hb,h4⟩
theorem RestAt.lt {w:World}{g:Nat}{v:Value}{l:List RM.Mv}(h:RestAt w g v l) (h0:0<l.length):g<w.heap.size:=by
 rcases h with ⟨rfl,_⟩|⟨cap,f,_,h1,h2,h3,h4⟩
 ·simp at h0
 exact h3.lt
theorem zeroCells2 (n:Nat):(Builtin.zeroCells #[.int .i64 0,.int .i64 0] n).toList=List.replicate (n*2) (.int .i64 0):=by
 unfold Builtin.zeroCells
 apply List.ext_getElem
 ·simp
 intro i h1 h2
 simp only [Array.toList_map,List.getElem_map,Array.getElem_toList,Array.getElem_range,List.getElem_replicate]
 have:i % #[Value.int .i64 0,Value.int .i64 0].size=0∨i % #[Value.int .i64 0,Value.int .i64 0].size=1:=by simp;omega
 rcases this with e | e<;>rw [e]<;>rfl
theorem zero81 (w:World):(zeroValue 81).run Tryz.prog w = .ok (.agg #[.int .i64 0,.int .i64 0]) w:=by kernel_rfl
theorem run_clear2 (w:World) (t ty:TypeId) (ht:Tryz.prog.underlying t=some (.slice 81)) (b o n c:Nat) (hn:0<n)
  (hc:∀ j,j<n*2→(w.cell? ⟨b,o+j,none⟩).isSome=true) (hf:∀ j,j<n*2→w.frozen? ⟨b,o+j,none⟩=false) :
  (Builtin.clear_ #[t] ty #[.slice (some ⟨b,o,none⟩) n c]).run Tryz.prog w = .ok (.tuple #[]) (w.setCells b o (List.replicate (n*2) (.int .i64 0))):=by
 have hst:=run_storeCells_cells (P:=Tryz.prog) b o (List.replicate (n*2) (.int .i64 0)) 0 w (by simpa using hc) (by simpa using hf) (by intro v hv';rw [List.eq_of_mem_replicate hv'];rfl)
 simp only [Nat.add_zero] at hst
 have hz:=zeroCells2 n
 obtain⟨m,rfl⟩:∃ m,n=m+1:=⟨n - 1,by omega⟩
 simp [Builtin.clear_,run_underlying ht,zero81,Value.cells,hz,hst]
end Go.Proofs.YtnkahlloahgifaaGreatDoor
namespace Go.Proofs.YtnkahlloahgifaaGreatDoor
open Go.RowKit RG Go.Maps
def DfP (w:World) (g:Nat) (l:List RM.Mv) (e:Ending) (w':World):Prop:=∃ v,e = .returned v∧RestAt w' g v l∧w.grownBy w' (some g)
theorem grown_below {w w':World}(h:Below w.heap.size w w') (g:Nat):w.grownBy w' (some g):=⟨h.os,h.tape,h.output,h.size,fun k hk _=>h.block k hk⟩
theorem grown_alloc (w:World) (o:Obj) (g:Nat):w.grownBy (w.alloc o) (some g):=grown_below ((zs9 _ _).alloc (zr4 _) _) g
theorem grown_refl (w:World) (g:Nat):w.grownBy w (some g):=grown_below (zs9 _ _) g
theorem grown_setCell (w:World) (a:Addr) (v:Value):w.grownBy (w.setCell a v) (some a.block) :=
 ⟨rfl,rfl,rfl,by simp,fun k hk hne=>zt1 w a v k (fun e=>hne (by rw [e]))⟩
theorem grown_setCells (b:Nat):∀ (vs:List Value) (o:Nat) (w:World),w.grownBy (w.setCells b o vs) (some b)
 | [],_,w=>grown_refl w b
 | v :: r,o,w=>grown_trans (grown_setCell w ⟨b,o,none⟩ v) (grown_setCells b r (o+1) _) (fun r e=>by simp at e;exact .inl e.symm)
theorem idx_filter {l:List RM.Mv}{p:RM.Mv→Bool}(h:¬ l.findIdx p<l.length):l.filter (fun m => !p m)=l:=by
 rw [List.filter_eq_self]
 intro m hm
 cases hp:p m with
 | false=>rfl
 | true=>exact absurd (List.findIdx_lt_length.2 ⟨m,hm,hp⟩) h
structure DelI (l:List RM.Mv) (p:RM.Mv→Bool) (j i:Nat) (f:Nat→Value):Prop where
 len:((l.take j).filter fun m => !p m).length=i
 lt:i<j
 low:∀ c u,(zy ((l.take j).filter fun m => !p m))[c]?=some u→f c=u
 high:∀ c u,j*2≤c→(zy l)[c]?=some u→f c=u
theorem DelI.start {l:List RM.Mv}{p:RM.Mv→Bool}{f:Nat→Value}(hf:∀ c u,(zy l)[c]?=some u→f c=u) (h:l.findIdx p<l.length):DelI l p (l.findIdx p+1) (l.findIdx p) f:=by
 have e1:(l.take (l.findIdx p)).filter (fun m => !p m)=l.take (l.findIdx p):=by
  rw [List.filter_eq_self]
  intro m hm
  obtain⟨i,hi⟩:=List.getElem?_of_mem hm
  have hil:=(zq8.1 hi).1
  rw [List.length_take] at hil
  rw [List.getElem?_take_of_lt (by omega)] at hi
  have hi2:=(zq8.1 hi)
  have:=List.not_of_lt_findIdx (p:=p) (xs:=l) (i:=i) (by omega)
  rw [hi2.2] at this
  simpa using this
 have e2:(l.take (l.findIdx p+1)).filter (fun m => !p m)=l.take (l.findIdx p):=by
  rw [List.take_add_one,List.filter_append,e1,zq9 h]
  simp [List.findIdx_getElem (w:=h)]
 refine⟨?_,Nat.lt_succ_self _,fun c u hu=>?_,fun c u _ hu=>hf c u hu⟩
 ·rw [e2,List.length_take];omega
 rw [e2] at hu
 refine hf c u ?_
 have:zy l=zy (l.take (l.findIdx p))++zy (l.drop (l.findIdx p)):=by rw [← mvCells_append,List.take_append_drop]
 rw [this,List.getElem?_append_left (zq8.1 hu).1]
 exact hu
theorem DelI.skip {l:List RM.Mv}{p:RM.Mv→Bool}{j i:Nat}{f:Nat→Value}{m:RM.Mv}(h:DelI l p j i f) (hm:l[j]?=some m) (hp:p m=true):DelI l p (j+1) i f:=by
 have e:(l.take (j+1)).filter (fun m => !p m)=(l.take j).filter (fun m => !p m):=by rw [List.take_add_one,List.filter_append,hm];simp [hp]
 exact⟨by rw [e];exact h.len,by have:=h.lt;omega,fun c u hu=>h.low c u (by rw [← e];exact hu),fun c u hc hu=>h.high c u (by omega) hu⟩
theorem DelI.take {l:List RM.Mv}{p:RM.Mv→Bool}{j i:Nat}{f g:Nat→Value}{m:RM.Mv}(h:DelI l p j i f) (hm:l[j]?=some m) (hp:p m=false)
  (hg:∀ c,g c=if c=i*2 then .int .i64 m.1 else if c=i*2+1 then .int .i64 m.2 else f c):DelI l p (j+1) (i+1) g:=by
 have e:(l.take (j+1)).filter (fun m => !p m)=(l.take j).filter (fun m => !p m)++[m]:=by rw [List.take_add_one,List.filter_append,hm];simp [hp]
 have hl:=h.len
 have hlt:=h.lt
 refine⟨by rw [e,zr2,hl];rfl,by omega,fun c u hu=>?_,fun c u hc hu=>?_⟩
 ·rw [e,mvCells_append] at hu
  have hlen:=mvCells_length ((l.take j).filter fun m => !p m)
  rw [hl] at hlen
  rw [hg]
  by_cases h1:c<i*2
  ·rw [List.getElem?_append_left (by omega)] at hu
   rw [if_neg (by omega),if_neg (by omega)]
   exact h.low c u hu
  rw [List.getElem?_append_right (by omega),hlen] at hu
  have h2:=(zq8.1 hu).1
  have h3:(zy [m]).length=2:=rfl
  rw [h3] at h2
  have:c=i*2∨c=i*2+1:=by omega
  rcases this with rfl | rfl
  ·rw [if_pos rfl]
   rw [Nat.sub_self] at hu
   simpa [zy] using hu
  rw [if_neg (by omega),if_pos rfl]
  rw [show i*2+1 - i*2=1 by omega] at hu
  simpa [zy] using hu
 rw [hg,if_neg (by omega),if_neg (by omega)]
 exact h.high c u (by omega) hu
theorem deleteFunc_any {G:Nat}{cap:Array Value}{p:RM.Mv→Bool}(M:MFun G cap p (fun _=>True)) {w:World}{g:Nat}{v:Value}{l:List RM.Mv}(h:RestAt w g v l) (hl:l.length≤1000000) :
  Calls Tryz.prog 69 #[v,.func (.func G) #[] cap] w (DfP w g (l.filter fun m => !p m)):=by
 have IX:=zh (indexFunc_any M h.mvs hl trivial)
 have HM:=zh M
 have eg:=M.enter
 by_cases hx:l.findIdx p<l.length
 ·rcases h with ⟨rfl,_⟩|⟨cp,f,rfl,h1,h2,h3,h4⟩
  ·simp at hx
  obtain⟨n,hn⟩:∃ n,n=l.length:=⟨_,rfl⟩
  rw [← hn] at hl h1 ⊢
  rw [← hn] at IX
  have HN:=zh hn
  obtain⟨i0,hi0⟩:∃ i,i=l.findIdx p:=⟨_,rfl⟩
  have IX2:Hid (Calls Tryz.prog 72 #[.slice (some ⟨g,0,none⟩) n cp,.func (.func G) #[] cap] w fun e w'=>Below w.heap.size w w'∧e = .returned (.int .i64 (i0:Int))):=by
   refine IX.out.mono ?_
   rintro e w' ⟨hb,he⟩
   rw [if_pos hx,← hi0] at he
   exact⟨hb,he⟩
  have ST:Hid (DelI l p (i0+1) i0 f):=by rw [hi0];exact DelI.start h4 hx
  have hi00:((i0:Int) == -1)=false:=beq_eq_false_iff_ne.2 (by omega)
  have hi1:(i0:Int)≤1000000:=by omega
  have hnz:(n:Int)≤1000000:=by omega
  have HI0:Hid (i0<n):=by show _<_;omega
  have H1:=zh h1
  have H2:=zh h2
  have H3:=zh h3
  clear hx hi0 IX h1 h2 h3 h4 hn hl M
  go_enter Tryz.func69,Tryz.ntmps69
  go_wp2_with fail
  refine IX2.out.mono ?_
  rintro e w1 ⟨hb,rfl⟩
  have R1:=zh (H3.out.of_block (hb.block _ H3.out.lt))
  have G1:=zh (grown_below hb g)
  clear hb
  go_wp2_with fail
  go_loopw [5,6] (fun iv jv wr=>∃ (i j:Nat) (f:Nat→Value),iv = .int .i64 i∧jv = .int .i64 j∧j≤n∧DelI l p j i f∧wr.rowIs g 81 (cp*2) f∧w.grownBy wr (some g)) (fun _ jv _=>n - (intOf jv).toNat)
  case atStart=>exact⟨i0,i0+1,f,rfl,by go_num,HI0.out,ST.out,R1.out,G1.out⟩
  obtain⟨i,j,f',rfl,rfl,hj,hI,hr,hg⟩:=hrel
  have KJ:=zh hj
  have KI:=zh hI
  have KR:=zh hr
  have KG:=zh hg
  have hiz:(i:Int)≤1000000:=by have:=hI.lt;omega
  have hjz:(j:Int)≤1000000:=by omega
  have hilt:(i:Int)<n:=by have:=hI.lt;omega
  have hi0:(0:Int)≤i:=by omega
  clear hj hI hr hg
  by_cases hlt:j<n
  ·have hltz:(j:Int)<n:=by omega
   obtain⟨⟨a,b⟩,hx⟩:∃ m,l[j]?=some m:=⟨_,zq9 (by have:=HN.out;omega)⟩
   have HX:=zh hx
   have HLT:=zh hlt
   have hcp:j*2+1<cp*2:=by have:=H1.out;omega
   obtain⟨m0,m1⟩:=mvCells_at l j _ hx
   have y0:=KR.out.cell (i:=j*2) (by omega)
   have y1:=KR.out.cell (i:=j*2+1) hcp
   rw [KI.out.high _ _ (zr4 _) m0] at y0
   rw [KI.out.high _ _ (by omega) m1] at y1
   have hicp:i*2+1<cp*2:=by have:=KI.out.lt;have:=H1.out;omega
   have HIC:=zh hicp
   clear m0 m1 hx hlt hcp hicp
   go_wp2_with fail
   refine(HM.out.call _ a b trivial).mono ?_
   rintro e w2 ⟨rfl,hb2⟩
   have c0:(wr.alloc (.cells #[.int .i64 a,.int .i64 b] 81)).cell? ⟨wr.heap.size,0,none⟩=some (.int .i64 a):=by rw [zb _ _ 0 _ _ _ (zs2 wr _)];rfl
   have c1:(wr.alloc (.cells #[.int .i64 a,.int .i64 b] 81)).cell? ⟨wr.heap.size,1,none⟩=some (.int .i64 b):=by rw [zb _ _ 1 _ _ _ (zs2 wr _)];rfl
   have c0:=zd hb2 _ _ c0
   have c1:=zd hb2 _ _ c1
   have R2:=zh ((KR.out.alloc (.cells #[.int .i64 a,.int .i64 b] 81)).of_block (hb2.block _ (KR.out.alloc _).lt))
   have G2:=zh (grown_trans (grown_trans KG.out (grown_alloc wr (.cells #[.int .i64 a,.int .i64 b] 81) g) (fun r e=>by simp at e;exact .inl e.symm)) (grown_below hb2 g) (fun r e=>by simp at e;exact .inl e.symm))
   clear hb2 y0 y1
   cases hp:p (a,b) with
   | true =>
    have DN:=zh (KI.out.skip HX.out hp)
    clear hp
    go_wp2_with fail
    go_roundw
    case rel=>exact⟨i,j+1,f',rfl,by go_num,HLT.out,DN.out,R2.out,G2.out⟩
    case measure=>have:=HLT.out;simp [intOf];omega
   | false =>
    have DN:=zh (fun g hg=>KI.out.take (g:=g) HX.out hp hg)
    have f0:=R2.out.frozen (i*2)
    have f1:=R2.out.frozen (i*2+1)
    have s0:=R2.out.cell (i:=i*2) (by have:=HIC.out;omega)
    have s1:=R2.out.cell (i:=i*2+1) HIC.out
    clear hp
    go_wp2_with fail
    refine⟨⟨i+1,j+1,_,by go_num,by go_num,HLT.out,DN.out _ (fun c=>?_),(R2.out.set (i*2) _).set (i*2+1) _,?_⟩,?_⟩
    ·show (if c=i*2+1 then _ else if c=i*2 then _ else f' c)=_
     by_cases e1:c=i*2
     ·rw [if_neg (by omega),if_pos e1,if_pos e1]
     rw [if_neg e1,if_neg e1]
    ·exact grown_trans (grown_trans G2.out (grown_setCell _ _ _) (fun r e=>by simp at e;exact .inl e.symm)) (grown_setCell _ _ _) (fun r e=>by simp at e;exact .inl e.symm)
    have:=HLT.out;simp [intOf];omega
  have hjn:j=n:=by have:=KJ.out;omega
  subst hjn
  have hci:i<cp:=by have:=KI.out.lt;have:=H1.out;omega
  have hcl:∀ ty,(Builtin.clear_ #[74] ty #[.slice (some ⟨g,i*2,none⟩) (j - i) (cp - i)]).run Tryz.prog wr = .ok (.tuple #[]) (wr.setCells g (i*2) (List.replicate ((j - i)*2) (.int .i64 0))):=fun ty =>
   run_clear2 wr 74 ty Tryz.underlying74 g (i*2) (j - i) (cp - i) (by have:=KI.out.lt;omega) (fun q hq=>by rw [KR.out.cell (by have:=H1.out;omega)];rfl) (fun q hq=>KR.out.frozen _)
  have hcz:((cp:Int)==i)=false:=by rw [beq_eq_false_iff_ne];omega
  have hcp0:(i:Int)≤cp:=by omega
  go_wp2_with fail
  go_ret
  have etk:l.take j=l:=zr3 (by have:=HN.out;omega)
  have hlen:=KI.out.len
  have hlow:=KI.out.low
  rw [etk] at hlen hlow
  refine⟨_,rfl,.inr ⟨cp,_,by rw [hlen];rfl,by rw [hlen];omega,H2.out,rowIs_setCells _ (i*2) wr f' KR.out,fun c u hu=>?_⟩,grown_trans KG.out (grown_setCells g _ (i*2) wr) (fun r e=>by simp at e;exact .inl e.symm)⟩
  have hc:=(zq8.1 hu).1
  rw [mvCells_length,hlen] at hc
  show (if i*2≤c∧_ then _ else f' c)=u
  rw [if_neg (by omega)]
  exact hlow c u hu
 have e0:=idx_filter hx
 have IX2:Hid (Calls Tryz.prog 72 #[v,.func (.func G) #[] cap] w fun e w'=>Below w.heap.size w w'∧e = .returned (.int .i64 (-1))):=by
  refine IX.out.mono ?_
  rintro e w' ⟨hb,he⟩
  rw [if_neg hx] at he
  exact⟨hb,he⟩
 have R:=zh h
 have hv:∃ a n c,v = .slice a n c:=by rcases h with ⟨_,e⟩|⟨cp,f,e,_⟩<;>exact⟨_,_,_,e⟩
 obtain⟨a,n,c,rfl⟩:=hv
 rw [e0]
 have HG:Hid (l=[]∨g<w.heap.size):=by
  show _∨_
  rcases Nat.eq_zero_or_pos l.length with h0 | h0
  ·exact .inl (List.eq_nil_of_length_eq_zero h0)
  exact .inr (h.lt h0)
 clear h IX hx
 go_enter Tryz.func69,Tryz.ntmps69
 go_wp2_with fail
 refine IX2.out.mono ?_
 rintro e w1 ⟨hb,rfl⟩
 have B1:=zh hb
 clear hb
 go_wp2_with fail
 go_ret
 refine⟨_,rfl,?_,grown_below B1.out g⟩
 rcases R.out with h | ⟨cp,f,h0,h1,h2,h3,h4⟩
 ·exact .inl h
 exact .inr ⟨cp,f,h0,h1,h2,h3.of_block (B1.out.block _ h3.lt),h4⟩
end Go.Proofs.YtnkahlloahgifaaGreatDoor
namespace Go.Proofs.YtnkahlloahgifaaGreatDoor
open Go.RowKit RG Go.Maps
def FMap (w:World) (b:Nat) (K:Int→Bool) (σ:Int→Int) (n:Nat):Prop :=
 ∃ L,IMap Tryz.prog w b L∧L.length≤n∧(∀ k,ikey L k=K k)∧∀ k v,(k,v)∈L→v=σ k
theorem FMap.keep {w w':World}{b n:Nat}{K:Int→Bool} {σ:Int→Int}(h:FMap w b K σ n) (hb:w'.heap[b]?=w.heap[b]?):FMap w' b K σ n:=by
 obtain⟨L,h1,h2⟩:=h;exact⟨L,h1.keep hb,h2⟩
theorem FMap.lt {w:World}{b n:Nat}{K:Int→Bool} {σ:Int→Int}(h:FMap w b K σ n):b<w.heap.size:=by obtain⟨L,h1,h2⟩:=h;exact h1.lt
theorem FMap.wf {w:World}{b n:Nat}{K:Int→Bool} {σ:Int→Int}(h:FMap w b K σ n) {k:Int}(hk:K k=true):(Lit.int .i64 k).wf=true:=by
 obtain⟨L,⟨D,h1,h2,h3,h4,h5⟩,g2,g3,g4⟩:=h
 rw [← g3] at hk
 obtain⟨v,hv⟩:=ikey_iff.1 hk
 exact(h4 k v hv).1
theorem FMap.put {w':World}{b n:Nat}{K:Int→Bool} {σ:Int→Int}{L:List (Int×Int)}{k c:Int}(g2:L.length≤n) (g3:∀ k,ikey L k=K k) (g4:∀ k v,(k,v)∈L→v=σ k) (h:IMap Tryz.prog w' b (iput L k c)) :
  FMap w' b (fun r=>K r||decide (r=k)) (fun r=>if r=k then c else σ r) (n+1):=by
 refine⟨_,h,?_,fun r=>?_,fun r v hm=>?_⟩
 ·have:=iput_length L k c;omega
 ·rw [Bool.eq_iff_iff,ikey_iff,Bool.or_eq_true,decide_eq_true_eq,← g3,ikey_iff]
  constructor
  ·rintro ⟨v,hv⟩
   rcases mem_iput.1 hv with ⟨_,h⟩|⟨h,_⟩
   ·exact .inl ⟨v,h⟩
   exact .inr h
  intro h
  by_cases e:r=k
  ·exact⟨c,mem_iput.2 (.inr ⟨e,rfl⟩)⟩
  rcases h with ⟨v,hv⟩ | h
  ·exact⟨v,mem_iput.2 (.inl ⟨e,hv⟩)⟩
  exact absurd h e
 rcases mem_iput.1 hm with ⟨e,h⟩|⟨e,h⟩
 ·show v=if r=k then c else σ r;rw [if_neg e];exact g4 r v h
 show v=if r=k then c else σ r;rw [if_pos e];exact h
end Go.Proofs.YtnkahlloahgifaaGreatDoor
namespace Go.Proofs.YtnkahlloahgifaaGreatDoor
open Go.RowKit RG Go.Maps
theorem MvsAt.read {w:World}{ad:Option Addr}{n c:Nat}{l:List RM.Mv}(h:MvsAt w (.slice ad n c) l) (hn:n=l.length) {k:Nat}(hk:k<n):∃ g o a b,ad=some ⟨g,o,none⟩∧l[k]?=some (a,b)∧w.cell? ⟨g,o+k*2,none⟩=some (.int .i64 a)∧w.cell? ⟨g,o+k*2+1,none⟩=some (.int .i64 b):=by
 obtain⟨ad',c',e,hat⟩:=h
 simp only [Value.slice.injEq] at e
 obtain⟨g,o,e2,hat⟩:=hat (by omega)
 obtain⟨⟨a,b⟩,hx⟩:∃ m,l[k]?=some m:=⟨_,zq9 (by omega)⟩
 exact⟨g,o,a,b,by rw [e.1,e2],hx,(hat k _ hx).1,(hat k _ hx).2⟩
end Go.Proofs.YtnkahlloahgifaaGreatDoor
namespace Go.Proofs.YtnkahlloahgifaaGreatDoor
open Go.RowKit RG Go.Maps
theorem ints_at {l:List Int}{i:Nat}{x:Int}(h:l[i]?=some x):(ints l)[i]?=some (.int .i64 x):=by unfold ints;rw [List.getElem?_map,h];rfl
theorem ints_set (l:List Int) (i:Nat) (x:Int):(ints l).set i (.int .i64 x)=ints (l.set i x):=by unfold ints;rw [List.map_set]
def IsAt (w:World) (v:Value) (l:List Int):Prop:=SlAt w v l.length (ints l)
theorem IsAt.kept {w w':World}{v:Value}{l:List Int}(h:IsAt w v l) (hb:Kept w w'):IsAt w' v l:=SlAt.kept h hb
theorem IsAt.shape {w:World}{v:Value}{l:List Int}(h:IsAt w v l):∃ a c,v = .slice a l.length c:=by
 obtain⟨_,ad,c,e,_⟩:=h
 exact⟨_,_,e⟩
theorem IsAt.nil (w:World):IsAt w (.slice none 0 0) []:=⟨rfl,none,0,rfl,fun h=>absurd h (Nat.lt_irrefl _)⟩
theorem IsAt.read {w:World}{ad:Option Addr}{n c:Nat}{l:List Int}(h:IsAt w (.slice ad n c) l) (hn:n=l.length) {k:Nat}(hk:k<n) :
  ∃ g o x,ad=some ⟨g,o,none⟩∧l[k]?=some x∧w.cell? ⟨g,o+k,none⟩=some (.int .i64 x):=by
 obtain⟨_,ad',c',e,hat⟩:=h
 simp only [Value.slice.injEq] at e
 obtain⟨g,o,e2,hat⟩:=hat (by omega)
 obtain⟨x,hx⟩:∃ x,l[k]?=some x:=⟨_,zq9 (by omega)⟩
 exact⟨g,o,x,by rw [e.1,e2],hx,hat k _ (ints_at hx)⟩
def IOwn (w:World) (base:Nat) (v:Value) (l:List Int):Prop:=w.ownsRow base 3 1 v l.length (ints l)
theorem IOwn.nil (w:World) (base:Nat):IOwn w base (.slice none 0 0) []:=World.ownsRow_nil _ _ _ _
theorem IOwn.shape {w:World}{base:Nat}{v:Value}{l:List Int}(h:IOwn w base v l):∃ a c,v = .slice a l.length c:=own_sliceI h
theorem IOwn.at' {w:World}{base:Nat}{v:Value}{l:List Int}(h:IOwn w base v l):IsAt w v l:=by
 obtain⟨h1,h2⟩:=h
 rcases h2 with ⟨rfl,h0⟩|⟨g,cap,cur,rfl,hb,hg,k1,k2,k3,k4⟩
 ·exact⟨ints_length l,none,0,by rw [h0],fun h=>by omega⟩
 refine⟨ints_length l,some ⟨g,0,none⟩,cap,rfl,fun h0=>⟨g,0,rfl,fun i x hi=>?_⟩⟩
 have hl:=(zq8.1 hi).1
 rw [ints_length] at hl
 rw [Nat.zero_add,zb _ _ _ _ _ _ hg,← Array.getElem?_toList,← List.getElem?_take_of_lt (show i<l.length*1 by omega),k4];exact hi
theorem IOwn.lt {w:World}{base:Nat}{v:Value}{l:List Int}(h:IOwn w base v l) {k:Nat}(hk:v.ownBlock=some k):base≤k∧k<w.heap.size:=World.ownsRow.lt h k hk
theorem IOwn.keep {w w':World}{base:Nat}{v:Value}{l:List Int}(h:IOwn w base v l) (hk:∀ k,base≤k→k<w.heap.size→w'.heap[k]?=w.heap[k]?):IOwn w' base v l:=by
 obtain⟨h1,h2⟩:=h
 refine⟨h1,?_⟩
 rcases h2 with h2 | ⟨g,cap,cur,rfl,hb,hg,rest⟩
 ·exact .inl h2
 exact .inr ⟨g,cap,cur,rfl,hb,(hk g hb (zq7.1 hg).1).trans hg,rest⟩
theorem IOwn.full {w:World}{base:Nat}{v:Value}{l:List Int}(h:IOwn w base v l) (h0:0<l.length) :
  ∃ g c,v = .slice (some ⟨g,0,none⟩) l.length c∧base≤g∧g<w.heap.size∧(∀ i x,l[i]?=some x→w.cell? ⟨g,i,none⟩=some (.int .i64 x))∧∀ i,w.frozen? ⟨g,i,none⟩=false:=by
 obtain⟨h1,h2⟩:=id h
 rcases h2 with ⟨rfl,h0'⟩|⟨g,cap,cur,rfl,hb,hg,k1,k2,k3,k4⟩
 ·omega
 refine⟨g,cap,rfl,hb,(zq7.1 hg).1,fun i x hi=>?_,fun i=>zs1 _ _ _ _ _ hg⟩
 have hl:=(zq8.1 hi).1
 rw [World.ownsRow.cellAt h i (by omega)];exact ints_at hi
theorem IOwn.stored {w:World}{base g n c:Nat}{l:List Int}(h:IOwn w base (.slice (some ⟨g,0,none⟩) n c) l) (i:Nat) (x:Int):IOwn (w.setCell ⟨g,i,none⟩ (.int .i64 x)) base (.slice (some ⟨g,0,none⟩) n c) (l.set i x):=by
 have hn:n=l.length:=by
  obtain⟨a,c',e⟩:=h.shape
  simp only [Value.slice.injEq] at e
  exact e.2.1
 subst hn
 have:=(World.ownsRow.stored h i (.int .i64 x)).1
 unfold IOwn
 rw [List.length_set,← ints_set];exact this
theorem IOwn.lit {w:World}{base:Nat}(hb:base≤w.heap.size) (x:Int):IOwn (w.alloc (.cells #[.int .i64 x] 3)) base (.slice (some ⟨w.heap.size,0,none⟩) 1 1) [x] :=
 World.ownsRow_lit w #[.int .i64 x] 1 hb (by decide) rfl
theorem news1 (w:World) (x:Value) (T:TypeId):∀ (j:Nat) (u:Value),[x][j]?=some u→(w.alloc (.cells #[x] T)).cell? ((⟨w.heap.size,0,none⟩:Addr).add j)=some u:=fun j u hu=>by
 rw [Addr.add_lit,zb _ _ _ _ _ _ (zs2 w _),Nat.zero_add]
 match j,hu with
 | 0,hu=>exact hu
 | j+1,hu=>simp at hu
theorem IOwn.size {w:World}{base:Nat}{v:Value}{l:List Int}(h:IOwn w base v l):l.length≤maxLen:=by
 rcases h.2 with ⟨rfl,h0⟩|⟨g,cap,cur,rfl,hb,hg,k1,k2,k3,k4⟩
 ·rw [h0];exact Nat.zero_le _
 omega
end Go.Proofs.YtnkahlloahgifaaGreatDoor
namespace Go.Proofs.YtnkahlloahgifaaGreatDoor
open Go.RowKit RG Go.Maps RF
theorem Ch.cell {M:Nat→Prop} {ρ ρ':Nat→Nat}{w w':World}(c:Ch M ρ ρ' w w') {a:Addr}{x:Value}(h:w.cell? a=some x) (hn:¬ M (ρ a.block)):w'.cell? a=some x :=
 (World.cell?_of_block (c.block _ (zs3 w _ h) hn)).trans h
structure ZA (w:World) (ρ:Nat→Nat) (v:Value) (n:Nat) (xs:List Value):Prop where
 len:xs.length=n
 at':∃ (ad:Option Addr) (c:Nat),v = .slice ad n c∧(0<n→∃ g o,ad=some ⟨g,o,none⟩∧ρ g=0∧∀ (i:Nat) x,xs[i]?=some x→w.cell? ⟨g,o+i,none⟩=some x)
theorem ZA.keep {M:Nat→Prop} {ρ ρ':Nat→Nat}{w w':World}{v:Value}{n:Nat}{xs:List Value}(h:ZA w ρ v n xs) (c:Ch M ρ ρ' w w') (hn:¬ M 0):ZA w' ρ' v n xs:=by
 obtain⟨hl,ad,cc,e,hat⟩:=h
 refine⟨hl,ad,cc,e,fun h0=>?_⟩
 obtain⟨g,o,e2,hr,hc⟩:=hat h0
 obtain⟨x,hx⟩:∃ x,xs[0]?=some x:=⟨_,zq9 (by omega)⟩
 have hlt:=zs3 w _ (hc 0 x hx)
 exact⟨g,o,e2,(c.role g hlt).trans hr,fun i x hi=>c.cell (hc i x hi) (by show ¬ M (ρ g);rw [hr];exact hn)⟩
theorem ZA.sl {ρ:Nat→Nat}{w:World}{v:Value}{n:Nat}{xs:List Value}(h:ZA w ρ v n xs):SlAt w v n xs:=by
 obtain⟨hl,ad,c,e,hat⟩:=h
 exact⟨hl,ad,c,e,fun h0=>by obtain⟨g,o,e2,_,hc⟩:=hat h0;exact⟨g,o,e2,hc⟩⟩
theorem ZA.of_sl {ρ:Nat→Nat}{W w:World}{v:Value}{n:Nat}{xs:List Value}(h:SlAt W v n xs) (hb:Below W.heap.size W w) (hρ:∀ k,k<W.heap.size→ρ k=0):ZA w ρ v n xs:=by
 obtain⟨hl,ad,c,e,hat⟩:=h
 refine⟨hl,ad,c,e,fun h0=>?_⟩
 obtain⟨g,o,e2,hc⟩:=hat h0
 obtain⟨x,hx⟩:∃ x,xs[0]?=some x:=⟨_,zq9 (by omega)⟩
 exact⟨g,o,e2,hρ g (zs3 W _ (hc 0 x hx)),fun i x hi=>zd hb _ _ (hc i x hi)⟩
theorem ZA.nil (w:World) (ρ:Nat→Nat):ZA w ρ (.slice none 0 0) 0 []:=⟨rfl,none,0,rfl,fun h=>absurd h (Nat.lt_irrefl _)⟩
theorem ZA.of_own {ρ:Nat→Nat}{w:World}{base:Nat}{v:Value}{l:List Int}(h:IOwn w base v l) (hρ:∀ k,base≤k→ρ k=0):ZA w ρ v l.length (ints l):=by
 rcases Nat.eq_zero_or_pos l.length with h0 | h0
 ·obtain⟨a,c,rfl⟩:=h.shape
  exact⟨ints_length l,a,c,rfl,fun h1=>by omega⟩
 obtain⟨g,c,rfl,hb,_,hc,_⟩:=h.full h0
 refine⟨ints_length l,some ⟨g,0,none⟩,c,rfl,fun _=>⟨g,0,rfl,hρ g hb,fun i x hi=>?_⟩⟩
 unfold ints at hi
 rw [List.getElem?_map] at hi
 obtain⟨y,hy,rfl⟩:=Option.map_eq_some_iff.1 hi
 rw [Nat.zero_add];exact hc i y hy
theorem ZA.lit {ρ:Nat→Nat}(w:World) (x:Value) (T:TypeId) (hρ:ρ w.heap.size=0):ZA (w.alloc (.cells #[x] T)) ρ (.slice (some ⟨w.heap.size,0,none⟩) 1 1) 1 [x] :=
 ⟨rfl,_,1,rfl,fun _=>⟨_,0,rfl,hρ,fun i y hi=>by
  rw [zb _ _ _ _ _ _ (zs2 w _),Nat.zero_add]
  match i,hi with
  | 0,hi=>exact hi
  | i+1,hi=>simp at hi⟩⟩
def nats (l:List Nat):List Value:=ints (l.map fun (n:Nat)=>(n:Int))
theorem nats_at {l:List Nat}{i n:Nat}(h:l[i]?=some n):(nats l)[i]?=some (.int .i64 (n:Int)):=by unfold nats;exact ints_at (by rw [List.getElem?_map,h];rfl)
theorem nats_append (a b:List Nat):nats (a++b)=nats a++nats b:=by unfold nats;rw [List.map_append,ints_append]
def ScR (w:World) (ρ:Nat→Nat):List (Nm×Nat)→Value→Prop
 | [],v=>v = .pointer none
 | p :: r,v=>∃ b vp,v = .pointer (some ⟨b,0,none⟩)∧w.heap[b]?=some (.cells #[.string p.1,.int .i64 (p.2:Int),vp] 150 (0,0))∧ρ b=0∧ScR w ρ r vp
theorem ScR.keep {M:Nat→Prop} {ρ ρ':Nat→Nat}{w w':World}(c:Ch M ρ ρ' w w') (hn:¬ M 0):∀ {sc:List (Nm×Nat)}{v:Value},ScR w ρ sc v→ScR w' ρ' sc v
 | [],_,h=>h
 | p :: r,v,h=>by
  obtain⟨b,vp,e,h1,h2,h3⟩:=h
  exact⟨b,vp,e,c.keep h1 (by rw [h2];exact hn),(c.keepRole h1).trans h2,ScR.keep c hn h3⟩
theorem ScR.ptr {w:World} {ρ:Nat→Nat}{sc:List (Nm×Nat)}{v:Value}(h:ScR w ρ sc v):∃ a,v = .pointer a:=by
 cases sc with
 | nil=>exact⟨none,h⟩
 | cons p r=>obtain⟨b,vp,e,_⟩:=h;exact⟨_,e⟩
theorem RR.stored {w:World} {ρ:Nat→Nat}{r e g n c:Nat}{xs:List Value}(h:RR w ρ r e 1 (.slice (some ⟨g,0,none⟩) n c) n xs) (i:Nat) (u:Value):RR (w.setCell ⟨g,i,none⟩ u) ρ r e 1 (.slice (some ⟨g,0,none⟩) n c) n (xs.set i u) :=
 ⟨(World.ownsRow.stored h.row i u).1,h.role⟩
theorem RR.full {w:World} {ρ:Nat→Nat}{r e n:Nat}{v:Value}{xs:List Value}(h:RR w ρ r e 1 v n xs) (h0:0<n) :
  ∃ g c,v = .slice (some ⟨g,0,none⟩) n c∧ρ g=r∧g<w.heap.size∧(∀ i x,xs[i]?=some x→w.cell? ⟨g,i,none⟩=some x)∧∀ i,w.frozen? ⟨g,i,none⟩=false:=by
 obtain⟨h1,h2⟩:=h.row
 rcases h2 with ⟨rfl,h0'⟩|⟨g,cap,cur,rfl,hb,hg,k1,k2,k3,k4⟩
 ·omega
 refine⟨g,cap,rfl,h.role g rfl,(zq7.1 hg).1,fun i x hi=>?_,fun i=>zs1 _ _ _ _ _ hg⟩
 have hl:=(zq8.1 hi).1
 rw [World.ownsRow.cellAt h.row i (by omega)];exact hi
theorem RR.sl {w:World} {ρ:Nat→Nat}{r e n:Nat}{v:Value}{xs:List Value}(h:RR w ρ r e 1 v n xs):SlAt w v n xs:=by
 have hl:xs.length=n:=by have:=h.row.1;omega
 obtain⟨a,c,hv⟩:=h.shape
 refine⟨hl,a,c,hv,fun h0=>?_⟩
 obtain⟨g,c',e,_,_,hc,_⟩:=h.full h0
 rw [hv] at e
 simp only [Value.slice.injEq] at e
 exact⟨g,0,e.1,fun i x hi=>by rw [Nat.zero_add];exact hc i x hi⟩
structure FlV (w:World) (ρ:Nat→Nat) (fb:Nat) (st:St) (sv su sn sb sa so:Value) (us ns bs os:List Value) (na no:Nat):Prop where
 obj:w.heap[fb]?=some (.cells #[sv,su,sn,sb,sa,so,.bool false] 42 (0,0))
 role:ρ fb=2
 vars:RR w ρ 3 9 1 sv st.vars.length (strs st.vars)
 uses:RR w ρ 4 40 1 su st.uses.length us
 next:RR w ρ 5 40 1 sn st.next.length ns
 binds:RR w ρ 6 40 1 sb st.binds.length bs
 after:RR w ρ 7 3 1 sa na (nats (List.range na))
 of:RR w ρ 8 3 1 so no os
 usesAt:∀ (i:Nat) (l:List Nat),st.uses[i]?=some l→∃ v,us[i]?=some v∧ZA w ρ v l.length (nats l)
 nextAt:∀ (i:Nat) (l:List Nat),st.next[i]?=some l→∃ v,ns[i]?=some v∧RR w ρ (10+i) 3 1 v l.length (nats l)
 bindsAt:∀ (i:Nat) (l:List Nat),st.binds[i]?=some l→∃ v,bs[i]?=some v∧ZA w ρ v l.length (nats l)
def FlR (w:World) (ρ:Nat→Nat) (fb:Nat) (st:St):Prop:=∃ sv su sn sb sa so us ns bs os,FlV w ρ fb st sv su sn sb sa so us ns bs os st.binds.length st.binds.length
section
variable {w w':World} {ρ ρ':Nat→Nat} {fb:Nat} {st:St} {sv su sn sb sa so:Value} {us ns bs os:List Value} {na no:Nat}
theorem FlV.keep (h:FlV w ρ fb st sv su sn sb sa so us ns bs os na no) {M:Nat→Prop}(c:Ch M ρ ρ' w w') (hM:∀ r,M r→r=1):FlV w' ρ' fb st sv su sn sb sa so us ns bs os na no:=by
 have n0:∀ r,r≠1→¬ M r:=fun r hr hm=>hr (hM r hm)
 exact⟨c.keep h.obj (by rw [h.role];exact n0 _ (by decide)),(c.keepRole h.obj).trans h.role,h.vars.keep c (n0 _ (by decide)),h.uses.keep c (n0 _ (by decide)),h.next.keep c (n0 _ (by decide)),h.binds.keep c (n0 _ (by decide)),h.after.keep c (n0 _ (by decide)),h.of.keep c (n0 _ (by decide)),
  fun i l hi=>by obtain⟨v,a,b⟩:=h.usesAt i l hi;exact⟨v,a,b.keep c (n0 _ (by decide))⟩,
  fun i l hi=>by obtain⟨v,a,b⟩:=h.nextAt i l hi;exact⟨v,a,b.keep c (n0 _ (by omega))⟩,
  fun i l hi=>by obtain⟨v,a,b⟩:=h.bindsAt i l hi;exact⟨v,a,b.keep c (n0 _ (by decide))⟩⟩
theorem FlV.below (h:FlV w ρ fb st sv su sn sb sa so us ns bs os na no) (hb:Below w.heap.size w w') (hρ:∀ k,w.heap.size≤k→ρ k=0):FlV w' ρ fb st sv su sn sb sa so us ns bs os na no :=
 h.keep (Ch.of_below (M:=fun _=>False) hb hρ) fun _ h=>h.elim
theorem FlV.lt (h:FlV w ρ fb st sv su sn sb sa so us ns bs os na no):fb<w.heap.size:=(zq7.1 h.obj).1
theorem FlV.cell (h:FlV w ρ fb st sv su sn sb sa so us ns bs os na no):∀ i x,#[sv,su,sn,sb,sa,so,Value.bool false][i]?=some x→w.cell? ⟨fb,i,none⟩=some x:=fun i x hx=>by rw [zb _ _ _ _ _ _ h.obj];exact hx
theorem FlV.froz (h:FlV w ρ fb st sv su sn sb sa so us ns bs os na no) (i:Nat):w.frozen? ⟨fb,i,none⟩=false:=zs1 _ _ _ _ _ h.obj
theorem ch_put {r:Nat}{a:Addr}{v:Value}(c:Ch (· = r) ρ ρ' w w') (ha:a.block<w.heap.size) (hr:ρ a.block=2):Ch (fun q=>q=r∨q=2) ρ ρ' w (w'.setCell a v) :=
 (c.mono fun _ h => .inl h).setCell a v fun _ => .inr hr
theorem FlV.putVars (h:FlV w ρ fb st sv su sn sb sa so us ns bs os na no) {v':Value}{x:Nm}(c:Ch (· = 3) ρ ρ' w w') (hr:RR w' ρ' 3 9 1 v' (st.vars.length+1) (strs st.vars++[.string x])) :
  FlV (w'.setCell ⟨fb,0,none⟩ v') ρ' fb { st with vars:=st.vars++[x] } v' su sn sb sa so us ns bs os na no:=by
 have c2:Ch (fun q=>q=3∨q=2) ρ ρ' w (w'.setCell ⟨fb,0,none⟩ v'):=ch_put c h.lt h.role
 have o1:=c.keep h.obj (by rw [h.role];decide)
 have r1:ρ' fb=2:=(c.keepRole h.obj).trans h.role
 have c3:Ch (· = 2) ρ' ρ' w' (w'.setCell ⟨fb,0,none⟩ v'):=(Ch.refl c.fresh).setCell _ _ fun _=>r1
 refine⟨heap_setCell_same _ _ _ _ _ _ o1,r1,?_,h.uses.keep c2 (by decide),h.next.keep c2 (by decide),h.binds.keep c2 (by decide),h.after.keep c2 (by decide),h.of.keep c2 (by decide),
  fun i l hi=>by obtain⟨v,a,b⟩:=h.usesAt i l hi;exact⟨v,a,b.keep c2 (by decide)⟩,
  fun i l hi=>by obtain⟨v,a,b⟩:=h.nextAt i l hi;exact⟨v,a,b.keep c2 (by omega)⟩,
  fun i l hi=>by obtain⟨v,a,b⟩:=h.bindsAt i l hi;exact⟨v,a,b.keep c2 (by decide)⟩⟩
 show RR _ _ 3 9 1 v' (st.vars++[x]).length (strs (st.vars++[x]))
 rw [zr2,List.length_singleton]
 have:=hr.keep c3 (by decide)
 unfold strs at this ⊢
 rw [List.map_append];exact this
theorem FlV.putUses (h:FlV w ρ fb st sv su sn sb sa so us ns bs os na no) {v' x:Value}{l:List Nat}(c:Ch (· = 4) ρ ρ' w w') (hr:RR w' ρ' 4 40 1 v' (st.uses.length+1) (us++[x])) (hx:ZA w ρ x l.length (nats l)) :
  FlV (w'.setCell ⟨fb,1,none⟩ v') ρ' fb { st with uses:=st.uses++[l] } sv v' sn sb sa so (us++[x]) ns bs os na no:=by
 have c2:Ch (fun q=>q=4∨q=2) ρ ρ' w (w'.setCell ⟨fb,1,none⟩ v'):=ch_put c h.lt h.role
 have o1:=c.keep h.obj (by rw [h.role];decide)
 have r1:ρ' fb=2:=(c.keepRole h.obj).trans h.role
 have c3:Ch (· = 2) ρ' ρ' w' (w'.setCell ⟨fb,1,none⟩ v'):=(Ch.refl c.fresh).setCell _ _ fun _=>r1
 have hul:us.length=st.uses.length:=by have:=h.uses.row.1;omega
 refine⟨heap_setCell_same _ _ _ _ _ _ o1,r1,h.vars.keep c2 (by decide),?_,h.next.keep c2 (by decide),h.binds.keep c2 (by decide),h.after.keep c2 (by decide),h.of.keep c2 (by decide),
  fun i k hi=>?_,
  fun i l hi=>by obtain⟨v,a,b⟩:=h.nextAt i l hi;exact⟨v,a,b.keep c2 (by omega)⟩,
  fun i l hi=>by obtain⟨v,a,b⟩:=h.bindsAt i l hi;exact⟨v,a,b.keep c2 (by decide)⟩⟩
 ·show RR _ _ 4 40 1 v' (st.uses++[l]).length _
  rw [zr2,List.length_singleton]
  exact hr.keep c3 (by decide)
 replace hi:(st.uses++[l])[i]?=some k:=hi
 rcases Nat.lt_trichotomy i st.uses.length with hlt | rfl | hgt
 ·rw [List.getElem?_append_left hlt] at hi
  obtain⟨v,a,b⟩:=h.usesAt i k hi
  exact⟨v,by rw [List.getElem?_append_left (by omega)];exact a,b.keep c2 (by decide)⟩
 ·rw [List.getElem?_append_right (zr4 _),Nat.sub_self] at hi
  simp at hi
  subst hi
  exact⟨x,by rw [← hul,List.getElem?_append_right (zr4 _),Nat.sub_self];rfl,hx.keep c2 (by decide)⟩
 rw [List.getElem?_eq_none (by simp;omega)] at hi;cases hi
theorem FlV.putNext (h:FlV w ρ fb st sv su sn sb sa so us ns bs os na no) {v':Value}(c:Ch (· = 5) ρ ρ' w w') (hr:RR w' ρ' 5 40 1 v' (st.next.length+1) (ns++[.slice none 0 0])) :
  FlV (w'.setCell ⟨fb,2,none⟩ v') ρ' fb { st with next:=st.next++[[]] } sv su v' sb sa so us (ns++[.slice none 0 0]) bs os na no:=by
 have c2:Ch (fun q=>q=5∨q=2) ρ ρ' w (w'.setCell ⟨fb,2,none⟩ v'):=ch_put c h.lt h.role
 have o1:=c.keep h.obj (by rw [h.role];decide)
 have r1:ρ' fb=2:=(c.keepRole h.obj).trans h.role
 have c3:Ch (· = 2) ρ' ρ' w' (w'.setCell ⟨fb,2,none⟩ v'):=(Ch.refl c.fresh).setCell _ _ fun _=>r1
 have hul:ns.length=st.next.length:=by have:=h.next.row.1;omega
 refine⟨heap_setCell_same _ _ _ _ _ _ o1,r1,h.vars.keep c2 (by decide),h.uses.keep c2 (by decide),?_,h.binds.keep c2 (by decide),h.after.keep c2 (by decide),h.of.keep c2 (by decide),
  fun i l hi=>by obtain⟨v,a,b⟩:=h.usesAt i l hi;exact⟨v,a,b.keep c2 (by decide)⟩,
  fun i k hi=>?_,
  fun i l hi=>by obtain⟨v,a,b⟩:=h.bindsAt i l hi;exact⟨v,a,b.keep c2 (by decide)⟩⟩
 ·show RR _ _ 5 40 1 v' (st.next++[[]]).length _
  rw [zr2,List.length_singleton]
  exact hr.keep c3 (by decide)
 replace hi:(st.next++[[]])[i]?=some k:=hi
 rcases Nat.lt_trichotomy i st.next.length with hlt | rfl | hgt
 ·rw [List.getElem?_append_left hlt] at hi
  obtain⟨v,a,b⟩:=h.nextAt i k hi
  exact⟨v,by rw [List.getElem?_append_left (by omega)];exact a,b.keep c2 (by omega)⟩
 ·rw [List.getElem?_append_right (zr4 _),Nat.sub_self] at hi
  simp at hi
  subst hi
  exact⟨.slice none 0 0,by rw [← hul,List.getElem?_append_right (zr4 _),Nat.sub_self];rfl,RR.nil _ _ _ _ _⟩
 rw [List.getElem?_eq_none (by simp;omega)] at hi;cases hi
theorem FlV.putLink (h:FlV w ρ fb st sv su sn sb sa so us ns bs os na no) {i g n c0:Nat}{v v':Value}{l:List Nat}{x:Nat}(hi:st.next[i]?=some l) (hsn:sn = .slice (some ⟨g,0,none⟩) n c0) (c:Ch (· = 10+i) ρ ρ' w w') (hr:RR w' ρ' (10+i) 3 1 v' (l.length+1) (nats l++[.int .i64 (x:Int)])) :
  FlV (w'.setCell ⟨g,i,none⟩ v') ρ' fb { st with next:=st.next.modify i (· ++ [x]) } sv su sn sb sa so us (ns.set i v') bs os na no∧Ch (fun q=>q=10+i∨q=5) ρ ρ' w (w'.setCell ⟨g,i,none⟩ v'):=by
 subst hsn
 have hn0:0<st.next.length:=by have:=(zq8.1 hi).1;omega
 obtain⟨g',c',e,hg5,hglt,_,_⟩:=h.next.full hn0
 simp only [Value.slice.injEq,zt3,Addr.mk.injEq,and_true] at e
 obtain⟨rfl,rfl,rfl⟩:=e
 have c2:Ch (fun q=>q=10+i∨q=5) ρ ρ' w (w'.setCell ⟨g,i,none⟩ v'):=(c.mono fun _ h => .inl h).setCell _ _ fun _ => .inr hg5
 have r1:ρ' fb=2:=(c.keepRole h.obj).trans h.role
 have r5:ρ' g=5:=(c.role g hglt).trans hg5
 have c3:Ch (· = 5) ρ' ρ' w' (w'.setCell ⟨g,i,none⟩ v'):=(Ch.refl c.fresh).setCell _ _ fun _=>r5
 have hml:(st.next.modify i (· ++ [x])).length=st.next.length:=List.length_modify ..
 refine⟨⟨c2.keep h.obj (by rw [h.role];omega),r1,h.vars.keep c2 (by omega),h.uses.keep c2 (by omega),?_,h.binds.keep c2 (by omega),h.after.keep c2 (by omega),h.of.keep c2 (by omega),
  fun i l hi=>by obtain⟨v,a,b⟩:=h.usesAt i l hi;exact⟨v,a,b.keep c2 (by omega)⟩,
  fun j k hj=>?_,
  fun i l hi=>by obtain⟨v,a,b⟩:=h.bindsAt i l hi;exact⟨v,a,b.keep c2 (by omega)⟩⟩,c2⟩
 ·show RR _ _ 5 40 1 _ (st.next.modify i (· ++ [x])).length _
  rw [hml]
  exact(h.next.keep c (by omega)).stored i v'
 replace hj:(st.next.modify i (· ++ [x]))[j]?=some k:=hj
 have hul:ns.length=st.next.length:=by have:=h.next.row.1;omega
 rw [List.getElem?_modify] at hj
 by_cases e:i=j
 ·subst e
  rw [hi] at hj
  simp at hj
  subst hj
  refine⟨v',by rw [List.getElem?_set_self (by have:=(zq8.1 hi).1;omega)],?_⟩
  rw [zr2,List.length_singleton,nats_append]
  exact hr.keep c3 (by omega)
 have:st.next[j]?=some k:=by
  cases hq:st.next[j]? with
  | none=>rw [hq] at hj;cases hj
  | some q=>rw [hq] at hj;simpa [e] using hj
 obtain⟨v,a,b⟩:=h.nextAt j k this
 exact⟨v,by rw [List.getElem?_set_ne e];exact a,b.keep c2 (by omega)⟩
theorem FlV.putBinds (h:FlV w ρ fb st sv su sn sb sa so us ns bs os na no) {v' x:Value}{l:List Nat}(c:Ch (· = 6) ρ ρ' w w') (hr:RR w' ρ' 6 40 1 v' (st.binds.length+1) (bs++[x])) (hx:ZA w ρ x l.length (nats l)) :
  FlV (w'.setCell ⟨fb,3,none⟩ v') ρ' fb { st with binds:=st.binds++[l] } sv su sn v' sa so us ns (bs++[x]) os na no:=by
 have c2:Ch (fun q=>q=6∨q=2) ρ ρ' w (w'.setCell ⟨fb,3,none⟩ v'):=ch_put c h.lt h.role
 have o1:=c.keep h.obj (by rw [h.role];decide)
 have r1:ρ' fb=2:=(c.keepRole h.obj).trans h.role
 have c3:Ch (· = 2) ρ' ρ' w' (w'.setCell ⟨fb,3,none⟩ v'):=(Ch.refl c.fresh).setCell _ _ fun _=>r1
 have hul:bs.length=st.binds.length:=by have:=h.binds.row.1;omega
 refine⟨heap_setCell_same _ _ _ _ _ _ o1,r1,h.vars.keep c2 (by decide),h.uses.keep c2 (by decide),h.next.keep c2 (by decide),?_,h.after.keep c2 (by decide),h.of.keep c2 (by decide),
  fun i l hi=>by obtain⟨v,a,b⟩:=h.usesAt i l hi;exact⟨v,a,b.keep c2 (by decide)⟩,
  fun i l hi=>by obtain⟨v,a,b⟩:=h.nextAt i l hi;exact⟨v,a,b.keep c2 (by omega)⟩,
  fun i k hi=>?_⟩
 ·show RR _ _ 6 40 1 v' (st.binds++[l]).length _
  rw [zr2,List.length_singleton]
  exact hr.keep c3 (by decide)
 replace hi:(st.binds++[l])[i]?=some k:=hi
 rcases Nat.lt_trichotomy i st.binds.length with hlt | rfl | hgt
 ·rw [List.getElem?_append_left hlt] at hi
  obtain⟨v,a,b⟩:=h.bindsAt i k hi
  exact⟨v,by rw [List.getElem?_append_left (by omega)];exact a,b.keep c2 (by decide)⟩
 ·rw [List.getElem?_append_right (zr4 _),Nat.sub_self] at hi
  simp at hi
  subst hi
  exact⟨x,by rw [← hul,List.getElem?_append_right (zr4 _),Nat.sub_self];rfl,hx.keep c2 (by decide)⟩
 rw [List.getElem?_eq_none (by simp;omega)] at hi;cases hi
theorem FlV.putAfter (h:FlV w ρ fb st sv su sn sb sa so us ns bs os na no) {v':Value}(c:Ch (· = 7) ρ ρ' w w') (hr:RR w' ρ' 7 3 1 v' (na+1) (nats (List.range na)++[.int .i64 (na:Int)])) :
  FlV (w'.setCell ⟨fb,4,none⟩ v') ρ' fb st sv su sn sb v' so us ns bs os (na+1) no:=by
 have c2:Ch (fun q=>q=7∨q=2) ρ ρ' w (w'.setCell ⟨fb,4,none⟩ v'):=ch_put c h.lt h.role
 have o1:=c.keep h.obj (by rw [h.role];decide)
 have r1:ρ' fb=2:=(c.keepRole h.obj).trans h.role
 have c3:Ch (· = 2) ρ' ρ' w' (w'.setCell ⟨fb,4,none⟩ v'):=(Ch.refl c.fresh).setCell _ _ fun _=>r1
 refine⟨heap_setCell_same _ _ _ _ _ _ o1,r1,h.vars.keep c2 (by decide),h.uses.keep c2 (by decide),h.next.keep c2 (by decide),h.binds.keep c2 (by decide),?_,h.of.keep c2 (by decide),
  fun i l hi=>by obtain⟨v,a,b⟩:=h.usesAt i l hi;exact⟨v,a,b.keep c2 (by decide)⟩,
  fun i l hi=>by obtain⟨v,a,b⟩:=h.nextAt i l hi;exact⟨v,a,b.keep c2 (by omega)⟩,
  fun i l hi=>by obtain⟨v,a,b⟩:=h.bindsAt i l hi;exact⟨v,a,b.keep c2 (by decide)⟩⟩
 rw [List.range_succ,nats_append]
 exact hr.keep c3 (by decide)
theorem FlV.putOf (h:FlV w ρ fb st sv su sn sb sa so us ns bs os na no) {v' x:Value}(c:Ch (· = 8) ρ ρ' w w') (hr:RR w' ρ' 8 3 1 v' (no+1) (os++[x])) :
  FlV (w'.setCell ⟨fb,5,none⟩ v') ρ' fb st sv su sn sb sa v' us ns bs (os++[x]) na (no+1):=by
 have c2:Ch (fun q=>q=8∨q=2) ρ ρ' w (w'.setCell ⟨fb,5,none⟩ v'):=ch_put c h.lt h.role
 have o1:=c.keep h.obj (by rw [h.role];decide)
 have r1:ρ' fb=2:=(c.keepRole h.obj).trans h.role
 have c3:Ch (· = 2) ρ' ρ' w' (w'.setCell ⟨fb,5,none⟩ v'):=(Ch.refl c.fresh).setCell _ _ fun _=>r1
 refine⟨heap_setCell_same _ _ _ _ _ _ o1,r1,h.vars.keep c2 (by decide),h.uses.keep c2 (by decide),h.next.keep c2 (by decide),h.binds.keep c2 (by decide),h.after.keep c2 (by decide),hr.keep c3 (by decide),
  fun i l hi=>by obtain⟨v,a,b⟩:=h.usesAt i l hi;exact⟨v,a,b.keep c2 (by decide)⟩,
  fun i l hi=>by obtain⟨v,a,b⟩:=h.nextAt i l hi;exact⟨v,a,b.keep c2 (by omega)⟩,
  fun i l hi=>by obtain⟨v,a,b⟩:=h.bindsAt i l hi;exact⟨v,a,b.keep c2 (by decide)⟩⟩
end
end Go.Proofs.YtnkahlloahgifaaGreatDoor
namespace RF
open RG
theorem scope_snoc (x:Nm):∀ (bs:List Nm) (k:Nat) (sc:List (Nm×Nat)),scope k (bs++[x]) sc=(x,k+bs.length) :: scope k bs sc
 | [],k,sc=>rfl
 | b :: bs,k,sc=>by
  rw [List.cons_append,scope,scope_snoc x bs (k+1),scope,List.length_cons]
  rw [show k+1+bs.length=k+(bs.length+1) from by omega]
theorem scope_take (k:Nat) (sc:List (Nm×Nat)) {l:List Nm}{i:Nat}{x:Nm}(h:l[i]?=some x):scope k (l.take (i+1)) sc=(x,k+i) :: scope k (l.take i) sc:=by
 rw [List.take_add_one,h]
 show scope k (l.take i++[x]) sc=_
 rw [scope_snoc,List.length_take,Nat.min_eq_left (Nat.le_of_lt (List.getElem?_eq_some_iff.1 h).1)]
end RF
namespace Go.Proofs.YtnkahlloahgifaaGreatDoor
open Go.RowKit RG Go.Maps RF
def BM (r:Nat):Prop:=r=2∨r=3∨r=6∨r=7∨r=8
def BM9 (r:Nat):Prop:=BM r∨r=9
theorem BM.no0:¬ BM 0:=by unfold BM;omega
theorem BM9.no0:¬ BM9 0:=by unfold BM9 BM;omega
def rero (ρ:Nat→Nat):Nat→Nat:=fun k=>if ρ k=9 then 0 else ρ k
theorem re_ne (ρ:Nat→Nat) (k:Nat):rero ρ k≠9:=by unfold rero;split<;>omega
theorem re_of {ρ:Nat→Nat}{k r:Nat}(h:ρ k=r) (hr:r≠9):rero ρ k=r:=by unfold rero;rw [h,if_neg hr]
theorem re_zero {ρ:Nat→Nat}{k:Nat}(h:ρ k=9):rero ρ k=0:=by unfold rero;rw [if_pos h]
theorem Ch.re {ρ ρ':Nat→Nat}{w w':World}{M:Nat→Prop}(c:Ch (fun r=>M r∨r=9) ρ ρ' w w') (h9:∀ k,ρ k≠9):Ch M ρ (rero ρ') w w' :=
 ⟨c.os,c.tape,c.output,c.size,fun k hk hn=>c.block k hk (fun h=>h.elim hn (h9 k)),fun k hk=>by rw [re_of (c.role k hk) (h9 k)],fun k hk=>re_of (c.fresh k hk) (by decide)⟩
theorem RR.re {w:World} {ρ:Nat→Nat}{r e size n:Nat}{v:Value}{xs:List Value}(h:RR w ρ r e size v n xs) (hr:r≠9):RR w (rero ρ) r e size v n xs:=⟨h.row,fun q hq=>re_of (h.role q hq) hr⟩
theorem ZA.re {w:World} {ρ:Nat→Nat}{v:Value}{n:Nat}{xs:List Value}(h:ZA w ρ v n xs):ZA w (rero ρ) v n xs:=by
 obtain⟨hl,ad,c,e,hat⟩:=h
 exact⟨hl,ad,c,e,fun h0=>by obtain⟨g,o,a,b,d⟩:=hat h0;exact⟨g,o,a,re_of b (by decide),d⟩⟩
theorem ZA.of_rr {w:World} {ρ:Nat→Nat}{e n:Nat}{v:Value}{xs:List Value}(h:RR w ρ 9 e 1 v n xs):ZA w (rero ρ) v n xs:=by
 have hl:xs.length=n:=by have:=h.row.1;omega
 obtain⟨a,c,rfl⟩:=h.shape
 refine⟨hl,a,c,rfl,fun h0=>?_⟩
 obtain⟨g,c',e',hr,_,hc,_⟩:=h.full h0
 simp only [Value.slice.injEq] at e'
 exact⟨g,0,e'.1,re_zero hr,fun i x hi=>by rw [Nat.zero_add];exact hc i x hi⟩
theorem ScR.re {w:World} {ρ:Nat→Nat}:∀ {sc:List (Nm×Nat)}{v:Value},ScR w ρ sc v→ScR w (rero ρ) sc v
 | [],_,h=>h
 | p :: r,v,h=>by
  obtain⟨b,vp,e,h1,h2,h3⟩:=h
  exact⟨b,vp,e,h1,re_of h2 (by decide),ScR.re h3⟩
theorem FlV.re {w:World} {ρ:Nat→Nat}{fb:Nat}{st:St}{sv su sn sb sa so:Value}{us ns bs os:List Value}{na no:Nat}(h:FlV w ρ fb st sv su sn sb sa so us ns bs os na no):FlV w (rero ρ) fb st sv su sn sb sa so us ns bs os na no :=
 ⟨h.obj,re_of h.role (by decide),h.vars.re (by decide),h.uses.re (by decide),h.next.re (by decide),h.binds.re (by decide),h.after.re (by decide),h.of.re (by decide),
  fun i l hi=>by obtain⟨v,a,b⟩:=h.usesAt i l hi;exact⟨v,a,b.re⟩,
  fun i l hi=>by obtain⟨v,a,b⟩:=h.nextAt i l hi;exact⟨v,a,b.re (by omega)⟩,
  fun i l hi=>by obtain⟨v,a,b⟩:=h.bindsAt i l hi;exact⟨v,a,b.re⟩⟩
theorem FlV.keep9 {w w':World} {ρ ρ':Nat→Nat}{fb:Nat}{st:St}{sv su sn sb sa so:Value}{us ns bs os:List Value}{na no:Nat}(h:FlV w ρ fb st sv su sn sb sa so us ns bs os na no) (c:Ch (· = 9) ρ ρ' w w'):FlV w' ρ' fb st sv su sn sb sa so us ns bs os na no :=
 ⟨c.keep h.obj (by rw [h.role];decide),(c.keepRole h.obj).trans h.role,h.vars.keep c (by decide),h.uses.keep c (by decide),h.next.keep c (by decide),h.binds.keep c (by decide),h.after.keep c (by decide),h.of.keep c (by decide),
  fun i l hi=>by obtain⟨v,a,b⟩:=h.usesAt i l hi;exact⟨v,a,b.keep c (by decide)⟩,
  fun i l hi=>by obtain⟨v,a,b⟩:=h.nextAt i l hi;exact⟨v,a,b.keep c (by omega)⟩,
  fun i l hi=>by obtain⟨v,a,b⟩:=h.bindsAt i l hi;exact⟨v,a,b.keep c (by decide)⟩⟩
theorem n9_step {M:Nat→Prop} {ρ ρ':Nat→Nat}{w w':World}{r:Nat}(c:Ch M ρ ρ' w w') (h9:∀ k,ρ k≠9) (hf:∀ q,w.heap.size≤q→ρ' q=0∨ρ' q=r) (hr:r≠9):∀ k,ρ' k≠9:=fun k=>by
 by_cases hk:k<w.heap.size
 ·rw [c.role k hk];exact h9 k
 rcases hf k (by omega) with e | e<;>omega
structure BdV (w:World) (ρ0:Nat→Nat) (fb:Nat) (st:St) (names:List Nm) (sc:List (Nm×Nat)) (v su sn sb sa so:Value) (us ns bs os:List Value) (na no i j k:Nat) (ρ:Nat→Nat) (sv lv vo:Value) (W:World):Prop where
 fl:FlV W ρ fb { st with vars:=st.vars++names.take i } sv su sn sb sa so us ns bs os na no
 ch:Ch BM9 ρ0 ρ w W
 row:RR W ρ 9 3 1 lv j (nats (List.range' st.vars.length j))
 scp:ScR W ρ (scope st.vars.length (names.take k) sc) vo
 nms:ZA W ρ v names.length (strs names)
 nine:∀ k,ρ k=9→w.heap.size≤k
section
variable {w:World} {ρ0:Nat→Nat} {fb:Nat} {st:St} {names:List Nm} {sc:List (Nm×Nat)} {v su sn sb sa so:Value} {us ns bs os:List Value} {na no i j k:Nat} {ρ:Nat→Nat} {sv lv vo:Value} {W:World}
theorem BdV.rho (h:BdV w ρ0 fb st names sc v su sn sb sa so us ns bs os na no i j k ρ sv lv vo W):∀ q,W.heap.size≤q→ρ q=0:=h.ch.fresh
theorem BdV.below (h:BdV w ρ0 fb st names sc v su sn sb sa so us ns bs os na no i j k ρ sv lv vo W) {V:World}(hb:Below W.heap.size W V):BdV w ρ0 fb st names sc v su sn sb sa so us ns bs os na no i j k ρ sv lv vo V :=
 have c:Ch (fun _=>False) ρ ρ W V:=Ch.of_below hb h.rho
 ⟨h.fl.below hb h.rho,h.ch.trans (c.mono fun _ h=>h.elim),h.row.keep c id,ScR.keep c id h.scp,h.nms.keep c id,h.nine⟩
theorem BdV.growA (h:BdV w ρ0 fb st names sc v su sn sb sa so us ns bs os na no i j k ρ sv lv vo W) {x:Nm}(hx:names[i]?=some x) {V:World} {ρ':Nat→Nat}{v':Value}(c:Ch (· = 3) ρ ρ' W V)
  (hr:RR V ρ' 3 9 1 v' (st.vars.length+i+1) (strs (st.vars++names.take i)++[.string x])) (hf:∀ q,W.heap.size≤q→ρ' q=0∨ρ' q=3) :
  BdV w ρ0 fb st names sc v su sn sb sa so us ns bs os na no (i+1) j k ρ' v' lv vo (V.setCell ⟨fb,0,none⟩ v'):=by
 have hil:=(zq8.1 hx).1
 have hl:(st.vars++names.take i).length=st.vars.length+i:=by rw [zr2,List.length_take];omega
 have f2:=h.fl.putVars (v':=v') (x:=x) c (by show RR V ρ' 3 9 1 v' ((st.vars++names.take i).length+1) _;rw [hl];exact hr)
 have c2:Ch (fun q=>q=3∨q=2) ρ ρ' W (V.setCell ⟨fb,0,none⟩ v'):=ch_put c h.fl.lt h.fl.role
 refine⟨?_,h.ch.trans (c2.mono fun r hr=>by unfold BM9 BM;omega),h.row.keep c2 (by decide),ScR.keep c2 (by decide) h.scp,h.nms.keep c2 (by decide),fun q hq=>?_⟩
 ·have e:(st.vars++names.take i)++[x]=st.vars++names.take (i+1):=by rw [List.take_add_one,hx,List.append_assoc];rfl
  rw [← e];exact f2
 by_cases hlt:q<W.heap.size
 ·exact h.nine q ((c.role q hlt).symm.trans hq)
 exact zr5 h.ch.size (by omega)
theorem BdV.growB (h:BdV w ρ0 fb st names sc v su sn sb sa so us ns bs os na no i j k ρ sv lv vo W) {V:World} {ρ':Nat→Nat}{v':Value}(c:Ch (· = 9) ρ ρ' W V)
  (hr:RR V ρ' 9 3 1 v' (j+1) (nats (List.range' st.vars.length j)++[.int .i64 ((st.vars.length+j:Nat):Int)])) :
  BdV w ρ0 fb st names sc v su sn sb sa so us ns bs os na no i (j+1) k ρ' sv v' vo V:=by
 refine⟨h.fl.keep9 c,h.ch.trans (c.mono fun r hr => .inr hr),?_,ScR.keep c (by decide) h.scp,h.nms.keep c (by decide),fun q hq=>?_⟩
 ·have e:List.range' st.vars.length (j+1)=List.range' st.vars.length j++[st.vars.length+j]:=by rw [List.range'_concat];simp
  rw [e,nats_append];exact hr
 by_cases hlt:q<W.heap.size
 ·exact h.nine q ((c.role q hlt).symm.trans hq)
 exact zr5 h.ch.size (by omega)
theorem BdV.growC (h:BdV w ρ0 fb st names sc v su sn sb sa so us ns bs os na no i j k ρ sv lv vo W) {x:Nm}(hx:names[k]?=some x) {V:World}{b:Nat}(hb:Below W.heap.size W V) (ho:V.heap[b]?=some (.cells #[.string x,.int .i64 ((st.vars.length+k:Nat):Int),vo] 150 (0,0))) (hbl:W.heap.size≤b) :
  BdV w ρ0 fb st names sc v su sn sb sa so us ns bs os na no i j (k+1) ρ sv lv (.pointer (some ⟨b,0,none⟩)) V:=by
 obtain⟨h1,h2,h3,h4,h5,h6⟩:=h.below hb
 refine⟨h1,h2,h3,?_,h5,h6⟩
 rw [scope_take _ _ hx]
 exact⟨b,vo,rfl,ho,h.rho b hbl,h4⟩
end
end Go.Proofs.YtnkahlloahgifaaGreatDoor
namespace Go.Proofs.YtnkahlloahgifaaGreatDoor
open Go.RowKit RG Go.Maps RF
theorem bLess_eq:∀ (x y:List UInt8),Op.bytesLess x y=decide (x<y)
 | [],[]=>by simp [Op.bytesLess]
 | _ :: _,[]=>by simp [Op.bytesLess]
 | [],_ :: _=>by simp [Op.bytesLess]
 | a :: x,b :: y=>by
  rw [Op.bytesLess,bLess_eq x y]
  simp only [List.cons_lt_cons_iff]
  by_cases h1:a<b<;>by_cases h2:a=b<;>by_cases h3:x<y<;>simp [h1,h2,h3]
def leN (a b:Nm):Bool:=Op.bytesLess a.toList b.toList||a.toList==b.toList
theorem leN_iff {a b:Nm}:leN a b=true↔a.toList≤b.toList:=by
 unfold leN
 rw [bLess_eq,Bool.or_eq_true,decide_eq_true_eq,beq_iff_eq,List.le_iff_lt_or_eq]
theorem leN_trans (a b c:Nm) (h1:leN a b=true) (h2:leN b c=true):leN a c=true:=leN_iff.2 (List.le_trans (leN_iff.1 h1) (leN_iff.1 h2))
theorem leN_total (a b:Nm):(leN a b||leN b a)=true:=by
 rw [Bool.or_eq_true,leN_iff,leN_iff];exact List.le_total _ _
theorem toList_inj {a b:Nm}(h:a.toList=b.toList):a=b:=by
 rw [Lib.toList_data,Lib.toList_data] at h
 have:a.data=b.data:=Array.toList_inj.1 h
 cases a;cases b;simp at this;rw [this]
theorem leN_anti {a b:Nm}(h1:leN a b=true) (h2:leN b a=true):a=b:=toList_inj (List.le_antisymm (leN_iff.1 h1) (leN_iff.1 h2))
theorem sorted_nodup:∀ {l:List Nm},l.Pairwise (fun a b=>leN a b=true)→(∀ (i:Nat) (a b:Nm),l[i]?=some a→l[i+1]?=some b→b≠a)→l.Nodup
 | [],_,_=>List.nodup_nil
 | x :: l,hp,hn=>by
  rw [List.pairwise_cons] at hp
  rw [List.nodup_cons]
  refine⟨fun hm=>?_,sorted_nodup hp.2 fun i a b h1 h2=>hn (i+1) a b (by rw [List.getElem?_cons_succ];exact h1) (by rw [List.getElem?_cons_succ];exact h2)⟩
  cases l with
  | nil=>cases hm
  | cons y l =>
   have hxy:y≠x:=hn 0 x y rfl rfl
   have h1:=hp.1 y zr7
   rcases List.mem_cons.1 hm with e | hm
   ·exact hxy e.symm
   have h2:=(List.pairwise_cons.1 hp.2).1 x hm
   exact hxy (leN_anti h2 h1)
def StC (w:World) (v:Value) (l:List Nm):Prop :=
 ∃ (ad:Option Addr) (c:Nat),v = .slice ad l.length c∧l.length≤c∧c≤maxLen∧(0<l.length→∃ g o,ad=some ⟨g,o,none⟩∧∀ (i:Nat) x,l[i]?=some x→w.cell? ⟨g,o+i,none⟩=some (.string x))
theorem StC.kept {w w':World}{v:Value}{l:List Nm}(h:StC w v l) (hb:Kept w w'):StC w' v l:=by
 obtain⟨ad,c,h1,h2,h3,h4⟩:=h
 exact⟨ad,c,h1,h2,h3,fun h0=>by obtain⟨g,o,e,hat⟩:=h4 h0;exact⟨g,o,e,fun i x hi=>hb _ _ (hat i x hi)⟩⟩
theorem StC.read {w:World}{ad:Option Addr}{n c:Nat}{l:List Nm}(h:StC w (.slice ad n c) l) (hn:n=l.length) {k:Nat}(hk:k<n) :
  ∃ g o x,ad=some ⟨g,o,none⟩∧l[k]?=some x∧w.cell? ⟨g,o+k,none⟩=some (.string x):=by
 obtain⟨ad',c',e,_,_,hat⟩:=h
 simp only [Value.slice.injEq] at e
 obtain⟨g,o,e2,hat⟩:=hat (by omega)
 obtain⟨x,hx⟩:∃ x,l[k]?=some x:=⟨_,zq9 (by omega)⟩
 exact⟨g,o,x,by rw [e.1,e2],hx,hat k _ hx⟩
theorem StC.of_own {w:World}{base:Nat}{v:Value}{l:List Nm}(h:w.ownsRow base 9 1 v l.length (strs l)):StC w v l:=by
 obtain⟨h1,h2⟩:=id h
 rcases h2 with ⟨rfl,h0⟩|⟨g,cap,cur,rfl,hb,hg,k1,k2,k3,k4⟩
 ·exact⟨none,0,by rw [h0],by omega,Nat.zero_le _,fun h=>by omega⟩
 refine⟨some ⟨g,0,none⟩,cap,rfl,k1,k2,fun h0=>⟨g,0,rfl,fun i x hi=>?_⟩⟩
 have hl:=(zq8.1 hi).1
 rw [Nat.zero_add,World.ownsRow.cellAt h i (by omega)];exact strs_at hi
theorem Tryz.info9v:(Tryz.prog.info? 9).map (fun i=>(i.zero,i.size,i.bytes))=some (some (.string ⟨#[]⟩),1,16):=by kernel_rfl
theorem owns_keep2 {w w':World}{base e size n:Nat}{v:Value}{xs:List Value}(h:w.ownsRow base e size v n xs) (hk:∀ k,v.ownBlock=some k→w'.heap[k]?=w.heap[k]?):w'.ownsRow base e size v n xs:=by
 obtain⟨h1,h2⟩:=h
 rcases h2 with h2 | ⟨g,cap,cur,rfl,hb,hg,rest⟩
 ·exact⟨h1,.inl h2⟩
 exact⟨h1,.inr ⟨g,cap,cur,rfl,hb,(hk g rfl).trans hg,rest⟩⟩
def SoP (w:World) (l:List Nm) (e:Ending) (w':World):Prop:=∃ v l',e = .returned v∧StC w' v l'∧l'.Perm l∧l'.Pairwise (fun a b=>leN a b=true)∧Below w.heap.size w w'
theorem merge_nil (a:List Nm):a.merge [] leN=a:=by cases a<;>simp [List.merge]
theorem nil_merge (b:List Nm):([]:List Nm).merge b leN=b:=by cases b<;>simp [List.merge]
theorem mg_left {a b:List Nm}{i k:Nat}{x:Nm}(hx:a[i]?=some x) (h:b.length≤k∨∃ y,b[k]?=some y∧leN x y=true):(a.drop i).merge (b.drop k) leN=x :: (a.drop (i+1)).merge (b.drop k) leN:=by
 have hil:=(zq8.1 hx).1
 have e:a.drop i=x :: a.drop (i+1):=by
  rw [List.drop_eq_getElem_cons hil];congr 1;rw [zq9 hil,zt3] at hx;exact hx
 rcases h with h | ⟨y,hy,hle⟩
 ·rw [List.drop_of_length_le h,merge_nil,merge_nil,e]
 have hkl:=(zq8.1 hy).1
 have e2:b.drop k=y :: b.drop (k+1):=by
  rw [List.drop_eq_getElem_cons hkl];congr 1;rw [zq9 hkl,zt3] at hy;exact hy
 rw [e,e2,List.cons_merge_cons,if_pos hle]
theorem mg_right {a b:List Nm}{i k:Nat}{y:Nm}(hy:b[k]?=some y) (h:a.length≤i∨∃ x,a[i]?=some x∧leN x y=false):(a.drop i).merge (b.drop k) leN=y :: (a.drop i).merge (b.drop (k+1)) leN:=by
 have hkl:=(zq8.1 hy).1
 have e2:b.drop k=y :: b.drop (k+1):=by
  rw [List.drop_eq_getElem_cons hkl];congr 1;rw [zq9 hkl,zt3] at hy;exact hy
 rcases h with h | ⟨x,hx,hle⟩
 ·rw [List.drop_of_length_le h,nil_merge,nil_merge,e2]
 have hil:=(zq8.1 hx).1
 have e:a.drop i=x :: a.drop (i+1):=by
  rw [List.drop_eq_getElem_cons hil];congr 1;rw [zq9 hil,zt3] at hx;exact hx
 rw [e,e2,List.cons_merge_cons,if_neg (by rw [hle];simp)]
theorem sort_any:∀ (N:Nat) (l:List Nm),l.length≤N→l.length≤400000→∀ {w:World}{v:Value},StC w v l→Calls Tryz.prog 53 #[v] w (SoP w l):=by
 intro N
 induction N with
 | zero =>
  intro l hN _ w v h
  have HV:=zh h
  obtain⟨ad,c,rfl,-⟩:=h
  have h0:l.length=0:=by omega
  have HV2:Hid (StC w (.slice ad 0 c) l):=by have:=HV.out;rw [h0] at this;exact this
  have PW:Hid (l.Pairwise (fun a b=>leN a b=true)):=by rw [List.eq_nil_of_length_eq_zero h0];exact List.Pairwise.nil
  rw [h0]
  clear HV hN h0
  go_enter Tryz.func53,Tryz.ntmps53
  go_wp2_with fail
  go_ret
  exact⟨_,l,rfl,HV2.out,List.Perm.refl _,PW.out,zs9 _ _⟩
 | succ N ih =>
  intro l hN hL w v h
  have IH:=zh ih
  have HV:=zh h
  obtain⟨ad,c,rfl,hc1,hc2,hat⟩:=h
  obtain⟨n,hn⟩:∃ n,n=l.length:=⟨_,rfl⟩
  rw [← hn] at HV hc1 ⊢
  have HN:=zh hn
  have hnz:(n:Int)≤400000:=by omega
  by_cases h2:n<2
  ·have d1:decide ((n:Int)<2)=true:=by simp;omega
   have PW:Hid (l.Pairwise (fun a b=>leN a b=true)):=by
    match l,hn with
    | [],_=>exact List.Pairwise.nil
    | [x],_=>exact List.pairwise_singleton _ _
    | x :: y :: r,hn=>simp at hn;omega
   clear ih hn hN hL hc1 hc2 hat h2
   go_enter Tryz.func53,Tryz.ntmps53
   go_wp2_with fail
   go_ret
   exact⟨_,l,rfl,HV.out,List.Perm.refl _,PW.out,zs9 _ _⟩
  have d1:decide ((n:Int)<2)=false:=by simp;omega
  obtain⟨g,o,rfl,hat2⟩:=hat (by omega)
  have hn0:(0:Int)≤n:=by omega
  have hq:(n:Int).tdiv 2=((n / 2:Nat):Int):=by rw [Int.tdiv_eq_ediv_of_nonneg hn0];omega
  have hm0:(0:Int)≤(n / 2):=by omega
  have hmn:((n / 2:Nat):Int)≤n:=by omega
  have hmc:((n / 2:Nat):Int)≤c:=by omega
  have hnc:(n:Int)≤c:=by omega
  have hcz:(c:Int)≤9223372036854775807:=by simp only [maxLen] at hc2;omega
  have hm1:(n / 2)<n:=by omega
  have hm2:0<(n / 2):=by omega
  have hmn':(n / 2)≤n:=by omega
  have hmc':(n / 2)≤c:=by omega
  have S1:Hid (StC w (.slice (some ⟨g,o,none⟩) (n / 2) c) (l.take (n / 2))):=by
   have e:(l.take (n / 2)).length=(n / 2):=by rw [List.length_take];omega
   exact⟨_,c,by rw [e],by omega,hc2,fun _=>⟨g,o,rfl,fun i x hi=>by
    have hil:=(zq8.1 hi).1
    rw [e] at hil
    rw [List.getElem?_take_of_lt hil] at hi
    exact hat2 i x hi⟩⟩
  have S2:Hid (StC w (.slice (some ⟨g,o+(n / 2),none⟩) (n - (n / 2)) (c - (n / 2))) (l.drop (n / 2))):=by
   have e:(l.drop (n / 2)).length=n - (n / 2):=by rw [List.length_drop];omega
   exact⟨_,c - (n / 2),by rw [e],by omega,by omega,fun _=>⟨g,o+(n / 2),rfl,fun i x hi=>by
    rw [List.getElem?_drop] at hi
    rw [Nat.add_assoc]
    exact hat2 ((n / 2)+i) x hi⟩⟩
  have C1:=zh (IH.out (l.take (n / 2)) (by rw [List.length_take];omega) (by rw [List.length_take];omega) S1.out)
  have L2:Hid ((l.drop (n / 2)).length≤N∧(l.drop (n / 2)).length≤400000):=by show _∧_;rw [List.length_drop];omega
  clear ih hn hN hL hc1 hc2 hat hat2 h2
  go_enter Tryz.func53,Tryz.ntmps53
  go_wp2_with fail
  refine C1.out.mono ?_
  rintro en w1 ⟨v1,a,rfl,ha1,ha2,ha3,hb1⟩
  have A1:=zh ha1
  have A2:=zh ha2
  have A3:=zh ha3
  have B1:=zh hb1
  have C2:=zh (IH.out (l.drop (n / 2)) L2.out.1 L2.out.2 (S2.out.kept (zd hb1)))
  obtain⟨ada,ca,rfl,-⟩:=ha1
  clear ha2 ha3 hb1 S1 S2 C1
  go_wp2_with fail
  refine C2.out.mono ?_
  rintro en w2 ⟨v2,b,rfl,hb1,hb2,hb3,hbw⟩
  have AA:Hid (StC w2 (.slice ada a.length ca) a):=A1.out.kept (zd hbw)
  have BB:=zh hb1
  have PM:Hid ((a.merge b leN).Perm l):=by
   refine(List.merge_perm_append leN).trans ((A2.out.append hb2).trans ?_)
   rw [List.take_append_drop]
  have PW:Hid ((a.merge b leN).Pairwise (fun a b=>leN a b=true)):=List.pairwise_merge leN_trans leN_total _ _ A3.out hb3
  have B2:Hid (Below w.heap.size w w2):=B1.out.trans (hbw.mono B1.out.size)
  have LA:Hid (a.length+b.length=n):=by
   have h1:=A2.out.length_eq
   have h2:=hb2.length_eq
   rw [List.length_take] at h1
   rw [List.length_drop] at h2
   have:=HN.out
   show _=_;omega
  obtain⟨adb,cb,rfl,-⟩:=hb1
  obtain⟨na,hna⟩:∃ n,n=a.length:=⟨_,rfl⟩
  obtain⟨nb,hnb⟩:∃ n,n=b.length:=⟨_,rfl⟩
  rw [← hna] at AA LA ⊢
  rw [← hnb] at BB LA ⊢
  have HNA:=zh hna
  have HNB:=zh hnb
  have hnaz:(na:Int)≤400000:=by have:=LA.out;omega
  have hnbz:(nb:Int)≤400000:=by have:=LA.out;omega
  obtain⟨R,hR⟩:∃ R,R=a.merge b leN:=⟨_,rfl⟩
  rw [← hR] at PM PW
  have HR:=zh hR
  obtain⟨i9,p1,p2,p3,p4⟩:=info_parts Tryz.info9v
  have HI:=zh (And.intro p1 (And.intro p2 (And.intro p3 p4)))
  clear hb2 hb3 hbw A1 A2 A3 B1 C2 hna hnb hR p1 p2 p3 p4 L2 IH
  go_wp2_with fail
  go_loopw [5,6,7] (fun vo iv kv wr=>∃ (i k:Nat) (out:List Nm),i≤na∧k≤nb∧iv = .int .i64 i∧kv = .int .i64 k∧out.length=i+k∧wr.ownsRow w2.heap.size 9 1 vo out.length (strs out)∧out++(a.drop i).merge (b.drop k) leN=R∧Below w2.heap.size w2 wr) (fun _ iv kv _=>na+nb - ((intOf iv).toNat+(intOf kv).toNat))
  case atStart=>exact⟨0,0,[],Nat.zero_le _,Nat.zero_le _,rfl,rfl,rfl,World.ownsRow_nil _ _ _ _,by rw [HR.out];rfl,zs9 _ _⟩
  rename World=>W
  obtain⟨i,k,out,hi,hk,rfl,rfl,hol,hown,hmg,hbw⟩:=hrel
  have KI:=zh hi
  have KK:=zh hk
  have OL:=zh hol
  have OW:=zh hown
  have MG:=zh hmg
  have BW:=zh hbw
  have hi0:(0:Int)≤i:=by omega
  have hk0:(0:Int)≤k:=by omega
  have hiz:(i:Int)≤400000:=by omega
  have hkz:(k:Int)≤400000:=by omega
  obtain⟨ra,rc,hvo⟩:=own_sliceI hown
  obtain⟨nr,hnr⟩:∃ q,q=out.length:=⟨_,rfl⟩
  rw [← hnr] at hvo
  have HNR:=zh hnr
  subst hvo
  have NB:Hid (nr+1≤maxLen∧(nr+1)*16≤140737488355328):=by show _∧_;simp only [maxLen];omega
  clear hi hk hol hown hmg hbw hnr
  have left:Hid (∀ x,a[i]?=some x→(b.length≤k∨∃ y,b[k]?=some y∧leN x y=true)→(out++[x])++(a.drop (i+1)).merge (b.drop k) leN=R):=fun x hx h=>by
   rw [← MG.out,mg_left hx h];simp
  have right:Hid (∀ y,b[k]?=some y→(a.length≤i∨∃ x,a[i]?=some x∧leN x y=false)→(out++[y])++(a.drop i).merge (b.drop (k+1)) leN=R):=fun y hy h=>by
   rw [← MG.out,mg_right hy h];simp
  have grow:Hid (∀ (T:World) (x:Nm),Below W.heap.size W T→World.ownsRow (T.alloc (.cells #[.string x] 9)) w2.heap.size 9 1 (.slice ra nr rc) nr (strs out)):=fun T x hT=>by
   have h1:=OW.out
   rw [← HNR.out] at h1
   exact owns_keep2 h1 fun q hq=>(zt2 _ _ _ (zt5 (World.ownsRow.lt h1 q hq).2 hT.size)).trans (hT.block q (World.ownsRow.lt h1 q hq).2)
  by_cases hkn:k<nb
  ·have dk:((k:Int)==nb)=false:=by simp;omega
   have dk2:decide ((k:Int)<nb)=true:=by simp;omega
   have HKN:=zh hkn
   obtain⟨gb,ob,y,hadb,hy,yb⟩:=(BB.out.kept (zd BW.out)).read HNB.out hkn
   subst hadb
   have HY:=zh hy
   have hkzn:(k:Int)<nb:=by omega
   by_cases hin:i<na
   ·have di:decide ((i:Int)<na)=true:=by simp;omega
    have hizn:(i:Int)<na:=by omega
    have HIN:=zh hin
    obtain⟨ga,oa,x,hada,hx,xa⟩:=(AA.out.kept (zd BW.out)).read HNA.out hin
    subst hada
    have HX:=zh hx
    clear hkn hin hx hy
    cases hle:leN x y with
    | true =>
     have NXT:=zh (left.out x HX.out (.inr ⟨y,HY.out,hle⟩))
     have dl:(Op.bytesLess x.toList y.toList||x.toList==y.toList)=true:=hle
     clear hle
     go_wp2_with fail
     go_quiet (fail)
     obtain⟨WQ,hWQ⟩:∃ X,X=W.drewN nq:=⟨_,rfl⟩
     have BQ:Hid (Below W.heap.size W WQ):=by rw [hWQ];exact zj _ _ _
     have xc:WQ.cell? ⟨ga,oa+i,none⟩=some (.string x):=by rw [hWQ];exact xa
     try rw [← hWQ]
     have O5:=zh (grow.out WQ x BQ.out)
     have BA:Hid (Below w2.heap.size w2 (WQ.alloc (.cells #[.string x] 9))):=(BW.out.trans (BQ.out.mono BW.out.size)).alloc (BW.out.trans (BQ.out.mono BW.out.size)).size _
     clear hWQ xa
     go_wp2_with (at_builtin;refine wpList_append_own _ rfl _ _ 35 rfl w2.heap.size 9 i9 (.string ⟨#[]⟩) 1 16 Tryz.underlying35 HI.out.1 HI.out.2.1 HI.out.2.2.1 HI.out.2.2.2 rfl (by decide) (.slice ra nr rc) nr (strs out) rfl O5.out ⟨WQ.heap.size,0,none⟩ 1 1 [.string x] rfl rfl (news1 _ _ _) (fun u hu=>by simp at hu;rw [hu];rfl) NB.out.1 NB.out.2 BA.out.size ?_)
     intro vo' w6 hown hg6 _
     have B6:Hid (Below w2.heap.size w2 w6):=BA.out.grown hg6 BA.out.size (fun q e=>(O5.out.lt q e).1)
     have O6:Hid (w6.ownsRow w2.heap.size 9 1 vo' (out++[x]).length (strs (out++[x]))):=by
      show World.ownsRow _ _ _ _ _ _ _
      rw [zr2,List.length_singleton,← HNR.out]
      unfold strs at hown ⊢
      rw [List.map_append];exact hown
     clear hown hg6 O5 xc
     go_wp2_with fail
     go_roundw
     case rel=>exact⟨i+1,k,out++[x],HIN.out,KK.out,by go_num,by go_num,by rw [zr2,OL.out];simp;omega,O6.out,NXT.out,B6.out⟩
     case measure=>have h1:=KI.out;have h2:=KK.out;have h3:=HIN.out;simp [intOf];omega
    | false =>
     have NXT:=zh (right.out y HY.out (.inr ⟨x,HX.out,hle⟩))
     have dl:(Op.bytesLess x.toList y.toList||x.toList==y.toList)=false:=hle
     clear hle
     go_wp2_with fail
     go_quiet (fail)
     obtain⟨WQ,hWQ⟩:∃ X,X=W.drewN nq:=⟨_,rfl⟩
     have BQ:Hid (Below W.heap.size W WQ):=by rw [hWQ];exact zj _ _ _
     have xc:WQ.cell? ⟨gb,ob+k,none⟩=some (.string y):=by rw [hWQ];exact yb
     try rw [← hWQ]
     have O5:=zh (grow.out WQ y BQ.out)
     have BA:Hid (Below w2.heap.size w2 (WQ.alloc (.cells #[.string y] 9))):=(BW.out.trans (BQ.out.mono BW.out.size)).alloc (BW.out.trans (BQ.out.mono BW.out.size)).size _
     clear hWQ yb
     go_wp2_with (at_builtin;refine wpList_append_own _ rfl _ _ 35 rfl w2.heap.size 9 i9 (.string ⟨#[]⟩) 1 16 Tryz.underlying35 HI.out.1 HI.out.2.1 HI.out.2.2.1 HI.out.2.2.2 rfl (by decide) (.slice ra nr rc) nr (strs out) rfl O5.out ⟨WQ.heap.size,0,none⟩ 1 1 [.string y] rfl rfl (news1 _ _ _) (fun u hu=>by simp at hu;rw [hu];rfl) NB.out.1 NB.out.2 BA.out.size ?_)
     intro vo' w6 hown hg6 _
     have B6:Hid (Below w2.heap.size w2 w6):=BA.out.grown hg6 BA.out.size (fun q e=>(O5.out.lt q e).1)
     have O6:Hid (w6.ownsRow w2.heap.size 9 1 vo' (out++[y]).length (strs (out++[y]))):=by
      show World.ownsRow _ _ _ _ _ _ _
      rw [zr2,List.length_singleton,← HNR.out]
      unfold strs at hown ⊢
      rw [List.map_append];exact hown
     clear hown hg6 O5 xc
     go_wp2_with fail
     go_roundw
     case rel=>exact⟨i,k+1,out++[y],KI.out,HKN.out,by go_num,by go_num,by rw [zr2,OL.out];simp;omega,O6.out,NXT.out,B6.out⟩
     case measure=>have h1:=KI.out;have h2:=KK.out;have h3:=HKN.out;simp [intOf];omega
   have di:decide ((i:Int)<na)=false:=by simp;omega
   have di3:(na:Int)≤i:=by omega
   have di4:decide (i<na)=false:=by simp;omega
   have NXT:=zh (right.out y HY.out (.inl (by have:=HNA.out;omega)))
   clear hkn hin hy
   go_wp2_with fail
   go_quiet (fail)
   obtain⟨WQ,hWQ⟩:∃ X,X=W.drewN nq:=⟨_,rfl⟩
   have BQ:Hid (Below W.heap.size W WQ):=by rw [hWQ];exact zj _ _ _
   have xc:WQ.cell? ⟨gb,ob+k,none⟩=some (.string y):=by rw [hWQ];exact yb
   try rw [← hWQ]
   have O5:=zh (grow.out WQ y BQ.out)
   have BA:Hid (Below w2.heap.size w2 (WQ.alloc (.cells #[.string y] 9))):=(BW.out.trans (BQ.out.mono BW.out.size)).alloc (BW.out.trans (BQ.out.mono BW.out.size)).size _
   clear hWQ yb
   go_wp2_with (at_builtin;refine wpList_append_own _ rfl _ _ 35 rfl w2.heap.size 9 i9 (.string ⟨#[]⟩) 1 16 Tryz.underlying35 HI.out.1 HI.out.2.1 HI.out.2.2.1 HI.out.2.2.2 rfl (by decide) (.slice ra nr rc) nr (strs out) rfl O5.out ⟨WQ.heap.size,0,none⟩ 1 1 [.string y] rfl rfl (news1 _ _ _) (fun u hu=>by simp at hu;rw [hu];rfl) NB.out.1 NB.out.2 BA.out.size ?_)
   intro vo' w6 hown hg6 _
   have B6:Hid (Below w2.heap.size w2 w6):=BA.out.grown hg6 BA.out.size (fun q e=>(O5.out.lt q e).1)
   have O6:Hid (w6.ownsRow w2.heap.size 9 1 vo' (out++[y]).length (strs (out++[y]))):=by
    show World.ownsRow _ _ _ _ _ _ _
    rw [zr2,List.length_singleton,← HNR.out]
    unfold strs at hown ⊢
    rw [List.map_append];exact hown
   clear hown hg6 O5 xc
   go_wp2_with fail
   go_roundw
   case rel=>exact⟨i,k+1,out++[y],KI.out,HKN.out,by go_num,by go_num,by rw [zr2,OL.out];simp;omega,O6.out,NXT.out,B6.out⟩
   case measure=>have h1:=KI.out;have h2:=KK.out;have h3:=HKN.out;simp [intOf];omega
  have dk:((k:Int)==nb)=true:=by have:=KK.out;simp;omega
  have dk2:decide ((k:Int)<nb)=false:=by simp;omega
  have dk3:(nb:Int)≤k:=by omega
  have dk4:decide (k<nb)=false:=by simp;omega
  by_cases hin:i<na
  ·have di:decide ((i:Int)<na)=true:=by simp;omega
   have hizn:(i:Int)<na:=by omega
   have HIN:=zh hin
   obtain⟨ga,oa,x,hada,hx,xa⟩:=(AA.out.kept (zd BW.out)).read HNA.out hin
   subst hada
   have HX:=zh hx
   have NXT:=zh (left.out x hx (.inl (by have:=HNB.out;omega)))
   clear hkn hin hx
   go_wp2_with fail
   go_quiet (fail)
   obtain⟨WQ,hWQ⟩:∃ X,X=W.drewN nq:=⟨_,rfl⟩
   have BQ:Hid (Below W.heap.size W WQ):=by rw [hWQ];exact zj _ _ _
   have xc:WQ.cell? ⟨ga,oa+i,none⟩=some (.string x):=by rw [hWQ];exact xa
   try rw [← hWQ]
   have O5:=zh (grow.out WQ x BQ.out)
   have BA:Hid (Below w2.heap.size w2 (WQ.alloc (.cells #[.string x] 9))):=(BW.out.trans (BQ.out.mono BW.out.size)).alloc (BW.out.trans (BQ.out.mono BW.out.size)).size _
   clear hWQ xa
   go_wp2_with (at_builtin;refine wpList_append_own _ rfl _ _ 35 rfl w2.heap.size 9 i9 (.string ⟨#[]⟩) 1 16 Tryz.underlying35 HI.out.1 HI.out.2.1 HI.out.2.2.1 HI.out.2.2.2 rfl (by decide) (.slice ra nr rc) nr (strs out) rfl O5.out ⟨WQ.heap.size,0,none⟩ 1 1 [.string x] rfl rfl (news1 _ _ _) (fun u hu=>by simp at hu;rw [hu];rfl) NB.out.1 NB.out.2 BA.out.size ?_)
   intro vo' w6 hown hg6 _
   have B6:Hid (Below w2.heap.size w2 w6):=BA.out.grown hg6 BA.out.size (fun q e=>(O5.out.lt q e).1)
   have O6:Hid (w6.ownsRow w2.heap.size 9 1 vo' (out++[x]).length (strs (out++[x]))):=by
    show World.ownsRow _ _ _ _ _ _ _
    rw [zr2,List.length_singleton,← HNR.out]
    unfold strs at hown ⊢
    rw [List.map_append];exact hown
   clear hown hg6 O5 xc
   go_wp2_with fail
   go_roundw
   case rel=>exact⟨i+1,k,out++[x],HIN.out,KK.out,by go_num,by go_num,by rw [zr2,OL.out];simp;omega,O6.out,NXT.out,B6.out⟩
   case measure=>have h1:=KI.out;have h2:=KK.out;have h3:=HIN.out;simp [intOf];omega
  have di:decide ((i:Int)<na)=false:=by simp;omega
  have di3:(na:Int)≤i:=by omega
  have di4:decide (i<na)=false:=by simp;omega
  have E:Hid (out=R):=by
   show _=_
   rw [← MG.out,List.drop_of_length_le (by have:=HNA.out;omega),List.drop_of_length_le (by have:=HNB.out;omega),merge_nil,List.append_nil]
  clear hkn hin
  go_wp2_with fail
  go_ret
  have h1:=OW.out
  exact⟨_,R,rfl,by rw [← E.out];exact StC.of_own (by rw [← HNR.out];rw [← HNR.out] at h1;exact h1),PM.out,PW.out,B2.out.trans (BW.out.mono B2.out.size)⟩
end Go.Proofs.YtnkahlloahgifaaGreatDoor
namespace Go.Proofs.YtnkahlloahgifaaGreatDoor
open Go.RowKit RG Go.Maps RF
theorem sizes_len2:∀ l:List (List Nm×TE),l.length≤sizes l
 | []=>Nat.zero_le _
 | p :: r=>by rw [zg,List.length_cons];have:=sizes_len2 r;have:=p.2.size_pos;omega
theorem next_few {ps:List Nm}{e:TE}{i:Nat}(hi:i<(F0 ps e).length):(nd (F0 ps e) i).next.length≤(F0 ps e).length:=by
 obtain⟨l,hs⟩:=stk_at ps e i (by omega)
 obtain⟨bs,e1,r,rfl,hn,hz⟩:=stk_head hs hi
 have h1:=e1.size_kids
 have h2:=sizes_len2 e1.kids
 rw [hn]
 show (nums (i+1) e1.kids).length≤_
 rw [nums_length]
 omega
end Go.Proofs.YtnkahlloahgifaaGreatDoor
namespace Go.Proofs.YtnkahlloahgifaaGreatDoor
open Go.RowKit RG Go.Maps
def VarsAt (w:World) (v:Value) (l:List (Nm×Int)):Prop :=
 ∃ (ad:Option Addr) (c:Nat),v = .slice ad l.length c∧(0<l.length→∃ g o,ad=some ⟨g,o,none⟩∧∀ (i:Nat) m,l[i]?=some m→w.cell? ⟨g,o+i*2,none⟩=some (.string m.1)∧w.cell? ⟨g,o+i*2+1,none⟩=some (.int .i64 m.2))
theorem VarsAt.kept {w w':World}{v:Value}{l:List (Nm×Int)}(h:VarsAt w v l) (hk:Kept w w'):VarsAt w' v l:=by
 obtain⟨ad,c,e,h1⟩:=h
 exact⟨ad,c,e,fun h0=>by obtain⟨g,o,e2,hat⟩:=h1 h0;exact⟨g,o,e2,fun i m hi=>⟨hk _ _ (hat i m hi).1,hk _ _ (hat i m hi).2⟩⟩⟩
def regFind (l:List (Nm×Int)) (x:Nm):Option Int:=(l.find? fun p=>decide (p.1=x)).map (·.2)
def RgP (w:World) (r:Option Int) (e:Ending) (w':World):Prop:=Below w.heap.size w w'∧e = .returned (.tuple #[.int .i64 (r.getD 0),.bool r.isSome])
theorem bytes_beq (a b:Nm):(a.toList==b.toList)=decide (a=b):=by
 rw [Bool.eq_iff_iff,beq_iff_eq,decide_eq_true_eq]
 exact⟨fun h=>WideShapes.bytes_inj (by rw [Lib.toList_data,Lib.toList_data] at h;exact h),fun h=>by rw [h]⟩
theorem reg_any {w:World}{n0:Int}{v:Value}{l:List (Nm×Int)}(x:Nm) (h:VarsAt w v l) (hl:l.length≤9223372036854775807):Calls Tryz.prog 44 #[.agg #[.int .i64 n0,v],.string x] w (RgP w (regFind l x)):=by
 obtain⟨ad,c,rfl,hat⟩:=h
 have HAT:=zh hat
 obtain⟨n,hn⟩:∃ n,n=l.length:=⟨_,rfl⟩
 rw [← hn] at hl ⊢
 have HN:=zh hn
 have hnz:(n:Int)≤9223372036854775807:=by omega
 obtain⟨r,hr⟩:∃ r,r=regFind l x:=⟨_,rfl⟩
 rw [← hr]
 have HR:=zh hr
 clear hat hn hl hr
 go_enter Tryz.func44,Tryz.ntmps44
 go_wp2_with fail
 go_loopw [11] (fun iv wr=>∃ k:Nat,k≤n∧iv = .int .i64 k∧Below w.heap.size w wr∧w.heap.size<wr.heap.size∧r=regFind (l.drop k) x) (fun iv _=>n - (intOf iv).toNat)
 case atStart=>exact⟨0,Nat.zero_le _,rfl,(zs9 _ _).alloc (zr4 _) _,by simp,HR.out⟩
 obtain⟨k,hk,rfl,hb,hs,hq⟩:=hrel
 have HK:=zh hk
 have HB:=zh hb
 have HQ:=zh hq
 have HS:=zh hs
 clear hk hb hq hs
 by_cases hlt:k<n
 ·obtain⟨g,o,rfl,hat⟩:=HAT.out (by have:=HN.out;omega)
  obtain⟨⟨y,rg⟩,hx⟩:∃ m,l[k]?=some m:=⟨_,zq9 (by have:=HN.out;omega)⟩
  obtain⟨y0,y1⟩:=hat k _ hx
  have y0:=zd HB.out _ _ y0
  have y1:=zd HB.out _ _ y1
  simp only [] at y0 y1
  have HX:=zh hx
  have HLT:=zh hlt
  have hlz:(k:Int)<n:=by omega
  have VB:Hid (∀ o,Below w.heap.size w (wr.alloc o)∧w.heap.size<(wr.alloc o).heap.size):=fun o=>⟨HB.out.alloc HB.out.size _,by have:=HS.out;rw [World.size_alloc];omega⟩
  have DR:Hid (l.drop k=(y,rg) :: l.drop (k+1)):=by
   show _=_
   have hk:=(zq8.1 hx).1
   rw [zq9 hk,zt3] at hx
   rw [List.drop_eq_getElem_cons hk,hx]
  clear hat hx hlt
  by_cases hy:y=x
  ·have E2:Hid (r=some rg):=by show _=_;rw [HQ.out,DR.out];unfold regFind;rw [List.find?_cons_of_pos (by simp [hy])];rfl
   have d1:(y.toList==x.toList)=true:=by rw [bytes_beq];simp [hy]
   clear hy
   go_wp2_with fail
   go_ret2
   exact⟨(VB.out _).1,by rw [E2.out];rfl⟩
  have E2:Hid (r=regFind (l.drop (k+1)) x):=by show _=_;rw [HQ.out,DR.out];unfold regFind;rw [List.find?_cons_of_neg (by simp [hy])]
  have d1:(y.toList==x.toList)=false:=by rw [bytes_beq];simp [hy]
  clear hy
  go_wp2_with fail
  go_roundw
  case rel=>exact⟨k+1,HLT.out,by go_num,(VB.out _).1,(VB.out _).2,E2.out⟩
  case measure=>have:=HLT.out;simp [intOf];omega
 have hlz:(n:Int)≤k:=by omega
 have E2:Hid (r=none):=by
  show _=_
  have hkl:l.length≤k:=by have:=HN.out;omega
  rw [HQ.out,List.drop_of_length_le hkl]
  rfl
 clear hlt
 go_wp2_with fail
 go_ret2
 exact⟨HB.out,by rw [E2.out];rfl⟩
def StP (w:World) (b:Bool) (e:Ending) (w':World):Prop:=Below w.heap.size w w'∧e = .returned (.bool b)
theorem StrsAt.cells {w:World}{v:Value}{ns:List Nm}(h:StrsAt w v ns):∃ ad c,v = .slice ad ns.length c∧(0<ns.length→∃ g o,ad=some ⟨g,o,none⟩∧∀ (i:Nat) x,ns[i]?=some x→w.cell? ⟨g,o+i,none⟩=some (.string x)):=by
 obtain⟨-,ad,c,rfl,hat⟩:=h
 exact⟨ad,c,rfl,fun h0=>by obtain⟨g,o,e,h1⟩:=hat h0;exact⟨g,o,e,fun i x hi=>h1 i _ (strs_at hi)⟩⟩
theorem sameTexts_any {w:World}{v u:Value}{a b:List Nm}(ha:StrsAt w v a) (hb:StrsAt w u b) (hl:a.length≤1000000000000):Calls Tryz.prog 18 #[v,u] w (StP w (decide (a=b))):=by
 obtain⟨aa,ac,rfl,hat⟩:=ha.cells
 obtain⟨ba,bc,rfl,hbt⟩:=hb.cells
 have HAT:=zh hat
 have HBT:=zh hbt
 obtain⟨n,hn⟩:∃ n,n=a.length:=⟨_,rfl⟩
 obtain⟨m,hm⟩:∃ m,m=b.length:=⟨_,rfl⟩
 obtain⟨ans,hans⟩:∃ r,r=decide (a=b):=⟨_,rfl⟩
 rw [← hn] at hl ⊢
 rw [← hm,← hans]
 have HN:=zh hn
 have HM:=zh hm
 have HA:=zh hans
 have hnz:(n:Int)≤1000000000000:=by omega
 clear ha hb hat hbt hn hl hans hm
 by_cases hnm:n=m
 ·subst hnm
  have dn:((n:Int) != n)=false:=by simp
  go_enter Tryz.func18,Tryz.ntmps18
  go_wp2_with fail
  go_loopw [5] (fun iv wr=>∃ k:Nat,k≤n∧iv = .int .i64 k∧Below w.heap.size w wr∧a.take k=b.take k) (fun iv _=>n - (intOf iv).toNat)
  case atStart=>exact⟨0,Nat.zero_le _,rfl,zs9 _ _,rfl⟩
  obtain⟨k,hk,rfl,hb,hq⟩:=hrel
  have HK:=zh hk
  have HB:=zh hb
  have HQ:=zh hq
  clear hk hb hq
  by_cases hlt:k<n
  ·obtain⟨g,o,rfl,hat⟩:=HAT.out (by have:=HN.out;omega)
   obtain⟨g2,o2,rfl,hbt⟩:=HBT.out (by have:=HM.out;omega)
   obtain⟨x,hx⟩:∃ x,a[k]?=some x:=⟨_,zq9 (by have:=HN.out;omega)⟩
   obtain⟨y,hy⟩:∃ y,b[k]?=some y:=⟨_,zq9 (by have:=HM.out;omega)⟩
   have y0:=zd HB.out _ _ (hat k x hx)
   have y1:=zd HB.out _ _ (hbt k y hy)
   have HX:=zh hx
   have HY:=zh hy
   have HLT:=zh hlt
   have hlz:(k:Int)<n:=by omega
   have hk0:(0:Int)≤k:=by omega
   clear hat hbt hx hy hlt
   by_cases hxy:x=y
   ·have d1:(!x.toList==y.toList)=false:=by rw [bytes_beq];simp [hxy]
    have E2:Hid (a.take (k+1)=b.take (k+1)):=by show _=_;rw [List.take_add_one,List.take_add_one,HX.out,HY.out,HQ.out,hxy]
    clear hxy
    go_wp2_with fail
    go_quiet (fail)
    go_wp2_with fail
    go_roundw
    case rel=>exact⟨k+1,HLT.out,by go_num,HB.out.trans (zj _ _ _),E2.out⟩
    case measure=>have:=HLT.out;simp [intOf];omega
   have d1:(!x.toList==y.toList)=true:=by rw [bytes_beq];simp [hxy]
   have E2:Hid (ans=false):=by
    show _=_
    rw [HA.out,decide_eq_false_iff_not]
    intro e
    have h1:=HX.out
    rw [e,HY.out,zt3] at h1
    exact hxy h1.symm
   clear hxy
   go_wp2_with fail
   go_quiet (fail)
   go_wp2_with fail
   go_ret
   exact⟨HB.out.trans (zj _ _ _),by rw [E2.out];rfl⟩
  have hlz:(n:Int)≤k:=by omega
  have E2:Hid (ans=true):=by
   show _=_
   rw [HA.out,decide_eq_true_eq]
   have h1:=HQ.out
   rwa [zr3 (by have:=HN.out;omega),zr3 (by have:=HM.out;omega)] at h1
  clear hlt
  go_wp2_with fail
  go_ret
  exact⟨HB.out,by rw [E2.out];rfl⟩
 have dn:((n:Int) != m)=true:=by simp;omega
 have E2:Hid (ans=false):=by
  show _=_
  rw [HA.out,decide_eq_false_iff_not]
  intro e
  exact hnm (by rw [HN.out,HM.out,e])
 clear hnm
 go_enter Tryz.func18,Tryz.ntmps18
 go_wp2_with fail
 go_ret
 exact⟨zs9 _ _,by rw [E2.out];rfl⟩
end Go.Proofs.YtnkahlloahgifaaGreatDoor
namespace Go.Proofs.YtnkahlloahgifaaGreatDoor.Lx.LX
def small (c:Nat):Bool:=decide (97≤c)&&decide (c≤122)
def great (c:Nat):Bool:=decide (65≤c)&&decide (c≤90)
def digit (c:Nat):Bool:=decide (48≤c)&&decide (c≤57)
def part (c:Nat):Bool:=small c||great c||digit c||c==95
def space (c:Nat):Bool:=c==32||c==9||c==10||c==13
def run (p:Nat→Bool):List Nat→Nat
 | []=>0
 | c :: t=>if p c then run p t+1 else 0
inductive CR where
 | fin (n:Nat)
 | deep (n:Nat)
 | never
def cmt:List Nat→Nat→Nat→CR
 | [],_,_ => .never
 | [_],_,_ => .never
 | a :: b :: t,d,n =>
  if a=40∧b=42 then (if 100≤d then .deep n else cmt t (d+1) (n+2))
  else if a=42∧b=41 then (if d=1 then .fin (n+2) else cmt t (d - 1) (n+2))
  else cmt (b :: t) d (n+1)
def nat10:Nat→Nat→List Nat
 | 0,_=>[]
 | f+1,n=>if n<10 then [48+n] else nat10 f (n / 10)++[48+n % 10]
def digs (n:Int):List Nat:=if n<0 then 126 :: nat10 30 n.natAbs else nat10 30 n.natAbs
def mag (l:List Nat):Nat:=l.foldl (fun a c=>10*a+(c - 48)) 0
def num (l:List Nat):Option Int :=
 let v:Int:=match l with | 126 :: t => - (mag t:Int) | _=>(mag l:Int)
 if -9223372036854775808≤v∧v≤9223372036854775807∧digs v=l then some v else none
def words:List (List Nat) :=
 [[97,110,100],[99,97,115,101],[100,97,116,97],[101,108,115,101],[101,110,100],[102,110],[102,117,110],[105,102],[105,110],[105,110,112,117,116],[108,101,116],[111,102],[111,117,116,112,117,116],[116,104,101,110],[118,97,108]]
def signs:List Nat:=[40,41,44,59,58,124,61,60,43,45,42,47,37,95]
inductive TR where
 | tok (kind:Nat) (num:Int) (n:Nat)
 | bad (e:Nat)
def made (k n:Nat):TR:=if 24<n then .bad 2 else .tok k 0 n
def nameLen (l:List Nat):Nat :=
 let n:=run part l
 match l.drop n with
 | []=>n
 | c :: t=>if c=39∧0<run digit t then n+1+run digit t else n
def named (k:Nat) (l:List Nat):TR :=
 match made k (nameLen l) with
 | .tok k v n => .tok (if words.contains (l.take n) then 5 else k) v n
 | .bad e => .bad e
def number (l:List Nat) (n:Nat):TR :=
 let d:=n+run digit (l.drop n)
 match num (l.take d) with
 | none => .bad 13
 | some v =>
  match l.drop d with
  | [] => .tok 1 v d
  | x :: _=>if part x||x==39 then .bad 13 else .tok 1 v d
def head0 (l:List Nat):Nat:=l.headD 0
def token (l:List Nat):TR :=
 match l with
 | [] => .bad 11
 | c :: t =>
  if digit c||c==126 then number l (if c=126 then 1 else 0)
  else if small c then named 2 l
  else if great c then named 3 l
  else if c=39∧small (head0 t) then made 4 (1+run part t)
  else if (c=61∨c=45)∧head0 t=62 then .tok 6 0 2
  else if signs.contains c then .tok 6 0 1
  else .bad 11
structure Tok where
 kind:Nat
 num:Int
 text:List Nat
 place:Nat
inductive Res where
 | ok (l:List Tok) (cs:List (Nat×Nat))
 | bad (place e:Nat)
def Res.tok (t:Tok):Res→Res
 | .ok l cs => .ok (t :: l) cs
 | .bad p e => .bad p e
def Res.cmt (c:Nat×Nat):Res→Res
 | .ok l cs => .ok l (c :: cs)
 | .bad p e => .bad p e
def opens:List Nat→Bool
 | 40 :: 42 :: _=>true
 | _=>false
def scanN:Nat→List Nat→Nat→Res
 | 0,_,_ => .ok [] []
 | _+1,[],_ => .ok [] []
 | f+1,c :: t,at' =>
  if space c then scanN f t (at'+1)
  else if opens (c :: t) then
   match cmt (c :: t) 0 0 with
   | .fin n=>(scanN f ((c :: t).drop n) (at'+n)).cmt (at',at'+n)
   | .deep n => .bad (at'+n) 6
   | .never => .bad at' 12
  else
   match token (c :: t) with
   | .tok k v n=>(scanN f ((c :: t).drop n) (at'+n)).tok ⟨k,v,(c :: t).take n,at'⟩
   | .bad e => .bad at' e
def scan (l:List Nat):Res:=scanN l.length l 0
end Go.Proofs.YtnkahlloahgifaaGreatDoor.Lx.LX
namespace Go.Proofs.YtnkahlloahgifaaGreatDoor.Lx
open Go.RowKit
theorem small_any (w:World) (c:Nat):Calls Tryz.prog 151 #[.int .u8 c] w fun e w'=>e = .returned (.bool (LX.small c))∧w'=w:=by
 by_cases h1:97≤c
 ·have k1:(97:Int)≤(c:Int):=by omega
  have e:LX.small c=decide ((c:Int)≤122):=by unfold LX.small;rw [decide_eq_true h1,Bool.true_and];exact decide_eq_decide.2 (by omega)
  rw [e]
  go_enter Tryz.func151,Tryz.ntmps151
  go_wp2
  go_ret
  exact⟨rfl,rfl⟩
 have k1:(c:Int)<97:=by omega
 have e:LX.small c=false:=by unfold LX.small;rw [decide_eq_false h1,Bool.false_and]
 rw [e]
 go_enter Tryz.func151,Tryz.ntmps151
 go_wp2
 go_ret
 exact⟨rfl,rfl⟩
theorem great_any (w:World) (c:Nat):Calls Tryz.prog 153 #[.int .u8 c] w fun e w'=>e = .returned (.bool (LX.great c))∧w'=w:=by
 by_cases h1:65≤c
 ·have k1:(65:Int)≤(c:Int):=by omega
  have e:LX.great c=decide ((c:Int)≤90):=by unfold LX.great;rw [decide_eq_true h1,Bool.true_and];exact decide_eq_decide.2 (by omega)
  rw [e]
  go_enter Tryz.func153,Tryz.ntmps153
  go_wp2
  go_ret
  exact⟨rfl,rfl⟩
 have k1:(c:Int)<65:=by omega
 have e:LX.great c=false:=by unfold LX.great;rw [decide_eq_false h1,Bool.false_and]
 rw [e]
 go_enter Tryz.func153,Tryz.ntmps153
 go_wp2
 go_ret
 exact⟨rfl,rfl⟩
theorem digit_any (w:World) (c:Nat):Calls Tryz.prog 149 #[.int .u8 c] w fun e w'=>e = .returned (.bool (LX.digit c))∧w'=w:=by
 by_cases h1:48≤c
 ·have k1:(48:Int)≤(c:Int):=by omega
  have e:LX.digit c=decide ((c:Int)≤57):=by unfold LX.digit;rw [decide_eq_true h1,Bool.true_and];exact decide_eq_decide.2 (by omega)
  rw [e]
  go_enter Tryz.func149,Tryz.ntmps149
  go_wp2
  go_ret
  exact⟨rfl,rfl⟩
 have k1:(c:Int)<48:=by omega
 have e:LX.digit c=false:=by unfold LX.digit;rw [decide_eq_false h1,Bool.false_and]
 rw [e]
 go_enter Tryz.func149,Tryz.ntmps149
 go_wp2
 go_ret
 exact⟨rfl,rfl⟩
theorem space_any (w:World) (c:Nat):Calls Tryz.prog 145 #[.int .u8 c] w fun e w'=>e = .returned (.bool (LX.space c))∧w'=w:=by
 by_cases h1:c=32
 ·subst h1
  go_enter Tryz.func145,Tryz.ntmps145
  go_wp2
  go_ret
  exact⟨rfl,rfl⟩
 by_cases h2:c=9
 ·subst h2
  go_enter Tryz.func145,Tryz.ntmps145
  go_wp2
  go_ret
  exact⟨rfl,rfl⟩
 by_cases h3:c=10
 ·subst h3
  go_enter Tryz.func145,Tryz.ntmps145
  go_wp2
  go_ret
  exact⟨rfl,rfl⟩
 have k1:((c:Int)==32)=false:=by simp;omega
 have k2:((c:Int)==9)=false:=by simp;omega
 have k3:((c:Int)==10)=false:=by simp;omega
 have e:LX.space c=((c:Int)==13):=by
  unfold LX.space
  rw [show (c==32)=false from by simp [h1],show (c==9)=false from by simp [h2],show (c==10)=false from by simp [h3],Bool.false_or,Bool.false_or,Bool.false_or]
  by_cases h4:c=13
  ·subst h4;rfl
  rw [show (c==13)=false from by simp [h4]];symm;simp;omega
 rw [e]
 have h1':¬ (c:Int)=32:=by omega
 have h2':¬ (c:Int)=9:=by omega
 have h3':¬ (c:Int)=10:=by omega
 clear e h1 h2 h3
 go_enter Tryz.func145,Tryz.ntmps145
 go_wp2
 go_ret
 exact⟨rfl,rfl⟩
theorem part_any (w:World) (c:Nat):Calls Tryz.prog 155 #[.int .u8 c] w fun e w'=>e = .returned (.bool (LX.part c))∧w'=w:=by
 unfold LX.part
 have s:=small_any w c
 have g:=great_any w c
 have d:=digit_any w c
 cases hs:LX.small c with
 | true =>
  rw [hs] at s
  go_enter Tryz.func155,Tryz.ntmps155
  go_wp2_with (go_at_call 151;refine s.mono ?_;rintro e w' ⟨rfl,rfl⟩)
  go_ret
  exact⟨rfl,rfl⟩
 | false =>
  rw [hs] at s
  cases hg:LX.great c with
  | true =>
   rw [hg] at g
   go_enter Tryz.func155,Tryz.ntmps155
   go_wp2_with (first
    | (go_at_call 151;refine s.mono ?_;rintro e w' ⟨rfl,rfl⟩)
    | (go_at_call 153;refine g.mono ?_;rintro e w' ⟨rfl,rfl⟩))
   go_ret
   exact⟨rfl,rfl⟩
  | false =>
   rw [hg] at g
   cases hd:LX.digit c with
   | true =>
    rw [hd] at d
    go_enter Tryz.func155,Tryz.ntmps155
    go_wp2_with (first
     | (go_at_call 151;refine s.mono ?_;rintro e w' ⟨rfl,rfl⟩)
     | (go_at_call 153;refine g.mono ?_;rintro e w' ⟨rfl,rfl⟩)
     | (go_at_call 149;refine d.mono ?_;rintro e w' ⟨rfl,rfl⟩))
    go_ret
    exact⟨rfl,rfl⟩
   | false =>
    rw [hd] at d
    go_enter Tryz.func155,Tryz.ntmps155
    go_wp2_with (first
     | (go_at_call 151;refine s.mono ?_;rintro e w' ⟨rfl,rfl⟩)
     | (go_at_call 153;refine g.mono ?_;rintro e w' ⟨rfl,rfl⟩)
     | (go_at_call 149;refine d.mono ?_;rintro e w' ⟨rfl,rfl⟩))
    go_ret
    refine⟨?_,rfl⟩
    show Ending.returned (Value.bool _)=_
    congr 2
    by_cases h:c=95
    ·subst h;rfl
    rw [show (c==95)=false from by simp [h]];simp;omega
end Go.Proofs.YtnkahlloahgifaaGreatDoor.Lx
namespace Go.Proofs
open Go.Shelf
def Tryz.lays137_ren:Go.Shelf.Ren:=⟨fun | 137=>156 | 217=>159 | 266=>164 | n=>n,fun | 9=>9 | 5=>5 | 3=>3 | n=>n,fun | n=>n⟩
theorem Tryz.lays137:Go.Proofs.Lays.n137 Tryz.prog Tryz.lays137_ren:={
 mixed:=by kernel_rfl
 f137:=Tryz.func156.trans (congrArg some (by kernel_rfl))
 f217:=Tryz.func159.trans (congrArg some (by kernel_rfl))
 f266:=Tryz.func164.trans (congrArg some (by kernel_rfl))
 t3:=Tryz.underlying3
 a3:=Tryz.isAgg3
 z3:=Tryz.sizeOf3
 v3:=Tryz.zeroValue3
 t5:=Tryz.underlying5
 a5:=Tryz.isAgg5
 z5:=Tryz.sizeOf5
 v5:=Tryz.zeroValue5
 t9:=Tryz.underlying9
 a9:=Tryz.isAgg9
 z9:=Tryz.sizeOf9
 v9:=Tryz.zeroValue9 }
open Go.RowKit in
theorem Tryz.strings_IndexByte (s:ByteArray) (c:Int) (w:World) :
  Calls Tryz.prog 156 #[.string s,.int .u8 c] w fun e w'=>e = .returned (.int .i64 (Lib.indexByte s.data.toList c.toNat.toUInt8))∧w'=w:=Any.strings_IndexByte Tryz.lays137 s c w
def Tryz.lays172_ren:Go.Shelf.Ren:=⟨fun | 172=>161 | 244=>165 | 245=>166 | 247=>174 | 279=>175 | 280=>176 | 281=>177 | 282=>178 | 287=>186 | 316=>187 | 171=>173 | 205=>188 | 321=>195 | 322=>196 | 243=>185 | 246=>194 | 283=>198 | 284=>199 | 285=>200 | 286=>201 | 129=>129 | 317=>202 | 318=>203 | 319=>204 | 320=>205 | 337=>206 | 338=>207 | n=>n,fun | 9=>9 | 3=>3 | 75=>236 | 76=>237 | 4=>4 | 5=>5 | 167=>250 | 37=>243 | 0=>0 | 85=>251 | 2=>2 | 168=>253 | 53=>199 | 175=>257 | 46=>186 | 210=>260 | 127=>256 | 145=>274 | 143=>272 | 21=>21 | 171=>277 | 173=>279 | 212=>282 | 51=>197 | 20=>20 | 213=>283 | 232=>284 | 233=>285 | 80=>249 | n=>n,fun | 15=>1 | 16=>2 | 17=>5 | 18=>6 | 19=>7 | n=>n⟩
def Tryz.laysM246_ren:Go.Shelf.Ren:=⟨fun | 246=>194 | 283=>198 | 284=>199 | 285=>200 | 286=>201 | 129=>129 | 317=>202 | 318=>203 | 319=>204 | 320=>205 | 337=>206 | 338=>207 | n=>n,fun | 2=>2 | 3=>3 | 9=>9 | 4=>4 | 171=>277 | 0=>0 | 53=>199 | 37=>243 | 5=>5 | 173=>279 | 212=>282 | 51=>197 | 20=>20 | 213=>283 | 46=>186 | 232=>284 | 233=>285 | n=>n,fun | 17=>5 | 18=>6 | 19=>7 | n=>n⟩
def Tryz.laysM243_ren:Go.Shelf.Ren:=⟨fun | 243=>185 | 246=>194 | 283=>198 | 284=>199 | 285=>200 | 286=>201 | 129=>129 | 317=>202 | 318=>203 | 319=>204 | 320=>205 | 337=>206 | 338=>207 | n=>n,fun | 3=>3 | 9=>9 | 2=>2 | 4=>4 | 171=>277 | 0=>0 | 53=>199 | 37=>243 | 5=>5 | 173=>279 | 212=>282 | 51=>197 | 20=>20 | 213=>283 | 46=>186 | 232=>284 | 233=>285 | n=>n,fun | 17=>5 | 18=>6 | 19=>7 | n=>n⟩
def Tryz.laysM171_ren:Go.Shelf.Ren:=⟨fun | 171=>173 | 243=>185 | 246=>194 | 283=>198 | 284=>199 | 285=>200 | 286=>201 | 129=>129 | 317=>202 | 318=>203 | 319=>204 | 320=>205 | 337=>206 | 338=>207 | n=>n,fun | 3=>3 | 9=>9 | 2=>2 | 4=>4 | 171=>277 | 0=>0 | 53=>199 | 37=>243 | 5=>5 | 173=>279 | 212=>282 | 51=>197 | 20=>20 | 213=>283 | 46=>186 | 232=>284 | 233=>285 | n=>n,fun | 17=>5 | 18=>6 | 19=>7 | n=>n⟩
theorem Tryz.laysM171:Go.Proofs.LaysM.n171 Tryz.prog Tryz.laysM171_ren:={
 mixed:=by kernel_rfl
 f129:=Tryz.func129.trans (congrArg some (by kernel_rfl))
 f171:=Tryz.func173.trans (congrArg some (by kernel_rfl))
 f243:=Tryz.func185.trans (congrArg some (by kernel_rfl))
 f246:=Tryz.func194.trans (congrArg some (by kernel_rfl))
 f283:=Tryz.func198.trans (congrArg some (by kernel_rfl))
 f284:=Tryz.func199.trans (congrArg some (by kernel_rfl))
 f285:=Tryz.func200.trans (congrArg some (by kernel_rfl))
 f286:=Tryz.func201.trans (congrArg some (by kernel_rfl))
 f317:=Tryz.func202.trans (congrArg some (by kernel_rfl))
 f318:=Tryz.func203.trans (congrArg some (by kernel_rfl))
 f319:=Tryz.func204.trans (congrArg some (by kernel_rfl))
 f320:=Tryz.func205.trans (congrArg some (by kernel_rfl))
 f337:=Tryz.func206.trans (congrArg some (by kernel_rfl))
 f338:=Tryz.func207.trans (congrArg some (by kernel_rfl))
 t0:=Tryz.underlying0
 a0:=Tryz.isAgg0
 z0:=Tryz.sizeOf0
 v0:=Tryz.zeroValue0
 t2:=Tryz.underlying2
 a2:=Tryz.isAgg2
 z2:=Tryz.sizeOf2
 v2:=Tryz.zeroValue2
 t3:=Tryz.underlying3
 a3:=Tryz.isAgg3
 z3:=Tryz.sizeOf3
 v3:=Tryz.zeroValue3
 t4:=Tryz.underlying4
 a4:=Tryz.isAgg4
 z4:=Tryz.sizeOf4
 v4:=Tryz.zeroValue4
 t5:=Tryz.underlying5
 a5:=Tryz.isAgg5
 z5:=Tryz.sizeOf5
 v5:=Tryz.zeroValue5
 t9:=Tryz.underlying9
 a9:=Tryz.isAgg9
 z9:=Tryz.sizeOf9
 v9:=Tryz.zeroValue9
 t20:=Tryz.underlying20
 a20:=Tryz.isAgg20
 z20:=Tryz.sizeOf20
 v20:=Tryz.zeroValue20
 t37:=Tryz.underlying243
 a37:=Tryz.isAgg243
 z37:=Tryz.sizeOf243
 v37:=Tryz.zeroValue243
 t46:=Tryz.underlying186
 a46:=Tryz.isAgg186
 z46:=Tryz.sizeOf186
 v46:=Tryz.zeroValue186
 t51:=Tryz.underlying197
 a51:=Tryz.isAgg197
 z51:=Tryz.sizeOf197
 v51:=Tryz.zeroValue197
 t53:=Tryz.underlying199
 a53:=Tryz.isAgg199
 z53:=Tryz.sizeOf199
 v53:=Tryz.zeroValue199
 t171:=Tryz.underlying277
 a171:=Tryz.isAgg277
 z171:=Tryz.sizeOf277
 v171:=Tryz.zeroValue277
 t173:=Tryz.underlying279
 a173:=Tryz.isAgg279
 z173:=Tryz.sizeOf279
 v173:=Tryz.zeroValue279
 t212:=Tryz.underlying282
 a212:=Tryz.isAgg282
 z212:=Tryz.sizeOf282
 v212:=Tryz.zeroValue282
 t213:=Tryz.underlying283
 a213:=Tryz.isAgg283
 z213:=Tryz.sizeOf283
 t232:=Tryz.underlying284
 a232:=Tryz.isAgg284
 z232:=Tryz.sizeOf284
 v232:=Tryz.zeroValue284
 t233:=Tryz.underlying285
 a233:=Tryz.isAgg285
 z233:=Tryz.sizeOf285
 v233:=Tryz.zeroValue285
 g17:=by kernel_rfl
 g18:=by kernel_rfl
 g19:=by kernel_rfl
 i0:=by kernel_rfl
 i2:=by kernel_rfl
 i3:=by kernel_rfl
 i4:=by kernel_rfl
 i5:=by kernel_rfl
 i9:=by kernel_rfl
 i20:=by kernel_rfl
 i37:=by kernel_rfl
 i46:=by kernel_rfl
 i51:=by kernel_rfl
 i53:=by kernel_rfl
 i171:=by kernel_rfl
 i173:=by kernel_rfl
 i212:=by kernel_rfl
 i232:=by kernel_rfl
 i233:=by kernel_rfl
 m17:=by kernel_rfl
 m18:=by kernel_rfl
 m19:=by kernel_rfl }
open Go.RowKit Go.Sort Go.Lib in
theorem Tryz.strconv_Itoa (n:Int) (h0 : -9223372036854775808≤n) (h1:n≤9223372036854775807) (w:World) (htab:Lib.TabIs Tryz.prog w "internal/strconv.uint64pow10" .u64 Lib.pow10Tab) :
  Calls Tryz.prog 173 #[.int .i64 n] w fun e w'=>e = .returned (.string ⟨(Lib.itoa n).toArray⟩)∧∃ k os,w'=grow (w.drewN k) os:=Any.strconv_Itoa Tryz.laysM171 n h0 h1 w htab
def Tryz.laysC172_ren:Go.Shelf.Ren:=⟨fun | 172=>161 | 244=>165 | 245=>166 | 247=>174 | 279=>175 | 280=>176 | 281=>177 | 282=>178 | 287=>186 | 316=>187 | 171=>173 | 205=>188 | 321=>195 | 322=>196 | 243=>185 | 246=>194 | 283=>198 | 284=>199 | 285=>200 | 286=>201 | 129=>129 | 317=>202 | 318=>203 | 319=>204 | 320=>205 | 337=>206 | 338=>207 | n=>n,fun | 9=>9 | 3=>3 | 75=>236 | 76=>237 | 4=>4 | 5=>5 | 167=>250 | 37=>243 | 0=>0 | 85=>251 | 2=>2 | 168=>253 | 53=>199 | 175=>257 | 46=>186 | 210=>260 | 127=>256 | 145=>274 | 143=>272 | 21=>21 | 171=>277 | 173=>279 | 212=>282 | 51=>197 | 20=>20 | 213=>283 | 232=>284 | 233=>285 | 80=>249 | n=>n,fun | 15=>1 | 16=>2 | 17=>5 | 18=>6 | 19=>7 | n=>n⟩
theorem Tryz.laysC172:Go.Proofs.LaysC.n172 Tryz.prog Tryz.laysC172_ren:={
 mixed:=by kernel_rfl
 f129:=Tryz.func129.trans (congrArg some (by kernel_rfl))
 f171:=Tryz.func173.trans (congrArg some (by kernel_rfl))
 f172:=Tryz.func161.trans (congrArg some (by kernel_rfl))
 f205:=Tryz.func188.trans (congrArg some (by kernel_rfl))
 f243:=Tryz.func185.trans (congrArg some (by kernel_rfl))
 f244:=Tryz.func165.trans (congrArg some (by kernel_rfl))
 f245:=Tryz.func166.trans (congrArg some (by kernel_rfl))
 f246:=Tryz.func194.trans (congrArg some (by kernel_rfl))
 f247:=Tryz.func174.trans (congrArg some (by kernel_rfl))
 f279:=Tryz.func175.trans (congrArg some (by kernel_rfl))
 f280:=Tryz.func176.trans (congrArg some (by kernel_rfl))
 f281:=Tryz.func177.trans (congrArg some (by kernel_rfl))
 f282:=Tryz.func178.trans (congrArg some (by kernel_rfl))
 f283:=Tryz.func198.trans (congrArg some (by kernel_rfl))
 f284:=Tryz.func199.trans (congrArg some (by kernel_rfl))
 f285:=Tryz.func200.trans (congrArg some (by kernel_rfl))
 f286:=Tryz.func201.trans (congrArg some (by kernel_rfl))
 f287:=Tryz.func186.trans (congrArg some (by kernel_rfl))
 f316:=Tryz.func187.trans (congrArg some (by kernel_rfl))
 f317:=Tryz.func202.trans (congrArg some (by kernel_rfl))
 f318:=Tryz.func203.trans (congrArg some (by kernel_rfl))
 f319:=Tryz.func204.trans (congrArg some (by kernel_rfl))
 f320:=Tryz.func205.trans (congrArg some (by kernel_rfl))
 f321:=Tryz.func195.trans (congrArg some (by kernel_rfl))
 f322:=Tryz.func196.trans (congrArg some (by kernel_rfl))
 f337:=Tryz.func206.trans (congrArg some (by kernel_rfl))
 f338:=Tryz.func207.trans (congrArg some (by kernel_rfl))
 t0:=Tryz.underlying0
 a0:=Tryz.isAgg0
 z0:=Tryz.sizeOf0
 v0:=Tryz.zeroValue0
 t2:=Tryz.underlying2
 a2:=Tryz.isAgg2
 z2:=Tryz.sizeOf2
 v2:=Tryz.zeroValue2
 t3:=Tryz.underlying3
 a3:=Tryz.isAgg3
 z3:=Tryz.sizeOf3
 v3:=Tryz.zeroValue3
 t4:=Tryz.underlying4
 a4:=Tryz.isAgg4
 z4:=Tryz.sizeOf4
 v4:=Tryz.zeroValue4
 t5:=Tryz.underlying5
 a5:=Tryz.isAgg5
 z5:=Tryz.sizeOf5
 v5:=Tryz.zeroValue5
 t9:=Tryz.underlying9
 a9:=Tryz.isAgg9
 z9:=Tryz.sizeOf9
 v9:=Tryz.zeroValue9
 t20:=Tryz.underlying20
 a20:=Tryz.isAgg20
 z20:=Tryz.sizeOf20
 v20:=Tryz.zeroValue20
 t21:=Tryz.underlying21
 a21:=Tryz.isAgg21
 z21:=Tryz.sizeOf21
 v21:=Tryz.zeroValue21
 t37:=Tryz.underlying243
 a37:=Tryz.isAgg243
 z37:=Tryz.sizeOf243
 v37:=Tryz.zeroValue243
 t46:=Tryz.underlying186
 a46:=Tryz.isAgg186
 z46:=Tryz.sizeOf186
 v46:=Tryz.zeroValue186
 t51:=Tryz.underlying197
 a51:=Tryz.isAgg197
 z51:=Tryz.sizeOf197
 v51:=Tryz.zeroValue197
 t53:=Tryz.underlying199
 a53:=Tryz.isAgg199
 z53:=Tryz.sizeOf199
 v53:=Tryz.zeroValue199
 t75:=Tryz.underlying236
 a75:=Tryz.isAgg236
 z75:=Tryz.sizeOf236
 v75:=Tryz.zeroValue236
 t76:=Tryz.underlying237
 a76:=Tryz.isAgg237
 z76:=Tryz.sizeOf237
 v76:=Tryz.zeroValue237
 t85:=Tryz.underlying251
 a85:=Tryz.isAgg251
 z85:=Tryz.sizeOf251
 v85:=Tryz.zeroValue251
 t127:=Tryz.underlying256
 a127:=Tryz.isAgg256
 z127:=Tryz.sizeOf256
 v127:=Tryz.zeroValue256
 t143:=Tryz.underlying272
 a143:=Tryz.isAgg272
 z143:=Tryz.sizeOf272
 v143:=Tryz.zeroValue272
 t145:=Tryz.underlying274
 a145:=Tryz.isAgg274
 z145:=Tryz.sizeOf274
 v145:=Tryz.zeroValue274
 t167:=Tryz.underlying250
 a167:=Tryz.isAgg250
 z167:=Tryz.sizeOf250
 v167:=Tryz.zeroValue250
 t168:=Tryz.underlying253
 a168:=Tryz.isAgg253
 z168:=Tryz.sizeOf253
 v168:=Tryz.zeroValue253
 t171:=Tryz.underlying277
 a171:=Tryz.isAgg277
 z171:=Tryz.sizeOf277
 v171:=Tryz.zeroValue277
 t173:=Tryz.underlying279
 a173:=Tryz.isAgg279
 z173:=Tryz.sizeOf279
 v173:=Tryz.zeroValue279
 t175:=Tryz.underlying257
 a175:=Tryz.isAgg257
 z175:=Tryz.sizeOf257
 v175:=Tryz.zeroValue257
 t210:=Tryz.underlying260
 a210:=Tryz.isAgg260
 z210:=Tryz.sizeOf260
 v210:=Tryz.zeroValue260
 t212:=Tryz.underlying282
 a212:=Tryz.isAgg282
 z212:=Tryz.sizeOf282
 v212:=Tryz.zeroValue282
 t213:=Tryz.underlying283
 a213:=Tryz.isAgg283
 z213:=Tryz.sizeOf283
 t232:=Tryz.underlying284
 a232:=Tryz.isAgg284
 z232:=Tryz.sizeOf284
 v232:=Tryz.zeroValue284
 t233:=Tryz.underlying285
 a233:=Tryz.isAgg285
 z233:=Tryz.sizeOf285
 v233:=Tryz.zeroValue285
 g15:=by kernel_rfl
 g16:=by kernel_rfl
 g17:=by kernel_rfl
 g18:=by kernel_rfl
 g19:=by kernel_rfl
 t80:=Tryz.underlying249
 a80:=Tryz.isAgg249
 z80:=Tryz.sizeOf249
 v80:=Tryz.zeroValue249
 i0:=by kernel_rfl
 i2:=by kernel_rfl
 i3:=by kernel_rfl
 i4:=by kernel_rfl
 i5:=by kernel_rfl
 i9:=by kernel_rfl
 i20:=by kernel_rfl
 i21:=by kernel_rfl
 i37:=by kernel_rfl
 i46:=by kernel_rfl
 i51:=by kernel_rfl
 i53:=by kernel_rfl
 i75:=by kernel_rfl
 i76:=by kernel_rfl
 i80:=by kernel_rfl
 i85:=by kernel_rfl
 i127:=by kernel_rfl
 i143:=by kernel_rfl
 i145:=by kernel_rfl
 i167:=by kernel_rfl
 i168:=by kernel_rfl
 i171:=by kernel_rfl
 i173:=by kernel_rfl
 i175:=by kernel_rfl
 i210:=by kernel_rfl
 i212:=by kernel_rfl
 i232:=by kernel_rfl
 i233:=by kernel_rfl
 m15:=by kernel_rfl
 m16:=by kernel_rfl
 m17:=by kernel_rfl
 m18:=by kernel_rfl
 m19:=by kernel_rfl
 c0:=by kernel_rfl
 c2:=by kernel_rfl
 c3:=by kernel_rfl
 c4:=by kernel_rfl
 c5:=by kernel_rfl
 c9:=by kernel_rfl
 c20:=by kernel_rfl
 c21:=by kernel_rfl
 c37:=by kernel_rfl
 c46:=by kernel_rfl
 c51:=by kernel_rfl
 c53:=by kernel_rfl
 c75:=by kernel_rfl
 c76:=by kernel_rfl
 c80:=by kernel_rfl
 c85:=by kernel_rfl
 c127:=by kernel_rfl
 c143:=by kernel_rfl
 c145:=by kernel_rfl
 c167:=by kernel_rfl
 c168:=by kernel_rfl
 c171:=by kernel_rfl
 c173:=by kernel_rfl
 c175:=by kernel_rfl
 c210:=by kernel_rfl
 c212:=by kernel_rfl
 c213:=by kernel_rfl
 c232:=by kernel_rfl
 c233:=by kernel_rfl }
open Go.RowKit in
theorem Tryz.strconv_Atoi_ok (s:ByteArray) (hmax:s.size≤9223372036854775806) (v:Int) (h:Lib.atoiAll s.data.toList = .ok v) (w:World) :
  Calls Tryz.prog 161 #[.string s] w fun e w'=>e = .returned (.tuple #[.int .i64 v,.nilIface])∧(w'=w∨∃ t,w'=Lib.bytesWorld w 5 t):=Any.strconv_Atoi_ok Tryz.laysC172 s hmax v h w
open Go.RowKit in
theorem Tryz.strconv_Atoi_syntax (s:ByteArray) (hlim:s.size≤281474976710656) (h:Lib.atoiAll s.data.toList=Lib.atoiAll []) (ev:Value) (w:World) (hv:w.cell? ⟨1,0,none⟩=some ev) (hev:ev = .nilIface∨∃ te pe,ev = .iface te pe) :
  Calls Tryz.prog 161 #[.string s] w fun e w'=>∃ N,e = .returned (.tuple #[.int .i64 (0),.iface 253 (.pointer (some ⟨N,0,none⟩))])∧w.heap.size≤N∧w'.heap[N]?=some (.cells #[.string ⟨#[65,116,111,105]⟩,.string s,ev] 260 (0,0))∧Below w.heap.size w w':=Any.strconv_Atoi_syntax Tryz.laysC172 s hlim h ev w hv hev
open Go.RowKit in
theorem Tryz.strconv_Atoi_range (s:ByteArray) (hlim:s.size≤281474976710656) (h:Lib.atoiAll s.data.toList = .range) (ev:Value) (w:World) (hv:w.cell? ⟨2,0,none⟩=some ev) (hev:ev = .nilIface∨∃ te pe,ev = .iface te pe) :
  Calls Tryz.prog 161 #[.string s] w fun e w'=>∃ N,e = .returned (.tuple #[.int .i64 (Lib.atoiSat s.data.toList),.iface 253 (.pointer (some ⟨N,0,none⟩))])∧w.heap.size≤N∧w'.heap[N]?=some (.cells #[.string ⟨#[65,116,111,105]⟩,.string s,ev] 260 (0,0))∧Below w.heap.size w w':=Any.strconv_Atoi_range Tryz.laysC172 s hlim h ev w hv hev
def Tryz.lays189_ren:Go.Shelf.Ren:=⟨fun | 189=>106 | 125=>116 | 257=>115 | 128=>128 | 129=>129 | 294=>119 | 295=>120 | 296=>121 | 297=>122 | 298=>123 | 299=>124 | 216=>125 | 300=>126 | 301=>127 | 328=>131 | 329=>132 | 330=>133 | 331=>134 | 332=>135 | 215=>136 | 343=>140 | n=>n,fun | 28=>40 | 3=>3 | 46=>186 | 0=>0 | 51=>197 | 53=>199 | 4=>4 | 183=>190 | 182=>189 | 131=>82 | 5=>5 | 9=>9 | 218=>206 | 222=>94 | 228=>215 | 229=>216 | n=>n,fun | n=>n⟩
theorem Tryz.lays189:Go.Proofs.Lays.n189 Tryz.prog Tryz.lays189_ren:={
 mixed:=by kernel_rfl
 f125:=Tryz.func116.trans (congrArg some (by kernel_rfl))
 f128:=Tryz.func128.trans (congrArg some (by kernel_rfl))
 f129:=Tryz.func129.trans (congrArg some (by kernel_rfl))
 f189:=Tryz.func106.trans (congrArg some (by kernel_rfl))
 f215:=Tryz.func136.trans (congrArg some (by kernel_rfl))
 f216:=Tryz.func125.trans (congrArg some (by kernel_rfl))
 f257:=Tryz.func115.trans (congrArg some (by kernel_rfl))
 f294:=Tryz.func119.trans (congrArg some (by kernel_rfl))
 f295:=Tryz.func120.trans (congrArg some (by kernel_rfl))
 f296:=Tryz.func121.trans (congrArg some (by kernel_rfl))
 f297:=Tryz.func122.trans (congrArg some (by kernel_rfl))
 f298:=Tryz.func123.trans (congrArg some (by kernel_rfl))
 f299:=Tryz.func124.trans (congrArg some (by kernel_rfl))
 f300:=Tryz.func126.trans (congrArg some (by kernel_rfl))
 f301:=Tryz.func127.trans (congrArg some (by kernel_rfl))
 f328:=Tryz.func131.trans (congrArg some (by kernel_rfl))
 f329:=Tryz.func132.trans (congrArg some (by kernel_rfl))
 f330:=Tryz.func133.trans (congrArg some (by kernel_rfl))
 f331:=Tryz.func134.trans (congrArg some (by kernel_rfl))
 f332:=Tryz.func135.trans (congrArg some (by kernel_rfl))
 f343:=Tryz.func140.trans (congrArg some (by kernel_rfl))
 t0:=Tryz.underlying0
 a0:=Tryz.isAgg0
 z0:=Tryz.sizeOf0
 v0:=Tryz.zeroValue0
 t3:=Tryz.underlying3
 a3:=Tryz.isAgg3
 z3:=Tryz.sizeOf3
 v3:=Tryz.zeroValue3
 t4:=Tryz.underlying4
 a4:=Tryz.isAgg4
 z4:=Tryz.sizeOf4
 v4:=Tryz.zeroValue4
 t5:=Tryz.underlying5
 a5:=Tryz.isAgg5
 z5:=Tryz.sizeOf5
 v5:=Tryz.zeroValue5
 t9:=Tryz.underlying9
 a9:=Tryz.isAgg9
 z9:=Tryz.sizeOf9
 v9:=Tryz.zeroValue9
 t28:=Tryz.underlying40
 a28:=Tryz.isAgg40
 z28:=Tryz.sizeOf40
 v28:=Tryz.zeroValue40
 t46:=Tryz.underlying186
 a46:=Tryz.isAgg186
 z46:=Tryz.sizeOf186
 v46:=Tryz.zeroValue186
 t51:=Tryz.underlying197
 a51:=Tryz.isAgg197
 z51:=Tryz.sizeOf197
 v51:=Tryz.zeroValue197
 t53:=Tryz.underlying199
 a53:=Tryz.isAgg199
 z53:=Tryz.sizeOf199
 v53:=Tryz.zeroValue199
 t131:=Tryz.underlying82
 a131:=Tryz.isAgg82
 z131:=Tryz.sizeOf82
 v131:=Tryz.zeroValue82
 t182:=Tryz.underlying189
 a182:=Tryz.isAgg189
 z182:=Tryz.sizeOf189
 v182:=Tryz.zeroValue189
 t183:=Tryz.underlying190
 a183:=Tryz.isAgg190
 z183:=Tryz.sizeOf190
 v183:=Tryz.zeroValue190
 t218:=Tryz.underlying206
 a218:=Tryz.isAgg206
 z218:=Tryz.sizeOf206
 v218:=Tryz.zeroValue206
 t222:=Tryz.underlying94
 a222:=Tryz.isAgg94
 z222:=Tryz.sizeOf94
 v222:=Tryz.zeroValue94
 t228:=Tryz.underlying215
 a228:=Tryz.isAgg215
 z228:=Tryz.sizeOf215
 v228:=Tryz.zeroValue215
 t229:=Tryz.underlying216
 a229:=Tryz.isAgg216
 z229:=Tryz.sizeOf216
 v229:=Tryz.zeroValue216 }
open Go.Sort Go.RowKit in
theorem Tryz.slices_Sort_int (blk off cap:Nat) (zs:List Int) (w:World) (hH:Holds (Value.int .i64) w blk off zs.toArray) (hblk:blk<w.heap.size) (hsz:zs.length<4611686018427387904) :
  Calls Tryz.prog 106 #[.slice (some ⟨blk,off,none⟩) zs.length cap] w fun e w' =>
   e = .returned (.tuple #[])∧∃ n os,w'=grow (putRow (Value.int .i64) (Sort.ahead w n) blk off (zs.mergeSort fun x y=>decide (x≤y)).toArray) os:=Any.slices_Sort_int Tryz.lays189 blk off cap zs w hH hblk hsz
def Tryz.lays206_ren:Go.Shelf.Ren:=⟨fun | 206=>160 | n=>n,fun | 9=>9 | 4=>4 | 3=>3 | n=>n,fun | n=>n⟩
def Tryz.lays99_ren:Go.Shelf.Ren:=⟨fun | 99=>157 | 206=>160 | n=>n,fun | 9=>9 | 4=>4 | 3=>3 | n=>n,fun | n=>n⟩
theorem Tryz.lays99:Go.Proofs.Lays.n99 Tryz.prog Tryz.lays99_ren:={
 mixed:=by kernel_rfl
 f99:=Tryz.func157.trans (congrArg some (by kernel_rfl))
 f206:=Tryz.func160.trans (congrArg some (by kernel_rfl))
 t3:=Tryz.underlying3
 a3:=Tryz.isAgg3
 z3:=Tryz.sizeOf3
 v3:=Tryz.zeroValue3
 t4:=Tryz.underlying4
 a4:=Tryz.isAgg4
 z4:=Tryz.sizeOf4
 v4:=Tryz.zeroValue4
 t9:=Tryz.underlying9
 a9:=Tryz.isAgg9
 z9:=Tryz.sizeOf9
 v9:=Tryz.zeroValue9 }
open Go.RowKit Go.Lib in
theorem Tryz.strings_HasPrefix (s p:ByteArray) (w:World) :
  Calls Tryz.prog 157 #[.string s,.string p] w fun e w'=>e = .returned (.bool (Lib.hasPrefix s.data.toList p.data.toList))∧w'=w:=Any.strings_HasPrefix Tryz.lays99 s p w
def Tryz.lays154_ren:Go.Shelf.Ren:=⟨fun | 154=>162 | 138=>167 | 165=>168 | 143=>169 | 166=>170 | 197=>171 | 169=>172 | 195=>179 | 218=>180 | 240=>181 | 241=>182 | 219=>183 | 260=>184 | 276=>189 | 277=>190 | 217=>159 | 225=>191 | 224=>192 | 267=>193 | 266=>164 | 314=>197 | n=>n,fun | 9=>9 | 3=>3 | 4=>4 | 72=>245 | 0=>0 | 76=>237 | 105=>247 | 21=>21 | 5=>5 | 70=>242 | 20=>20 | 37=>243 | 75=>236 | 127=>256 | 164=>262 | 46=>186 | 119=>266 | 139=>269 | 138=>268 | 146=>275 | 51=>197 | 80=>249 | n=>n,fun | 1=>0 | 3=>3 | 4=>4 | n=>n⟩
theorem Tryz.lays154:Go.Proofs.Lays.n154 Tryz.prog Tryz.lays154_ren:={
 mixed:=by kernel_rfl
 f138:=Tryz.func167.trans (congrArg some (by kernel_rfl))
 f143:=Tryz.func169.trans (congrArg some (by kernel_rfl))
 f154:=Tryz.func162.trans (congrArg some (by kernel_rfl))
 f165:=Tryz.func168.trans (congrArg some (by kernel_rfl))
 f166:=Tryz.func170.trans (congrArg some (by kernel_rfl))
 f169:=Tryz.func172.trans (congrArg some (by kernel_rfl))
 f195:=Tryz.func179.trans (congrArg some (by kernel_rfl))
 f197:=Tryz.func171.trans (congrArg some (by kernel_rfl))
 f217:=Tryz.func159.trans (congrArg some (by kernel_rfl))
 f218:=Tryz.func180.trans (congrArg some (by kernel_rfl))
 f219:=Tryz.func183.trans (congrArg some (by kernel_rfl))
 f224:=Tryz.func192.trans (congrArg some (by kernel_rfl))
 f225:=Tryz.func191.trans (congrArg some (by kernel_rfl))
 f240:=Tryz.func181.trans (congrArg some (by kernel_rfl))
 f241:=Tryz.func182.trans (congrArg some (by kernel_rfl))
 f260:=Tryz.func184.trans (congrArg some (by kernel_rfl))
 f266:=Tryz.func164.trans (congrArg some (by kernel_rfl))
 f267:=Tryz.func193.trans (congrArg some (by kernel_rfl))
 f276:=Tryz.func189.trans (congrArg some (by kernel_rfl))
 f277:=Tryz.func190.trans (congrArg some (by kernel_rfl))
 f314:=Tryz.func197.trans (congrArg some (by kernel_rfl))
 t0:=Tryz.underlying0
 a0:=Tryz.isAgg0
 z0:=Tryz.sizeOf0
 v0:=Tryz.zeroValue0
 t3:=Tryz.underlying3
 a3:=Tryz.isAgg3
 z3:=Tryz.sizeOf3
 v3:=Tryz.zeroValue3
 t4:=Tryz.underlying4
 a4:=Tryz.isAgg4
 z4:=Tryz.sizeOf4
 v4:=Tryz.zeroValue4
 t5:=Tryz.underlying5
 a5:=Tryz.isAgg5
 z5:=Tryz.sizeOf5
 v5:=Tryz.zeroValue5
 t9:=Tryz.underlying9
 a9:=Tryz.isAgg9
 z9:=Tryz.sizeOf9
 v9:=Tryz.zeroValue9
 t20:=Tryz.underlying20
 a20:=Tryz.isAgg20
 z20:=Tryz.sizeOf20
 v20:=Tryz.zeroValue20
 t21:=Tryz.underlying21
 a21:=Tryz.isAgg21
 z21:=Tryz.sizeOf21
 v21:=Tryz.zeroValue21
 t37:=Tryz.underlying243
 a37:=Tryz.isAgg243
 z37:=Tryz.sizeOf243
 v37:=Tryz.zeroValue243
 t46:=Tryz.underlying186
 a46:=Tryz.isAgg186
 z46:=Tryz.sizeOf186
 v46:=Tryz.zeroValue186
 t51:=Tryz.underlying197
 a51:=Tryz.isAgg197
 z51:=Tryz.sizeOf197
 v51:=Tryz.zeroValue197
 t70:=Tryz.underlying242
 a70:=Tryz.isAgg242
 z70:=Tryz.sizeOf242
 v70:=Tryz.zeroValue242
 t72:=Tryz.underlying245
 a72:=Tryz.isAgg245
 z72:=Tryz.sizeOf245
 v72:=Tryz.zeroValue245
 t75:=Tryz.underlying236
 a75:=Tryz.isAgg236
 z75:=Tryz.sizeOf236
 v75:=Tryz.zeroValue236
 t76:=Tryz.underlying237
 a76:=Tryz.isAgg237
 z76:=Tryz.sizeOf237
 v76:=Tryz.zeroValue237
 t105:=Tryz.underlying247
 a105:=Tryz.isAgg247
 z105:=Tryz.sizeOf247
 v105:=Tryz.zeroValue247
 t119:=Tryz.underlying266
 a119:=Tryz.isAgg266
 z119:=Tryz.sizeOf266
 t127:=Tryz.underlying256
 a127:=Tryz.isAgg256
 z127:=Tryz.sizeOf256
 v127:=Tryz.zeroValue256
 t138:=Tryz.underlying268
 a138:=Tryz.isAgg268
 z138:=Tryz.sizeOf268
 v138:=Tryz.zeroValue268
 t139:=Tryz.underlying269
 a139:=Tryz.isAgg269
 z139:=Tryz.sizeOf269
 v139:=Tryz.zeroValue269
 t146:=Tryz.underlying275
 a146:=Tryz.isAgg275
 z146:=Tryz.sizeOf275
 v146:=Tryz.zeroValue275
 t164:=Tryz.underlying262
 a164:=Tryz.isAgg262
 z164:=Tryz.sizeOf262
 v164:=Tryz.zeroValue262
 g1:=by kernel_rfl
 g3:=by kernel_rfl
 g4:=by kernel_rfl }
theorem Tryz.Builder_Extra_154:Builder.Extra Tryz.prog Tryz.lays154_ren:={
 sizeBuilder:=by kernel_rfl
 liesBuilder:=by kernel_rfl
 t5:=Tryz.underlying5
 a5:=Tryz.isAgg5
 z5:=Tryz.sizeOf5
 v5:=Tryz.zeroValue5
 infoByte:=by kernel_rfl
 cellsByte:=by kernel_rfl
 sizeByte:=by kernel_rfl
 neB5:=by decide }
open Go.RowKit Go.Lib in
theorem Tryz.strings_Replace (s old new:ByteArray) (n:Int) (m:Int) (w:World) (hs:s.size<4294967281) (hm:w.cell? ⟨0,0,none⟩=some (.int .i64 m)) (h1:1≤old.size) (hlen:s.size+Lib.countB s old*new.size≤140737488355328) :
  Calls Tryz.prog 162 #[.string s,.string old,.string new,.int .i64 n] w fun e w' =>
   e = .returned (.string ⟨(Lib.replace s.data.toList old.data.toList new.data.toList n).toArray⟩)∧Below w.heap.size w w':=Any.strings_Replace Tryz.lays154 Tryz.Builder_Extra_154 s old new n m w hs hm h1 hlen
def Tryz.lays110_ren:Go.Shelf.Ren:=⟨fun | 110=>59 | 109=>91 | n=>n,fun | 31=>35 | 9=>9 | 4=>4 | 3=>3 | 0=>0 | n=>n,fun | n=>n⟩
theorem Tryz.lays110:Go.Proofs.Lays.n110 Tryz.prog Tryz.lays110_ren:={
 mixed:=by kernel_rfl
 f109:=Tryz.func91.trans (congrArg some (by kernel_rfl))
 f110:=Tryz.func59.trans (congrArg some (by kernel_rfl))
 t0:=Tryz.underlying0
 a0:=Tryz.isAgg0
 z0:=Tryz.sizeOf0
 v0:=Tryz.zeroValue0
 t3:=Tryz.underlying3
 a3:=Tryz.isAgg3
 z3:=Tryz.sizeOf3
 v3:=Tryz.zeroValue3
 t4:=Tryz.underlying4
 a4:=Tryz.isAgg4
 z4:=Tryz.sizeOf4
 v4:=Tryz.zeroValue4
 t9:=Tryz.underlying9
 a9:=Tryz.isAgg9
 z9:=Tryz.sizeOf9
 v9:=Tryz.zeroValue9
 t31:=Tryz.underlying35
 a31:=Tryz.isAgg35
 z31:=Tryz.sizeOf35
 v31:=Tryz.zeroValue35 }
open Go.Lib in
theorem Tryz.slices_Contains_string (b off n c:Nat) (zs:List ByteArray) (x:ByteArray) (w:World) (hz:n≤zs.length) (hbig:n≤9223372036854775807) (hc:∀ j,j<zs.length→w.cell? ⟨b,off+j,none⟩=some (.string (zs.getD j ByteArray.empty))) :
  Calls Tryz.prog 59 #[.slice (some ⟨b,off,none⟩) n c,.string x] w fun e w'=>e = .returned (.bool (Lib.containsS (zs.take n) x))∧w'=w:=Any.slices_Contains_string Tryz.lays110 b off n c zs x w hz hbig hc
open Go.Lib in
theorem Tryz.slices_Contains_string_empty (a:Option Addr) (c:Nat) (x:ByteArray) (w:World) :
  Calls Tryz.prog 59 #[.slice a 0 c,.string x] w fun e w'=>e = .returned (.bool false)∧w'=w:=Any.slices_Contains_string_empty Tryz.lays110 a c x w
end Go.Proofs
namespace Go.Proofs.YtnkahlloahgifaaGreatDoor.Lx
open Go.RowKit
def bts (s:ByteArray):List Nat:=s.data.toList.map UInt8.toNat
theorem ze (s:ByteArray):(bts s).length=s.size:=by simp only [bts,List.length_map];rfl
theorem bts_get (s:ByteArray) {i:Nat}(h:i<s.size):(bts s)[i]?=some (s[i]'h).toNat:=by
 simp only [bts,List.getElem?_map]
 rw [zq9 (show i<s.data.toList.length from h)]
 rfl
theorem run_byte (s:ByteArray) (i:Int) (j:Nat) (hij:i=j) (h:j<s.size) (m:World):(Instr.index 9 (.string s) (.int .i64 i)).run Tryz.prog m = .ok (.int .u8 ((bts s).getD j 0:Nat)) m:=by
 rw [run_index_string m 9 s .i64 i Tryz.underlying9,dif_pos (by omega)]
 subst hij
 rw [zt4,bts_get s h]
 rfl
structure At (w:World) (b:Nat) (s:ByteArray) (i:Nat):Prop where
 c0:w.cell? ⟨b,0,none⟩=some (.string s)
 c1:w.cell? ⟨b,1,none⟩=some (.int .i64 i)
 lt:b<w.heap.size
 le:i≤s.size
 sz:s.size≤400000
theorem peek_any {w:World}{b:Nat}{s:ByteArray}{i:Nat}(h:At w b s i) (k:Nat) (hk:k≤1000000) :
  Calls Tryz.prog 148 #[.pointer (some ⟨b,0,none⟩),.int .i64 k] w fun e w'=>e = .returned (.int .u8 ((bts s).getD (i+k) 0:Nat))∧∃ m,w'=w.drewN m:=by
 obtain⟨c0,c1,lt,le,sz⟩:=h
 have hi:(i:Int)≤400000:=by omega
 have hk':(k:Int)≤1000000:=by omega
 by_cases hlt:i+k<s.size
 ·have hltz:(i:Int)+(k:Int)<(s.size:Int):=by omega
  have hix:=fun m=>run_byte s ((i:Int)+(k:Int)) (i+k) (by omega) hlt m
  go_enter Tryz.func148,Tryz.ntmps148
  go_wp2_with fail
  go_quiet (fail)
  go_wp2_with fail
  go_quiet (fail)
  go_wp2_with fail
  go_ret
  exact⟨rfl,_,World.drewN_drewN _ _ _⟩
 have hltz:(s.size:Int)≤(i:Int)+(k:Int):=by omega
 go_enter Tryz.func148,Tryz.ntmps148
 go_wp2_with fail
 go_quiet (fail)
 go_wp2_with fail
 go_ret
 refine⟨?_,_,rfl⟩
 rw [zt4,List.getElem?_eq_none (by rw [ze];omega)]
 rfl
theorem isPrefixOf_map (p l:List UInt8):(p.map UInt8.toNat).isPrefixOf (l.map UInt8.toNat)=p.isPrefixOf l:=by
 induction p generalizing l with
 | nil=>simp
 | cons a t ih =>
  cases l with
  | nil=>rfl
  | cons b r =>
   simp only [List.map_cons,List.isPrefixOf,ih]
   congr 1
   by_cases h:a=b
   ·subst h;simp
   rw [zt6 h,zt6 fun e=>h (UInt8.toNat_inj.1 e)]
theorem extract_bytes (s:ByteArray) (i j:Nat):(s.extract i j).data.toList=(s.data.toList.drop i).take (j - i):=by
 rw [ByteArray.data_extract,Array.toList_extract,List.extract]
theorem bts_extract (s:ByteArray) (i j:Nat):bts (s.extract i j)=((bts s).drop i).take (j - i):=by
 unfold bts
 rw [extract_bytes,List.map_take,List.map_drop]
theorem starts_any {w:World}{b:Nat}{s:ByteArray}{i:Nat}(h:At w b s i) (p:ByteArray) :
  Calls Tryz.prog 146 #[.pointer (some ⟨b,0,none⟩),.string p] w fun e w'=>e = .returned (.bool ((bts p).isPrefixOf ((bts s).drop i)))∧∃ m,w'=w.drewN m:=by
 obtain⟨c0,c1,lt,le,sz⟩:=h
 have hi:(i:Int)≤(s.size:Int):=by omega
 have e:(bts p).isPrefixOf ((bts s).drop i)=Lib.hasPrefix (s.extract i s.size).data.toList p.data.toList:=by
  unfold Lib.hasPrefix
  rw [← isPrefixOf_map]
  show _=(bts p).isPrefixOf (bts (s.extract i s.size))
  rw [bts_extract,zr3 (by rw [List.length_drop,ze];omega)]
 rw [e]
 clear e
 go_enter Tryz.func146,Tryz.ntmps146
 go_wp2_with fail
 go_quiet ((go_at_call 157;exact Calls.quiet_of_same (Tryz.strings_HasPrefix _ _ _)))
 go_wp2_with fail
 go_ret
 exact⟨rfl,_,rfl⟩
end Go.Proofs.YtnkahlloahgifaaGreatDoor.Lx
namespace Go.Proofs.YtnkahlloahgifaaGreatDoor.Lx
open Go.RowKit
theorem wrap_in (x:Int) (h : -9223372036854775808≤x∧x≤9223372036854775807):IntKind.i64.wrap x=x:=by
 rw [IntKind.wrap_i64];omega
theorem run_drop (p:Nat→Bool) (l:List Nat) (j:Nat) (h:j<l.length):LX.run p (l.drop j)=if p (l.getD j 0) then LX.run p (l.drop (j+1))+1 else 0:=by
 rw [List.drop_eq_getElem_cons h,LX.run]
 rw [zt4,zq9 h]
 rfl
theorem run_end (p:Nat→Bool) (l:List Nat) (j:Nat) (h:l.length≤j):LX.run p (l.drop j)=0:=by
 rw [List.drop_of_length_le h];rfl
theorem run_le (p:Nat→Bool) (l:List Nat):LX.run p l≤l.length:=by
 induction l with
 | nil=>exact zr4 _
 | cons c t ih =>
  rw [LX.run]
  split
  ·simp;exact ih
  simp
theorem run_space {w:World}{b:Nat}{s:ByteArray}{i:Nat}(h:At w b s i) (k:Nat) (hk:k≤500000) :
  Calls Tryz.prog 144 #[.pointer (some ⟨b,0,none⟩),.int .i64 k,.func (.func 145) #[] #[]] w fun e w'=>e = .returned (.int .i64 (LX.run LX.space ((bts s).drop (i+k))))∧∃ m,w'=w.drewN m:=by
 obtain⟨c0,c1,lt,le,sz⟩:=h
 have hi:(i:Int)≤400000:=by omega
 have hk':(k:Int)≤500000:=by omega
 have HS:=zh (show i≤s.size∧s.size≤400000 from ⟨le,sz⟩)
 clear le sz
 have eg:∀ (args:Array Value) (w:World),(callFunc 145 args).run Tryz.prog w = .ok (.enter 145 args) w:=enters_of Tryz.func145 (by kernel_rfl) rfl
 go_enter Tryz.func144,Tryz.ntmps144
 go_wp2_with fail
 go_loopg [7] (s.size+1) (fun gk v wr=>∃ n m:Nat,n≤s.size∧gk=s.size+1 - n∧v = .int .i64 n∧wr=w.drewN m∧LX.run LX.space ((bts s).drop (i+k))=n+LX.run LX.space ((bts s).drop (i+k+n)))
 case atStart=>exact⟨0,0,Nat.zero_le _,rfl,rfl,rfl,by simp⟩
 obtain⟨n,m,hn,hgk,rfl,rfl,hrun⟩:=hrel
 have H1:=zh hgk
 have H2:=zh hrun
 have hn4:(n:Int)≤400000:=by have:=HS.out;omega
 clear hgk hrun hn
 have hw1:IntKind.i64.wrap ((i:Int)+(k:Int))=(i:Int)+(k:Int):=wrap_in _ (by omega)
 have hw2:IntKind.i64.wrap ((i:Int)+(k:Int)+(n:Int))=(i:Int)+(k:Int)+(n:Int):=wrap_in _ (by omega)
 by_cases hlt:i+k+n<s.size
 ·have hltz:(i:Int)+(k:Int)+(n:Int)<(s.size:Int):=by omega
  have hix:=fun m=>run_byte s ((i:Int)+(k:Int)+(n:Int)) (i+k+n) (by omega) hlt m
  obtain⟨c,hc⟩:∃ c,c=(bts s).getD (i+k+n) 0:=⟨_,rfl⟩
  rw [← hc] at hix
  have HL:=zh hlt
  have HC:=zh hc
  clear hlt hc
  cases hp:LX.space c with
  | true =>
   have law:Hid (∀ W:World,Calls Tryz.prog 145 #[.int .u8 c] W fun e w'=>e = .returned (.bool true)∧w'=W):=fun W=>by have:=space_any W c;rw [hp] at this;exact this
   have HP:=zh hp
   clear hp
   go_wp2_with fail
   refine wp_region_quiet_lit (by kernel_rfl) (by kernel_rfl) ?_
   repeat (quiet_step ((go_at_call 145;exact(law.out _).mono fun e w'' ⟨he,hw⟩=>⟨he,_,hw⟩)))
   refine wpQuiet_nil ?_
   intro _ hw'
   obtain⟨nq,hw''⟩:=hw'
   subst hw''
   go_wp2_with fail
   go_roundg (s.size+1 - (n+1))
   case measure=>have:=H1.out;have:=HL.out;omega
   refine⟨n+1,_,by have:=HL.out;omega,rfl,by go_num,by first | rfl | exact World.drewN_drewN _ _ _,?_⟩
   have e:=run_drop LX.space (bts s) (i+k+n) (by rw [ze];exact HL.out)
   rw [← HC.out,if_pos HP.out] at e
   rw [H2.out,e]
   have e2:i+k+(n+1)=i+k+n+1:=by omega
   rw [e2]
   omega
  | false =>
   have law:Hid (∀ W:World,Calls Tryz.prog 145 #[.int .u8 c] W fun e w'=>e = .returned (.bool false)∧w'=W):=fun W=>by have:=space_any W c;rw [hp] at this;exact this
   have HP:=zh hp
   clear hp
   go_wp2_with fail
   refine wp_region_quiet_lit (by kernel_rfl) (by kernel_rfl) ?_
   repeat (quiet_step ((go_at_call 145;exact(law.out _).mono fun e w'' ⟨he,hw⟩=>⟨he,_,hw⟩)))
   refine wpQuiet_nil ?_
   intro _ hw'
   obtain⟨nq,hw''⟩:=hw'
   subst hw''
   go_wp2_with fail
   go_ret
   refine⟨?_,_,by first | rfl | exact World.drewN_drewN _ _ _⟩
   have e:=run_drop LX.space (bts s) (i+k+n) (by rw [ze];exact HL.out)
   rw [← HC.out,if_neg (by rw [HP.out];decide)] at e
   rw [H2.out,e]
   rfl
 have hltz:(s.size:Int)≤(i:Int)+(k:Int)+(n:Int):=by omega
 have hdec:¬ (i:Int)+(k:Int)+(n:Int)<(s.size:Int):=by omega
 have hdec2:decide ((i:Int)+(k:Int)+(n:Int)<(s.size:Int))=false:=decide_eq_false hdec
 clear hdec
 have HL:=zh hlt
 clear hlt
 go_wp2_with fail
 go_quiet (fail)
 go_wp2_with fail
 go_ret
 refine⟨?_,_,by first | rfl | exact World.drewN_drewN _ _ _⟩
 have e:=run_end LX.space (bts s) (i+k+n) (by rw [ze];have:=HL.out;omega)
 rw [H2.out,e]
 rfl
theorem run_digit {w:World}{b:Nat}{s:ByteArray}{i:Nat}(h:At w b s i) (k:Nat) (hk:k≤500000) :
  Calls Tryz.prog 144 #[.pointer (some ⟨b,0,none⟩),.int .i64 k,.func (.func 149) #[] #[]] w fun e w'=>e = .returned (.int .i64 (LX.run LX.digit ((bts s).drop (i+k))))∧∃ m,w'=w.drewN m:=by
 obtain⟨c0,c1,lt,le,sz⟩:=h
 have hi:(i:Int)≤400000:=by omega
 have hk':(k:Int)≤500000:=by omega
 have HS:=zh (show i≤s.size∧s.size≤400000 from ⟨le,sz⟩)
 clear le sz
 have eg:∀ (args:Array Value) (w:World),(callFunc 149 args).run Tryz.prog w = .ok (.enter 149 args) w:=enters_of Tryz.func149 (by kernel_rfl) rfl
 go_enter Tryz.func144,Tryz.ntmps144
 go_wp2_with fail
 go_loopg [7] (s.size+1) (fun gk v wr=>∃ n m:Nat,n≤s.size∧gk=s.size+1 - n∧v = .int .i64 n∧wr=w.drewN m∧LX.run LX.digit ((bts s).drop (i+k))=n+LX.run LX.digit ((bts s).drop (i+k+n)))
 case atStart=>exact⟨0,0,Nat.zero_le _,rfl,rfl,rfl,by simp⟩
 obtain⟨n,m,hn,hgk,rfl,rfl,hrun⟩:=hrel
 have H1:=zh hgk
 have H2:=zh hrun
 have hn4:(n:Int)≤400000:=by have:=HS.out;omega
 clear hgk hrun hn
 have hw1:IntKind.i64.wrap ((i:Int)+(k:Int))=(i:Int)+(k:Int):=wrap_in _ (by omega)
 have hw2:IntKind.i64.wrap ((i:Int)+(k:Int)+(n:Int))=(i:Int)+(k:Int)+(n:Int):=wrap_in _ (by omega)
 by_cases hlt:i+k+n<s.size
 ·have hltz:(i:Int)+(k:Int)+(n:Int)<(s.size:Int):=by omega
  have hix:=fun m=>run_byte s ((i:Int)+(k:Int)+(n:Int)) (i+k+n) (by omega) hlt m
  obtain⟨c,hc⟩:∃ c,c=(bts s).getD (i+k+n) 0:=⟨_,rfl⟩
  rw [← hc] at hix
  have HL:=zh hlt
  have HC:=zh hc
  clear hlt hc
  cases hp:LX.digit c with
  | true =>
   have law:Hid (∀ W:World,Calls Tryz.prog 149 #[.int .u8 c] W fun e w'=>e = .returned (.bool true)∧w'=W):=fun W=>by have:=digit_any W c;rw [hp] at this;exact this
   have HP:=zh hp
   clear hp
   go_wp2_with fail
   refine wp_region_quiet_lit (by kernel_rfl) (by kernel_rfl) ?_
   repeat (quiet_step ((go_at_call 149;exact(law.out _).mono fun e w'' ⟨he,hw⟩=>⟨he,_,hw⟩)))
   refine wpQuiet_nil ?_
   intro _ hw'
   obtain⟨nq,hw''⟩:=hw'
   subst hw''
   go_wp2_with fail
   go_roundg (s.size+1 - (n+1))
   case measure=>have:=H1.out;have:=HL.out;omega
   refine⟨n+1,_,by have:=HL.out;omega,rfl,by go_num,by first | rfl | exact World.drewN_drewN _ _ _,?_⟩
   have e:=run_drop LX.digit (bts s) (i+k+n) (by rw [ze];exact HL.out)
   rw [← HC.out,if_pos HP.out] at e
   rw [H2.out,e]
   have e2:i+k+(n+1)=i+k+n+1:=by omega
   rw [e2]
   omega
  | false =>
   have law:Hid (∀ W:World,Calls Tryz.prog 149 #[.int .u8 c] W fun e w'=>e = .returned (.bool false)∧w'=W):=fun W=>by have:=digit_any W c;rw [hp] at this;exact this
   have HP:=zh hp
   clear hp
   go_wp2_with fail
   refine wp_region_quiet_lit (by kernel_rfl) (by kernel_rfl) ?_
   repeat (quiet_step ((go_at_call 149;exact(law.out _).mono fun e w'' ⟨he,hw⟩=>⟨he,_,hw⟩)))
   refine wpQuiet_nil ?_
   intro _ hw'
   obtain⟨nq,hw''⟩:=hw'
   subst hw''
   go_wp2_with fail
   go_ret
   refine⟨?_,_,by first | rfl | exact World.drewN_drewN _ _ _⟩
   have e:=run_drop LX.digit (bts s) (i+k+n) (by rw [ze];exact HL.out)
   rw [← HC.out,if_neg (by rw [HP.out];decide)] at e
   rw [H2.out,e]
   rfl
 have hltz:(s.size:Int)≤(i:Int)+(k:Int)+(n:Int):=by omega
 have hdec:¬ (i:Int)+(k:Int)+(n:Int)<(s.size:Int):=by omega
 have hdec2:decide ((i:Int)+(k:Int)+(n:Int)<(s.size:Int))=false:=decide_eq_false hdec
 clear hdec
 have HL:=zh hlt
 clear hlt
 go_wp2_with fail
 go_quiet (fail)
 go_wp2_with fail
 go_ret
 refine⟨?_,_,by first | rfl | exact World.drewN_drewN _ _ _⟩
 have e:=run_end LX.digit (bts s) (i+k+n) (by rw [ze];have:=HL.out;omega)
 rw [H2.out,e]
 rfl
theorem run_part {w:World}{b:Nat}{s:ByteArray}{i:Nat}(h:At w b s i) (k:Nat) (hk:k≤500000) :
  Calls Tryz.prog 144 #[.pointer (some ⟨b,0,none⟩),.int .i64 k,.func (.func 155) #[] #[]] w fun e w'=>e = .returned (.int .i64 (LX.run LX.part ((bts s).drop (i+k))))∧∃ m,w'=w.drewN m:=by
 obtain⟨c0,c1,lt,le,sz⟩:=h
 have hi:(i:Int)≤400000:=by omega
 have hk':(k:Int)≤500000:=by omega
 have HS:=zh (show i≤s.size∧s.size≤400000 from ⟨le,sz⟩)
 clear le sz
 have eg:∀ (args:Array Value) (w:World),(callFunc 155 args).run Tryz.prog w = .ok (.enter 155 args) w:=enters_of Tryz.func155 (by kernel_rfl) rfl
 go_enter Tryz.func144,Tryz.ntmps144
 go_wp2_with fail
 go_loopg [7] (s.size+1) (fun gk v wr=>∃ n m:Nat,n≤s.size∧gk=s.size+1 - n∧v = .int .i64 n∧wr=w.drewN m∧LX.run LX.part ((bts s).drop (i+k))=n+LX.run LX.part ((bts s).drop (i+k+n)))
 case atStart=>exact⟨0,0,Nat.zero_le _,rfl,rfl,rfl,by simp⟩
 obtain⟨n,m,hn,hgk,rfl,rfl,hrun⟩:=hrel
 have H1:=zh hgk
 have H2:=zh hrun
 have hn4:(n:Int)≤400000:=by have:=HS.out;omega
 clear hgk hrun hn
 have hw1:IntKind.i64.wrap ((i:Int)+(k:Int))=(i:Int)+(k:Int):=wrap_in _ (by omega)
 have hw2:IntKind.i64.wrap ((i:Int)+(k:Int)+(n:Int))=(i:Int)+(k:Int)+(n:Int):=wrap_in _ (by omega)
 by_cases hlt:i+k+n<s.size
 ·have hltz:(i:Int)+(k:Int)+(n:Int)<(s.size:Int):=by omega
  have hix:=fun m=>run_byte s ((i:Int)+(k:Int)+(n:Int)) (i+k+n) (by omega) hlt m
  obtain⟨c,hc⟩:∃ c,c=(bts s).getD (i+k+n) 0:=⟨_,rfl⟩
  rw [← hc] at hix
  have HL:=zh hlt
  have HC:=zh hc
  clear hlt hc
  cases hp:LX.part c with
  | true =>
   have law:Hid (∀ W:World,Calls Tryz.prog 155 #[.int .u8 c] W fun e w'=>e = .returned (.bool true)∧w'=W):=fun W=>by have:=part_any W c;rw [hp] at this;exact this
   have HP:=zh hp
   clear hp
   go_wp2_with fail
   refine wp_region_quiet_lit (by kernel_rfl) (by kernel_rfl) ?_
   repeat (quiet_step ((go_at_call 155;exact(law.out _).mono fun e w'' ⟨he,hw⟩=>⟨he,_,hw⟩)))
   refine wpQuiet_nil ?_
   intro _ hw'
   obtain⟨nq,hw''⟩:=hw'
   subst hw''
   go_wp2_with fail
   go_roundg (s.size+1 - (n+1))
   case measure=>have:=H1.out;have:=HL.out;omega
   refine⟨n+1,_,by have:=HL.out;omega,rfl,by go_num,by first | rfl | exact World.drewN_drewN _ _ _,?_⟩
   have e:=run_drop LX.part (bts s) (i+k+n) (by rw [ze];exact HL.out)
   rw [← HC.out,if_pos HP.out] at e
   rw [H2.out,e]
   have e2:i+k+(n+1)=i+k+n+1:=by omega
   rw [e2]
   omega
  | false =>
   have law:Hid (∀ W:World,Calls Tryz.prog 155 #[.int .u8 c] W fun e w'=>e = .returned (.bool false)∧w'=W):=fun W=>by have:=part_any W c;rw [hp] at this;exact this
   have HP:=zh hp
   clear hp
   go_wp2_with fail
   refine wp_region_quiet_lit (by kernel_rfl) (by kernel_rfl) ?_
   repeat (quiet_step ((go_at_call 155;exact(law.out _).mono fun e w'' ⟨he,hw⟩=>⟨he,_,hw⟩)))
   refine wpQuiet_nil ?_
   intro _ hw'
   obtain⟨nq,hw''⟩:=hw'
   subst hw''
   go_wp2_with fail
   go_ret
   refine⟨?_,_,by first | rfl | exact World.drewN_drewN _ _ _⟩
   have e:=run_drop LX.part (bts s) (i+k+n) (by rw [ze];exact HL.out)
   rw [← HC.out,if_neg (by rw [HP.out];decide)] at e
   rw [H2.out,e]
   rfl
 have hltz:(s.size:Int)≤(i:Int)+(k:Int)+(n:Int):=by omega
 have hdec:¬ (i:Int)+(k:Int)+(n:Int)<(s.size:Int):=by omega
 have hdec2:decide ((i:Int)+(k:Int)+(n:Int)<(s.size:Int))=false:=decide_eq_false hdec
 clear hdec
 have HL:=zh hlt
 clear hlt
 go_wp2_with fail
 go_quiet (fail)
 go_wp2_with fail
 go_ret
 refine⟨?_,_,by first | rfl | exact World.drewN_drewN _ _ _⟩
 have e:=run_end LX.part (bts s) (i+k+n) (by rw [ze];have:=HL.out;omega)
 rw [H2.out,e]
 rfl
end Go.Proofs.YtnkahlloahgifaaGreatDoor.Lx
namespace Go.Proofs.YtnkahlloahgifaaGreatDoor.Lx
open Go.RowKit
structure Mv (w w':World) (b:Nat) (v:Int):Prop where
 os:w'.os=w.os
 tape:w'.tape=w.tape
 output:w'.output=w.output
 size:w'.heap.size=w.heap.size
 block:∀ k,k≠b→w'.heap[k]?=w.heap[k]?
 cell:∀ c T,w.heap[b]?=some (.cells c T (0,0))→w'.heap[b]?=some (.cells (c.set! 1 (.int .i64 v)) T (0,0))
theorem Mv.drewN {w w':World}{b:Nat}{v:Int}(h:Mv w w' b v) (m:Nat):Mv w (w'.drewN m) b v:=⟨h.os,h.tape,h.output,h.size,h.block,h.cell⟩
theorem Mv.of_set (w:World) (b:Nat) (v:Int):Mv w (w.setCell ⟨b,1,none⟩ (.int .i64 v)) b v :=
 ⟨rfl,rfl,rfl,by simp,fun k hk=>zt1 w _ _ k hk,fun c T h=>heap_setCell_same w b 1 _ _ _ h⟩
theorem Mv.trans {w w1 w2:World}{b:Nat}{u v:Int}(h:Mv w w1 b u) (k:Mv w1 w2 b v):Mv w w2 b v :=
 ⟨k.os.trans h.os,k.tape.trans h.tape,k.output.trans h.output,k.size.trans h.size,fun q hq=>(k.block q hq).trans (h.block q hq),fun c T hc=>by
  have:=k.cell _ T (h.cell c T hc)
  simpa using this⟩
def Sc (w:World) (b:Nat) (s:ByteArray) (i:Nat) (mb:Nat) (cv:Value):Prop :=
 w.heap[b]?=some (.cells #[.string s,.int .i64 i,.map (some mb),cv] 222 (0,0))∧i≤s.size∧s.size≤400000
theorem Sc.at' {w:World}{b:Nat}{s:ByteArray}{i mb:Nat}{cv:Value}(h:Sc w b s i mb cv):At w b s i :=
 ⟨by rw [zb w b 0 _ _ _ h.1];rfl,by rw [zb w b 1 _ _ _ h.1];rfl,(zq7.1 h.1).1,h.2.1,h.2.2⟩
theorem Sc.mv {w w':World}{b:Nat}{s:ByteArray}{i j mb:Nat}{cv:Value}(h:Sc w b s i mb cv) (k:Mv w w' b j) (hj:j≤s.size):Sc w' b s j mb cv :=
 ⟨k.cell _ _ h.1,hj,h.2.2⟩
def thrown (i e:Int):Ending := .panicked [{ v := .iface 203 (.agg #[.int .i64 i,.int .i64 e]),recovered:=false }]
theorem prefix2 {a b:Nat}{l:List Nat}(h:[a,b].isPrefixOf l=true):∃ t,l=a :: b :: t:=by
 match l,h with
 | [],h=>simp [List.isPrefixOf] at h
 | [x],h=>simp [List.isPrefixOf] at h
 | x :: y :: t,h=>simp [List.isPrefixOf] at h;obtain⟨rfl,rfl⟩:=h;exact⟨t,rfl⟩
theorem cmt_open (l:List Nat) (d n:Nat) (h:[40,42].isPrefixOf l=true):LX.cmt l d n=if 100≤d then .deep n else LX.cmt (l.drop 2) (d+1) (n+2):=by
 obtain⟨t,rfl⟩:=prefix2 h
 rw [LX.cmt,if_pos ⟨rfl,rfl⟩];rfl
theorem cmt_close (l:List Nat) (d n:Nat) (h:[42,41].isPrefixOf l=true):LX.cmt l d n=if d=1 then .fin (n+2) else LX.cmt (l.drop 2) (d - 1) (n+2):=by
 obtain⟨t,rfl⟩:=prefix2 h
 rw [LX.cmt,if_neg (by decide),if_pos ⟨rfl,rfl⟩];rfl
theorem cmt_skip (l:List Nat) (d n:Nat) (h1:[40,42].isPrefixOf l=false) (h2:[42,41].isPrefixOf l=false):LX.cmt l d n=LX.cmt (l.drop 1) d (n+1):=by
 match l,h1,h2 with
 | [],_,_=>rfl
 | [x],_,_=>rfl
 | x :: y :: t,h1,h2 =>
  rw [LX.cmt,if_neg,if_neg]
  ·rfl
  ·rintro ⟨rfl,rfl⟩;simp [List.isPrefixOf] at h2
  rintro ⟨rfl,rfl⟩;simp [List.isPrefixOf] at h1
theorem opens_prefix {l:List Nat}(h:LX.opens l=true):[40,42].isPrefixOf l=true:=by
 match l,h with
 | [],h=>exact absurd h (by decide)
 | [x],h=>exact absurd h (by simp [LX.opens])
 | x :: y :: t,h =>
  by_cases e:x=40∧y=42
  ·obtain⟨rfl,rfl⟩:=e;simp [List.isPrefixOf]
  unfold LX.opens at h
  split at h
  ·rename_i heq;simp at heq;exact absurd ⟨heq.1,heq.2.1⟩ e
  exact absurd h (by decide)
theorem prefix2_length {a b:Nat}{l:List Nat}(h:[a,b].isPrefixOf l=true):2≤l.length:=by
 obtain⟨t,rfl⟩:=prefix2 h
 simp
def CPost (w:World) (b:Nat) (s:ByteArray) (i:Nat):LX.CR→Ending→World→Prop
 | .fin n,e,w'=>e = .returned (.tuple #[])∧Mv w w' b (i+n:Nat)∧i+n≤s.size
 | .deep n,e,w'=>e=thrown (i+n:Nat) 6∧∃ v,Mv w w' b v
 | .never,e,w'=>e=thrown i 12∧∃ v,Mv w w' b v
theorem comment_any {w:World}{b:Nat}{s:ByteArray}{i mb:Nat}{cv:Value}(h:Sc w b s i mb cv) (ho:LX.opens ((bts s).drop i)=true) :
  Calls Tryz.prog 147 #[.pointer (some ⟨b,0,none⟩)] w (CPost w b s i (LX.cmt ((bts s).drop i) 0 0)):=by
 obtain⟨c0,c1,lt,le,sz⟩:=h.at'
 have hi:(i:Int)≤400000:=by omega
 have hi2:i≤s.size:=le
 obtain⟨r,hr⟩:∃ r,r=LX.cmt ((bts s).drop i) 0 0:=⟨_,rfl⟩
 rw [← hr]
 have HS:=zh h
 have HO:=zh (opens_prefix ho)
 have HR:=zh hr
 have HZ:=zh sz
 clear h ho le sz hr
 go_enter Tryz.func147,Tryz.ntmps147
 go_wp2_with fail
 go_loopg [3] (s.size - i) (fun gk v wr=>∃ j d:Nat,i≤j∧j≤s.size∧gk=s.size - j∧v = .int .i64 d∧d≤100∧(∃ m,Mv w wr b m∧Sc wr b s j mb cv)∧(1≤d∨j=i)∧r=LX.cmt ((bts s).drop j) d (j - i))
 case atStart=>exact⟨i,0,zr4 _,hi2,rfl,rfl,by decide,⟨i,⟨rfl,rfl,rfl,rfl,fun _ _=>rfl,fun c T hc=>by
  rw [HS.out.1] at hc
  simp only [zt3,Obj.cells.injEq] at hc
  obtain⟨rfl,rfl,_⟩:=hc
  rw [HS.out.1];rfl⟩,HS.out⟩,.inr rfl,by rw [Nat.sub_self];exact HR.out⟩
 obtain⟨j,d,hij,hjs,hgk,rfl,hd,⟨mv,hmv,hsc⟩,hdj,hrj⟩:=hrel
 obtain⟨e0,e1,elt,ele,esz⟩:=hsc.at'
 have ef:wr.frozen? ⟨b,1,none⟩=false:=zs1 wr b 1 _ _ hsc.1
 have H1:=zh hgk
 have H2:=zh hmv
 have H3:=zh hsc
 have H4:=zh hdj
 have H5:=zh hrj
 have H6:=zh (And.intro hij hjs)
 have hj4:(j:Int)≤400000:=by omega
 have hd4:(d:Int)≤100:=by omega
 have hd0:(0:Int)≤(d:Int):=by omega
 have lt':=lt
 clear c0 c1 lt HS hgk hmv hsc hdj hrj ele esz hd
 by_cases hend:j=s.size
 ·have hlz:(s.size:Int)≤(j:Int):=by omega
  have HE:=zh hend
  clear hend hij hjs
  go_wp2_with fail
  go_quiet (fail)
  go_wp2_with fail
  refine⟨rfl,?_⟩
  have er:r = .never:=by
   rw [H5.out,List.drop_of_length_le (by rw [ze,HE.out];exact zr4 _)];rfl
  rw [er]
  exact⟨rfl,mv,H2.out.drewN _⟩
 have hlz:(j:Int)<(s.size:Int):=by omega
 have HLT:=zh (show j<s.size by omega)
 clear hend hij hjs
 cases hb1:[40,42].isPrefixOf ((bts s).drop j) with
 | true =>
  have S1:Hid (∀ m,Calls Tryz.prog 146 #[.pointer (some ⟨b,0,none⟩),.string ⟨#[40,42]⟩] (wr.drewN m) fun e w'=>e = .returned (.bool true)∧∃ q,w'=(wr.drewN m).drewN q):=fun m=>by
   have:=starts_any (w:=wr.drewN m) ⟨e0,e1,elt,H6.out.2,HZ.out⟩ ⟨#[40,42]⟩
   rw [show bts ⟨#[40,42]⟩=[40,42] from rfl,hb1] at this
   exact this
  have HB:=zh hb1
  have HLEN:Hid (j+2≤s.size):=by
   have:=prefix2_length hb1
   rw [List.length_drop,ze] at this
   show _≤_
   omega
  clear hb1
  go_wp2_with fail
  go_quiet (fail)
  go_wp2_with fail
  refine(S1.out _).mono ?_
  rintro e w2 ⟨rfl,q,rfl⟩
  by_cases hdd:100≤d
  ·have hdz:(100:Int)≤(d:Int):=by omega
   go_wp2_with fail
   refine⟨rfl,?_⟩
   have er:r = .deep (j - i):=by rw [H5.out,cmt_open _ _ _ HB.out,if_pos hdd]
   rw [er]
   refine⟨?_,mv,H2.out.drewN _⟩
   have e3:i+(j - i)=j:=by have:=H6.out.1;omega
   rw [e3]
   rfl
  have hdz:(d:Int)<100:=by omega
  have HDD:=zh hdd
  clear hdd
  go_wp2_with fail
  go_roundg (s.size - (j+2))
  case measure=>have:=H1.out;have:=HLT.out;omega
  have e2:((j+2:Nat):Int)=(j:Int)+2:=by push_cast;rfl
  have hmv2:=(H2.out.drewN (nq+q)).trans (Mv.of_set (wr.drewN (nq+q)) b ((j:Int)+2))
  have hsc2:Sc ((wr.drewN (nq+q)).setCell ⟨b,1,none⟩ (.int .i64 ((j:Int)+2))) b s (j+2) mb cv:=by
   have h0:Sc (wr.drewN (nq+q)) b s j mb cv:=H3.out
   refine h0.mv ?_ HLEN.out
   rw [e2];exact Mv.of_set _ _ _
  refine⟨j+2,d+1,by have:=H6.out.1;omega,HLEN.out,rfl,by push_cast;rfl,by omega,⟨_,hmv2,hsc2⟩,.inl (by omega),?_⟩
  rw [H5.out,cmt_open _ _ _ HB.out,if_neg HDD.out,List.drop_drop]
  congr 1
  have:=H6.out.1
  omega
 | false =>
  have S1:Hid (∀ m,Calls Tryz.prog 146 #[.pointer (some ⟨b,0,none⟩),.string ⟨#[40,42]⟩] (wr.drewN m) fun e w'=>e = .returned (.bool false)∧∃ q,w'=(wr.drewN m).drewN q):=fun m=>by
   have:=starts_any (w:=wr.drewN m) ⟨e0,e1,elt,H6.out.2,HZ.out⟩ ⟨#[40,42]⟩
   rw [show bts ⟨#[40,42]⟩=[40,42] from rfl,hb1] at this
   exact this
  have hd1:1≤d:=by
   rcases H4.out with h | h
   ·exact h
   rw [h,HO.out] at hb1;exact absurd hb1 (by decide)
  obtain⟨d',rfl⟩:∃ d',d=d'+1:=⟨d - 1,by omega⟩
  have HB:=zh hb1
  clear hb1 hd1
  cases hb2:[42,41].isPrefixOf ((bts s).drop j) with
  | true =>
   have S2:Hid (∀ m,Calls Tryz.prog 146 #[.pointer (some ⟨b,0,none⟩),.string ⟨#[42,41]⟩] (wr.drewN m) fun e w'=>e = .returned (.bool true)∧∃ q,w'=(wr.drewN m).drewN q):=fun m=>by
    have:=starts_any (w:=wr.drewN m) ⟨e0,e1,elt,H6.out.2,HZ.out⟩ ⟨#[42,41]⟩
    rw [show bts ⟨#[42,41]⟩=[42,41] from rfl,hb2] at this
    exact this
   have HB2:=zh hb2
   have HLEN:Hid (j+2≤s.size):=by
    have:=prefix2_length hb2
    rw [List.length_drop,ze] at this
    show _≤_
    omega
   clear hb2
   go_wp2_with fail
   go_quiet (fail)
   go_wp2_with fail
   refine(S1.out _).mono ?_
   rintro e w2 ⟨rfl,q,rfl⟩
   go_wp2_with fail
   refine(S2.out _).mono ?_
   rintro e w2 ⟨rfl,q2,rfl⟩
   by_cases hdd:d'=0
   ·subst hdd
    go_wp2_with fail
    (try simp only [Exit.inBlock,Exit.then])
    refine bodyPost_ret (results_none rfl _ _ _) rfl ?_
    have er:r = .fin (j - i+2):=by rw [H5.out,cmt_close _ _ _ HB2.out,if_pos rfl]
    rw [er]
    have e3:i+(j - i+2)=j+2:=by have:=H6.out.1;omega
    refine⟨rfl,?_,by rw [e3];exact HLEN.out⟩
    rw [e3,show ((j+2:Nat):Int)=(j:Int)+2 from by push_cast;rfl]
    exact(H2.out.drewN _).trans (Mv.of_set _ _ _)
   have hdz:¬ (d':Int)=0:=by omega
   have HDD:=zh hdd
   clear hdd
   go_wp2_with fail
   go_roundg (s.size - (j+2))
   case measure=>have:=H1.out;have:=HLT.out;omega
   have e2:((j+2:Nat):Int)=(j:Int)+2:=by push_cast;rfl
   have hmv2:=(H2.out.drewN (nq+q+q2)).trans (Mv.of_set (wr.drewN (nq+q+q2)) b ((j:Int)+2))
   have hsc2:Sc ((wr.drewN (nq+q+q2)).setCell ⟨b,1,none⟩ (.int .i64 ((j:Int)+2))) b s (j+2) mb cv:=by
    have h0:Sc (wr.drewN (nq+q+q2)) b s j mb cv:=H3.out
    refine h0.mv ?_ HLEN.out
    rw [e2];exact Mv.of_set _ _ _
   refine⟨j+2,d',by have:=H6.out.1;omega,HLEN.out,rfl,rfl,by omega,⟨_,hmv2,hsc2⟩,.inl (by have:=HDD.out;omega),?_⟩
   rw [H5.out,cmt_close _ _ _ HB2.out,if_neg (by have:=HDD.out;omega),List.drop_drop]
   congr 1
   have:=H6.out.1
   omega
  | false =>
   have S2:Hid (∀ m,Calls Tryz.prog 146 #[.pointer (some ⟨b,0,none⟩),.string ⟨#[42,41]⟩] (wr.drewN m) fun e w'=>e = .returned (.bool false)∧∃ q,w'=(wr.drewN m).drewN q):=fun m=>by
    have:=starts_any (w:=wr.drewN m) ⟨e0,e1,elt,H6.out.2,HZ.out⟩ ⟨#[42,41]⟩
    rw [show bts ⟨#[42,41]⟩=[42,41] from rfl,hb2] at this
    exact this
   have HB2:=zh hb2
   clear hb2
   go_wp2_with fail
   go_quiet (fail)
   go_wp2_with fail
   refine(S1.out _).mono ?_
   rintro e w2 ⟨rfl,q,rfl⟩
   go_wp2_with fail
   refine(S2.out _).mono ?_
   rintro e w2 ⟨rfl,q2,rfl⟩
   go_wp2_with fail
   go_roundg (s.size - (j+1))
   case measure=>have:=H1.out;have:=HLT.out;omega
   have e2:((j+1:Nat):Int)=(j:Int)+1:=by push_cast;rfl
   have hmv2:=(H2.out.drewN (nq+q+q2)).trans (Mv.of_set (wr.drewN (nq+q+q2)) b ((j:Int)+1))
   have hsc2:Sc ((wr.drewN (nq+q+q2)).setCell ⟨b,1,none⟩ (.int .i64 ((j:Int)+1))) b s (j+1) mb cv:=by
    have h0:Sc (wr.drewN (nq+q+q2)) b s j mb cv:=H3.out
    refine h0.mv ?_ HLT.out
    rw [e2];exact Mv.of_set _ _ _
   refine⟨j+1,d'+1,by have:=H6.out.1;omega,HLT.out,rfl,by push_cast;rfl,by omega,⟨_,hmv2,hsc2⟩,.inl (by omega),?_⟩
   rw [H5.out,cmt_skip _ _ _ HB.out HB2.out,List.drop_drop]
   congr 1
   have:=H6.out.1
   omega
end Go.Proofs.YtnkahlloahgifaaGreatDoor.Lx
namespace Go.Proofs.YtnkahlloahgifaaGreatDoor.Lx
open Go.RowKit
theorem append_one {P:Program}(w:World) (base:Nat) (t ty e:TypeId) (i:TypeInfo) (z:Value) (size bytes:Nat) (ht:P.underlying t=some (.slice e)) (hi:P.info? e=some i) (hz:i.zero=some z)
  (hsize:i.size=size) (hby:i.bytes=bytes) (hzs:z.cells.size=size) (hsz:0<size)
  (v:Value) (n:Nat) (xs:List Value) (hown:w.ownsRow base e size v n xs)
  (a:Addr) (c:Nat) (news:List Value) (hl:news.length=size) (hnews:∀ j u,news[j]?=some u→w.cell? (a.add j)=some u) (h1:∀ u∈news,u.oneCell'=true)
  (hn:n<1000000000) (hbt:bytes≤1000) (hbase:base≤w.heap.size) :
  ∃ v' w',(Builtin.append_ #[t,t] ty #[v,.slice (some a) 1 c]).run P w = .ok v' w'∧w'.ownsRow base e size v' (n+1) (xs++news)∧w.grownBy w' v.ownBlock ∧
   (v'.ownBlock=some w.heap.size∨(v'.ownBlock=v.ownBlock∧v.ownBlock.isSome=true)):=by
 have hb2:((n+1)+(n+1) / 4+192)*bytes≤281474976710656:=by
  have h:((n+1)+(n+1) / 4+192)*bytes≤2000000000*1000:=Nat.mul_le_mul (by omega) hbt
  omega
 obtain⟨v',w',hr,h2,h3,h4⟩:=run_append_own_wide (P:=P) w base t ty e i z size bytes ht hi hz hsize hby hzs hsz v n xs hown a 1 c news (by omega) hnews h1 (by simp only [maxLen];omega) hb2 hbase
 refine⟨v',w',hr,h2,h3,?_⟩
 subst hsize
 subst hby
 rcases hown.2 with ⟨rfl,rfl⟩|⟨g,cap,cur,rfl,hbg,hg,hnc,hcm,hcs,htake⟩
 ·have hrun:=run_append_nil (P:=P) w t ty e i z ht hi hz a 1 c news (by omega) hnews (by omega) (by omega) (by omega)
  rw [hr] at hrun
  cases hrun
  exact .inl rfl
 by_cases hroom:n+1≤cap
 ·have hrun:=run_append_room (P:=P) w t ty e i ht hi g n cap cur hg a 1 c news (by omega) hnews h1 hroom (by
   rw [hcs,hl]
   have:(n+1)*i.size≤cap*i.size:=Nat.mul_le_mul_right _ hroom
   rw [Nat.add_mul] at this
   omega)
  rw [hr] at hrun
  cases hrun
  exact .inr ⟨rfl,rfl⟩
 have holds:∀ j u,xs[j]?=some u→w.cell? ((⟨g,0,none⟩:Addr).add j)=some u:=by
  intro j u hu
  have hj:j<n*i.size:=by rw [← hown.1];exact(zq8.1 hu).1
  rw [Addr.add_lit,zb w g (0+j) cur e (0,0) hg,Nat.zero_add,← Array.getElem?_toList]
  rw [← htake,List.getElem?_take,if_pos hj] at hu
  exact hu
 have hrun:=run_append_grow (P:=P) w t ty e i z ht hi hz ⟨g,0,none⟩ n cap xs hown.1 holds a 1 c news (by omega) hnews (by omega) (by omega)
  (growslice_fits_wide (by omega) hb2)
 rw [hr] at hrun
 cases hrun
 exact .inl rfl
end Go.Proofs.YtnkahlloahgifaaGreatDoor.Lx
namespace Go.Proofs.YtnkahlloahgifaaGreatDoor.Lx
namespace LX
inductive PR where
 | to (n:Nat) (cs:List (Nat×Nat))
 | bad (place e:Nat)
def PR.add (c:List (Nat×Nat)):PR→PR
 | .to n cs => .to n (c++cs)
 | .bad p e => .bad p e
def passN:Nat→List Nat→Nat→PR
 | 0,_,p => .to p []
 | f+1,l,p =>
  if opens (l.drop (run space l)) then
   match cmt (l.drop (run space l)) 0 0 with
   | .fin n=>(passN f ((l.drop (run space l)).drop n) (p+run space l+n)).add [(p+run space l,p+run space l+n)]
   | .deep n => .bad (p+run space l+n) 6
   | .never => .bad (p+run space l) 12
  else .to (p+run space l) []
theorem PR.add_add (a b:List (Nat×Nat)) (r:PR):(r.add b).add a=r.add (a++b):=by
 cases r<;>simp [PR.add]
theorem PR.add_nil (r:PR):r.add []=r:=by cases r<;>rfl
theorem cmt_fin {l:List Nat}{d n m:Nat}:cmt l d n = .fin m→n<m:=by
 fun_induction cmt l d n with
 | case1=>intro h;cases h
 | case2=>intro h;cases h
 | case3=>intro h;cases h
 | case4 _ _ _ _ _ _ _ ih=>intro h;have:=ih h;omega
 | case5=>intro h;cases h;omega
 | case6 _ _ _ _ _ _ _ _ ih=>intro h;have:=ih h;omega
 | case7 _ _ _ _ _ _ _ ih=>intro h;have:=ih h;omega
end LX
open Go.RowKit
structure Fr (w w':World) (b:Nat) (cv cv':Value):Prop where
 os:w'.os=w.os
 tape:w'.tape=w.tape
 output:w'.output=w.output
 size:w.heap.size≤w'.heap.size
 block:∀ k,k<w.heap.size→k≠b→cv.ownBlock≠some k→w'.heap[k]?=w.heap[k]?
 own:cv'.ownBlock=cv.ownBlock∨∃ k,cv'.ownBlock=some k∧w.heap.size≤k
theorem Fr.refl (w:World) (b:Nat) (cv:Value):Fr w w b cv cv:=⟨rfl,rfl,rfl,Nat.le_refl _,fun _ _ _ _=>rfl,.inl rfl⟩
theorem Fr.trans {w w1 w2:World}{b:Nat}{cv c1 c2:Value}(h:Fr w w1 b cv c1) (k:Fr w1 w2 b c1 c2):Fr w w2 b cv c2:=by
 refine⟨k.os.trans h.os,k.tape.trans h.tape,k.output.trans h.output,Nat.le_trans h.size k.size,fun q hq hb hc=>?_,?_⟩
 ·refine(k.block q (Nat.lt_of_lt_of_le hq h.size) hb fun e=>?_).trans (h.block q hq hb hc)
  rcases h.own with e2 | ⟨p,e2,hp⟩
  ·exact hc (e2.symm.trans e)
  rw [e2] at e;simp at e;omega
 rcases k.own with e | ⟨p,e,hp⟩
 ·rcases h.own with e2 | ⟨p,e2,hp⟩
  ·exact .inl (e.trans e2)
  exact .inr ⟨p,e.trans e2,hp⟩
 exact .inr ⟨p,e,Nat.le_trans h.size hp⟩
theorem Fr.drewN {w w':World}{b:Nat}{cv cv':Value}(h:Fr w w' b cv cv') (m:Nat):Fr w (w'.drewN m) b cv cv':=⟨h.os,h.tape,h.output,h.size,h.block,h.own⟩
theorem Mv.fr {w w':World}{b:Nat}{v:Int}(h:Mv w w' b v) (cv:Value):Fr w w' b cv cv :=
 ⟨h.os,h.tape,h.output,Nat.le_of_eq h.size.symm,fun k _ hb _=>h.block k hb,.inl rfl⟩
def flatP:List (Nat×Nat)→List Value
 | []=>[]
 | (p,q) :: t => .int .i64 p :: .int .i64 q :: flatP t
theorem flatP_append (a b:List (Nat×Nat)):flatP (a++b)=flatP a++flatP b:=by
 induction a with
 | nil=>rfl
 | cons x r ih=>obtain⟨p,q⟩:=x;simp [flatP,ih]
structure Cm (w:World) (b:Nat) (cv:Value) (cs:List (Nat×Nat)):Prop where
 row:w.ownsRow 0 228 2 cv cs.length (flatP cs)
 ne:cv.ownBlock≠some b
theorem Cm.shape {w:World}{b:Nat}{cv:Value}{cs:List (Nat×Nat)}(h:Cm w b cv cs):∃ a c,cv = .slice a cs.length c:=by
 rcases h.row.2 with ⟨rfl,h0⟩|⟨g,cap,cur,rfl,_⟩
 ·rw [h0];exact⟨_,_,rfl⟩
 exact⟨_,_,rfl⟩
theorem Cm.keep {w w':World}{b:Nat}{cv:Value}{cs:List (Nat×Nat)}(h:Cm w b cv cs) (hk:∀ k,k<w.heap.size→cv.ownBlock=some k→w'.heap[k]?=w.heap[k]?):Cm w' b cv cs:=by
 obtain⟨⟨h1,h2⟩,h3⟩:=h
 rcases h2 with h2 | ⟨g,cap,cur,rfl,hb,hg,rest⟩
 ·exact⟨⟨h1,.inl h2⟩,h3⟩
 exact⟨⟨h1,.inr ⟨g,cap,cur,rfl,hb,(hk g (Array.getElem?_eq_some_iff.1 hg).1 rfl).trans hg,rest⟩⟩,h3⟩
theorem Cm.lt {w:World}{b:Nat}{cv:Value}{cs:List (Nat×Nat)}(h:Cm w b cv cs) {k:Nat}(hk:cv.ownBlock=some k):k<w.heap.size:=by
 rcases h.row.2 with ⟨rfl,_⟩|⟨g,cap,cur,rfl,_,hg,_⟩
 ·simp [Value.ownBlock] at hk
 simp [Value.ownBlock] at hk;subst hk;exact(Array.getElem?_eq_some_iff.1 hg).1
theorem Tryz.info228:(Tryz.prog.info? 228).map (fun i=>(i.zero,i.size,i.bytes))=some (some (.agg #[.int .i64 0,.int .i64 0]),2,16):=by kernel_rfl
theorem step_append_run {P:Program}{ops:Array Oper}{o:Oper}{a:Act}{w w':World}{K:Act→World→Prop}{Q:Exit→Act→World→Prop}{E:Prop}
  (hg:o.guard=none) (s x:Operand) (t:TypeId) (hop:o.op=Op.call { callee:=Callee.builtin Builtin.append,args := #[s,x],argTypes := #[t,t] })
  {v xv v':Value} (hs:a.eval s=v) (hx:a.eval x=xv) (hr:(Builtin.append_ #[t,t] o.type #[v,xv]).run P w = .ok v' w') (hK:K (a.put o.dst v') w') :
  if Region.wanted o (yielded ops a.tmps)=true then Oper.wp P o a w K Q else E:=by
 have hw:Region.wanted o (yielded ops a.tmps)=true:=by simp [Region.wanted,hg]
 rw [if_pos hw]
 unfold Oper.wp execOp
 simp only [hop,resolve,invoke,builtin,Sem.run_bind,Sem.run_pure,Result.andThen_ok,List.map_toArray,List.map_cons,List.map_nil,hs,hx,hr]
 exact hK
def PPost (w:World) (b:Nat) (s:ByteArray) (mb:Nat) (cv:Value) (cs0:List (Nat×Nat)):LX.PR→Ending→World→Prop
 | .to n cs,e,w'=>e = .returned (.tuple #[])∧∃ cv',Sc w' b s n mb cv'∧Cm w' b cv' (cs0++cs)∧Fr w w' b cv cv'
 | .bad p er,e,w'=>e=thrown p er∧∃ cv',Fr w w' b cv cv'
theorem Mv.of_drew {w w':World}{b m:Nat}{v:Int}(h:Mv (w.drewN m) w' b v):Mv w w' b v:=⟨h.os,h.tape,h.output,h.size,h.block,h.cell⟩
theorem passN_step (f:Nat) (s:ByteArray) (j k p:Nat) (hk:k=LX.run LX.space ((bts s).drop j)) (hp:p=j+k) :
  LX.passN (f+1) ((bts s).drop j) j=if LX.opens ((bts s).drop p) then
   match LX.cmt ((bts s).drop p) 0 0 with
   | .fin n=>(LX.passN f ((bts s).drop (p+n)) (p+n)).add [(p,p+n)]
   | .deep n => .bad (p+n) 6
   | .never => .bad p 12
  else .to p []:=by
 subst hp
 rw [LX.passN,← hk]
 simp only [List.drop_drop]
theorem opens_eq (l:List Nat):LX.opens l=[40,42].isPrefixOf l:=by
 cases h:[40,42].isPrefixOf l with
 | true=>obtain⟨t,rfl⟩:=prefix2 h;rfl
 | false =>
  cases h2:LX.opens l with
  | false=>rfl
  | true=>rw [opens_prefix h2] at h;exact absurd h (by decide)
theorem pass_any {w:World}{b:Nat}{s:ByteArray}{i mb:Nat}{cv:Value}{cs0:List (Nat×Nat)}(h:Sc w b s i mb cv) (hc:Cm w b cv cs0) (hcl:cs0.length≤i) :
  Calls Tryz.prog 142 #[.pointer (some ⟨b,0,none⟩)] w (PPost w b s mb cv cs0 (LX.passN (s.size+1) ((bts s).drop i) i)):=by
 obtain⟨r,hr⟩:∃ r,r=LX.passN (s.size+1) ((bts s).drop i) i:=⟨_,rfl⟩
 rw [← hr]
 have hi2:=h.2.1
 have HZ:=Lib.hid h.2.2
 have HS:=Lib.hid h
 have HC:=Lib.hid hc
 have HR:=Lib.hid hr
 have HL:=Lib.hid hcl
 clear h hc hr hcl
 go_enter Tryz.func142,Tryz.ntmps142
 go_wp2_with fail
 go_loopg [2] (s.size - i) (fun gk v2 wr=>∃ (j f:Nat) (cs:List (Nat×Nat)) (cv':Value),i≤j∧j≤s.size∧gk=s.size - j∧s.size - j<f∧Sc wr b s j mb cv'∧Cm wr b cv' (cs0++cs)∧(cs0++cs).length≤j∧Fr w wr b cv cv'∧r=(LX.passN f ((bts s).drop j) j).add cs)
 case atStart=>exact⟨i,s.size+1,[],cv,Nat.le_refl _,hi2,rfl,by omega,HS.out,by simpa using HC.out,by simpa using HL.out,Fr.refl _ _ _,by rw [LX.PR.add_nil];exact HR.out⟩
 obtain⟨j,f,cs,cv',hij,hjs,hgk,hf,hsc,hcm,hcl,hfr,hrj⟩:=hrel
 obtain⟨f',rfl⟩:∃ f',f=f'+1:=⟨f - 1,by omega⟩
 obtain⟨e0,e1,elt,ele,esz⟩:=hsc.at'
 have ef:∀ q,wr.frozen? ⟨b,q,none⟩=false:=fun q=>frozen_of_row wr b q _ _ hsc.1
 obtain⟨k,hk⟩:∃ k,k=LX.run LX.space ((bts s).drop j):=⟨_,rfl⟩
 have hkl:j+k≤s.size:=by
  have:=run_le LX.space ((bts s).drop j)
  rw [List.length_drop,ze] at this
  omega
 have hj4:(j:Int)+(k:Int)≤400000:=by have:=HZ.out;omega
 have R1:Hid (Calls Tryz.prog 144 #[.pointer (some ⟨b,0,none⟩),.int .i64 0,.func (.func 145) #[] #[]] wr.drew fun e w'=>e = .returned (.int .i64 k)∧∃ q,w'=wr.drew.drewN q):=by
  have:=run_space (w:=wr.drew) ⟨e0,e1,elt,ele,esz⟩ 0 (by decide)
  rw [Nat.add_zero,← hk] at this
  exact this
 have H1:=Lib.hid hgk
 have H2:=Lib.hid hf
 have H3:=Lib.hid hsc
 have H4:=Lib.hid hcm
 have H5:=Lib.hid hcl
 have H6:=Lib.hid hfr
 have H7:=Lib.hid hrj
 have H8:=Lib.hid hk
 have H9:=Lib.hid (And.intro hij (And.intro hjs hkl))
 clear hgk hf hsc hcm hcl hfr hrj hk hij hjs ele esz hkl
 have hwr:IntKind.i64.wrap ((j:Int)+(k:Int))=(j:Int)+(k:Int):=wrap_in _ (by omega)
 go_wp2_with fail
 go_region_with (go_at_call 144;refine(R1.out).mono ?_;rintro e w2 ⟨rfl,q,rfl⟩)
 all_goals
  obtain⟨w1,hw1⟩:∃ v,v=(wr.drewN (1+q)).setCell ⟨b,1,none⟩ (.int .i64 ((j:Int)+(k:Int))):=⟨_,rfl⟩
  rw [← hw1]
  have mv1:Mv wr w1 b ((j+k:Nat):Int):=by
   rw [hw1,show ((j+k:Nat):Int)=(j:Int)+(k:Int) from by push_cast;rfl]
   exact(Mv.of_set (wr.drewN (1+q)) b _).of_drew
  have T1:Hid (Sc w1 b s (j+k) mb cv'):=H3.out.mv mv1 H9.out.2.2
  have T2:Hid (Cm w1 b cv' (cs0++cs)):=H4.out.keep fun p hp hb=>mv1.block p fun e=>H4.out.ne (by rw [hb,e])
  have T3:Hid (Fr w w1 b cv cv'):=H6.out.trans (mv1.fr cv')
  obtain⟨p,hp⟩:∃ p,p=j+k:=⟨_,rfl⟩
  rw [← hp] at T1
  have T4:=Lib.hid hp
  obtain⟨d0,d1,dlt,dle,dsz⟩:=T1.out.at'
  have df:∀ q,w1.frozen? ⟨b,q,none⟩=false:=fun q=>frozen_of_row w1 b q _ _ T1.out.1
  have d3:w1.cell? ⟨b,3,none⟩=some cv':=by rw [cell_of_row w1 b 3 _ _ _ T1.out.1];rfl
  have hpz:(p:Int)≤400000:=by omega
  have AT:Hid (At w1 b s p):=T1.out.at'
  clear hw1 mv1 e0 e1 elt ef hwr R1 hp hj4 dle dsz
  cases hop:LX.opens ((bts s).drop p) with
  | false =>
   have S1:Hid (Calls Tryz.prog 146 #[.pointer (some ⟨b,0,none⟩),.string ⟨#[40,42]⟩] w1 fun e w'=>e = .returned (.bool false)∧∃ q,w'=w1.drewN q):=by
    have:=starts_any AT.out ⟨#[40,42]⟩
    rw [show bts ⟨#[40,42]⟩=[40,42] from rfl,← opens_eq,hop] at this
    exact this
   have HOP:=Lib.hid hop
   clear hop
   go_wp2_with fail
   refine(S1.out).mono ?_
   rintro e w2 ⟨rfl,q2,rfl⟩
   go_wp2_with fail
   (try simp only [Exit.inBlock,Exit.then])
   refine bodyPost_ret (results_none rfl _ _ _) rfl ?_
   have er:r = .to p cs:=by
    rw [H7.out,passN_step _ s j k p H8.out T4.out,if_neg (by rw [HOP.out];decide)]
    simp [LX.PR.add]
   rw [er]
   exact⟨rfl,cv',T1.out,T2.out.keep fun _ _ _=>rfl,T3.out.drewN _⟩
  | true =>
   have S1:Hid (Calls Tryz.prog 146 #[.pointer (some ⟨b,0,none⟩),.string ⟨#[40,42]⟩] w1 fun e w'=>e = .returned (.bool true)∧∃ q,w'=w1.drewN q):=by
    have:=starts_any AT.out ⟨#[40,42]⟩
    rw [show bts ⟨#[40,42]⟩=[40,42] from rfl,← opens_eq,hop] at this
    exact this
   have HOP:=Lib.hid hop
   clear hop
   go_wp2_with fail
   refine(S1.out).mono ?_
   rintro e w2 ⟨rfl,q2,rfl⟩
   go_wp2_with fail
   have T1':Sc (w1.drewN q2) b s p mb cv':=T1.out
   refine(comment_any T1' HOP.out).mono ?_
   cases hcm2:LX.cmt ((bts s).drop p) 0 0 with
   | never =>
    rintro e w3 ⟨rfl,v,hmv⟩
    unfold thrown
    go_wp2_with fail
    refine⟨rfl,?_⟩
    have er:r = .bad p 12:=by
     rw [H7.out,passN_step _ s j k p H8.out T4.out,if_pos HOP.out,hcm2]
     rfl
    rw [er]
    exact⟨rfl,cv',T3.out.trans (hmv.of_drew.fr cv')⟩
   | deep n =>
    rintro e w3 ⟨rfl,v,hmv⟩
    unfold thrown
    go_wp2_with fail
    refine⟨rfl,?_⟩
    have er:r = .bad (p+n) 6:=by
     rw [H7.out,passN_step _ s j k p H8.out T4.out,if_pos HOP.out,hcm2]
     rfl
    rw [er]
    exact⟨rfl,cv',T3.out.trans (hmv.of_drew.fr cv')⟩
   | fin n =>
    rintro e w3 ⟨rfl,hmv,hle⟩
    have mv3:=hmv.of_drew
    have U1:Hid (Sc w3 b s (p+n) mb cv'):=T1.out.mv mv3 hle
    have U2:Hid (Cm w3 b cv' (cs0++cs)):=T2.out.keep fun x hx hb=>mv3.block x fun e=>T2.out.ne (by rw [hb,e])
    have U3:Hid (Fr w w3 b cv cv'):=T3.out.trans (mv3.fr cv')
    have U4:Hid (0<n):=LX.cmt_fin hcm2
    have U5:Hid (r=((LX.passN f' ((bts s).drop (p+n)) (p+n)).add [(p,p+n)]).add cs):=by
     show r=_
     rw [H7.out,passN_step _ s j k p H8.out T4.out,if_pos HOP.out,hcm2]
    have U6:=Lib.hid hle
    obtain⟨g0,g1,glt,gle,gsz⟩:=U1.out.at'
    have g1':w3.cell? ⟨b,1,none⟩=some (.int .i64 ((p:Int)+(n:Int))):=by rw [g1];push_cast;rfl
    have gf:∀ q,w3.frozen? ⟨b,q,none⟩=false:=fun q=>frozen_of_row w3 b q _ _ U1.out.1
    have g3:w3.cell? ⟨b,3,none⟩=some cv':=by rw [cell_of_row w3 b 3 _ _ _ U1.out.1];rfl
    obtain⟨i0,hi0,hz0,hz1,hz2⟩:=info_parts Tryz.info228
    obtain⟨W,hW⟩:∃ W,W=w3.drew.alloc (.cells #[.int .i64 p,.int .i64 ((p:Int)+(n:Int))] 228):=⟨_,rfl⟩
    have hWh:W.heap[w3.heap.size]?=some (.cells #[.int .i64 p,.int .i64 ((p:Int)+(n:Int))] 228 (0,0)):=by rw [hW];exact heap_alloc_new w3.drew _
    have hWs:W.heap.size=w3.heap.size+1:=by rw [hW];simp
    have hWk:∀ x,x<w3.heap.size→W.heap[x]?=w3.heap[x]?:=fun x hx=>by rw [hW];exact Below.heap_alloc w3.drew _ _ hx
    have cmW:Cm W b cv' (cs0++cs):=U2.out.keep fun x hx _=>hWk x hx
    obtain⟨v',w4,hrun,hrow,hgr,hob⟩:=append_one (P:=Tryz.prog) W 0 220 220 228 i0 (.agg #[.int .i64 0,.int .i64 0]) 2 16 Tryz.underlying220 hi0 hz0 hz1 hz2 rfl (by decide) cv' (cs0++cs).length (flatP (cs0++cs)) cmW.row ⟨w3.heap.size,0,none⟩ 1 [.int .i64 p,.int .i64 ((p:Int)+(n:Int))] rfl
     (fun x u hx=>by
      rw [Addr.add_lit,cell_of_row _ _ _ _ _ _ hWh]
      match x,hx with
      | 0,hx=>simpa using hx
      | 1,hx=>simpa using hx
      | x+2,hx=>simp at hx)
     (fun u hu=>by simp at hu;rcases hu with rfl | rfl<;>rfl) (by have:=H5.out;have:=H9.out.2.1;have:=HZ.out;omega) (by decide) (Nat.zero_le _)
    obtain⟨va,vc,hv'⟩:∃ a c,v' = .slice a ((cs0++cs).length+1) c:=by
     rcases hrow.2 with ⟨_,h0⟩|⟨g,cap,cur,e,_⟩
     ·omega
     exact⟨_,_,e⟩
    obtain⟨ca,cc,hcv⟩:=U2.out.shape
    have b4:w4.heap[b]?=w3.heap[b]?:=(hgr.block b (by omega) (fun e=>U2.out.ne e.symm)).trans (hWk b glt)
    have b40:w4.cell? ⟨b,3,none⟩=some cv':=by rw [World.cell?_of_block (w:=w3) b4];exact g3
    have b4f:w4.frozen? ⟨b,3,none⟩=false:=by rw [World.frozen?_of_block (w:=w3) b4];exact gf 3
    have b4l:b<w4.heap.size:=Nat.lt_of_lt_of_le (by omega) hgr.size
    rw [hW] at hrun
    have V1:=Lib.hid hrun
    have V2:=Lib.hid hrow
    have V3:=Lib.hid hgr
    have V4:=Lib.hid hob
    have V5:=Lib.hid b4
    have V6:=Lib.hid (And.intro hWs hWk)
    have V7:Hid (w3.os=W.os∧w3.tape=W.tape∧w3.output=W.output):=by rw [hW];exact⟨rfl,rfl,rfl⟩
    have hnz:(p:Int)+(n:Int)≤400000:=by omega
    obtain⟨nn,hnn⟩:∃ nn,nn=(cs0++cs).length:=⟨_,rfl⟩
    rw [← hnn] at hv' hcv
    have V8:=Lib.hid hnn
    clear hnn
    subst hv'
    subst hcv
    clear hW g1 hmv hle hcm2 mv3 gle gsz hi0 hz0 hz1 hz2 hWh hWs hWk cmW hrun hrow hgr hob b4 d0 d1 dlt df d3 S1
    go_wp2_with fail
    go_region_law (refine step_append_run rfl _ _ 220 rfl rfl rfl V1.out ?_)
    all_goals
     go_wp2_with fail
     go_roundg (s.size - (p+n))
     case measure=>have:=H1.out;have:=U4.out;have:=U6.out;have:=T4.out;omega
     have hlen:(cs0++(cs++[(p,p+n)])).length=(cs0++cs).length+1:=by simp;omega
     have hfl:flatP (cs0++(cs++[(p,p+n)]))=flatP (cs0++cs)++[.int .i64 p,.int .i64 ((p:Int)+(n:Int))]:=by
      rw [← List.append_assoc,flatP_append]
      simp only [flatP]
      push_cast
      rfl
     have hne:(Value.slice va (nn+1) vc).ownBlock≠some b:=by
      rcases V4.out with e | ⟨e,_⟩
      ·rw [e,V6.out.1];intro e2;simp at e2;omega
      rw [e];exact U2.out.ne
     have hkk:∀ x,x≠b→(w4.setCell ⟨b,3,none⟩ (.slice va (nn+1) vc)).heap[x]?=w4.heap[x]?:=fun x hx=>Below.heap_setCell w4 _ _ x hx
     have hcm:Cm w4 b (.slice va (nn+1) vc) (cs0++(cs++[(p,p+n)])):=⟨by rw [hlen,hfl];exact V2.out,hne⟩
     refine⟨p+n,f',cs++[(p,p+n)],.slice va (nn+1) vc,by have:=H9.out.1;have:=T4.out;omega,U6.out,rfl,by have:=H2.out;have:=U4.out;have:=T4.out;have:=U6.out;omega,⟨?_,U6.out,HZ.out⟩,hcm.keep (fun x _ hx=>hkk x fun e=>hne (by rw [hx,e])),by rw [hlen];have:=H5.out;have:=U4.out;have:=T4.out;omega,?_,?_⟩
     ·have:=heap_setCell_same w4 b 3 _ _ (.slice va (nn+1) vc) (V5.out.trans U1.out.1)
      simpa using this
     ·refine U3.out.trans ⟨V3.out.os.trans V7.out.1.symm,V3.out.tape.trans V7.out.2.1.symm,V3.out.output.trans V7.out.2.2.symm,?_,fun x hx hxb hxc=>?_,?_⟩
      ·have h1:=V3.out.size
       have h2:=V6.out.1
       simp
       omega
      ·rw [hkk x hxb,V3.out.block x (by have:=V6.out.1;omega) (fun e=>hxc e.symm)]
       exact V6.out.2 x hx
      rcases V4.out with e | ⟨e,_⟩
      ·exact .inr ⟨_,e,by rw [V6.out.1];omega⟩
      exact .inl e
     rw [U5.out,LX.PR.add_add]
end Go.Proofs.YtnkahlloahgifaaGreatDoor.Lx
