/- Part. -/
import Derived.Test.YtnkahlloahgifaaGreatDoorVZ
import Derived.Shelf.Strings.Builder1
import Derived.Shelf.Strings.Builder2
import Derived.Shelf.Small.Bits
import Derived.Shelf.Small.Strs
import Derived.Shelf.Small.Wraps
import Derived.Shelf.Strings.BuilderF
import Derived.Shelf.Strings.BuilderK
import Derived.Shelf.Utf8.RuneCount
import Derived.Shelf.Strconv.Atoi
import Derived.Shelf.Strconv.Itoa0
import Derived.Shelf.Strconv.Itoa1
import Derived.Shelf.LaysM
import Derived.Shelf.Strconv.Itoa2
import Derived.Shelf.Strconv.Itoa3
import Derived.Shelf.Strconv.AtoiErrFast
import Derived.Shelf.Strconv.ParseIntEmpty
import Derived.Shelf.Strconv.AtoiFail
import Derived.Shelf.Strconv.Clone
import Derived.Shelf.Strconv.SyntaxError
import Derived.Shelf.LaysC
import Derived.Shelf.Strconv.ToError
import Derived.Shelf.Strconv.Lower
import Derived.Shelf.Strconv.ParseUint10
import Derived.Shelf.Strconv.ParseUint10Empty
import Derived.Shelf.Strconv.ParseUint10Any
import Derived.Shelf.Strconv.ParseInt10
import Derived.Shelf.Strconv.AtoiLong
import Derived.Shelf.Strconv.AtoiInnerAll
import Derived.Shelf.Strconv.RangeError
import Derived.Shelf.Strconv.ToErrorRange
import Derived.Shelf.Strconv.AtoiAll
import Derived.Shelf.Strconv.ErrVarAll
import Derived.Shelf.Strings.Search1
import Derived.Shelf.Strings.Search2
import Derived.Shelf.Strings.Search3
import Derived.Shelf.Strings.Count
import Derived.Shelf.Strings.Shaped
import Derived.Shelf.Sort.Plain
import Derived.Shelf.Strings.Prefix
import Derived.Shelf.Strings.Split
import Derived.Shelf.Strings.Replace
import Derived.Shelf.Strings.SplitShaped
import Derived.Shelf.Unicode.Decode
import Derived.Shelf.Strings.RuneCount
import Derived.Shelf.Unicode.DecodeSlow
import Derived.Shelf.Unicode.DecodeAny
import Derived.Shelf.Slices.Turned
import Derived.Ground.Names2Prog
import Derived.Shelf.Slices.SearchI
import Derived.WalkSmall
import Derived.Deep.DeepAppendWide
import Derived.Deep.RegionLaw
import Derived.Deep.RegionWith
import Derived.RangeFuncRecord
import Derived.MapKept
import Derived.Lib.AtoiAll
import Derived.Lib.ItoaNum
import Derived.Lib.Replace
import Derived.Lib.CountLaws
set_option maxHeartbeats 16000000
set_option maxRecDepth 100000
set_option linter.unusedSimpArgs false
set_option linter.unusedVariables false
namespace Go.Proofs.YtnkahlloahgifaaGreatDoor
section
open Go.RowKit RG Go.Maps
def TFunV (w:World) (v:Value) (ps:List Nm) (e:TE):Prop :=
 ∃ (nm op:ByteArray) (ch:Bool) (pv va:Value) (num site:Int) (aa ab:Option Addr) (ca cb ga oa gb ob:Nat),
  v = .agg #[.string nm,.bool ch,pv,.int .i64 e.kind,.string e.name,.string op,.int .i64 num,.int .i64 site,va,.slice aa e.arms.length ca,.slice ab e.body.length cb] ∧
   ParamsAt w pv ps∧AtomsAt w va e.args∧(0<e.arms.length→aa=some ⟨ga,oa,none⟩)∧TAAt w e.arms ga oa∧(0<e.body.length→ab=some ⟨gb,ob,none⟩)∧TBAt w e.body gb ob
theorem ParamsAt.kept {w w':World}{v:Value}{ns:List Nm}(h:ParamsAt w v ns) (hb:Kept w w'):ParamsAt w' v ns:=by
 obtain⟨ad,c,h1,h2⟩:=h.at'
 refine⟨ad,c,h1,fun h0=>?_⟩
 obtain⟨g,o,e,h3⟩:=h2 h0
 exact⟨g,o,e,fun i n hi=>by obtain⟨m,a,b⟩:=h3 i n hi;exact⟨m,hb _ _ a,hb _ _ b⟩⟩
theorem TFunV.kept {w w':World}{v:Value}{ps:List Nm}{e:TE}(h:TFunV w v ps e) (hb:Kept w w'):TFunV w' v ps e:=by
 obtain⟨nm,op,ch,pv,va,num,site,aa,ab,ca,cb,ga,oa,gb,ob,h0,h1,h2,h3,h4,h5,h6⟩:=h
 exact⟨nm,op,ch,pv,va,num,site,aa,ab,ca,cb,ga,oa,gb,ob,h0,h1.kept hb,h2.kept hb,h3,TAAt.kept hb _ _ _ h4,h5,TBAt.kept hb _ _ _ h6⟩
structure FnOk (Env:World→Prop) (isName:Nm→Bool) (w:World) (v:Value) (ps:List Nm) (e:TE):Prop where
 law:NLaw Env isName
 env:Env w
 val:TFunV w v ps e
 sz:∀ d∈F0 ps e,(∀ x∈d.binds,x.size≤maxLen)∧∀ x∈d.e.args,x.size≤maxLen
 pl:ps.length*24≤140737488355328
theorem FnOk.keep {Env:World→Prop}{isName:Nm→Bool}{w w':World}{v:Value}{ps:List Nm}{e:TE}(h:FnOk Env isName w v ps e) (hb:Below w.heap.size w w'):FnOk Env isName w' v ps e :=
 ⟨h.law,h.law.keep _ _ _ (h.law.size _ h.env) h.env hb,h.val.kept (zd hb),h.sz,h.pl⟩
theorem FnOk.boxed {Env:World→Prop}{isName:Nm→Bool}{w:World}{v:Value}{ps:List Nm}{e:TE}(h:FnOk Env isName w v ps e):Calls Tryz.prog 58 #[.pointer (some ⟨w.heap.size,0,none⟩)] (w.alloc (.cells v.cells 29)) (fun en w'=>ReadP isName (w.alloc (.cells v.cells 29)) ps e en w'):=by
 have hb:Below w.heap.size w (w.alloc (.cells v.cells 29)):=(zs9 _ _).alloc (zr4 _) _
 have hk:=zd hb
 obtain⟨nm,op,ch,pv,va,num,site,aa,ab,ca,cb,ga,oa,gb,ob,rfl,h1,h2,h3,h4,h5,h6⟩:=h.val
 have hn:=zs2 w (.cells (Value.agg #[.string nm,.bool ch,pv,.int .i64 e.kind,.string e.name,.string op,.int .i64 num,.int .i64 site,va,.slice aa e.arms.length ca,.slice ab e.body.length cb]).cells 29)
 have hpv:∃ a n c,pv = .slice a n c:=by obtain⟨ad,c,e,_⟩:=h1.at';exact⟨_,_,_,e⟩
 have hva:∃ a n c,va = .slice a n c:=by obtain⟨ad,c,e,_⟩:=h2.at';exact⟨_,_,_,e⟩
 obtain⟨pa,pn,pc,rfl⟩:=hpv
 obtain⟨xa,xn,xc,rfl⟩:=hva
 have hcs:(Value.agg #[.string nm,.bool ch,.slice pa pn pc,.int .i64 e.kind,.string e.name,.string op,.int .i64 num,.int .i64 site,.slice xa xn xc,.slice aa e.arms.length ca,.slice ab e.body.length cb]).cells = #[.string nm,.bool ch,.slice pa pn pc,.int .i64 e.kind,.string e.name,.string op,.int .i64 num,.int .i64 site,.slice xa xn xc,.slice aa e.arms.length ca,.slice ab e.body.length cb]:=rfl
 refine read_any h.law (h.law.keep _ _ _ (h.law.size _ h.env) h.env hb) ?_ h.sz h.pl
 rw [hcs] at hn ⊢
 rw [hcs] at hk
 have c:∀ i x,#[Value.string nm,.bool ch,.slice pa pn pc,.int .i64 e.kind,.string e.name,.string op,.int .i64 num,.int .i64 site,.slice xa xn xc,.slice aa e.arms.length ca,.slice ab e.body.length cb][i]?=some x→(w.alloc (.cells #[Value.string nm,.bool ch,.slice pa pn pc,.int .i64 e.kind,.string e.name,.string op,.int .i64 num,.int .i64 site,.slice xa xn xc,.slice aa e.arms.length ca,.slice ab e.body.length cb] 29)).cell? ⟨w.heap.size,i,none⟩=some x:=fun i x hx=>by rw [zb _ _ _ _ _ _ hn];exact hx
 refine⟨⟨_,c 2 _ rfl,h1.kept hk⟩,?_⟩
 obtain⟨k,name,args,arms,body⟩:=e
 rw [TEAt]
 exact⟨op,num,site,_,aa,ab,ca,cb,ga,oa,gb,ob,⟨c 3 _ rfl,c 4 _ rfl,c 5 _ rfl,c 6 _ rfl⟩,⟨c 7 _ rfl,c 8 _ rfl,c 9 _ rfl,c 10 _ rfl⟩,h2.kept hk,h3,TAAt.kept hk _ _ _ h4,h5,TBAt.kept hk _ _ _ h6⟩
def CntP (isName:Nm→Bool) (w:World) (ps:List Nm) (e:TE) (en:Ending) (w':World):Prop :=
 Below w.heap.size w w'∧((RG.Good isName ps e∧en = .returned (.tuple #[.int .i64 e.size,.int .i64 0]))∨(¬ RG.Good isName ps e∧en = .returned (.tuple #[.int .i64 0,.int .i64 160])))
theorem Fl.nodesLen {w:World}{A:Ad}{f:Nat}{F:List Nd}(h:Fl w A f F):∃ a c,w.cell? ⟨f,2,none⟩=some (.slice a F.length c):=by
 obtain⟨sl,sn,sv,f0,f1,⟨_,ad,c,rfl,_⟩,f3⟩:=h.at'.flat
 exact⟨ad,c,by rw [zb _ _ 2 _ _ _ f0];rfl⟩
theorem count_any {Env:World→Prop}{isName:Nm→Bool}{w:World}{v:Value}{ps:List Nm}{e:TE}(h:FnOk Env isName w v ps e):Calls Tryz.prog 33 #[v] w (CntP isName w ps e):=by
 have RD:=zh h.boxed
 obtain⟨cs,rfl⟩:∃ cs,v = .agg cs:=by obtain⟨_,_,_,_,_,_,_,_,_,_,_,_,_,_,_,h0,_⟩:=h.val;exact⟨_,h0⟩
 clear h
 go_enter Tryz.func33,Tryz.ntmps33
 go_wp2_with fail
 refine RD.out.mono ?_
 have hB0:Below w.heap.size w (w.alloc (.cells cs 29)):=(zs9 _ _).alloc (zr4 _) _
 have B0:=zh hB0
 clear hB0
 rintro en w1 ⟨hb,⟨hg,A,f,rfl,hfl⟩|⟨hng,rfl⟩⟩
 ·obtain⟨a,c,c2⟩:=hfl.nodesLen
  have HB:Hid (Below w.heap.size w w1):=B0.out.trans (hb.mono B0.out.size)
  have HG:=zh hg
  obtain⟨n,hn⟩:∃ n,n=(F0 ps e).length:=⟨_,rfl⟩
  rw [← hn] at c2
  have HN:=zh hn
  clear hb hg hfl hn
  go_wp2_with fail
  go_ret2
  exact⟨HB.out,.inl ⟨HG.out,by rw [HN.out,F0_length];rfl⟩⟩
 have HB:Hid (Below w.heap.size w w1):=B0.out.trans (hb.mono B0.out.size)
 have HG:=zh hng
 clear hb hng
 go_wp2_with fail
 go_ret2
 exact⟨HB.out,.inr ⟨HG.out,rfl⟩⟩
def BndP (isName:Nm→Bool) (w:World) (ps:List Nm) (e:TE) (en:Ending) (w':World):Prop :=
 Below w.heap.size w w'∧((RG.Good isName ps e∧∃ v,en = .returned (.tuple #[v,.int .i64 0])∧StrsAt w' v (vars (F0 ps e)))∨(¬ RG.Good isName ps e∧en = .returned (.tuple #[.slice none 0 0,.int .i64 160])))
theorem bound_any {Env:World→Prop}{isName:Nm→Bool}{w:World}{v:Value}{ps:List Nm}{e:TE}(h:FnOk Env isName w v ps e):Calls Tryz.prog 37 #[v] w (BndP isName w ps e):=by
 have RD:=zh h.boxed
 obtain⟨cs,rfl⟩:∃ cs,v = .agg cs:=by obtain⟨_,_,_,_,_,_,_,_,_,_,_,_,_,_,_,h0,_⟩:=h.val;exact⟨_,h0⟩
 clear h
 go_enter Tryz.func37,Tryz.ntmps37
 go_wp2_with fail
 refine RD.out.mono ?_
 have hB0:Below w.heap.size w (w.alloc (.cells cs 29)):=(zs9 _ _).alloc (zr4 _) _
 have B0:=zh hB0
 clear hB0
 rintro en w1 ⟨hb,⟨hg,A,f,rfl,hfl⟩|⟨hng,rfl⟩⟩
 ·obtain⟨sl,sn,sv,f0,f1,f2,f3⟩:=hfl.at'.flat
  obtain⟨-,ad,c,hsv,-⟩:=id f3
  have c3:w1.cell? ⟨f,3,none⟩=some (.slice ad (vars (F0 ps e)).length c):=by rw [zb _ _ 3 _ _ _ f0,hsv];rfl
  have HB:Hid (Below w.heap.size w w1):=B0.out.trans (hb.mono B0.out.size)
  have HG:=zh hg
  have HS:Hid (StrsAt w1 (.slice ad (vars (F0 ps e)).length c) (vars (F0 ps e))):=by rw [← hsv];exact f3
  obtain⟨n,hn⟩:∃ n,n=(vars (F0 ps e)).length:=⟨_,rfl⟩
  rw [← hn] at c3 HS
  clear hb hg hfl hn f0 f1 f2 f3 hsv
  go_wp2_with fail
  go_ret2
  exact⟨HB.out,.inl ⟨HG.out,_,rfl,HS.out⟩⟩
 have HB:Hid (Below w.heap.size w w1):=B0.out.trans (hb.mono B0.out.size)
 have HG:=zh hng
 clear hb hng
 go_wp2_with fail
 go_ret2
 exact⟨HB.out,.inr ⟨HG.out,rfl⟩⟩
end
section
open Go.RowKit RG Go.Maps Go.Sort
theorem FnOk.cells {Env:World→Prop}{isName:Nm→Bool}{w:World}{v:Value}{ps:List Nm}{e:TE}(h:FnOk Env isName w v ps e):∃ cs,v = .agg cs:=by obtain⟨_,_,_,_,_,_,_,_,_,_,_,_,_,_,_,h0,_⟩:=h.val;exact⟨_,h0⟩
def WdP (isName:Nm→Bool) (w:World) (ps:List Nm) (e:TE) (en:Ending) (w':World):Prop :=
 Below w.heap.size w w'∧((RG.Good isName ps e∧en = .returned (.tuple #[.int .i64 (width (F0 ps e)),.int .i64 0]))∨(¬ RG.Good isName ps e∧en = .returned (.tuple #[.int .i64 0,.int .i64 160])))
theorem width_any {Env:World→Prop}{isName:Nm→Bool}{w:World}{v:Value}{ps:List Nm}{e:TE}(h:FnOk Env isName w v ps e):Calls Tryz.prog 28 #[v] w (WdP isName w ps e):=by
 have RD:=zh h.boxed
 obtain⟨cs,rfl⟩:=h.cells
 clear h
 go_enter Tryz.func28,Tryz.ntmps28
 go_wp2_with fail
 refine RD.out.mono ?_
 have B0:Hid (Below w.heap.size w (w.alloc (.cells cs 29))):=(zs9 _ _).alloc (zr4 _) _
 rintro en w1 ⟨hb,⟨hg,A,f,rfl,hfl⟩|⟨hng,rfl⟩⟩
 ·have HB:Hid (Below w.heap.size w w1):=B0.out.trans (hb.mono B0.out.size)
  have HG:=zh hg
  have HF:=zh hfl
  clear hb hg hfl
  go_wp2_with fail
  refine(crowd_any HF.out).mono ?_
  rintro en w2 ⟨b,q,rfl,hs,hc,hb2⟩
  obtain⟨n,hn⟩:∃ n,n=(VSet (F0 ps e) q).length:=⟨_,rfl⟩
  have e1:(Builtin.len_ #[108] 3 #[.map (some b)]).run Tryz.prog w2 = .ok (.int .i64 n) w2:=by obtain⟨D,h1,h2,_⟩:=hs;have:=h1.len Tryz.underlying108 3;rw [h2,← hn] at this;exact this
  have HN:Hid (n=width (F0 ps e)):=by show _=_;rw [hn,vset_length];unfold width;rw [hc]
  have HB2:Hid (Below w.heap.size w w2):=HB.out.trans (hb2.mono HB.out.size)
  clear hn hs hc hb2
  go_wp2_with fail
  go_ret2
  exact⟨HB2.out,.inl ⟨HG.out,by rw [HN.out];rfl⟩⟩
 have HB:Hid (Below w.heap.size w w1):=B0.out.trans (hb.mono B0.out.size)
 have HG:=zh hng
 clear hb hng
 go_wp2_with fail
 go_ret2
 exact⟨HB.out,.inr ⟨HG.out,rfl⟩⟩
def FdP (isName:Nm→Bool) (w:World) (ps:List Nm) (e:TE) (at':Int) (en:Ending) (w':World):Prop :=
 Below w.heap.size w w'∧((RG.Good isName ps e∧∃ A f i,at'=(i:Nat)∧i<(F0 ps e).length∧en = .returned (.tuple #[.pointer (some ⟨f,0,none⟩),.pointer (some ⟨A.nb i,0,none⟩),.int .i64 0])∧Fl w' A f (F0 ps e)) ∨
  (RG.Good isName ps e∧(at'<0∨(e.size:Int)≤at')∧en = .returned (.tuple #[.pointer none,.pointer none,.int .i64 3]))∨(¬ RG.Good isName ps e∧en = .returned (.tuple #[.pointer none,.pointer none,.int .i64 160])))
theorem Fl.nodes {w:World}{A:Ad}{f:Nat}{F:List Nd}(h:Fl w A f F):∃ c g o,w.cell? ⟨f,2,none⟩=some (.slice (some ⟨g,o,none⟩) F.length c)∧∀ i,i<F.length→w.cell? ⟨g,o+i,none⟩=some (.pointer (some ⟨A.nb i,0,none⟩)):=by
 obtain⟨sl,sn,sv,f0,f1,⟨-,ad,c,rfl,f2⟩,f3⟩:=h.at'.flat
 obtain⟨g,o,rfl,hat⟩:=f2 h.fo.pos
 exact⟨c,g,o,by rw [zb _ _ 2 _ _ _ f0];rfl,fun i hi=>hat i _ (ptrs_at (by rw [List.getElem?_map,List.getElem?_range hi];rfl))⟩
theorem found_any {Env:World→Prop}{isName:Nm→Bool}{w:World}{v:Value}{ps:List Nm}{e:TE}(h:FnOk Env isName w v ps e) (at':Int):Calls Tryz.prog 55 #[.pointer (some ⟨w.heap.size,0,none⟩),.int .i64 at'] (w.alloc (.cells v.cells 29)) (FdP isName w ps e at'):=by
 have RD:=zh h.boxed
 obtain⟨cs,rfl⟩:=h.cells
 have B0:Hid (Below w.heap.size w (w.alloc (.cells cs 29))):=(zs9 _ _).alloc (zr4 _) _
 clear h
 show Calls Tryz.prog 55 _ (w.alloc (.cells cs 29)) _
 go_enter Tryz.func55,Tryz.ntmps55
 go_wp2_with fail
 refine RD.out.mono ?_
 rintro en w1 ⟨hb,⟨hg,A,f,rfl,hfl⟩|⟨hng,rfl⟩⟩
 ·obtain⟨c,g,o,c2,hat⟩:=hfl.nodes
  have HB:Hid (Below w.heap.size w w1):=B0.out.trans (hb.mono B0.out.size)
  have HG:=zh hg
  have HF:=zh hfl
  have HAT:=zh hat
  obtain⟨n,hn⟩:∃ n,n=(F0 ps e).length:=⟨_,rfl⟩
  rw [← hn] at c2
  have HN:=zh hn
  have HNZ:Hid (n=e.size):=by show _=_;rw [hn,F0_length]
  clear hb hg hfl hat hn
  by_cases h0:at'<0
  ·have H0:=zh h0
   go_wp2_with fail
   go_ret3
   exact⟨HB.out,.inr (.inl ⟨HG.out,.inl H0.out,rfl⟩)⟩
  have d0:decide (at'<0)=false:=by simpa using h0
  by_cases h1:(n:Int)≤at'
  ·have H1:=zh h1
   go_wp2_with fail
   go_ret3
   exact⟨HB.out,.inr (.inl ⟨HG.out,.inr (by rw [← HNZ.out];exact H1.out),rfl⟩)⟩
  have d1:decide ((n:Int)≤at')=false:=by simpa using h1
  obtain⟨i,rfl⟩:∃ i:Nat,at'=i:=⟨at'.toNat,by omega⟩
  have hi:i<n:=by omega
  have hci:=HAT.out i (by rw [← HN.out];exact hi)
  have hiz:(i:Int)<n:=by omega
  have hi0:(0:Int)≤i:=by omega
  have HI:=zh hi
  clear h0 h1
  go_wp2_with fail
  go_quiet (fail)
  go_wp2_with fail
  go_ret3
  exact⟨HB.out.trans (zj _ _ _),.inl ⟨HG.out,A,f,i,rfl,by rw [← HN.out];exact HI.out,rfl,HF.out.keep (zj _ _ _)⟩⟩
 have HB:Hid (Below w.heap.size w w1):=B0.out.trans (hb.mono B0.out.size)
 have HG:=zh hng
 clear hb hng
 go_wp2_with fail
 go_ret3
 exact⟨HB.out,.inr (.inr ⟨HG.out,rfl⟩)⟩
def LvP (isName:Nm→Bool) (w:World) (ps:List Nm) (e:TE) (at':Int) (ans:Nat→List Nm) (en:Ending) (w':World):Prop :=
 Below w.heap.size w w'∧((RG.Good isName ps e∧∃ (i:Nat) (v:Value),at'=i∧i<(F0 ps e).length∧en = .returned (.tuple #[v,.int .i64 0])∧StrsAt w' v (ans i)) ∨
  (RG.Good isName ps e∧(at'<0∨(e.size:Int)≤at')∧en = .returned (.tuple #[.slice none 0 0,.int .i64 3]))∨(¬ RG.Good isName ps e∧en = .returned (.tuple #[.slice none 0 0,.int .i64 160])))
theorem NmP.strs {w w':World}{ns:List Nm}{en:Ending}(h:NmP w ns en w'):∃ a c,en = .returned (.slice a ns.length c)∧StrsAt w' (.slice a ns.length c) ns∧Below w.heap.size w w':=by
 obtain⟨a,c,rfl,hr,hb⟩:=h
 refine⟨a,c,rfl,⟨strs_length _,a,c,rfl,fun h0=>?_⟩,hb⟩
 rcases hr.2 with ⟨_,h1⟩|⟨g,cap,cur,hv,_,hg,k1,k2,k3,k4⟩
 ·omega
 simp only [Value.slice.injEq,true_and] at hv
 obtain⟨rfl,rfl⟩:=hv
 refine⟨g,0,rfl,fun i x hi=>?_⟩
 have hl:=(zq8.1 hi).1
 rw [strs_length] at hl
 rw [Nat.zero_add,zb _ _ _ _ _ _ hg,← Array.getElem?_toList,← List.getElem?_take_of_lt (show i<ns.length*1 by omega),k4]
 exact hi
theorem live_any (SORT:SortLaw) {Env:World→Prop}{isName:Nm→Bool}{w:World}{v:Value}{ps:List Nm}{e:TE}(h:FnOk Env isName w v ps e) (at':Int):Calls Tryz.prog 17 #[v,.int .i64 at'] w (LvP isName w ps e at' (liveAt (F0 ps e))):=by
 have FD:=zh (found_any h at')
 have HSO:=zh SORT
 obtain⟨cs,rfl⟩:=h.cells
 clear h SORT
 go_enter Tryz.func17,Tryz.ntmps17
 go_wp2_with fail
 refine FD.out.mono ?_
 rintro en w1 ⟨hb,⟨hg,A,f,i,rfl,hi,rfl,hfl⟩|⟨hg,ho,rfl⟩|⟨hng,rfl⟩⟩
 ·obtain⟨sx,n0,n1⟩:=hfl.at'.node i hi
  have c2:w1.cell? ⟨A.nb i,2,none⟩=some (.map (some (A.mb i))):=by rw [zb _ _ 2 _ _ _ n0];rfl
  have HS:=zh (hfl.at'.live i hi)
  have HB:=zh hb
  have HG:=zh hg
  have HF:=zh hfl
  have HI:=zh hi
  clear hb hg hfl hi n0 n1
  go_wp2_with fail
  refine(named_any HSO.out HF.out HS.out).mono ?_
  intro en w2 hnm
  obtain⟨a,c,rfl,hst,hb2⟩:=hnm.strs
  have HST:=zh hst
  have HB2:Hid (Below w.heap.size w w2):=HB.out.trans (hb2.mono HB.out.size)
  clear hnm hst hb2
  obtain⟨n,hn⟩:∃ n,n=(named (F0 ps e) (lv (F0 ps e) i)).length:=⟨_,rfl⟩
  rw [← hn] at HST ⊢
  clear hn
  go_wp2_with fail
  go_ret2
  exact⟨HB2.out,.inl ⟨HG.out,i,_,rfl,HI.out,rfl,HST.out⟩⟩
 ·have HB:=zh hb
  have HG:=zh (And.intro hg ho)
  clear hb hg ho
  go_wp2_with fail
  go_ret2
  exact⟨HB.out,.inr (.inl ⟨HG.out.1,HG.out.2,rfl⟩)⟩
 have HB:=zh hb
 have HG:=zh hng
 clear hb hng
 go_wp2_with fail
 go_ret2
 exact⟨HB.out,.inr (.inr ⟨HG.out,rfl⟩)⟩
end
namespace Lx.LX
def small (c:Nat):Bool:=decide (97≤c)&&decide (c≤122)
def great (c:Nat):Bool:=decide (65≤c)&&decide (c≤90)
def digit (c:Nat):Bool:=decide (48≤c)&&decide (c≤57)
def part (c:Nat):Bool:=small c||great c||digit c||c==95
def space (c:Nat):Bool:=c==32||c==9||c==10||c==13
def run (p:Nat→Bool):List Nat→Nat
 | []=>0
 | c :: t=>if p c then run p t+1 else 0
inductive CR where
 | fin (n:Nat)
 | deep (n:Nat)
 | never
def cmt:List Nat→Nat→Nat→CR
 | [],_,_ => .never
 | [_],_,_ => .never
 | a :: b :: t,d,n =>
  if a=40∧b=42 then (if 100≤d then .deep n else cmt t (d+1) (n+2))
  else if a=42∧b=41 then (if d=1 then .fin (n+2) else cmt t (d - 1) (n+2))
  else cmt (b :: t) d (n+1)
def nat10:Nat→Nat→List Nat
 | 0,_=>[]
 | f+1,n=>if n<10 then [48+n] else nat10 f (n / 10)++[48+n % 10]
def digs (n:Int):List Nat:=if n<0 then 126 :: nat10 30 n.natAbs else nat10 30 n.natAbs
def mag (l:List Nat):Nat:=l.foldl (fun a c=>10*a+(c - 48)) 0
def num (l:List Nat):Option Int :=
 let v:Int:=match l with | 126 :: t => - (mag t:Int) | _=>(mag l:Int)
 if -9223372036854775808≤v∧v≤9223372036854775807∧digs v=l then some v else none
def words:List (List Nat) :=
 [[97,110,100],[99,97,115,101],[100,97,116,97],[101,108,115,101],[101,110,100],[102,110],[102,117,110],[105,102],[105,110],[105,110,112,117,116],[108,101,116],[111,102],[111,117,116,112,117,116],[116,104,101,110],[118,97,108]]
def signs:List Nat:=[40,41,44,59,58,124,61,60,43,45,42,47,37,95]
inductive TR where
 | tok (kind:Nat) (num:Int) (n:Nat)
 | bad (e:Nat)
def made (k n:Nat):TR:=if 24<n then .bad 2 else .tok k 0 n
def nameLen (l:List Nat):Nat :=
 let n:=run part l
 match l.drop n with
 | []=>n
 | c :: t=>if c=39∧0<run digit t then n+1+run digit t else n
def named (k:Nat) (l:List Nat):TR :=
 match made k (nameLen l) with
 | .tok k v n => .tok (if words.contains (l.take n) then 5 else k) v n
 | .bad e => .bad e
def number (l:List Nat) (n:Nat):TR :=
 let d:=n+run digit (l.drop n)
 match num (l.take d) with
 | none => .bad 13
 | some v =>
  match l.drop d with
  | [] => .tok 1 v d
  | x :: _=>if part x||x==39 then .bad 13 else .tok 1 v d
def head0 (l:List Nat):Nat:=l.headD 0
def token (l:List Nat):TR :=
 match l with
 | [] => .bad 11
 | c :: t =>
  if digit c||c==126 then number l (if c=126 then 1 else 0)
  else if small c then named 2 l
  else if great c then named 3 l
  else if c=39∧small (head0 t) then made 4 (1+run part t)
  else if (c=61∨c=45)∧head0 t=62 then .tok 6 0 2
  else if signs.contains c then .tok 6 0 1
  else .bad 11
structure Tok where
 kind:Nat
 num:Int
 text:List Nat
 place:Nat
inductive Res where
 | ok (l:List Tok) (cs:List (Nat×Nat))
 | bad (place e:Nat)
def Res.tok (t:Tok):Res→Res
 | .ok l cs => .ok (t :: l) cs
 | .bad p e => .bad p e
def Res.cmt (c:Nat×Nat):Res→Res
 | .ok l cs => .ok l (c :: cs)
 | .bad p e => .bad p e
def opens:List Nat→Bool
 | 40 :: 42 :: _=>true
 | _=>false
def scanN:Nat→List Nat→Nat→Res
 | 0,_,_ => .ok [] []
 | _+1,[],_ => .ok [] []
 | f+1,c :: t,at' =>
  if space c then scanN f t (at'+1)
  else if opens (c :: t) then
   match cmt (c :: t) 0 0 with
   | .fin n=>(scanN f ((c :: t).drop n) (at'+n)).cmt (at',at'+n)
   | .deep n => .bad (at'+n) 6
   | .never => .bad at' 12
  else
   match token (c :: t) with
   | .tok k v n=>(scanN f ((c :: t).drop n) (at'+n)).tok ⟨k,v,(c :: t).take n,at'⟩
   | .bad e => .bad at' e
def scan (l:List Nat):Res:=scanN l.length l 0
end Lx.LX
namespace Lx
open Go.RowKit
theorem small_any (w:World) (c:Nat):Calls Tryz.prog 151 #[.int .u8 c] w fun e w'=>e = .returned (.bool (LX.small c))∧w'=w:=by
 by_cases h1:97≤c
 ·have k1:(97:Int)≤(c:Int):=by omega
  have e:LX.small c=decide ((c:Int)≤122):=by unfold LX.small;rw [decide_eq_true h1,Bool.true_and];exact decide_eq_decide.2 (by omega)
  rw [e]
  go_enter Tryz.func151,Tryz.ntmps151
  go_wp2
  go_ret
  exact⟨rfl,rfl⟩
 have k1:(c:Int)<97:=by omega
 have e:LX.small c=false:=by unfold LX.small;rw [decide_eq_false h1,Bool.false_and]
 rw [e]
 go_enter Tryz.func151,Tryz.ntmps151
 go_wp2
 go_ret
 exact⟨rfl,rfl⟩
theorem great_any (w:World) (c:Nat):Calls Tryz.prog 153 #[.int .u8 c] w fun e w'=>e = .returned (.bool (LX.great c))∧w'=w:=by
 by_cases h1:65≤c
 ·have k1:(65:Int)≤(c:Int):=by omega
  have e:LX.great c=decide ((c:Int)≤90):=by unfold LX.great;rw [decide_eq_true h1,Bool.true_and];exact decide_eq_decide.2 (by omega)
  rw [e]
  go_enter Tryz.func153,Tryz.ntmps153
  go_wp2
  go_ret
  exact⟨rfl,rfl⟩
 have k1:(c:Int)<65:=by omega
 have e:LX.great c=false:=by unfold LX.great;rw [decide_eq_false h1,Bool.false_and]
 rw [e]
 go_enter Tryz.func153,Tryz.ntmps153
 go_wp2
 go_ret
 exact⟨rfl,rfl⟩
theorem digit_any (w:World) (c:Nat):Calls Tryz.prog 149 #[.int .u8 c] w fun e w'=>e = .returned (.bool (LX.digit c))∧w'=w:=by
 by_cases h1:48≤c
 ·have k1:(48:Int)≤(c:Int):=by omega
  have e:LX.digit c=decide ((c:Int)≤57):=by unfold LX.digit;rw [decide_eq_true h1,Bool.true_and];exact decide_eq_decide.2 (by omega)
  rw [e]
  go_enter Tryz.func149,Tryz.ntmps149
  go_wp2
  go_ret
  exact⟨rfl,rfl⟩
 have k1:(c:Int)<48:=by omega
 have e:LX.digit c=false:=by unfold LX.digit;rw [decide_eq_false h1,Bool.false_and]
 rw [e]
 go_enter Tryz.func149,Tryz.ntmps149
 go_wp2
 go_ret
 exact⟨rfl,rfl⟩
theorem space_any (w:World) (c:Nat):Calls Tryz.prog 145 #[.int .u8 c] w fun e w'=>e = .returned (.bool (LX.space c))∧w'=w:=by
 by_cases h1:c=32
 ·subst h1
  go_enter Tryz.func145,Tryz.ntmps145
  go_wp2
  go_ret
  exact⟨rfl,rfl⟩
 by_cases h2:c=9
 ·subst h2
  go_enter Tryz.func145,Tryz.ntmps145
  go_wp2
  go_ret
  exact⟨rfl,rfl⟩
 by_cases h3:c=10
 ·subst h3
  go_enter Tryz.func145,Tryz.ntmps145
  go_wp2
  go_ret
  exact⟨rfl,rfl⟩
 have k1:((c:Int)==32)=false:=by simp;omega
 have k2:((c:Int)==9)=false:=by simp;omega
 have k3:((c:Int)==10)=false:=by simp;omega
 have e:LX.space c=((c:Int)==13):=by
  unfold LX.space
  rw [show (c==32)=false from by simp [h1],show (c==9)=false from by simp [h2],show (c==10)=false from by simp [h3],Bool.false_or,Bool.false_or,Bool.false_or]
  by_cases h4:c=13
  ·subst h4;rfl
  rw [show (c==13)=false from by simp [h4]];symm;simp;omega
 rw [e]
 have h1':¬ (c:Int)=32:=by omega
 have h2':¬ (c:Int)=9:=by omega
 have h3':¬ (c:Int)=10:=by omega
 clear e h1 h2 h3
 go_enter Tryz.func145,Tryz.ntmps145
 go_wp2
 go_ret
 exact⟨rfl,rfl⟩
theorem part_any (w:World) (c:Nat):Calls Tryz.prog 155 #[.int .u8 c] w fun e w'=>e = .returned (.bool (LX.part c))∧w'=w:=by
 unfold LX.part
 have s:=small_any w c
 have g:=great_any w c
 have d:=digit_any w c
 cases hs:LX.small c with
 | true =>
  rw [hs] at s
  go_enter Tryz.func155,Tryz.ntmps155
  go_wp2_with (go_at_call 151;refine s.mono ?_;rintro e w' ⟨rfl,rfl⟩)
  go_ret
  exact⟨rfl,rfl⟩
 | false =>
  rw [hs] at s
  cases hg:LX.great c with
  | true =>
   rw [hg] at g
   go_enter Tryz.func155,Tryz.ntmps155
   go_wp2_with (first
    | (go_at_call 151;refine s.mono ?_;rintro e w' ⟨rfl,rfl⟩)
    | (go_at_call 153;refine g.mono ?_;rintro e w' ⟨rfl,rfl⟩))
   go_ret
   exact⟨rfl,rfl⟩
  | false =>
   rw [hg] at g
   cases hd:LX.digit c with
   | true =>
    rw [hd] at d
    go_enter Tryz.func155,Tryz.ntmps155
    go_wp2_with (first
     | (go_at_call 151;refine s.mono ?_;rintro e w' ⟨rfl,rfl⟩)
     | (go_at_call 153;refine g.mono ?_;rintro e w' ⟨rfl,rfl⟩)
     | (go_at_call 149;refine d.mono ?_;rintro e w' ⟨rfl,rfl⟩))
    go_ret
    exact⟨rfl,rfl⟩
   | false =>
    rw [hd] at d
    go_enter Tryz.func155,Tryz.ntmps155
    go_wp2_with (first
     | (go_at_call 151;refine s.mono ?_;rintro e w' ⟨rfl,rfl⟩)
     | (go_at_call 153;refine g.mono ?_;rintro e w' ⟨rfl,rfl⟩)
     | (go_at_call 149;refine d.mono ?_;rintro e w' ⟨rfl,rfl⟩))
    go_ret
    refine⟨?_,rfl⟩
    show Ending.returned (Value.bool _)=_
    congr 2
    by_cases h:c=95
    ·subst h;rfl
    rw [show (c==95)=false from by simp [h]];simp;omega
end Lx
end Go.Proofs.YtnkahlloahgifaaGreatDoor
namespace Go.Proofs
section
open Go.Shelf
def Tryz.lays137_ren:Go.Shelf.Ren:=⟨fun | 137=>156 | 217=>159 | 266=>164 | n=>n,fun | 9=>9 | 5=>5 | 3=>3 | n=>n,fun | n=>n⟩
theorem Tryz.lays137:Go.Proofs.Lays.n137 Tryz.prog Tryz.lays137_ren:={
 mixed:=by kernel_rfl
 f137:=Tryz.func156.trans (congrArg some (by kernel_rfl))
 f217:=Tryz.func159.trans (congrArg some (by kernel_rfl))
 f266:=Tryz.func164.trans (congrArg some (by kernel_rfl))
 t3:=Tryz.underlying3
 a3:=Tryz.isAgg3
 z3:=Tryz.sizeOf3
 v3:=Tryz.zeroValue3
 t5:=Tryz.underlying5
 a5:=Tryz.isAgg5
 z5:=Tryz.sizeOf5
 v5:=Tryz.zeroValue5
 t9:=Tryz.underlying9
 a9:=Tryz.isAgg9
 z9:=Tryz.sizeOf9
 v9:=Tryz.zeroValue9 }
open Go.RowKit in
theorem Tryz.strings_IndexByte (s:ByteArray) (c:Int) (w:World) :
  Calls Tryz.prog 156 #[.string s,.int .u8 c] w fun e w'=>e = .returned (.int .i64 (Lib.indexByte s.data.toList c.toNat.toUInt8))∧w'=w:=Any.strings_IndexByte Tryz.lays137 s c w
def Tryz.lays172_ren:Go.Shelf.Ren:=⟨fun | 172=>161 | 244=>165 | 245=>166 | 247=>174 | 279=>175 | 280=>176 | 281=>177 | 282=>178 | 287=>186 | 316=>187 | 171=>173 | 205=>188 | 321=>195 | 322=>196 | 243=>185 | 246=>194 | 283=>198 | 284=>199 | 285=>200 | 286=>201 | 129=>129 | 317=>202 | 318=>203 | 319=>204 | 320=>205 | 337=>206 | 338=>207 | n=>n,fun | 9=>9 | 3=>3 | 75=>236 | 76=>237 | 4=>4 | 5=>5 | 167=>250 | 37=>243 | 0=>0 | 85=>251 | 2=>2 | 168=>253 | 53=>199 | 175=>257 | 46=>186 | 210=>260 | 127=>256 | 145=>274 | 143=>272 | 21=>21 | 171=>277 | 173=>279 | 212=>282 | 51=>197 | 20=>20 | 213=>283 | 232=>284 | 233=>285 | 80=>249 | n=>n,fun | 15=>1 | 16=>2 | 17=>5 | 18=>6 | 19=>7 | n=>n⟩
def Tryz.laysM246_ren:Go.Shelf.Ren:=⟨fun | 246=>194 | 283=>198 | 284=>199 | 285=>200 | 286=>201 | 129=>129 | 317=>202 | 318=>203 | 319=>204 | 320=>205 | 337=>206 | 338=>207 | n=>n,fun | 2=>2 | 3=>3 | 9=>9 | 4=>4 | 171=>277 | 0=>0 | 53=>199 | 37=>243 | 5=>5 | 173=>279 | 212=>282 | 51=>197 | 20=>20 | 213=>283 | 46=>186 | 232=>284 | 233=>285 | n=>n,fun | 17=>5 | 18=>6 | 19=>7 | n=>n⟩
def Tryz.laysM243_ren:Go.Shelf.Ren:=⟨fun | 243=>185 | 246=>194 | 283=>198 | 284=>199 | 285=>200 | 286=>201 | 129=>129 | 317=>202 | 318=>203 | 319=>204 | 320=>205 | 337=>206 | 338=>207 | n=>n,fun | 3=>3 | 9=>9 | 2=>2 | 4=>4 | 171=>277 | 0=>0 | 53=>199 | 37=>243 | 5=>5 | 173=>279 | 212=>282 | 51=>197 | 20=>20 | 213=>283 | 46=>186 | 232=>284 | 233=>285 | n=>n,fun | 17=>5 | 18=>6 | 19=>7 | n=>n⟩
def Tryz.laysM171_ren:Go.Shelf.Ren:=⟨fun | 171=>173 | 243=>185 | 246=>194 | 283=>198 | 284=>199 | 285=>200 | 286=>201 | 129=>129 | 317=>202 | 318=>203 | 319=>204 | 320=>205 | 337=>206 | 338=>207 | n=>n,fun | 3=>3 | 9=>9 | 2=>2 | 4=>4 | 171=>277 | 0=>0 | 53=>199 | 37=>243 | 5=>5 | 173=>279 | 212=>282 | 51=>197 | 20=>20 | 213=>283 | 46=>186 | 232=>284 | 233=>285 | n=>n,fun | 17=>5 | 18=>6 | 19=>7 | n=>n⟩
theorem Tryz.laysM171:Go.Proofs.LaysM.n171 Tryz.prog Tryz.laysM171_ren:={
 mixed:=by kernel_rfl
 f129:=Tryz.func129.trans (congrArg some (by kernel_rfl))
 f171:=Tryz.func173.trans (congrArg some (by kernel_rfl))
 f243:=Tryz.func185.trans (congrArg some (by kernel_rfl))
 f246:=Tryz.func194.trans (congrArg some (by kernel_rfl))
 f283:=Tryz.func198.trans (congrArg some (by kernel_rfl))
 f284:=Tryz.func199.trans (congrArg some (by kernel_rfl))
 f285:=Tryz.func200.trans (congrArg some (by kernel_rfl))
 f286:=Tryz.func201.trans (congrArg some (by kernel_rfl))
 f317:=Tryz.func202.trans (congrArg some (by kernel_rfl))
 f318:=Tryz.func203.trans (congrArg some (by kernel_rfl))
 f319:=Tryz.func204.trans (congrArg some (by kernel_rfl))
 f320:=Tryz.func205.trans (congrArg some (by kernel_rfl))
 f337:=Tryz.func206.trans (congrArg some (by kernel_rfl))
 f338:=Tryz.func207.trans (congrArg some (by kernel_rfl))
 t0:=Tryz.underlying0
 a0:=Tryz.isAgg0
 z0:=Tryz.sizeOf0
 v0:=Tryz.zeroValue0
 t2:=Tryz.underlying2
 a2:=Tryz.isAgg2
 z2:=Tryz.sizeOf2
 v2:=Tryz.zeroValue2
 t3:=Tryz.underlying3
 a3:=Tryz.isAgg3
 z3:=Tryz.sizeOf3
 v3:=Tryz.zeroValue3
 t4:=Tryz.underlying4
 a4:=Tryz.isAgg4
 z4:=Tryz.sizeOf4
 v4:=Tryz.zeroValue4
 t5:=Tryz.underlying5
 a5:=Tryz.isAgg5
 z5:=Tryz.sizeOf5
 v5:=Tryz.zeroValue5
 t9:=Tryz.underlying9
 a9:=Tryz.isAgg9
 z9:=Tryz.sizeOf9
 v9:=Tryz.zeroValue9
 t20:=Tryz.underlying20
 a20:=Tryz.isAgg20
 z20:=Tryz.sizeOf20
 v20:=Tryz.zeroValue20
 t37:=Tryz.underlying243
 a37:=Tryz.isAgg243
 z37:=Tryz.sizeOf243
 v37:=Tryz.zeroValue243
 t46:=Tryz.underlying186
 a46:=Tryz.isAgg186
 z46:=Tryz.sizeOf186
 v46:=Tryz.zeroValue186
 t51:=Tryz.underlying197
 a51:=Tryz.isAgg197
 z51:=Tryz.sizeOf197
 v51:=Tryz.zeroValue197
 t53:=Tryz.underlying199
 a53:=Tryz.isAgg199
 z53:=Tryz.sizeOf199
 v53:=Tryz.zeroValue199
 t171:=Tryz.underlying277
 a171:=Tryz.isAgg277
 z171:=Tryz.sizeOf277
 v171:=Tryz.zeroValue277
 t173:=Tryz.underlying279
 a173:=Tryz.isAgg279
 z173:=Tryz.sizeOf279
 v173:=Tryz.zeroValue279
 t212:=Tryz.underlying282
 a212:=Tryz.isAgg282
 z212:=Tryz.sizeOf282
 v212:=Tryz.zeroValue282
 t213:=Tryz.underlying283
 a213:=Tryz.isAgg283
 z213:=Tryz.sizeOf283
 t232:=Tryz.underlying284
 a232:=Tryz.isAgg284
 z232:=Tryz.sizeOf284
 v232:=Tryz.zeroValue284
 t233:=Tryz.underlying285
 a233:=Tryz.isAgg285
 z233:=Tryz.sizeOf285
 v233:=Tryz.zeroValue285
 g17:=by kernel_rfl
 g18:=by kernel_rfl
 g19:=by kernel_rfl
 i0:=by kernel_rfl
 i2:=by kernel_rfl
 i3:=by kernel_rfl
 i4:=by kernel_rfl
 i5:=by kernel_rfl
 i9:=by kernel_rfl
 i20:=by kernel_rfl
 i37:=by kernel_rfl
 i46:=by kernel_rfl
 i51:=by kernel_rfl
 i53:=by kernel_rfl
 i171:=by kernel_rfl
 i173:=by kernel_rfl
 i212:=by kernel_rfl
 i232:=by kernel_rfl
 i233:=by kernel_rfl
 m17:=by kernel_rfl
 m18:=by kernel_rfl
 m19:=by kernel_rfl }
open Go.RowKit Go.Sort Go.Lib in
theorem Tryz.strconv_Itoa (n:Int) (h0 : -9223372036854775808≤n) (h1:n≤9223372036854775807) (w:World) (htab:Lib.TabIs Tryz.prog w "internal/strconv.uint64pow10" .u64 Lib.pow10Tab) :
  Calls Tryz.prog 173 #[.int .i64 n] w fun e w'=>e = .returned (.string ⟨(Lib.itoa n).toArray⟩)∧∃ k os,w'=grow (w.drewN k) os:=Any.strconv_Itoa Tryz.laysM171 n h0 h1 w htab
def Tryz.laysC172_ren:Go.Shelf.Ren:=⟨fun | 172=>161 | 244=>165 | 245=>166 | 247=>174 | 279=>175 | 280=>176 | 281=>177 | 282=>178 | 287=>186 | 316=>187 | 171=>173 | 205=>188 | 321=>195 | 322=>196 | 243=>185 | 246=>194 | 283=>198 | 284=>199 | 285=>200 | 286=>201 | 129=>129 | 317=>202 | 318=>203 | 319=>204 | 320=>205 | 337=>206 | 338=>207 | n=>n,fun | 9=>9 | 3=>3 | 75=>236 | 76=>237 | 4=>4 | 5=>5 | 167=>250 | 37=>243 | 0=>0 | 85=>251 | 2=>2 | 168=>253 | 53=>199 | 175=>257 | 46=>186 | 210=>260 | 127=>256 | 145=>274 | 143=>272 | 21=>21 | 171=>277 | 173=>279 | 212=>282 | 51=>197 | 20=>20 | 213=>283 | 232=>284 | 233=>285 | 80=>249 | n=>n,fun | 15=>1 | 16=>2 | 17=>5 | 18=>6 | 19=>7 | n=>n⟩
theorem Tryz.laysC172:Go.Proofs.LaysC.n172 Tryz.prog Tryz.laysC172_ren:={
 mixed:=by kernel_rfl
 f129:=Tryz.func129.trans (congrArg some (by kernel_rfl))
 f171:=Tryz.func173.trans (congrArg some (by kernel_rfl))
 f172:=Tryz.func161.trans (congrArg some (by kernel_rfl))
 f205:=Tryz.func188.trans (congrArg some (by kernel_rfl))
 f243:=Tryz.func185.trans (congrArg some (by kernel_rfl))
 f244:=Tryz.func165.trans (congrArg some (by kernel_rfl))
 f245:=Tryz.func166.trans (congrArg some (by kernel_rfl))
 f246:=Tryz.func194.trans (congrArg some (by kernel_rfl))
 f247:=Tryz.func174.trans (congrArg some (by kernel_rfl))
 f279:=Tryz.func175.trans (congrArg some (by kernel_rfl))
 f280:=Tryz.func176.trans (congrArg some (by kernel_rfl))
 f281:=Tryz.func177.trans (congrArg some (by kernel_rfl))
 f282:=Tryz.func178.trans (congrArg some (by kernel_rfl))
 f283:=Tryz.func198.trans (congrArg some (by kernel_rfl))
 f284:=Tryz.func199.trans (congrArg some (by kernel_rfl))
 f285:=Tryz.func200.trans (congrArg some (by kernel_rfl))
 f286:=Tryz.func201.trans (congrArg some (by kernel_rfl))
 f287:=Tryz.func186.trans (congrArg some (by kernel_rfl))
 f316:=Tryz.func187.trans (congrArg some (by kernel_rfl))
 f317:=Tryz.func202.trans (congrArg some (by kernel_rfl))
 f318:=Tryz.func203.trans (congrArg some (by kernel_rfl))
 f319:=Tryz.func204.trans (congrArg some (by kernel_rfl))
 f320:=Tryz.func205.trans (congrArg some (by kernel_rfl))
 f321:=Tryz.func195.trans (congrArg some (by kernel_rfl))
 f322:=Tryz.func196.trans (congrArg some (by kernel_rfl))
 f337:=Tryz.func206.trans (congrArg some (by kernel_rfl))
 f338:=Tryz.func207.trans (congrArg some (by kernel_rfl))
 t0:=Tryz.underlying0
 a0:=Tryz.isAgg0
 z0:=Tryz.sizeOf0
 v0:=Tryz.zeroValue0
 t2:=Tryz.underlying2
 a2:=Tryz.isAgg2
 z2:=Tryz.sizeOf2
 v2:=Tryz.zeroValue2
 t3:=Tryz.underlying3
 a3:=Tryz.isAgg3
 z3:=Tryz.sizeOf3
 v3:=Tryz.zeroValue3
 t4:=Tryz.underlying4
 a4:=Tryz.isAgg4
 z4:=Tryz.sizeOf4
 v4:=Tryz.zeroValue4
 t5:=Tryz.underlying5
 a5:=Tryz.isAgg5
 z5:=Tryz.sizeOf5
 v5:=Tryz.zeroValue5
 t9:=Tryz.underlying9
 a9:=Tryz.isAgg9
 z9:=Tryz.sizeOf9
 v9:=Tryz.zeroValue9
 t20:=Tryz.underlying20
 a20:=Tryz.isAgg20
 z20:=Tryz.sizeOf20
 v20:=Tryz.zeroValue20
 t21:=Tryz.underlying21
 a21:=Tryz.isAgg21
 z21:=Tryz.sizeOf21
 v21:=Tryz.zeroValue21
 t37:=Tryz.underlying243
 a37:=Tryz.isAgg243
 z37:=Tryz.sizeOf243
 v37:=Tryz.zeroValue243
 t46:=Tryz.underlying186
 a46:=Tryz.isAgg186
 z46:=Tryz.sizeOf186
 v46:=Tryz.zeroValue186
 t51:=Tryz.underlying197
 a51:=Tryz.isAgg197
 z51:=Tryz.sizeOf197
 v51:=Tryz.zeroValue197
 t53:=Tryz.underlying199
 a53:=Tryz.isAgg199
 z53:=Tryz.sizeOf199
 v53:=Tryz.zeroValue199
 t75:=Tryz.underlying236
 a75:=Tryz.isAgg236
 z75:=Tryz.sizeOf236
 v75:=Tryz.zeroValue236
 t76:=Tryz.underlying237
 a76:=Tryz.isAgg237
 z76:=Tryz.sizeOf237
 v76:=Tryz.zeroValue237
 t85:=Tryz.underlying251
 a85:=Tryz.isAgg251
 z85:=Tryz.sizeOf251
 v85:=Tryz.zeroValue251
 t127:=Tryz.underlying256
 a127:=Tryz.isAgg256
 z127:=Tryz.sizeOf256
 v127:=Tryz.zeroValue256
 t143:=Tryz.underlying272
 a143:=Tryz.isAgg272
 z143:=Tryz.sizeOf272
 v143:=Tryz.zeroValue272
 t145:=Tryz.underlying274
 a145:=Tryz.isAgg274
 z145:=Tryz.sizeOf274
 v145:=Tryz.zeroValue274
 t167:=Tryz.underlying250
 a167:=Tryz.isAgg250
 z167:=Tryz.sizeOf250
 v167:=Tryz.zeroValue250
 t168:=Tryz.underlying253
 a168:=Tryz.isAgg253
 z168:=Tryz.sizeOf253
 v168:=Tryz.zeroValue253
 t171:=Tryz.underlying277
 a171:=Tryz.isAgg277
 z171:=Tryz.sizeOf277
 v171:=Tryz.zeroValue277
 t173:=Tryz.underlying279
 a173:=Tryz.isAgg279
 z173:=Tryz.sizeOf279
 v173:=Tryz.zeroValue279
 t175:=Tryz.underlying257
 a175:=Tryz.isAgg257
 z175:=Tryz.sizeOf257
 v175:=Tryz.zeroValue257
 t210:=Tryz.underlying260
 a210:=Tryz.isAgg260
 z210:=Tryz.sizeOf260
 v210:=Tryz.zeroValue260
 t212:=Tryz.underlying282
 a212:=Tryz.isAgg282
 z212:=Tryz.sizeOf282
 v212:=Tryz.zeroValue282
 t213:=Tryz.underlying283
 a213:=Tryz.isAgg283
 z213:=Tryz.sizeOf283
 t232:=Tryz.underlying284
 a232:=Tryz.isAgg284
 z232:=Tryz.sizeOf284
 v232:=Tryz.zeroValue284
 t233:=Tryz.underlying285
 a233:=Tryz.isAgg285
 z233:=Tryz.sizeOf285
 v233:=Tryz.zeroValue285
 g15:=by kernel_rfl
 g16:=by kernel_rfl
 g17:=by kernel_rfl
 g18:=by kernel_rfl
 g19:=by kernel_rfl
 t80:=Tryz.underlying249
 a80:=Tryz.isAgg249
 z80:=Tryz.sizeOf249
 v80:=Tryz.zeroValue249
 i0:=by kernel_rfl
 i2:=by kernel_rfl
 i3:=by kernel_rfl
 i4:=by kernel_rfl
 i5:=by kernel_rfl
 i9:=by kernel_rfl
 i20:=by kernel_rfl
 i21:=by kernel_rfl
 i37:=by kernel_rfl
 i46:=by kernel_rfl
 i51:=by kernel_rfl
 i53:=by kernel_rfl
 i75:=by kernel_rfl
 i76:=by kernel_rfl
 i80:=by kernel_rfl
 i85:=by kernel_rfl
 i127:=by kernel_rfl
 i143:=by kernel_rfl
 i145:=by kernel_rfl
 i167:=by kernel_rfl
 i168:=by kernel_rfl
 i171:=by kernel_rfl
 i173:=by kernel_rfl
 i175:=by kernel_rfl
 i210:=by kernel_rfl
 i212:=by kernel_rfl
 i232:=by kernel_rfl
 i233:=by kernel_rfl
 m15:=by kernel_rfl
 m16:=by kernel_rfl
 m17:=by kernel_rfl
 m18:=by kernel_rfl
 m19:=by kernel_rfl
 c0:=by kernel_rfl
 c2:=by kernel_rfl
 c3:=by kernel_rfl
 c4:=by kernel_rfl
 c5:=by kernel_rfl
 c9:=by kernel_rfl
 c20:=by kernel_rfl
 c21:=by kernel_rfl
 c37:=by kernel_rfl
 c46:=by kernel_rfl
 c51:=by kernel_rfl
 c53:=by kernel_rfl
 c75:=by kernel_rfl
 c76:=by kernel_rfl
 c80:=by kernel_rfl
 c85:=by kernel_rfl
 c127:=by kernel_rfl
 c143:=by kernel_rfl
 c145:=by kernel_rfl
 c167:=by kernel_rfl
 c168:=by kernel_rfl
 c171:=by kernel_rfl
 c173:=by kernel_rfl
 c175:=by kernel_rfl
 c210:=by kernel_rfl
 c212:=by kernel_rfl
 c213:=by kernel_rfl
 c232:=by kernel_rfl
 c233:=by kernel_rfl }
open Go.RowKit in
theorem Tryz.strconv_Atoi_ok (s:ByteArray) (hmax:s.size≤9223372036854775806) (v:Int) (h:Lib.atoiAll s.data.toList = .ok v) (w:World) :
  Calls Tryz.prog 161 #[.string s] w fun e w'=>e = .returned (.tuple #[.int .i64 v,.nilIface])∧(w'=w∨∃ t,w'=Lib.bytesWorld w 5 t):=Any.strconv_Atoi_ok Tryz.laysC172 s hmax v h w
open Go.RowKit in
theorem Tryz.strconv_Atoi_syntax (s:ByteArray) (hlim:s.size≤281474976710656) (h:Lib.atoiAll s.data.toList=Lib.atoiAll []) (ev:Value) (w:World) (hv:w.cell? ⟨1,0,none⟩=some ev) (hev:ev = .nilIface∨∃ te pe,ev = .iface te pe) :
  Calls Tryz.prog 161 #[.string s] w fun e w'=>∃ N,e = .returned (.tuple #[.int .i64 (0),.iface 253 (.pointer (some ⟨N,0,none⟩))])∧w.heap.size≤N∧w'.heap[N]?=some (.cells #[.string ⟨#[65,116,111,105]⟩,.string s,ev] 260 (0,0))∧Below w.heap.size w w':=Any.strconv_Atoi_syntax Tryz.laysC172 s hlim h ev w hv hev
open Go.RowKit in
theorem Tryz.strconv_Atoi_range (s:ByteArray) (hlim:s.size≤281474976710656) (h:Lib.atoiAll s.data.toList = .range) (ev:Value) (w:World) (hv:w.cell? ⟨2,0,none⟩=some ev) (hev:ev = .nilIface∨∃ te pe,ev = .iface te pe) :
  Calls Tryz.prog 161 #[.string s] w fun e w'=>∃ N,e = .returned (.tuple #[.int .i64 (Lib.atoiSat s.data.toList),.iface 253 (.pointer (some ⟨N,0,none⟩))])∧w.heap.size≤N∧w'.heap[N]?=some (.cells #[.string ⟨#[65,116,111,105]⟩,.string s,ev] 260 (0,0))∧Below w.heap.size w w':=Any.strconv_Atoi_range Tryz.laysC172 s hlim h ev w hv hev
def Tryz.lays189_ren:Go.Shelf.Ren:=⟨fun | 189=>106 | 125=>116 | 257=>115 | 128=>128 | 129=>129 | 294=>119 | 295=>120 | 296=>121 | 297=>122 | 298=>123 | 299=>124 | 216=>125 | 300=>126 | 301=>127 | 328=>131 | 329=>132 | 330=>133 | 331=>134 | 332=>135 | 215=>136 | 343=>140 | n=>n,fun | 28=>40 | 3=>3 | 46=>186 | 0=>0 | 51=>197 | 53=>199 | 4=>4 | 183=>190 | 182=>189 | 131=>82 | 5=>5 | 9=>9 | 218=>206 | 222=>94 | 228=>215 | 229=>216 | n=>n,fun | n=>n⟩
theorem Tryz.lays189:Go.Proofs.Lays.n189 Tryz.prog Tryz.lays189_ren:={
 mixed:=by kernel_rfl
 f125:=Tryz.func116.trans (congrArg some (by kernel_rfl))
 f128:=Tryz.func128.trans (congrArg some (by kernel_rfl))
 f129:=Tryz.func129.trans (congrArg some (by kernel_rfl))
 f189:=Tryz.func106.trans (congrArg some (by kernel_rfl))
 f215:=Tryz.func136.trans (congrArg some (by kernel_rfl))
 f216:=Tryz.func125.trans (congrArg some (by kernel_rfl))
 f257:=Tryz.func115.trans (congrArg some (by kernel_rfl))
 f294:=Tryz.func119.trans (congrArg some (by kernel_rfl))
 f295:=Tryz.func120.trans (congrArg some (by kernel_rfl))
 f296:=Tryz.func121.trans (congrArg some (by kernel_rfl))
 f297:=Tryz.func122.trans (congrArg some (by kernel_rfl))
 f298:=Tryz.func123.trans (congrArg some (by kernel_rfl))
 f299:=Tryz.func124.trans (congrArg some (by kernel_rfl))
 f300:=Tryz.func126.trans (congrArg some (by kernel_rfl))
 f301:=Tryz.func127.trans (congrArg some (by kernel_rfl))
 f328:=Tryz.func131.trans (congrArg some (by kernel_rfl))
 f329:=Tryz.func132.trans (congrArg some (by kernel_rfl))
 f330:=Tryz.func133.trans (congrArg some (by kernel_rfl))
 f331:=Tryz.func134.trans (congrArg some (by kernel_rfl))
 f332:=Tryz.func135.trans (congrArg some (by kernel_rfl))
 f343:=Tryz.func140.trans (congrArg some (by kernel_rfl))
 t0:=Tryz.underlying0
 a0:=Tryz.isAgg0
 z0:=Tryz.sizeOf0
 v0:=Tryz.zeroValue0
 t3:=Tryz.underlying3
 a3:=Tryz.isAgg3
 z3:=Tryz.sizeOf3
 v3:=Tryz.zeroValue3
 t4:=Tryz.underlying4
 a4:=Tryz.isAgg4
 z4:=Tryz.sizeOf4
 v4:=Tryz.zeroValue4
 t5:=Tryz.underlying5
 a5:=Tryz.isAgg5
 z5:=Tryz.sizeOf5
 v5:=Tryz.zeroValue5
 t9:=Tryz.underlying9
 a9:=Tryz.isAgg9
 z9:=Tryz.sizeOf9
 v9:=Tryz.zeroValue9
 t28:=Tryz.underlying40
 a28:=Tryz.isAgg40
 z28:=Tryz.sizeOf40
 v28:=Tryz.zeroValue40
 t46:=Tryz.underlying186
 a46:=Tryz.isAgg186
 z46:=Tryz.sizeOf186
 v46:=Tryz.zeroValue186
 t51:=Tryz.underlying197
 a51:=Tryz.isAgg197
 z51:=Tryz.sizeOf197
 v51:=Tryz.zeroValue197
 t53:=Tryz.underlying199
 a53:=Tryz.isAgg199
 z53:=Tryz.sizeOf199
 v53:=Tryz.zeroValue199
 t131:=Tryz.underlying82
 a131:=Tryz.isAgg82
 z131:=Tryz.sizeOf82
 v131:=Tryz.zeroValue82
 t182:=Tryz.underlying189
 a182:=Tryz.isAgg189
 z182:=Tryz.sizeOf189
 v182:=Tryz.zeroValue189
 t183:=Tryz.underlying190
 a183:=Tryz.isAgg190
 z183:=Tryz.sizeOf190
 v183:=Tryz.zeroValue190
 t218:=Tryz.underlying206
 a218:=Tryz.isAgg206
 z218:=Tryz.sizeOf206
 v218:=Tryz.zeroValue206
 t222:=Tryz.underlying94
 a222:=Tryz.isAgg94
 z222:=Tryz.sizeOf94
 v222:=Tryz.zeroValue94
 t228:=Tryz.underlying215
 a228:=Tryz.isAgg215
 z228:=Tryz.sizeOf215
 v228:=Tryz.zeroValue215
 t229:=Tryz.underlying216
 a229:=Tryz.isAgg216
 z229:=Tryz.sizeOf216
 v229:=Tryz.zeroValue216 }
open Go.Sort Go.RowKit in
theorem Tryz.slices_Sort_int (blk off cap:Nat) (zs:List Int) (w:World) (hH:Holds (Value.int .i64) w blk off zs.toArray) (hblk:blk<w.heap.size) (hsz:zs.length<4611686018427387904) :
  Calls Tryz.prog 106 #[.slice (some ⟨blk,off,none⟩) zs.length cap] w fun e w' =>
   e = .returned (.tuple #[])∧∃ n os,w'=grow (putRow (Value.int .i64) (Sort.ahead w n) blk off (zs.mergeSort fun x y=>decide (x≤y)).toArray) os:=Any.slices_Sort_int Tryz.lays189 blk off cap zs w hH hblk hsz
def Tryz.lays206_ren:Go.Shelf.Ren:=⟨fun | 206=>160 | n=>n,fun | 9=>9 | 4=>4 | 3=>3 | n=>n,fun | n=>n⟩
def Tryz.lays99_ren:Go.Shelf.Ren:=⟨fun | 99=>157 | 206=>160 | n=>n,fun | 9=>9 | 4=>4 | 3=>3 | n=>n,fun | n=>n⟩
theorem Tryz.lays99:Go.Proofs.Lays.n99 Tryz.prog Tryz.lays99_ren:={
 mixed:=by kernel_rfl
 f99:=Tryz.func157.trans (congrArg some (by kernel_rfl))
 f206:=Tryz.func160.trans (congrArg some (by kernel_rfl))
 t3:=Tryz.underlying3
 a3:=Tryz.isAgg3
 z3:=Tryz.sizeOf3
 v3:=Tryz.zeroValue3
 t4:=Tryz.underlying4
 a4:=Tryz.isAgg4
 z4:=Tryz.sizeOf4
 v4:=Tryz.zeroValue4
 t9:=Tryz.underlying9
 a9:=Tryz.isAgg9
 z9:=Tryz.sizeOf9
 v9:=Tryz.zeroValue9 }
open Go.RowKit Go.Lib in
theorem Tryz.strings_HasPrefix (s p:ByteArray) (w:World) :
  Calls Tryz.prog 157 #[.string s,.string p] w fun e w'=>e = .returned (.bool (Lib.hasPrefix s.data.toList p.data.toList))∧w'=w:=Any.strings_HasPrefix Tryz.lays99 s p w
def Tryz.lays154_ren:Go.Shelf.Ren:=⟨fun | 154=>162 | 138=>167 | 165=>168 | 143=>169 | 166=>170 | 197=>171 | 169=>172 | 195=>179 | 218=>180 | 240=>181 | 241=>182 | 219=>183 | 260=>184 | 276=>189 | 277=>190 | 217=>159 | 225=>191 | 224=>192 | 267=>193 | 266=>164 | 314=>197 | n=>n,fun | 9=>9 | 3=>3 | 4=>4 | 72=>245 | 0=>0 | 76=>237 | 105=>247 | 21=>21 | 5=>5 | 70=>242 | 20=>20 | 37=>243 | 75=>236 | 127=>256 | 164=>262 | 46=>186 | 119=>266 | 139=>269 | 138=>268 | 146=>275 | 51=>197 | 80=>249 | n=>n,fun | 1=>0 | 3=>3 | 4=>4 | n=>n⟩
theorem Tryz.lays154:Go.Proofs.Lays.n154 Tryz.prog Tryz.lays154_ren:={
 mixed:=by kernel_rfl
 f138:=Tryz.func167.trans (congrArg some (by kernel_rfl))
 f143:=Tryz.func169.trans (congrArg some (by kernel_rfl))
 f154:=Tryz.func162.trans (congrArg some (by kernel_rfl))
 f165:=Tryz.func168.trans (congrArg some (by kernel_rfl))
 f166:=Tryz.func170.trans (congrArg some (by kernel_rfl))
 f169:=Tryz.func172.trans (congrArg some (by kernel_rfl))
 f195:=Tryz.func179.trans (congrArg some (by kernel_rfl))
 f197:=Tryz.func171.trans (congrArg some (by kernel_rfl))
 f217:=Tryz.func159.trans (congrArg some (by kernel_rfl))
 f218:=Tryz.func180.trans (congrArg some (by kernel_rfl))
 f219:=Tryz.func183.trans (congrArg some (by kernel_rfl))
 f224:=Tryz.func192.trans (congrArg some (by kernel_rfl))
 f225:=Tryz.func191.trans (congrArg some (by kernel_rfl))
 f240:=Tryz.func181.trans (congrArg some (by kernel_rfl))
 f241:=Tryz.func182.trans (congrArg some (by kernel_rfl))
 f260:=Tryz.func184.trans (congrArg some (by kernel_rfl))
 f266:=Tryz.func164.trans (congrArg some (by kernel_rfl))
 f267:=Tryz.func193.trans (congrArg some (by kernel_rfl))
 f276:=Tryz.func189.trans (congrArg some (by kernel_rfl))
 f277:=Tryz.func190.trans (congrArg some (by kernel_rfl))
 f314:=Tryz.func197.trans (congrArg some (by kernel_rfl))
 t0:=Tryz.underlying0
 a0:=Tryz.isAgg0
 z0:=Tryz.sizeOf0
 v0:=Tryz.zeroValue0
 t3:=Tryz.underlying3
 a3:=Tryz.isAgg3
 z3:=Tryz.sizeOf3
 v3:=Tryz.zeroValue3
 t4:=Tryz.underlying4
 a4:=Tryz.isAgg4
 z4:=Tryz.sizeOf4
 v4:=Tryz.zeroValue4
 t5:=Tryz.underlying5
 a5:=Tryz.isAgg5
 z5:=Tryz.sizeOf5
 v5:=Tryz.zeroValue5
 t9:=Tryz.underlying9
 a9:=Tryz.isAgg9
 z9:=Tryz.sizeOf9
 v9:=Tryz.zeroValue9
 t20:=Tryz.underlying20
 a20:=Tryz.isAgg20
 z20:=Tryz.sizeOf20
 v20:=Tryz.zeroValue20
 t21:=Tryz.underlying21
 a21:=Tryz.isAgg21
 z21:=Tryz.sizeOf21
 v21:=Tryz.zeroValue21
 t37:=Tryz.underlying243
 a37:=Tryz.isAgg243
 z37:=Tryz.sizeOf243
 v37:=Tryz.zeroValue243
 t46:=Tryz.underlying186
 a46:=Tryz.isAgg186
 z46:=Tryz.sizeOf186
 v46:=Tryz.zeroValue186
 t51:=Tryz.underlying197
 a51:=Tryz.isAgg197
 z51:=Tryz.sizeOf197
 v51:=Tryz.zeroValue197
 t70:=Tryz.underlying242
 a70:=Tryz.isAgg242
 z70:=Tryz.sizeOf242
 v70:=Tryz.zeroValue242
 t72:=Tryz.underlying245
 a72:=Tryz.isAgg245
 z72:=Tryz.sizeOf245
 v72:=Tryz.zeroValue245
 t75:=Tryz.underlying236
 a75:=Tryz.isAgg236
 z75:=Tryz.sizeOf236
 v75:=Tryz.zeroValue236
 t76:=Tryz.underlying237
 a76:=Tryz.isAgg237
 z76:=Tryz.sizeOf237
 v76:=Tryz.zeroValue237
 t105:=Tryz.underlying247
 a105:=Tryz.isAgg247
 z105:=Tryz.sizeOf247
 v105:=Tryz.zeroValue247
 t119:=Tryz.underlying266
 a119:=Tryz.isAgg266
 z119:=Tryz.sizeOf266
 t127:=Tryz.underlying256
 a127:=Tryz.isAgg256
 z127:=Tryz.sizeOf256
 v127:=Tryz.zeroValue256
 t138:=Tryz.underlying268
 a138:=Tryz.isAgg268
 z138:=Tryz.sizeOf268
 v138:=Tryz.zeroValue268
 t139:=Tryz.underlying269
 a139:=Tryz.isAgg269
 z139:=Tryz.sizeOf269
 v139:=Tryz.zeroValue269
 t146:=Tryz.underlying275
 a146:=Tryz.isAgg275
 z146:=Tryz.sizeOf275
 v146:=Tryz.zeroValue275
 t164:=Tryz.underlying262
 a164:=Tryz.isAgg262
 z164:=Tryz.sizeOf262
 v164:=Tryz.zeroValue262
 g1:=by kernel_rfl
 g3:=by kernel_rfl
 g4:=by kernel_rfl }
theorem Tryz.Builder_Extra_154:Builder.Extra Tryz.prog Tryz.lays154_ren:={
 sizeBuilder:=by kernel_rfl
 liesBuilder:=by kernel_rfl
 t5:=Tryz.underlying5
 a5:=Tryz.isAgg5
 z5:=Tryz.sizeOf5
 v5:=Tryz.zeroValue5
 infoByte:=by kernel_rfl
 cellsByte:=by kernel_rfl
 sizeByte:=by kernel_rfl
 neB5:=by decide }
open Go.RowKit Go.Lib in
theorem Tryz.strings_Replace (s old new:ByteArray) (n:Int) (m:Int) (w:World) (hs:s.size<4294967281) (hm:w.cell? ⟨0,0,none⟩=some (.int .i64 m)) (h1:1≤old.size) (hlen:s.size+Lib.countB s old*new.size≤140737488355328) :
  Calls Tryz.prog 162 #[.string s,.string old,.string new,.int .i64 n] w fun e w' =>
   e = .returned (.string ⟨(Lib.replace s.data.toList old.data.toList new.data.toList n).toArray⟩)∧Below w.heap.size w w':=Any.strings_Replace Tryz.lays154 Tryz.Builder_Extra_154 s old new n m w hs hm h1 hlen
def Tryz.lays110_ren:Go.Shelf.Ren:=⟨fun | 110=>59 | 109=>91 | n=>n,fun | 31=>35 | 9=>9 | 4=>4 | 3=>3 | 0=>0 | n=>n,fun | n=>n⟩
theorem Tryz.lays110:Go.Proofs.Lays.n110 Tryz.prog Tryz.lays110_ren:={
 mixed:=by kernel_rfl
 f109:=Tryz.func91.trans (congrArg some (by kernel_rfl))
 f110:=Tryz.func59.trans (congrArg some (by kernel_rfl))
 t0:=Tryz.underlying0
 a0:=Tryz.isAgg0
 z0:=Tryz.sizeOf0
 v0:=Tryz.zeroValue0
 t3:=Tryz.underlying3
 a3:=Tryz.isAgg3
 z3:=Tryz.sizeOf3
 v3:=Tryz.zeroValue3
 t4:=Tryz.underlying4
 a4:=Tryz.isAgg4
 z4:=Tryz.sizeOf4
 v4:=Tryz.zeroValue4
 t9:=Tryz.underlying9
 a9:=Tryz.isAgg9
 z9:=Tryz.sizeOf9
 v9:=Tryz.zeroValue9
 t31:=Tryz.underlying35
 a31:=Tryz.isAgg35
 z31:=Tryz.sizeOf35
 v31:=Tryz.zeroValue35 }
open Go.Lib in
theorem Tryz.slices_Contains_string (b off n c:Nat) (zs:List ByteArray) (x:ByteArray) (w:World) (hz:n≤zs.length) (hbig:n≤9223372036854775807) (hc:∀ j,j<zs.length→w.cell? ⟨b,off+j,none⟩=some (.string (zs.getD j ByteArray.empty))) :
  Calls Tryz.prog 59 #[.slice (some ⟨b,off,none⟩) n c,.string x] w fun e w'=>e = .returned (.bool (Lib.containsS (zs.take n) x))∧w'=w:=Any.slices_Contains_string Tryz.lays110 b off n c zs x w hz hbig hc
open Go.Lib in
theorem Tryz.slices_Contains_string_empty (a:Option Addr) (c:Nat) (x:ByteArray) (w:World) :
  Calls Tryz.prog 59 #[.slice a 0 c,.string x] w fun e w'=>e = .returned (.bool false)∧w'=w:=Any.slices_Contains_string_empty Tryz.lays110 a c x w
end
end Go.Proofs
namespace Go.Proofs.YtnkahlloahgifaaGreatDoor
namespace Lx
open Go.RowKit
def bts (s:ByteArray):List Nat:=s.data.toList.map UInt8.toNat
theorem ze (s:ByteArray):(bts s).length=s.size:=by simp only [bts,zv1];rfl
theorem bts_get (s:ByteArray) {i:Nat}(h:i<s.size):(bts s)[i]?=some (s[i]'h).toNat:=by
 simp only [bts,List.getElem?_map]
 rw [zq9 (show i<s.data.toList.length from h)]
 rfl
theorem run_byte (s:ByteArray) (i:Int) (j:Nat) (hij:i=j) (h:j<s.size) (m:World):(Instr.index 9 (.string s) (.int .i64 i)).run Tryz.prog m = .ok (.int .u8 ((bts s).getD j 0:Nat)) m:=by
 rw [run_index_string m 9 s .i64 i Tryz.underlying9,dif_pos (by omega)]
 subst hij
 rw [zt4,bts_get s h]
 rfl
structure At (w:World) (b:Nat) (s:ByteArray) (i:Nat):Prop where
 c0:w.cell? ⟨b,0,none⟩=some (.string s)
 c1:w.cell? ⟨b,1,none⟩=some (.int .i64 i)
 lt:b<w.heap.size
 le:i≤s.size
 sz:s.size≤400000
theorem peek_any {w:World}{b:Nat}{s:ByteArray}{i:Nat}(h:At w b s i) (k:Nat) (hk:k≤1000000) :
  Calls Tryz.prog 148 #[.pointer (some ⟨b,0,none⟩),.int .i64 k] w fun e w'=>e = .returned (.int .u8 ((bts s).getD (i+k) 0:Nat))∧∃ m,w'=w.drewN m:=by
 obtain⟨c0,c1,lt,le,sz⟩:=h
 have hi:(i:Int)≤400000:=by omega
 have hk':(k:Int)≤1000000:=by omega
 by_cases hlt:i+k<s.size
 ·have hltz:(i:Int)+(k:Int)<(s.size:Int):=by omega
  have hix:=fun m=>run_byte s ((i:Int)+(k:Int)) (i+k) (by omega) hlt m
  go_enter Tryz.func148,Tryz.ntmps148
  go_wp2_with fail
  go_quiet (fail)
  go_wp2_with fail
  go_quiet (fail)
  go_wp2_with fail
  go_ret
  exact⟨rfl,_,World.drewN_drewN _ _ _⟩
 have hltz:(s.size:Int)≤(i:Int)+(k:Int):=by omega
 go_enter Tryz.func148,Tryz.ntmps148
 go_wp2_with fail
 go_quiet (fail)
 go_wp2_with fail
 go_ret
 refine⟨?_,_,rfl⟩
 rw [zt4,List.getElem?_eq_none (by rw [ze];omega)]
 rfl
theorem isPrefixOf_map (p l:List UInt8):(p.map UInt8.toNat).isPrefixOf (l.map UInt8.toNat)=p.isPrefixOf l:=by
 induction p generalizing l with
 | nil=>simp
 | cons a t ih =>
  cases l with
  | nil=>rfl
  | cons b r =>
   simp only [List.map_cons,List.isPrefixOf,ih]
   congr 1
   by_cases h:a=b
   ·subst h;simp
   rw [zt6 h,zt6 fun e=>h (UInt8.toNat_inj.1 e)]
theorem extract_bytes (s:ByteArray) (i j:Nat):(s.extract i j).data.toList=(s.data.toList.drop i).take (j - i):=by
 rw [ByteArray.data_extract,Array.toList_extract,List.extract]
theorem bts_extract (s:ByteArray) (i j:Nat):bts (s.extract i j)=((bts s).drop i).take (j - i):=by
 unfold bts
 rw [extract_bytes,List.map_take,List.map_drop]
theorem starts_any {w:World}{b:Nat}{s:ByteArray}{i:Nat}(h:At w b s i) (p:ByteArray) :
  Calls Tryz.prog 146 #[.pointer (some ⟨b,0,none⟩),.string p] w fun e w'=>e = .returned (.bool ((bts p).isPrefixOf ((bts s).drop i)))∧∃ m,w'=w.drewN m:=by
 obtain⟨c0,c1,lt,le,sz⟩:=h
 have hi:(i:Int)≤(s.size:Int):=by omega
 have e:(bts p).isPrefixOf ((bts s).drop i)=Lib.hasPrefix (s.extract i s.size).data.toList p.data.toList:=by
  unfold Lib.hasPrefix
  rw [← isPrefixOf_map]
  show _=(bts p).isPrefixOf (bts (s.extract i s.size))
  rw [bts_extract,zr3 (by rw [List.length_drop,ze];omega)]
 rw [e]
 clear e
 go_enter Tryz.func146,Tryz.ntmps146
 go_wp2_with fail
 go_quiet ((go_at_call 157;exact Calls.quiet_of_same (Tryz.strings_HasPrefix _ _ _)))
 go_wp2_with fail
 go_ret
 exact⟨rfl,_,rfl⟩
end Lx
namespace Lx
open Go.RowKit
theorem wrap_in (x:Int) (h : -9223372036854775808≤x∧x≤9223372036854775807):IntKind.i64.wrap x=x:=by
 rw [IntKind.wrap_i64];omega
theorem run_drop (p:Nat→Bool) (l:List Nat) (j:Nat) (h:j<l.length):LX.run p (l.drop j)=if p (l.getD j 0) then LX.run p (l.drop (j+1))+1 else 0:=by
 rw [List.drop_eq_getElem_cons h,LX.run]
 rw [zt4,zq9 h]
 rfl
theorem run_end (p:Nat→Bool) (l:List Nat) (j:Nat) (h:l.length≤j):LX.run p (l.drop j)=0:=by
 rw [List.drop_of_length_le h];rfl
theorem run_le (p:Nat→Bool) (l:List Nat):LX.run p l≤l.length:=by
 induction l with
 | nil=>exact zr4 _
 | cons c t ih =>
  rw [LX.run]
  split
  ·simp;exact ih
  simp
theorem run_space {w:World}{b:Nat}{s:ByteArray}{i:Nat}(h:At w b s i) (k:Nat) (hk:k≤500000) :
  Calls Tryz.prog 144 #[.pointer (some ⟨b,0,none⟩),.int .i64 k,.func (.func 145) #[] #[]] w fun e w'=>e = .returned (.int .i64 (LX.run LX.space ((bts s).drop (i+k))))∧∃ m,w'=w.drewN m:=by
 obtain⟨c0,c1,lt,le,sz⟩:=h
 have hi:(i:Int)≤400000:=by omega
 have hk':(k:Int)≤500000:=by omega
 have HS:=zh (show i≤s.size∧s.size≤400000 from ⟨le,sz⟩)
 clear le sz
 have eg:∀ (args:Array Value) (w:World),(callFunc 145 args).run Tryz.prog w = .ok (.enter 145 args) w:=enters_of Tryz.func145 (by kernel_rfl) rfl
 go_enter Tryz.func144,Tryz.ntmps144
 go_wp2_with fail
 go_loopg [7] (s.size+1) (fun gk v wr=>∃ n m:Nat,n≤s.size∧gk=s.size+1 - n∧v = .int .i64 n∧wr=w.drewN m∧LX.run LX.space ((bts s).drop (i+k))=n+LX.run LX.space ((bts s).drop (i+k+n)))
 case atStart=>exact⟨0,0,zv3 _,rfl,rfl,rfl,by simp⟩
 obtain⟨n,m,hn,hgk,rfl,rfl,hrun⟩:=hrel
 have H1:=zh hgk
 have H2:=zh hrun
 have hn4:(n:Int)≤400000:=by have:=HS.out;omega
 clear hgk hrun hn
 have hw1:IntKind.i64.wrap ((i:Int)+(k:Int))=(i:Int)+(k:Int):=wrap_in _ (by omega)
 have hw2:IntKind.i64.wrap ((i:Int)+(k:Int)+(n:Int))=(i:Int)+(k:Int)+(n:Int):=wrap_in _ (by omega)
 by_cases hlt:i+k+n<s.size
 ·have hltz:(i:Int)+(k:Int)+(n:Int)<(s.size:Int):=by omega
  have hix:=fun m=>run_byte s ((i:Int)+(k:Int)+(n:Int)) (i+k+n) (by omega) hlt m
  obtain⟨c,hc⟩:∃ c,c=(bts s).getD (i+k+n) 0:=⟨_,rfl⟩
  rw [← hc] at hix
  have HL:=zh hlt
  have HC:=zh hc
  clear hlt hc
  cases hp:LX.space c with
  | true =>
   have law:Hid (∀ W:World,Calls Tryz.prog 145 #[.int .u8 c] W fun e w'=>e = .returned (.bool true)∧w'=W):=fun W=>by have:=space_any W c;rw [hp] at this;exact this
   have HP:=zh hp
   clear hp
   go_wp2_with fail
   refine wp_region_quiet_lit (by kernel_rfl) (by kernel_rfl) ?_
   repeat (quiet_step ((go_at_call 145;exact(law.out _).mono fun e w'' ⟨he,hw⟩=>⟨he,_,hw⟩)))
   refine wpQuiet_nil ?_
   intro _ hw'
   obtain⟨nq,hw''⟩:=hw'
   subst hw''
   go_wp2_with fail
   go_roundg (s.size+1 - (n+1))
   case measure=>have:=H1.out;have:=HL.out;omega
   refine⟨n+1,_,by have:=HL.out;omega,rfl,by go_num,by first | rfl | exact World.drewN_drewN _ _ _,?_⟩
   have e:=run_drop LX.space (bts s) (i+k+n) (by rw [ze];exact HL.out)
   rw [← HC.out,if_pos HP.out] at e
   rw [H2.out,e]
   have e2:i+k+(n+1)=i+k+n+1:=by omega
   rw [e2]
   omega
  | false =>
   have law:Hid (∀ W:World,Calls Tryz.prog 145 #[.int .u8 c] W fun e w'=>e = .returned (.bool false)∧w'=W):=fun W=>by have:=space_any W c;rw [hp] at this;exact this
   have HP:=zh hp
   clear hp
   go_wp2_with fail
   refine wp_region_quiet_lit (by kernel_rfl) (by kernel_rfl) ?_
   repeat (quiet_step ((go_at_call 145;exact(law.out _).mono fun e w'' ⟨he,hw⟩=>⟨he,_,hw⟩)))
   refine wpQuiet_nil ?_
   intro _ hw'
   obtain⟨nq,hw''⟩:=hw'
   subst hw''
   go_wp2_with fail
   go_ret
   refine⟨?_,_,by first | rfl | exact World.drewN_drewN _ _ _⟩
   have e:=run_drop LX.space (bts s) (i+k+n) (by rw [ze];exact HL.out)
   rw [← HC.out,if_neg (by rw [HP.out];decide)] at e
   rw [H2.out,e]
   rfl
 have hltz:(s.size:Int)≤(i:Int)+(k:Int)+(n:Int):=by omega
 have hdec:¬ (i:Int)+(k:Int)+(n:Int)<(s.size:Int):=by omega
 have hdec2:decide ((i:Int)+(k:Int)+(n:Int)<(s.size:Int))=false:=decide_eq_false hdec
 clear hdec
 have HL:=zh hlt
 clear hlt
 go_wp2_with fail
 go_quiet (fail)
 go_wp2_with fail
 go_ret
 refine⟨?_,_,by first | rfl | exact World.drewN_drewN _ _ _⟩
 have e:=run_end LX.space (bts s) (i+k+n) (by rw [ze];have:=HL.out;omega)
 rw [H2.out,e]
 rfl
theorem run_digit {w:World}{b:Nat}{s:ByteArray}{i:Nat}(h:At w b s i) (k:Nat) (hk:k≤500000) :
  Calls Tryz.prog 144 #[.pointer (some ⟨b,0,none⟩),.int .i64 k,.func (.func 149) #[] #[]] w fun e w'=>e = .returned (.int .i64 (LX.run LX.digit ((bts s).drop (i+k))))∧∃ m,w'=w.drewN m:=by
 obtain⟨c0,c1,lt,le,sz⟩:=h
 have hi:(i:Int)≤400000:=by omega
 have hk':(k:Int)≤500000:=by omega
 have HS:=zh (show i≤s.size∧s.size≤400000 from ⟨le,sz⟩)
 clear le sz
 have eg:∀ (args:Array Value) (w:World),(callFunc 149 args).run Tryz.prog w = .ok (.enter 149 args) w:=enters_of Tryz.func149 (by kernel_rfl) rfl
 go_enter Tryz.func144,Tryz.ntmps144
 go_wp2_with fail
 go_loopg [7] (s.size+1) (fun gk v wr=>∃ n m:Nat,n≤s.size∧gk=s.size+1 - n∧v = .int .i64 n∧wr=w.drewN m∧LX.run LX.digit ((bts s).drop (i+k))=n+LX.run LX.digit ((bts s).drop (i+k+n)))
 case atStart=>exact⟨0,0,zv3 _,rfl,rfl,rfl,by simp⟩
 obtain⟨n,m,hn,hgk,rfl,rfl,hrun⟩:=hrel
 have H1:=zh hgk
 have H2:=zh hrun
 have hn4:(n:Int)≤400000:=by have:=HS.out;omega
 clear hgk hrun hn
 have hw1:IntKind.i64.wrap ((i:Int)+(k:Int))=(i:Int)+(k:Int):=wrap_in _ (by omega)
 have hw2:IntKind.i64.wrap ((i:Int)+(k:Int)+(n:Int))=(i:Int)+(k:Int)+(n:Int):=wrap_in _ (by omega)
 by_cases hlt:i+k+n<s.size
 ·have hltz:(i:Int)+(k:Int)+(n:Int)<(s.size:Int):=by omega
  have hix:=fun m=>run_byte s ((i:Int)+(k:Int)+(n:Int)) (i+k+n) (by omega) hlt m
  obtain⟨c,hc⟩:∃ c,c=(bts s).getD (i+k+n) 0:=⟨_,rfl⟩
  rw [← hc] at hix
  have HL:=zh hlt
  have HC:=zh hc
  clear hlt hc
  cases hp:LX.digit c with
  | true =>
   have law:Hid (∀ W:World,Calls Tryz.prog 149 #[.int .u8 c] W fun e w'=>e = .returned (.bool true)∧w'=W):=fun W=>by have:=digit_any W c;rw [hp] at this;exact this
   have HP:=zh hp
   clear hp
   go_wp2_with fail
   refine wp_region_quiet_lit (by kernel_rfl) (by kernel_rfl) ?_
   repeat (quiet_step ((go_at_call 149;exact(law.out _).mono fun e w'' ⟨he,hw⟩=>⟨he,_,hw⟩)))
   refine wpQuiet_nil ?_
   intro _ hw'
   obtain⟨nq,hw''⟩:=hw'
   subst hw''
   go_wp2_with fail
   go_roundg (s.size+1 - (n+1))
   case measure=>have:=H1.out;have:=HL.out;omega
   refine⟨n+1,_,by have:=HL.out;omega,rfl,by go_num,by first | rfl | exact World.drewN_drewN _ _ _,?_⟩
   have e:=run_drop LX.digit (bts s) (i+k+n) (by rw [ze];exact HL.out)
   rw [← HC.out,if_pos HP.out] at e
   rw [H2.out,e]
   have e2:i+k+(n+1)=i+k+n+1:=by omega
   rw [e2]
   omega
  | false =>
   have law:Hid (∀ W:World,Calls Tryz.prog 149 #[.int .u8 c] W fun e w'=>e = .returned (.bool false)∧w'=W):=fun W=>by have:=digit_any W c;rw [hp] at this;exact this
   have HP:=zh hp
   clear hp
   go_wp2_with fail
   refine wp_region_quiet_lit (by kernel_rfl) (by kernel_rfl) ?_
   repeat (quiet_step ((go_at_call 149;exact(law.out _).mono fun e w'' ⟨he,hw⟩=>⟨he,_,hw⟩)))
   refine wpQuiet_nil ?_
   intro _ hw'
   obtain⟨nq,hw''⟩:=hw'
   subst hw''
   go_wp2_with fail
   go_ret
   refine⟨?_,_,by first | rfl | exact World.drewN_drewN _ _ _⟩
   have e:=run_drop LX.digit (bts s) (i+k+n) (by rw [ze];exact HL.out)
   rw [← HC.out,if_neg (by rw [HP.out];decide)] at e
   rw [H2.out,e]
   rfl
 have hltz:(s.size:Int)≤(i:Int)+(k:Int)+(n:Int):=by omega
 have hdec:¬ (i:Int)+(k:Int)+(n:Int)<(s.size:Int):=by omega
 have hdec2:decide ((i:Int)+(k:Int)+(n:Int)<(s.size:Int))=false:=decide_eq_false hdec
 clear hdec
 have HL:=zh hlt
 clear hlt
 go_wp2_with fail
 go_quiet (fail)
 go_wp2_with fail
 go_ret
 refine⟨?_,_,by first | rfl | exact World.drewN_drewN _ _ _⟩
 have e:=run_end LX.digit (bts s) (i+k+n) (by rw [ze];have:=HL.out;omega)
 rw [H2.out,e]
 rfl
theorem run_part {w:World}{b:Nat}{s:ByteArray}{i:Nat}(h:At w b s i) (k:Nat) (hk:k≤500000) :
  Calls Tryz.prog 144 #[.pointer (some ⟨b,0,none⟩),.int .i64 k,.func (.func 155) #[] #[]] w fun e w'=>e = .returned (.int .i64 (LX.run LX.part ((bts s).drop (i+k))))∧∃ m,w'=w.drewN m:=by
 obtain⟨c0,c1,lt,le,sz⟩:=h
 have hi:(i:Int)≤400000:=by omega
 have hk':(k:Int)≤500000:=by omega
 have HS:=zh (show i≤s.size∧s.size≤400000 from ⟨le,sz⟩)
 clear le sz
 have eg:∀ (args:Array Value) (w:World),(callFunc 155 args).run Tryz.prog w = .ok (.enter 155 args) w:=enters_of Tryz.func155 (by kernel_rfl) rfl
 go_enter Tryz.func144,Tryz.ntmps144
 go_wp2_with fail
 go_loopg [7] (s.size+1) (fun gk v wr=>∃ n m:Nat,n≤s.size∧gk=s.size+1 - n∧v = .int .i64 n∧wr=w.drewN m∧LX.run LX.part ((bts s).drop (i+k))=n+LX.run LX.part ((bts s).drop (i+k+n)))
 case atStart=>exact⟨0,0,zv3 _,rfl,rfl,rfl,by simp⟩
 obtain⟨n,m,hn,hgk,rfl,rfl,hrun⟩:=hrel
 have H1:=zh hgk
 have H2:=zh hrun
 have hn4:(n:Int)≤400000:=by have:=HS.out;omega
 clear hgk hrun hn
 have hw1:IntKind.i64.wrap ((i:Int)+(k:Int))=(i:Int)+(k:Int):=wrap_in _ (by omega)
 have hw2:IntKind.i64.wrap ((i:Int)+(k:Int)+(n:Int))=(i:Int)+(k:Int)+(n:Int):=wrap_in _ (by omega)
 by_cases hlt:i+k+n<s.size
 ·have hltz:(i:Int)+(k:Int)+(n:Int)<(s.size:Int):=by omega
  have hix:=fun m=>run_byte s ((i:Int)+(k:Int)+(n:Int)) (i+k+n) (by omega) hlt m
  obtain⟨c,hc⟩:∃ c,c=(bts s).getD (i+k+n) 0:=⟨_,rfl⟩
  rw [← hc] at hix
  have HL:=zh hlt
  have HC:=zh hc
  clear hlt hc
  cases hp:LX.part c with
  | true =>
   have law:Hid (∀ W:World,Calls Tryz.prog 155 #[.int .u8 c] W fun e w'=>e = .returned (.bool true)∧w'=W):=fun W=>by have:=part_any W c;rw [hp] at this;exact this
   have HP:=zh hp
   clear hp
   go_wp2_with fail
   refine wp_region_quiet_lit (by kernel_rfl) (by kernel_rfl) ?_
   repeat (quiet_step ((go_at_call 155;exact(law.out _).mono fun e w'' ⟨he,hw⟩=>⟨he,_,hw⟩)))
   refine wpQuiet_nil ?_
   intro _ hw'
   obtain⟨nq,hw''⟩:=hw'
   subst hw''
   go_wp2_with fail
   go_roundg (s.size+1 - (n+1))
   case measure=>have:=H1.out;have:=HL.out;omega
   refine⟨n+1,_,by have:=HL.out;omega,rfl,by go_num,by first | rfl | exact World.drewN_drewN _ _ _,?_⟩
   have e:=run_drop LX.part (bts s) (i+k+n) (by rw [ze];exact HL.out)
   rw [← HC.out,if_pos HP.out] at e
   rw [H2.out,e]
   have e2:i+k+(n+1)=i+k+n+1:=by omega
   rw [e2]
   omega
  | false =>
   have law:Hid (∀ W:World,Calls Tryz.prog 155 #[.int .u8 c] W fun e w'=>e = .returned (.bool false)∧w'=W):=fun W=>by have:=part_any W c;rw [hp] at this;exact this
   have HP:=zh hp
   clear hp
   go_wp2_with fail
   refine wp_region_quiet_lit (by kernel_rfl) (by kernel_rfl) ?_
   repeat (quiet_step ((go_at_call 155;exact(law.out _).mono fun e w'' ⟨he,hw⟩=>⟨he,_,hw⟩)))
   refine wpQuiet_nil ?_
   intro _ hw'
   obtain⟨nq,hw''⟩:=hw'
   subst hw''
   go_wp2_with fail
   go_ret
   refine⟨?_,_,by first | rfl | exact World.drewN_drewN _ _ _⟩
   have e:=run_drop LX.part (bts s) (i+k+n) (by rw [ze];exact HL.out)
   rw [← HC.out,if_neg (by rw [HP.out];decide)] at e
   rw [H2.out,e]
   rfl
 have hltz:(s.size:Int)≤(i:Int)+(k:Int)+(n:Int):=by omega
 have hdec:¬ (i:Int)+(k:Int)+(n:Int)<(s.size:Int):=by omega
 have hdec2:decide ((i:Int)+(k:Int)+(n:Int)<(s.size:Int))=false:=decide_eq_false hdec
 clear hdec
 have HL:=zh hlt
 clear hlt
 go_wp2_with fail
 go_quiet (fail)
 go_wp2_with fail
 go_ret
 refine⟨?_,_,by first | rfl | exact World.drewN_drewN _ _ _⟩
 have e:=run_end LX.part (bts s) (i+k+n) (by rw [ze];have:=HL.out;omega)
 rw [H2.out,e]
 rfl
end Lx
namespace Lx
open Go.RowKit
structure Mv (w w':World) (b:Nat) (v:Int):Prop where
 os:w'.os=w.os
 tape:w'.tape=w.tape
 output:w'.output=w.output
 size:w'.heap.size=w.heap.size
 block:∀ k,k≠b→w'.heap[k]?=w.heap[k]?
 cell:∀ c T,w.heap[b]?=some (.cells c T (0,0))→w'.heap[b]?=some (.cells (c.set! 1 (.int .i64 v)) T (0,0))
theorem Mv.drewN {w w':World}{b:Nat}{v:Int}(h:Mv w w' b v) (m:Nat):Mv w (w'.drewN m) b v:=⟨h.os,h.tape,h.output,h.size,h.block,h.cell⟩
theorem Mv.of_set (w:World) (b:Nat) (v:Int):Mv w (w.setCell ⟨b,1,none⟩ (.int .i64 v)) b v :=
 ⟨rfl,rfl,rfl,by simp,fun k hk=>zt1 w _ _ k hk,fun c T h=>heap_setCell_same w b 1 _ _ _ h⟩
theorem Mv.trans {w w1 w2:World}{b:Nat}{u v:Int}(h:Mv w w1 b u) (k:Mv w1 w2 b v):Mv w w2 b v :=
 ⟨k.os.trans h.os,k.tape.trans h.tape,k.output.trans h.output,k.size.trans h.size,fun q hq=>(k.block q hq).trans (h.block q hq),fun c T hc=>by
  have:=k.cell _ T (h.cell c T hc)
  simpa using this⟩
def Sc (w:World) (b:Nat) (s:ByteArray) (i:Nat) (mb:Nat) (cv:Value):Prop :=
 w.heap[b]?=some (.cells #[.string s,.int .i64 i,.map (some mb),cv] 222 (0,0))∧i≤s.size∧s.size≤400000
theorem Sc.at' {w:World}{b:Nat}{s:ByteArray}{i mb:Nat}{cv:Value}(h:Sc w b s i mb cv):At w b s i :=
 ⟨by rw [zb w b 0 _ _ _ h.1];rfl,by rw [zb w b 1 _ _ _ h.1];rfl,(zq7.1 h.1).1,h.2.1,h.2.2⟩
theorem Sc.mv {w w':World}{b:Nat}{s:ByteArray}{i j mb:Nat}{cv:Value}(h:Sc w b s i mb cv) (k:Mv w w' b j) (hj:j≤s.size):Sc w' b s j mb cv :=
 ⟨k.cell _ _ h.1,hj,h.2.2⟩
def thrown (i e:Int):Ending := .panicked [{ v := .iface 203 (.agg #[.int .i64 i,.int .i64 e]),recovered:=false }]
theorem prefix2 {a b:Nat}{l:List Nat}(h:[a,b].isPrefixOf l=true):∃ t,l=a :: b :: t:=by
 match l,h with
 | [],h=>simp [List.isPrefixOf] at h
 | [x],h=>simp [List.isPrefixOf] at h
 | x :: y :: t,h=>simp [List.isPrefixOf] at h;obtain⟨rfl,rfl⟩:=h;exact⟨t,rfl⟩
theorem cmt_open (l:List Nat) (d n:Nat) (h:[40,42].isPrefixOf l=true):LX.cmt l d n=if 100≤d then .deep n else LX.cmt (l.drop 2) (d+1) (n+2):=by
 obtain⟨t,rfl⟩:=prefix2 h
 rw [LX.cmt,if_pos ⟨rfl,rfl⟩];rfl
theorem cmt_close (l:List Nat) (d n:Nat) (h:[42,41].isPrefixOf l=true):LX.cmt l d n=if d=1 then .fin (n+2) else LX.cmt (l.drop 2) (d - 1) (n+2):=by
 obtain⟨t,rfl⟩:=prefix2 h
 rw [LX.cmt,if_neg (by decide),if_pos ⟨rfl,rfl⟩];rfl
theorem cmt_skip (l:List Nat) (d n:Nat) (h1:[40,42].isPrefixOf l=false) (h2:[42,41].isPrefixOf l=false):LX.cmt l d n=LX.cmt (l.drop 1) d (n+1):=by
 match l,h1,h2 with
 | [],_,_=>rfl
 | [x],_,_=>rfl
 | x :: y :: t,h1,h2 =>
  rw [LX.cmt,if_neg,if_neg]
  ·rfl
  ·rintro ⟨rfl,rfl⟩;simp [List.isPrefixOf] at h2
  rintro ⟨rfl,rfl⟩;simp [List.isPrefixOf] at h1
theorem opens_prefix {l:List Nat}(h:LX.opens l=true):[40,42].isPrefixOf l=true:=by
 match l,h with
 | [],h=>exact absurd h (by decide)
 | [x],h=>exact absurd h (by simp [LX.opens])
 | x :: y :: t,h =>
  by_cases e:x=40∧y=42
  ·obtain⟨rfl,rfl⟩:=e;simp [List.isPrefixOf]
  unfold LX.opens at h
  split at h
  ·rename_i heq;simp at heq;exact absurd ⟨heq.1,heq.2.1⟩ e
  exact absurd h (by decide)
theorem prefix2_length {a b:Nat}{l:List Nat}(h:[a,b].isPrefixOf l=true):2≤l.length:=by
 obtain⟨t,rfl⟩:=prefix2 h
 simp
def CPost (w:World) (b:Nat) (s:ByteArray) (i:Nat):LX.CR→Ending→World→Prop
 | .fin n,e,w'=>e = .returned (.tuple #[])∧Mv w w' b (i+n:Nat)∧i+n≤s.size
 | .deep n,e,w'=>e=thrown (i+n:Nat) 6∧∃ v,Mv w w' b v
 | .never,e,w'=>e=thrown i 12∧∃ v,Mv w w' b v
theorem comment_any {w:World}{b:Nat}{s:ByteArray}{i mb:Nat}{cv:Value}(h:Sc w b s i mb cv) (ho:LX.opens ((bts s).drop i)=true) :
  Calls Tryz.prog 147 #[.pointer (some ⟨b,0,none⟩)] w (CPost w b s i (LX.cmt ((bts s).drop i) 0 0)):=by
 obtain⟨c0,c1,lt,le,sz⟩:=h.at'
 have hi:(i:Int)≤400000:=by omega
 have hi2:i≤s.size:=le
 obtain⟨r,hr⟩:∃ r,r=LX.cmt ((bts s).drop i) 0 0:=⟨_,rfl⟩
 rw [← hr]
 have HS:=zh h
 have HO:=zh (opens_prefix ho)
 have HR:=zh hr
 have HZ:=zh sz
 clear h ho le sz hr
 go_enter Tryz.func147,Tryz.ntmps147
 go_wp2_with fail
 go_loopg [3] (s.size - i) (fun gk v wr=>∃ j d:Nat,i≤j∧j≤s.size∧gk=s.size - j∧v = .int .i64 d∧d≤100∧(∃ m,Mv w wr b m∧Sc wr b s j mb cv)∧(1≤d∨j=i)∧r=LX.cmt ((bts s).drop j) d (j - i))
 case atStart=>exact⟨i,0,zr4 _,hi2,rfl,rfl,by decide,⟨i,⟨rfl,rfl,rfl,rfl,fun _ _=>rfl,fun c T hc=>by
  rw [HS.out.1] at hc
  simp only [zt3,Obj.cells.injEq] at hc
  obtain⟨rfl,rfl,_⟩:=hc
  rw [HS.out.1];rfl⟩,HS.out⟩,.inr rfl,by rw [Nat.sub_self];exact HR.out⟩
 obtain⟨j,d,hij,hjs,hgk,rfl,hd,⟨mv,hmv,hsc⟩,hdj,hrj⟩:=hrel
 obtain⟨e0,e1,elt,ele,esz⟩:=hsc.at'
 have ef:wr.frozen? ⟨b,1,none⟩=false:=zs1 wr b 1 _ _ hsc.1
 have H1:=zh hgk
 have H2:=zh hmv
 have H3:=zh hsc
 have H4:=zh hdj
 have H5:=zh hrj
 have H6:=zh (And.intro hij hjs)
 have hj4:(j:Int)≤400000:=by omega
 have hd4:(d:Int)≤100:=by omega
 have hd0:(0:Int)≤(d:Int):=by omega
 have lt':=lt
 clear c0 c1 lt HS hgk hmv hsc hdj hrj ele esz hd
 by_cases hend:j=s.size
 ·have hlz:(s.size:Int)≤(j:Int):=by omega
  have HE:=zh hend
  clear hend hij hjs
  go_wp2_with fail
  go_quiet (fail)
  go_wp2_with fail
  refine⟨rfl,?_⟩
  have er:r = .never:=by
   rw [H5.out,List.drop_of_length_le (by rw [ze,HE.out];exact zr4 _)];rfl
  rw [er]
  exact⟨rfl,mv,H2.out.drewN _⟩
 have hlz:(j:Int)<(s.size:Int):=by omega
 have HLT:=zh (show j<s.size by omega)
 clear hend hij hjs
 cases hb1:[40,42].isPrefixOf ((bts s).drop j) with
 | true =>
  have S1:Hid (∀ m,Calls Tryz.prog 146 #[.pointer (some ⟨b,0,none⟩),.string ⟨#[40,42]⟩] (wr.drewN m) fun e w'=>e = .returned (.bool true)∧∃ q,w'=(wr.drewN m).drewN q):=fun m=>by
   have:=starts_any (w:=wr.drewN m) ⟨e0,e1,elt,H6.out.2,HZ.out⟩ ⟨#[40,42]⟩
   rw [show bts ⟨#[40,42]⟩=[40,42] from rfl,hb1] at this
   exact this
  have HB:=zh hb1
  have HLEN:Hid (j+2≤s.size):=by
   have:=prefix2_length hb1
   rw [List.length_drop,ze] at this
   show _≤_
   omega
  clear hb1
  go_wp2_with fail
  go_quiet (fail)
  go_wp2_with fail
  refine(S1.out _).mono ?_
  rintro e w2 ⟨rfl,q,rfl⟩
  by_cases hdd:100≤d
  ·have hdz:(100:Int)≤(d:Int):=by omega
   go_wp2_with fail
   refine⟨rfl,?_⟩
   have er:r = .deep (j - i):=by rw [H5.out,cmt_open _ _ _ HB.out,if_pos hdd]
   rw [er]
   refine⟨?_,mv,H2.out.drewN _⟩
   have e3:i+(j - i)=j:=by have:=H6.out.1;omega
   rw [e3]
   rfl
  have hdz:(d:Int)<100:=by omega
  have HDD:=zh hdd
  clear hdd
  go_wp2_with fail
  go_roundg (s.size - (j+2))
  case measure=>have:=H1.out;have:=HLT.out;omega
  have e2:((j+2:Nat):Int)=(j:Int)+2:=by push_cast;rfl
  have hmv2:=(H2.out.drewN (nq+q)).trans (Mv.of_set (wr.drewN (nq+q)) b ((j:Int)+2))
  have hsc2:Sc ((wr.drewN (nq+q)).setCell ⟨b,1,none⟩ (.int .i64 ((j:Int)+2))) b s (j+2) mb cv:=by
   have h0:Sc (wr.drewN (nq+q)) b s j mb cv:=H3.out
   refine h0.mv ?_ HLEN.out
   rw [e2];exact Mv.of_set _ _ _
  refine⟨j+2,d+1,by have:=H6.out.1;omega,HLEN.out,rfl,by push_cast;rfl,by omega,⟨_,hmv2,hsc2⟩,.inl (by omega),?_⟩
  rw [H5.out,cmt_open _ _ _ HB.out,if_neg HDD.out,List.drop_drop]
  congr 1
  have:=H6.out.1
  omega
 | false =>
  have S1:Hid (∀ m,Calls Tryz.prog 146 #[.pointer (some ⟨b,0,none⟩),.string ⟨#[40,42]⟩] (wr.drewN m) fun e w'=>e = .returned (.bool false)∧∃ q,w'=(wr.drewN m).drewN q):=fun m=>by
   have:=starts_any (w:=wr.drewN m) ⟨e0,e1,elt,H6.out.2,HZ.out⟩ ⟨#[40,42]⟩
   rw [show bts ⟨#[40,42]⟩=[40,42] from rfl,hb1] at this
   exact this
  have hd1:1≤d:=by
   rcases H4.out with h | h
   ·exact h
   rw [h,HO.out] at hb1;exact absurd hb1 (by decide)
  obtain⟨d',rfl⟩:∃ d',d=d'+1:=⟨d - 1,by omega⟩
  have HB:=zh hb1
  clear hb1 hd1
  cases hb2:[42,41].isPrefixOf ((bts s).drop j) with
  | true =>
   have S2:Hid (∀ m,Calls Tryz.prog 146 #[.pointer (some ⟨b,0,none⟩),.string ⟨#[42,41]⟩] (wr.drewN m) fun e w'=>e = .returned (.bool true)∧∃ q,w'=(wr.drewN m).drewN q):=fun m=>by
    have:=starts_any (w:=wr.drewN m) ⟨e0,e1,elt,H6.out.2,HZ.out⟩ ⟨#[42,41]⟩
    rw [show bts ⟨#[42,41]⟩=[42,41] from rfl,hb2] at this
    exact this
   have HB2:=zh hb2
   have HLEN:Hid (j+2≤s.size):=by
    have:=prefix2_length hb2
    rw [List.length_drop,ze] at this
    show _≤_
    omega
   clear hb2
   go_wp2_with fail
   go_quiet (fail)
   go_wp2_with fail
   refine(S1.out _).mono ?_
   rintro e w2 ⟨rfl,q,rfl⟩
   go_wp2_with fail
   refine(S2.out _).mono ?_
   rintro e w2 ⟨rfl,q2,rfl⟩
   by_cases hdd:d'=0
   ·subst hdd
    go_wp2_with fail
    (try simp only [Exit.inBlock,Exit.then])
    refine bodyPost_ret (results_none rfl _ _ _) rfl ?_
    have er:r = .fin (j - i+2):=by rw [H5.out,cmt_close _ _ _ HB2.out,if_pos rfl]
    rw [er]
    have e3:i+(j - i+2)=j+2:=by have:=H6.out.1;omega
    refine⟨rfl,?_,by rw [e3];exact HLEN.out⟩
    rw [e3,show ((j+2:Nat):Int)=(j:Int)+2 from by push_cast;rfl]
    exact(H2.out.drewN _).trans (Mv.of_set _ _ _)
   have hdz:¬ (d':Int)=0:=by omega
   have HDD:=zh hdd
   clear hdd
   go_wp2_with fail
   go_roundg (s.size - (j+2))
   case measure=>have:=H1.out;have:=HLT.out;omega
   have e2:((j+2:Nat):Int)=(j:Int)+2:=by push_cast;rfl
   have hmv2:=(H2.out.drewN (nq+q+q2)).trans (Mv.of_set (wr.drewN (nq+q+q2)) b ((j:Int)+2))
   have hsc2:Sc ((wr.drewN (nq+q+q2)).setCell ⟨b,1,none⟩ (.int .i64 ((j:Int)+2))) b s (j+2) mb cv:=by
    have h0:Sc (wr.drewN (nq+q+q2)) b s j mb cv:=H3.out
    refine h0.mv ?_ HLEN.out
    rw [e2];exact Mv.of_set _ _ _
   refine⟨j+2,d',by have:=H6.out.1;omega,HLEN.out,rfl,rfl,by omega,⟨_,hmv2,hsc2⟩,.inl (by have:=HDD.out;omega),?_⟩
   rw [H5.out,cmt_close _ _ _ HB2.out,if_neg (by have:=HDD.out;omega),List.drop_drop]
   congr 1
   have:=H6.out.1
   omega
  | false =>
   have S2:Hid (∀ m,Calls Tryz.prog 146 #[.pointer (some ⟨b,0,none⟩),.string ⟨#[42,41]⟩] (wr.drewN m) fun e w'=>e = .returned (.bool false)∧∃ q,w'=(wr.drewN m).drewN q):=fun m=>by
    have:=starts_any (w:=wr.drewN m) ⟨e0,e1,elt,H6.out.2,HZ.out⟩ ⟨#[42,41]⟩
    rw [show bts ⟨#[42,41]⟩=[42,41] from rfl,hb2] at this
    exact this
   have HB2:=zh hb2
   clear hb2
   go_wp2_with fail
   go_quiet (fail)
   go_wp2_with fail
   refine(S1.out _).mono ?_
   rintro e w2 ⟨rfl,q,rfl⟩
   go_wp2_with fail
   refine(S2.out _).mono ?_
   rintro e w2 ⟨rfl,q2,rfl⟩
   go_wp2_with fail
   go_roundg (s.size - (j+1))
   case measure=>have:=H1.out;have:=HLT.out;omega
   have e2:((j+1:Nat):Int)=(j:Int)+1:=by push_cast;rfl
   have hmv2:=(H2.out.drewN (nq+q+q2)).trans (Mv.of_set (wr.drewN (nq+q+q2)) b ((j:Int)+1))
   have hsc2:Sc ((wr.drewN (nq+q+q2)).setCell ⟨b,1,none⟩ (.int .i64 ((j:Int)+1))) b s (j+1) mb cv:=by
    have h0:Sc (wr.drewN (nq+q+q2)) b s j mb cv:=H3.out
    refine h0.mv ?_ HLT.out
    rw [e2];exact Mv.of_set _ _ _
   refine⟨j+1,d'+1,by have:=H6.out.1;omega,HLT.out,rfl,by push_cast;rfl,by omega,⟨_,hmv2,hsc2⟩,.inl (by omega),?_⟩
   rw [H5.out,cmt_skip _ _ _ HB.out HB2.out,List.drop_drop]
   congr 1
   have:=H6.out.1
   omega
end Lx
namespace Lx
open Go.RowKit
theorem append_one {P:Program}(w:World) (base:Nat) (t ty e:TypeId) (i:TypeInfo) (z:Value) (size bytes:Nat) (ht:P.underlying t=some (.slice e)) (hi:P.info? e=some i) (hz:i.zero=some z)
  (hsize:i.size=size) (hby:i.bytes=bytes) (hzs:z.cells.size=size) (hsz:0<size)
  (v:Value) (n:Nat) (xs:List Value) (hown:w.ownsRow base e size v n xs)
  (a:Addr) (c:Nat) (news:List Value) (hl:news.length=size) (hnews:∀ j u,news[j]?=some u→w.cell? (a.add j)=some u) (h1:∀ u∈news,u.oneCell'=true)
  (hn:n<1000000000) (hbt:bytes≤1000) (hbase:base≤w.heap.size) :
  ∃ v' w',(Builtin.append_ #[t,t] ty #[v,.slice (some a) 1 c]).run P w = .ok v' w'∧w'.ownsRow base e size v' (n+1) (xs++news)∧w.grownBy w' v.ownBlock ∧
   (v'.ownBlock=some w.heap.size∨(v'.ownBlock=v.ownBlock∧v.ownBlock.isSome=true)):=by
 have hb2:((n+1)+(n+1) / 4+192)*bytes≤281474976710656:=by
  have h:((n+1)+(n+1) / 4+192)*bytes≤2000000000*1000:=Nat.mul_le_mul (by omega) hbt
  omega
 obtain⟨v',w',hr,h2,h3,h4⟩:=run_append_own_wide (P:=P) w base t ty e i z size bytes ht hi hz hsize hby hzs hsz v n xs hown a 1 c news (by omega) hnews h1 (by simp only [maxLen];omega) hb2 hbase
 refine⟨v',w',hr,h2,h3,?_⟩
 subst hsize
 subst hby
 rcases hown.2 with ⟨rfl,rfl⟩|⟨g,cap,cur,rfl,hbg,hg,hnc,hcm,hcs,htake⟩
 ·have hrun:=run_append_nil (P:=P) w t ty e i z ht hi hz a 1 c news (by omega) hnews (by omega) (by omega) (by omega)
  rw [hr] at hrun
  cases hrun
  exact .inl rfl
 by_cases hroom:n+1≤cap
 ·have hrun:=run_append_room (P:=P) w t ty e i ht hi g n cap cur hg a 1 c news (by omega) hnews h1 hroom (by
   rw [hcs,hl]
   have:(n+1)*i.size≤cap*i.size:=Nat.mul_le_mul_right _ hroom
   rw [Nat.add_mul] at this
   omega)
  rw [hr] at hrun
  cases hrun
  exact .inr ⟨rfl,rfl⟩
 have holds:∀ j u,xs[j]?=some u→w.cell? ((⟨g,0,none⟩:Addr).add j)=some u:=by
  intro j u hu
  have hj:j<n*i.size:=by rw [← hown.1];exact(zq8.1 hu).1
  rw [Addr.add_lit,zb w g (0+j) cur e (0,0) hg,Nat.zero_add,← Array.getElem?_toList]
  rw [← htake,List.getElem?_take,if_pos hj] at hu
  exact hu
 have hrun:=run_append_grow (P:=P) w t ty e i z ht hi hz ⟨g,0,none⟩ n cap xs hown.1 holds a 1 c news (by omega) hnews (by omega) (by omega)
  (growslice_fits_wide (by omega) hb2)
 rw [hr] at hrun
 cases hrun
 exact .inl rfl
end Lx
namespace Lx
namespace LX
inductive PR where
 | to (n:Nat) (cs:List (Nat×Nat))
 | bad (place e:Nat)
def PR.add (c:List (Nat×Nat)):PR→PR
 | .to n cs => .to n (c++cs)
 | .bad p e => .bad p e
def passN:Nat→List Nat→Nat→PR
 | 0,_,p => .to p []
 | f+1,l,p =>
  if opens (l.drop (run space l)) then
   match cmt (l.drop (run space l)) 0 0 with
   | .fin n=>(passN f ((l.drop (run space l)).drop n) (p+run space l+n)).add [(p+run space l,p+run space l+n)]
   | .deep n => .bad (p+run space l+n) 6
   | .never => .bad (p+run space l) 12
  else .to (p+run space l) []
theorem PR.add_add (a b:List (Nat×Nat)) (r:PR):(r.add b).add a=r.add (a++b):=by
 cases r<;>simp [PR.add]
theorem PR.add_nil (r:PR):r.add []=r:=by cases r<;>rfl
theorem cmt_fin {l:List Nat}{d n m:Nat}:cmt l d n = .fin m→n<m:=by
 fun_induction cmt l d n with
 | case1=>intro h;cases h
 | case2=>intro h;cases h
 | case3=>intro h;cases h
 | case4 _ _ _ _ _ _ _ ih=>intro h;have:=ih h;omega
 | case5=>intro h;cases h;omega
 | case6 _ _ _ _ _ _ _ _ ih=>intro h;have:=ih h;omega
 | case7 _ _ _ _ _ _ _ ih=>intro h;have:=ih h;omega
end LX
open Go.RowKit
structure Fr (w w':World) (b:Nat) (cv cv':Value):Prop where
 os:w'.os=w.os
 tape:w'.tape=w.tape
 output:w'.output=w.output
 size:w.heap.size≤w'.heap.size
 block:∀ k,k<w.heap.size→k≠b→cv.ownBlock≠some k→w'.heap[k]?=w.heap[k]?
 own:cv'.ownBlock=cv.ownBlock∨∃ k,cv'.ownBlock=some k∧w.heap.size≤k
theorem Fr.refl (w:World) (b:Nat) (cv:Value):Fr w w b cv cv:=⟨rfl,rfl,rfl,Nat.le_refl _,fun _ _ _ _=>rfl,.inl rfl⟩
theorem Fr.trans {w w1 w2:World}{b:Nat}{cv c1 c2:Value}(h:Fr w w1 b cv c1) (k:Fr w1 w2 b c1 c2):Fr w w2 b cv c2:=by
 refine⟨k.os.trans h.os,k.tape.trans h.tape,k.output.trans h.output,Nat.le_trans h.size k.size,fun q hq hb hc=>?_,?_⟩
 ·refine(k.block q (Nat.lt_of_lt_of_le hq h.size) hb fun e=>?_).trans (h.block q hq hb hc)
  rcases h.own with e2 | ⟨p,e2,hp⟩
  ·exact hc (e2.symm.trans e)
  rw [e2] at e;simp at e;omega
 rcases k.own with e | ⟨p,e,hp⟩
 ·rcases h.own with e2 | ⟨p,e2,hp⟩
  ·exact .inl (e.trans e2)
  exact .inr ⟨p,e.trans e2,hp⟩
 exact .inr ⟨p,e,Nat.le_trans h.size hp⟩
theorem Fr.drewN {w w':World}{b:Nat}{cv cv':Value}(h:Fr w w' b cv cv') (m:Nat):Fr w (w'.drewN m) b cv cv':=⟨h.os,h.tape,h.output,h.size,h.block,h.own⟩
theorem Mv.fr {w w':World}{b:Nat}{v:Int}(h:Mv w w' b v) (cv:Value):Fr w w' b cv cv :=
 ⟨h.os,h.tape,h.output,Nat.le_of_eq h.size.symm,fun k _ hb _=>h.block k hb,.inl rfl⟩
def flatP:List (Nat×Nat)→List Value
 | []=>[]
 | (p,q) :: t => .int .i64 p :: .int .i64 q :: flatP t
theorem flatP_append (a b:List (Nat×Nat)):flatP (a++b)=flatP a++flatP b:=by
 induction a with
 | nil=>rfl
 | cons x r ih=>obtain⟨p,q⟩:=x;simp [flatP,ih]
structure Cm (w:World) (b:Nat) (cv:Value) (cs:List (Nat×Nat)):Prop where
 row:w.ownsRow 0 228 2 cv cs.length (flatP cs)
 ne:cv.ownBlock≠some b
theorem Cm.shape {w:World}{b:Nat}{cv:Value}{cs:List (Nat×Nat)}(h:Cm w b cv cs):∃ a c,cv = .slice a cs.length c:=by
 rcases h.row.2 with ⟨rfl,h0⟩|⟨g,cap,cur,rfl,_⟩
 ·rw [h0];exact⟨_,_,rfl⟩
 exact⟨_,_,rfl⟩
theorem Cm.keep {w w':World}{b:Nat}{cv:Value}{cs:List (Nat×Nat)}(h:Cm w b cv cs) (hk:∀ k,k<w.heap.size→cv.ownBlock=some k→w'.heap[k]?=w.heap[k]?):Cm w' b cv cs:=by
 obtain⟨⟨h1,h2⟩,h3⟩:=h
 rcases h2 with h2 | ⟨g,cap,cur,rfl,hb,hg,rest⟩
 ·exact⟨⟨h1,.inl h2⟩,h3⟩
 exact⟨⟨h1,.inr ⟨g,cap,cur,rfl,hb,(hk g (Array.getElem?_eq_some_iff.1 hg).1 rfl).trans hg,rest⟩⟩,h3⟩
theorem Cm.lt {w:World}{b:Nat}{cv:Value}{cs:List (Nat×Nat)}(h:Cm w b cv cs) {k:Nat}(hk:cv.ownBlock=some k):k<w.heap.size:=by
 rcases h.row.2 with ⟨rfl,_⟩|⟨g,cap,cur,rfl,_,hg,_⟩
 ·simp [Value.ownBlock] at hk
 simp [Value.ownBlock] at hk;subst hk;exact(Array.getElem?_eq_some_iff.1 hg).1
theorem Tryz.info228:(Tryz.prog.info? 228).map (fun i=>(i.zero,i.size,i.bytes))=some (some (.agg #[.int .i64 0,.int .i64 0]),2,16):=by kernel_rfl
theorem step_append_run {P:Program}{ops:Array Oper}{o:Oper}{a:Act}{w w':World}{K:Act→World→Prop}{Q:Exit→Act→World→Prop}{E:Prop}
  (hg:o.guard=none) (s x:Operand) (t:TypeId) (hop:o.op=Op.call { callee:=Callee.builtin Builtin.append,args := #[s,x],argTypes := #[t,t] })
  {v xv v':Value} (hs:a.eval s=v) (hx:a.eval x=xv) (hr:(Builtin.append_ #[t,t] o.type #[v,xv]).run P w = .ok v' w') (hK:K (a.put o.dst v') w') :
  if Region.wanted o (yielded ops a.tmps)=true then Oper.wp P o a w K Q else E:=by
 have hw:Region.wanted o (yielded ops a.tmps)=true:=by simp [Region.wanted,hg]
 rw [if_pos hw]
 unfold Oper.wp execOp
 simp only [hop,resolve,invoke,builtin,Sem.run_bind,Sem.run_pure,Result.andThen_ok,List.map_toArray,List.map_cons,List.map_nil,hs,hx,hr]
 exact hK
def PPost (w:World) (b:Nat) (s:ByteArray) (mb:Nat) (cv:Value) (cs0:List (Nat×Nat)):LX.PR→Ending→World→Prop
 | .to n cs,e,w'=>e = .returned (.tuple #[])∧∃ cv',Sc w' b s n mb cv'∧Cm w' b cv' (cs0++cs)∧Fr w w' b cv cv'
 | .bad p er,e,w'=>e=thrown p er∧∃ cv',Fr w w' b cv cv'
theorem Mv.of_drew {w w':World}{b m:Nat}{v:Int}(h:Mv (w.drewN m) w' b v):Mv w w' b v:=⟨h.os,h.tape,h.output,h.size,h.block,h.cell⟩
theorem passN_step (f:Nat) (s:ByteArray) (j k p:Nat) (hk:k=LX.run LX.space ((bts s).drop j)) (hp:p=j+k) :
  LX.passN (f+1) ((bts s).drop j) j=if LX.opens ((bts s).drop p) then
   match LX.cmt ((bts s).drop p) 0 0 with
   | .fin n=>(LX.passN f ((bts s).drop (p+n)) (p+n)).add [(p,p+n)]
   | .deep n => .bad (p+n) 6
   | .never => .bad p 12
  else .to p []:=by
 subst hp
 rw [LX.passN,← hk]
 simp only [List.drop_drop]
theorem opens_eq (l:List Nat):LX.opens l=[40,42].isPrefixOf l:=by
 cases h:[40,42].isPrefixOf l with
 | true=>obtain⟨t,rfl⟩:=prefix2 h;rfl
 | false =>
  cases h2:LX.opens l with
  | false=>rfl
  | true=>rw [opens_prefix h2] at h;exact absurd h (by decide)
theorem pass_any {w:World}{b:Nat}{s:ByteArray}{i mb:Nat}{cv:Value}{cs0:List (Nat×Nat)}(h:Sc w b s i mb cv) (hc:Cm w b cv cs0) (hcl:cs0.length≤i) :
  Calls Tryz.prog 142 #[.pointer (some ⟨b,0,none⟩)] w (PPost w b s mb cv cs0 (LX.passN (s.size+1) ((bts s).drop i) i)):=by
 obtain⟨r,hr⟩:∃ r,r=LX.passN (s.size+1) ((bts s).drop i) i:=⟨_,rfl⟩
 rw [← hr]
 have hi2:=h.2.1
 have HZ:=Lib.hid h.2.2
 have HS:=Lib.hid h
 have HC:=Lib.hid hc
 have HR:=Lib.hid hr
 have HL:=Lib.hid hcl
 clear h hc hr hcl
 go_enter Tryz.func142,Tryz.ntmps142
 go_wp2_with fail
 go_loopg [2] (s.size - i) (fun gk v2 wr=>∃ (j f:Nat) (cs:List (Nat×Nat)) (cv':Value),i≤j∧j≤s.size∧gk=s.size - j∧s.size - j<f∧Sc wr b s j mb cv'∧Cm wr b cv' (cs0++cs)∧(cs0++cs).length≤j∧Fr w wr b cv cv'∧r=(LX.passN f ((bts s).drop j) j).add cs)
 case atStart=>exact⟨i,s.size+1,[],cv,Nat.le_refl _,hi2,rfl,by omega,HS.out,by simpa using HC.out,by simpa using HL.out,Fr.refl _ _ _,by rw [LX.PR.add_nil];exact HR.out⟩
 obtain⟨j,f,cs,cv',hij,hjs,hgk,hf,hsc,hcm,hcl,hfr,hrj⟩:=hrel
 obtain⟨f',rfl⟩:∃ f',f=f'+1:=⟨f - 1,by omega⟩
 obtain⟨e0,e1,elt,ele,esz⟩:=hsc.at'
 have ef:∀ q,wr.frozen? ⟨b,q,none⟩=false:=fun q=>frozen_of_row wr b q _ _ hsc.1
 obtain⟨k,hk⟩:∃ k,k=LX.run LX.space ((bts s).drop j):=⟨_,rfl⟩
 have hkl:j+k≤s.size:=by
  have:=run_le LX.space ((bts s).drop j)
  rw [List.length_drop,ze] at this
  omega
 have hj4:(j:Int)+(k:Int)≤400000:=by have:=HZ.out;omega
 have R1:Hid (Calls Tryz.prog 144 #[.pointer (some ⟨b,0,none⟩),.int .i64 0,.func (.func 145) #[] #[]] wr.drew fun e w'=>e = .returned (.int .i64 k)∧∃ q,w'=wr.drew.drewN q):=by
  have:=run_space (w:=wr.drew) ⟨e0,e1,elt,ele,esz⟩ 0 (by decide)
  rw [Nat.add_zero,← hk] at this
  exact this
 have H1:=Lib.hid hgk
 have H2:=Lib.hid hf
 have H3:=Lib.hid hsc
 have H4:=Lib.hid hcm
 have H5:=Lib.hid hcl
 have H6:=Lib.hid hfr
 have H7:=Lib.hid hrj
 have H8:=Lib.hid hk
 have H9:=Lib.hid (And.intro hij (And.intro hjs hkl))
 clear hgk hf hsc hcm hcl hfr hrj hk hij hjs ele esz hkl
 have hwr:IntKind.i64.wrap ((j:Int)+(k:Int))=(j:Int)+(k:Int):=wrap_in _ (by omega)
 go_wp2_with fail
 go_region_with (go_at_call 144;refine(R1.out).mono ?_;rintro e w2 ⟨rfl,q,rfl⟩)
 all_goals
  obtain⟨w1,hw1⟩:∃ v,v=(wr.drewN (1+q)).setCell ⟨b,1,none⟩ (.int .i64 ((j:Int)+(k:Int))):=⟨_,rfl⟩
  rw [← hw1]
  have mv1:Mv wr w1 b ((j+k:Nat):Int):=by
   rw [hw1,show ((j+k:Nat):Int)=(j:Int)+(k:Int) from by push_cast;rfl]
   exact(Mv.of_set (wr.drewN (1+q)) b _).of_drew
  have T1:Hid (Sc w1 b s (j+k) mb cv'):=H3.out.mv mv1 H9.out.2.2
  have T2:Hid (Cm w1 b cv' (cs0++cs)):=H4.out.keep fun p hp hb=>mv1.block p fun e=>H4.out.ne (by rw [hb,e])
  have T3:Hid (Fr w w1 b cv cv'):=H6.out.trans (mv1.fr cv')
  obtain⟨p,hp⟩:∃ p,p=j+k:=⟨_,rfl⟩
  rw [← hp] at T1
  have T4:=Lib.hid hp
  obtain⟨d0,d1,dlt,dle,dsz⟩:=T1.out.at'
  have df:∀ q,w1.frozen? ⟨b,q,none⟩=false:=fun q=>frozen_of_row w1 b q _ _ T1.out.1
  have d3:w1.cell? ⟨b,3,none⟩=some cv':=by rw [cell_of_row w1 b 3 _ _ _ T1.out.1];rfl
  have hpz:(p:Int)≤400000:=by omega
  have AT:Hid (At w1 b s p):=T1.out.at'
  clear hw1 mv1 e0 e1 elt ef hwr R1 hp hj4 dle dsz
  cases hop:LX.opens ((bts s).drop p) with
  | false =>
   have S1:Hid (Calls Tryz.prog 146 #[.pointer (some ⟨b,0,none⟩),.string ⟨#[40,42]⟩] w1 fun e w'=>e = .returned (.bool false)∧∃ q,w'=w1.drewN q):=by
    have:=starts_any AT.out ⟨#[40,42]⟩
    rw [show bts ⟨#[40,42]⟩=[40,42] from rfl,← opens_eq,hop] at this
    exact this
   have HOP:=Lib.hid hop
   clear hop
   go_wp2_with fail
   refine(S1.out).mono ?_
   rintro e w2 ⟨rfl,q2,rfl⟩
   go_wp2_with fail
   (try simp only [Exit.inBlock,Exit.then])
   refine bodyPost_ret (results_none rfl _ _ _) rfl ?_
   have er:r = .to p cs:=by
    rw [H7.out,passN_step _ s j k p H8.out T4.out,if_neg (by rw [HOP.out];decide)]
    simp [LX.PR.add]
   rw [er]
   exact⟨rfl,cv',T1.out,T2.out.keep fun _ _ _=>rfl,T3.out.drewN _⟩
  | true =>
   have S1:Hid (Calls Tryz.prog 146 #[.pointer (some ⟨b,0,none⟩),.string ⟨#[40,42]⟩] w1 fun e w'=>e = .returned (.bool true)∧∃ q,w'=w1.drewN q):=by
    have:=starts_any AT.out ⟨#[40,42]⟩
    rw [show bts ⟨#[40,42]⟩=[40,42] from rfl,← opens_eq,hop] at this
    exact this
   have HOP:=Lib.hid hop
   clear hop
   go_wp2_with fail
   refine(S1.out).mono ?_
   rintro e w2 ⟨rfl,q2,rfl⟩
   go_wp2_with fail
   have T1':Sc (w1.drewN q2) b s p mb cv':=T1.out
   refine(comment_any T1' HOP.out).mono ?_
   cases hcm2:LX.cmt ((bts s).drop p) 0 0 with
   | never =>
    rintro e w3 ⟨rfl,v,hmv⟩
    unfold thrown
    go_wp2_with fail
    refine⟨rfl,?_⟩
    have er:r = .bad p 12:=by
     rw [H7.out,passN_step _ s j k p H8.out T4.out,if_pos HOP.out,hcm2]
     rfl
    rw [er]
    exact⟨rfl,cv',T3.out.trans (hmv.of_drew.fr cv')⟩
   | deep n =>
    rintro e w3 ⟨rfl,v,hmv⟩
    unfold thrown
    go_wp2_with fail
    refine⟨rfl,?_⟩
    have er:r = .bad (p+n) 6:=by
     rw [H7.out,passN_step _ s j k p H8.out T4.out,if_pos HOP.out,hcm2]
     rfl
    rw [er]
    exact⟨rfl,cv',T3.out.trans (hmv.of_drew.fr cv')⟩
   | fin n =>
    rintro e w3 ⟨rfl,hmv,hle⟩
    have mv3:=hmv.of_drew
    have U1:Hid (Sc w3 b s (p+n) mb cv'):=T1.out.mv mv3 hle
    have U2:Hid (Cm w3 b cv' (cs0++cs)):=T2.out.keep fun x hx hb=>mv3.block x fun e=>T2.out.ne (by rw [hb,e])
    have U3:Hid (Fr w w3 b cv cv'):=T3.out.trans (mv3.fr cv')
    have U4:Hid (0<n):=LX.cmt_fin hcm2
    have U5:Hid (r=((LX.passN f' ((bts s).drop (p+n)) (p+n)).add [(p,p+n)]).add cs):=by
     show r=_
     rw [H7.out,passN_step _ s j k p H8.out T4.out,if_pos HOP.out,hcm2]
    have U6:=Lib.hid hle
    obtain⟨g0,g1,glt,gle,gsz⟩:=U1.out.at'
    have g1':w3.cell? ⟨b,1,none⟩=some (.int .i64 ((p:Int)+(n:Int))):=by rw [g1];push_cast;rfl
    have gf:∀ q,w3.frozen? ⟨b,q,none⟩=false:=fun q=>frozen_of_row w3 b q _ _ U1.out.1
    have g3:w3.cell? ⟨b,3,none⟩=some cv':=by rw [cell_of_row w3 b 3 _ _ _ U1.out.1];rfl
    obtain⟨i0,hi0,hz0,hz1,hz2⟩:=info_parts Tryz.info228
    obtain⟨W,hW⟩:∃ W,W=w3.drew.alloc (.cells #[.int .i64 p,.int .i64 ((p:Int)+(n:Int))] 228):=⟨_,rfl⟩
    have hWh:W.heap[w3.heap.size]?=some (.cells #[.int .i64 p,.int .i64 ((p:Int)+(n:Int))] 228 (0,0)):=by rw [hW];exact heap_alloc_new w3.drew _
    have hWs:W.heap.size=w3.heap.size+1:=by rw [hW];simp
    have hWk:∀ x,x<w3.heap.size→W.heap[x]?=w3.heap[x]?:=fun x hx=>by rw [hW];exact Below.heap_alloc w3.drew _ _ hx
    have cmW:Cm W b cv' (cs0++cs):=U2.out.keep fun x hx _=>hWk x hx
    obtain⟨v',w4,hrun,hrow,hgr,hob⟩:=append_one (P:=Tryz.prog) W 0 220 220 228 i0 (.agg #[.int .i64 0,.int .i64 0]) 2 16 Tryz.underlying220 hi0 hz0 hz1 hz2 rfl (by decide) cv' (cs0++cs).length (flatP (cs0++cs)) cmW.row ⟨w3.heap.size,0,none⟩ 1 [.int .i64 p,.int .i64 ((p:Int)+(n:Int))] rfl
     (fun x u hx=>by
      rw [Addr.add_lit,cell_of_row _ _ _ _ _ _ hWh]
      match x,hx with
      | 0,hx=>simpa using hx
      | 1,hx=>simpa using hx
      | x+2,hx=>simp at hx)
     (fun u hu=>by simp at hu;rcases hu with rfl | rfl<;>rfl) (by have:=H5.out;have:=H9.out.2.1;have:=HZ.out;omega) (by decide) (Nat.zero_le _)
    obtain⟨va,vc,hv'⟩:∃ a c,v' = .slice a ((cs0++cs).length+1) c:=by
     rcases hrow.2 with ⟨_,h0⟩|⟨g,cap,cur,e,_⟩
     ·omega
     exact⟨_,_,e⟩
    obtain⟨ca,cc,hcv⟩:=U2.out.shape
    have b4:w4.heap[b]?=w3.heap[b]?:=(hgr.block b (by omega) (fun e=>U2.out.ne e.symm)).trans (hWk b glt)
    have b40:w4.cell? ⟨b,3,none⟩=some cv':=by rw [World.cell?_of_block (w:=w3) b4];exact g3
    have b4f:w4.frozen? ⟨b,3,none⟩=false:=by rw [World.frozen?_of_block (w:=w3) b4];exact gf 3
    have b4l:b<w4.heap.size:=Nat.lt_of_lt_of_le (by omega) hgr.size
    rw [hW] at hrun
    have V1:=Lib.hid hrun
    have V2:=Lib.hid hrow
    have V3:=Lib.hid hgr
    have V4:=Lib.hid hob
    have V5:=Lib.hid b4
    have V6:=Lib.hid (And.intro hWs hWk)
    have V7:Hid (w3.os=W.os∧w3.tape=W.tape∧w3.output=W.output):=by rw [hW];exact⟨rfl,rfl,rfl⟩
    have hnz:(p:Int)+(n:Int)≤400000:=by omega
    obtain⟨nn,hnn⟩:∃ nn,nn=(cs0++cs).length:=⟨_,rfl⟩
    rw [← hnn] at hv' hcv
    have V8:=Lib.hid hnn
    clear hnn
    subst hv'
    subst hcv
    clear hW g1 hmv hle hcm2 mv3 gle gsz hi0 hz0 hz1 hz2 hWh hWs hWk cmW hrun hrow hgr hob b4 d0 d1 dlt df d3 S1
    go_wp2_with fail
    go_region_law (refine step_append_run rfl _ _ 220 rfl rfl rfl V1.out ?_)
    all_goals
     go_wp2_with fail
     go_roundg (s.size - (p+n))
     case measure=>have:=H1.out;have:=U4.out;have:=U6.out;have:=T4.out;omega
     have hlen:(cs0++(cs++[(p,p+n)])).length=(cs0++cs).length+1:=by simp;omega
     have hfl:flatP (cs0++(cs++[(p,p+n)]))=flatP (cs0++cs)++[.int .i64 p,.int .i64 ((p:Int)+(n:Int))]:=by
      rw [← List.append_assoc,flatP_append]
      simp only [flatP]
      push_cast
      rfl
     have hne:(Value.slice va (nn+1) vc).ownBlock≠some b:=by
      rcases V4.out with e | ⟨e,_⟩
      ·rw [e,V6.out.1];intro e2;simp at e2;omega
      rw [e];exact U2.out.ne
     have hkk:∀ x,x≠b→(w4.setCell ⟨b,3,none⟩ (.slice va (nn+1) vc)).heap[x]?=w4.heap[x]?:=fun x hx=>Below.heap_setCell w4 _ _ x hx
     have hcm:Cm w4 b (.slice va (nn+1) vc) (cs0++(cs++[(p,p+n)])):=⟨by rw [hlen,hfl];exact V2.out,hne⟩
     refine⟨p+n,f',cs++[(p,p+n)],.slice va (nn+1) vc,by have:=H9.out.1;have:=T4.out;omega,U6.out,rfl,by have:=H2.out;have:=U4.out;have:=T4.out;have:=U6.out;omega,⟨?_,U6.out,HZ.out⟩,hcm.keep (fun x _ hx=>hkk x fun e=>hne (by rw [hx,e])),by rw [hlen];have:=H5.out;have:=U4.out;have:=T4.out;omega,?_,?_⟩
     ·have:=heap_setCell_same w4 b 3 _ _ (.slice va (nn+1) vc) (V5.out.trans U1.out.1)
      simpa using this
     ·refine U3.out.trans ⟨V3.out.os.trans V7.out.1.symm,V3.out.tape.trans V7.out.2.1.symm,V3.out.output.trans V7.out.2.2.symm,?_,fun x hx hxb hxc=>?_,?_⟩
      ·have h1:=V3.out.size
       have h2:=V6.out.1
       simp
       omega
      ·rw [hkk x hxb,V3.out.block x (by have:=V6.out.1;omega) (fun e=>hxc e.symm)]
       exact V6.out.2 x hx
      rcases V4.out with e | ⟨e,_⟩
      ·exact .inr ⟨_,e,by rw [V6.out.1];omega⟩
      exact .inl e
     rw [U5.out,LX.PR.add_add]
end Lx
namespace Lx
open Go.RowKit
def tokV (k v:Int) (t:ByteArray) (p:Int):Value := .agg #[.int .i64 k,.int .i64 v,.string t,.int .i64 p]
def MPost (w:World) (s:ByteArray) (i:Nat) (k:Int) (n:Nat) (e:Ending) (w':World):Prop :=
 if 24<n then e=thrown i 2∧Below w.heap.size w w' else e = .returned (tokV k 0 (s.extract i (i+n)) i)∧Below w.heap.size w w'
theorem made_any {w:World}{b:Nat}{s:ByteArray}{i mb:Nat}{cv:Value}(h:Sc w b s i mb cv) (k:Int) (n:Nat) (hn:i+n≤s.size) :
  Calls Tryz.prog 154 #[.pointer (some ⟨b,0,none⟩),.int .i64 k,.int .i64 n] w (MPost w s i k n):=by
 obtain⟨c0,c1,lt,le,sz⟩:=h.at'
 have hnz:(i:Int)+(n:Int)≤(s.size:Int):=by omega
 have hsz:(s.size:Int)≤400000:=by omega
 by_cases h24:24<n
 ·have h24z:(24:Int)<(n:Int):=by omega
  have HN:=zh h24
  clear h24 h
  go_enter Tryz.func154,Tryz.ntmps154
  go_wp2_with fail
  refine⟨rfl,?_⟩
  unfold MPost
  rw [if_pos HN.out]
  exact⟨rfl,(zs9 _ _).alloc (zr4 _) _⟩
 have h24z:(n:Int)≤24:=by omega
 have HN:=zh h24
 have hsl:∀ m:World,(Instr.slice 9 (.string s) (some (.int .i64 i)) (some (.int .i64 ((i:Int)+(n:Int)))) none).run Tryz.prog m = .ok (.string (s.extract i (i+n))) m:=fun m=>by
  have:=run_slice_string (P:=Tryz.prog) m 9 s .i64 .i64 i ((i:Int)+(n:Int)) Tryz.underlying9 (by omega) (by omega) (by omega)
  rw [this]
  have e:((i:Int)+(n:Int)).toNat=i+n:=by omega
  rw [e]
  simp
 have hwr:IntKind.i64.wrap ((i:Int)+(n:Int))=(i:Int)+(n:Int):=wrap_in _ (by omega)
 clear h24 h
 go_enter Tryz.func154,Tryz.ntmps154
 go_wp2_with fail
 refine wp_region_still_tail 25 (by kernel_rfl) (by kernel_rfl) ?_
 simp only [List.take_succ_cons,List.take_zero,List.drop_succ_cons,List.drop_zero,World.drew_eq]
 iterate 25 still_step
 refine wpStill_nil ?_
 go_wp2_with fail
 go_returns
 unfold MPost
 rw [if_neg HN.out]
 exact⟨rfl,((zs9 _ _).alloc (zr4 _) _).drew⟩
def Wd (w:World) (mb:Nat):Prop:=∃ es clock,w.heap[mb]?=some (.map es clock)∧∀ (W:World) (t:ByteArray),W.heap[mb]?=some (.map es clock) →
 (Instr.lookup 116 (.map (some mb)) (.string t) true).run Tryz.prog W = .ok (.tuple #[.int .i64 (if LX.words.contains (bts t) then 5 else 0),.bool (LX.words.contains (bts t))]) W
def TPost (w:World) (s:ByteArray) (i:Nat):LX.TR→Ending→World→Prop
 | .tok k v n,e,w'=>e = .returned (tokV k v (s.extract i (i+n)) i)∧Below w.heap.size w w'
 | .bad er,e,w'=>e=thrown i er∧Below w.heap.size w w'
theorem nameLen_eq (s:ByteArray) (i n:Nat) (hn:n=LX.run LX.part ((bts s).drop i)) :
  LX.nameLen ((bts s).drop i)=if (bts s).getD (i+n) 0=39∧0<LX.run LX.digit ((bts s).drop (i+(n+1))) then n+1+LX.run LX.digit ((bts s).drop (i+(n+1))) else n:=by
 unfold LX.nameLen
 rw [← hn]
 simp only [List.drop_drop]
 cases h:(bts s).drop (i+n) with
 | nil =>
  have hl:(bts s).length≤i+n:=List.drop_eq_nil_iff.1 h
  have e:(bts s).getD (i+n) 0=0:=by rw [zt4,List.getElem?_eq_none hl];rfl
  rw [if_neg (by rw [e];simp)]
 | cons c t =>
  have hl:i+n<(bts s).length:=by
   rcases Nat.lt_or_ge (i+n) (bts s).length with h2 | h2
   ·exact h2
   rw [List.drop_of_length_le h2] at h;cases h
  rw [List.drop_eq_getElem_cons hl] at h
  simp only [List.cons.injEq] at h
  obtain⟨h1,h2⟩:=h
  have e:(bts s).getD (i+n) 0=c:=by rw [zt4,zq9 hl,← h1];rfl
  rw [e,show i+(n+1)=i+n+1 from by omega,h2]
theorem zt {fn:Func}{p:Tmp}{ty:TypeId}(h:fn.results = #[.cell p ty]) (tmps:Array Value) (P:Program) (w:World) :
  (results fn tmps).run P w=((asAddr (tmps.getD p undef)).run P w).andThen fun a w₁=>(loadVar ty a).run P w₁:=by
 simp only [results,h]
 simp [Sem.run_bind,Result.andThen]
theorem load39 {w:World}{b:Nat}{k v:Int}{t:ByteArray}{p:Int}(h:w.heap[b]?=some (.cells #[.int .i64 k,.int .i64 v,.string t,.int .i64 p] 154 (0,0))):(loadVar 154 ⟨b,0,none⟩).run Tryz.prog w = .ok (tokV k v t p) w:=by
 have h0:w.cell? ⟨b,0,none⟩=some (.int .i64 k):=by rw [zb _ _ 0 _ _ _ h];rfl
 have h1:w.cell? ⟨b,1,none⟩=some (.int .i64 v):=by rw [zb _ _ 1 _ _ _ h];rfl
 have h2:w.cell? ⟨b,2,none⟩=some (.string t):=by rw [zb _ _ 2 _ _ _ h];rfl
 have h3:w.cell? ⟨b,3,none⟩=some (.int .i64 p):=by rw [zb _ _ 3 _ _ _ h];rfl
 simp [loadVar,go_sem,h0,h1,h2,h3,tokV]
theorem four_set {w:World}{b:Nat}{x0 x1 x2 x3:Value}{T:TypeId}(h:w.heap[b]?=some (.cells #[x0,x1,x2,x3] T (0,0))) (u0 u1 u2 u3:Value) :
  ((((w.setCell ⟨b,0,none⟩ u0).setCell ⟨b,1,none⟩ u1).setCell ⟨b,2,none⟩ u2).setCell ⟨b,3,none⟩ u3).heap[b]?=some (.cells #[u0,u1,u2,u3] T (0,0)):=by
 have h1:=heap_setCell_same w b 0 _ _ u0 h
 have h2:=heap_setCell_same _ b 1 _ _ u1 h1
 have h3:=heap_setCell_same _ b 2 _ _ u2 h2
 have h4:=heap_setCell_same _ b 3 _ _ u3 h3
 exact h4
theorem below_drawn {B:Nat}{w w':World}(h:Below B w w') (m:Nat):Below B w (w'.drewN m):=⟨h.os,h.tape,h.output,h.size,h.block⟩
theorem zu {B m:Nat}{w w':World}(h:Below B (w.drewN m) w'):Below B w w':=⟨h.os,h.tape,h.output,h.size,h.block⟩
theorem name_any {w:World}{b:Nat}{s:ByteArray}{i mb:Nat}{cv:Value}(h:Sc w b s i mb cv) (hw:Wd w mb) (hmb:mb≠b) (k:Nat) (hk:k≤5) (hi:i<s.size) :
  Calls Tryz.prog 152 #[.pointer (some ⟨b,0,none⟩),.int .i64 k] w (TPost w s i (LX.named k ((bts s).drop i))):=by
 obtain⟨c0,c1,lt,le,sz⟩:=h.at'
 obtain⟨r,hr⟩:∃ r,r=LX.named k ((bts s).drop i):=⟨_,rfl⟩
 rw [← hr]
 obtain⟨n,hn⟩:∃ n,n=LX.run LX.part ((bts s).drop i):=⟨_,rfl⟩
 obtain⟨c,hc⟩:∃ c,c=(bts s).getD (i+n) 0:=⟨_,rfl⟩
 obtain⟨d,hd⟩:∃ d,d=LX.run LX.digit ((bts s).drop (i+(n+1))):=⟨_,rfl⟩
 have hnl:=nameLen_eq s i n hn
 rw [← hc,← hd] at hnl
 have hns:i+n≤s.size:=by
  have:=run_le LX.part ((bts s).drop i)
  rw [List.length_drop,ze] at this
  omega
 have hds:0<d→i+(n+1)+d≤s.size:=fun h0=>by
  have:=run_le LX.digit ((bts s).drop (i+(n+1)))
  rw [List.length_drop,ze,← hd] at this
  omega
 have ATW:Hid (∀ W:World,W.heap[b]?=w.heap[b]?→At W b s i):=fun W e=>⟨by rw [World.cell?_of_block (w:=w) e];exact c0,by rw [World.cell?_of_block (w:=w) e];exact c1,by
  rw [h.1] at e;exact(zq7.1 e).1,le,sz⟩
 have SCW:Hid (∀ W:World,W.heap[b]?=w.heap[b]?→Sc W b s i mb cv):=fun W e=>⟨e.trans h.1,h.2⟩
 have HW:=zh hw
 have HN:=zh hn
 have HC:=zh hc
 have HD:=zh hd
 have HNL:=zh hnl
 have HR:=zh hr
 have HNS:=zh hns
 have HDS:=zh hds
 have hnz:(i:Int)+(n:Int)≤400000:=by omega
 have hn0:(n:Int)≤400000:=by omega
 clear hw hn hc hd hnl hr hns hds c0 c1 le h
 go_enter Tryz.func152,Tryz.ntmps152
 go_wp2_with fail
 obtain⟨z,hz⟩:∃ z,z=w.heap.size:=⟨_,rfl⟩
 obtain⟨W0,hW0⟩:∃ W,W=w.alloc (.cells #[.int .i64 0,.int .i64 0,.string ⟨#[]⟩,.int .i64 0] 154):=⟨_,rfl⟩
 rw [← hW0,← hz]
 have B0:Hid (W0.heap[b]?=w.heap[b]?):=by rw [hW0];exact zt2 _ _ _ lt
 have B1:Hid (W0.heap[z]?=some (.cells #[.int .i64 0,.int .i64 0,.string ⟨#[]⟩,.int .i64 0] 154 (0,0))):=by rw [hW0,hz];exact zs2 w _
 have B2:Hid (Below w.heap.size w W0):=by rw [hW0];exact(zs9 _ _).alloc (zr4 _) _
 have B3:Hid (z<W0.heap.size):=(zq7.1 B1.out).1
 have B4:=zh hz
 clear hz hW0
 refine(run_part (ATW.out W0 B0.out) 0 (by decide)).mono ?_
 rintro e w1 ⟨rfl,q1,rfl⟩
 rw [Nat.add_zero,← HN.out]
 go_wp2_with fail
 refine(peek_any (ATW.out (W0.drewN q1) B0.out) n (by have:=HNS.out;omega)).mono ?_
 rintro e w2 ⟨rfl,q2,rfl⟩
 rw [← HC.out]
 by_cases hc39:c=39
 ·have hcz:(c:Int)=39:=by omega
  have hcb:((c:Int)==39)=true:=by simp [hcz]
  have HC3:=zh hc39
  clear hc39 hcz
  go_wp2_with fail
  have RD:=run_digit (ATW.out (W0.drewN (q1+q2)) B0.out) (n+1) (by have:=HNS.out;omega)
  rw [← HD.out,show ((n+1:Nat):Int)=(n:Int)+1 from by push_cast;rfl] at RD
  refine RD.mono ?_
  clear RD
  rintro e w3 ⟨rfl,q3,rfl⟩
  by_cases hd0:0<d
  ·have NL:Hid (LX.nameLen ((bts s).drop i)=n+1+d):=by show _=_;rw [HNL.out,if_pos ⟨HC3.out,hd0⟩]
   have NS:Hid (i+(n+1+d)≤s.size):=by have:=HDS.out hd0;show _≤_;omega
   have hdz:(0:Int)<(d:Int):=by omega
   have hdm:(n:Int)+(d:Int)≤400000:=by have:=NS.out;omega
   clear hd0
   go_wp2_with fail
   have MD:=made_any (SCW.out (W0.drewN (q1+q2+q3)) B0.out) k (n+1+d) NS.out
   rw [show ((n+1+d:Nat):Int)=(n:Int)+(1+(d:Int)) from by push_cast;omega] at MD
   refine MD.mono ?_
   clear MD
   intro e w' hm
   unfold MPost at hm
   by_cases h24:24<n+1+d
   ·rw [if_pos h24] at hm
    obtain⟨rfl,hb⟩:=hm
    unfold thrown
    go_wp2_with fail
    refine⟨rfl,?_⟩
    have er:r = .bad 2:=by rw [HR.out];unfold LX.named;rw [NL.out];unfold LX.made;rw [if_pos h24]
    rw [er]
    exact⟨rfl,B2.out.trans ((zu hb).mono B2.out.size)⟩
   rw [if_neg h24] at hm
   obtain⟨rfl,hb⟩:=hm
   unfold tokV
   have hb2:Below W0.heap.size W0 w':=zu hb
   have b1:w'.heap[z]?=some (.cells #[.int .i64 0,.int .i64 0,.string ⟨#[]⟩,.int .i64 0] 154 (0,0)):=(hb2.block z B3.out).trans B1.out
   have b2:w'.heap[b]?=w.heap[b]?:=(hb2.block b (zt5 lt B2.out.size)).trans B0.out
   have M2:w'.cell? ⟨b,2,none⟩=some (.map (some mb)):=by rw [zb w' b 2 _ _ _ (b2.trans (SCW.out w rfl).1)];rfl
   have y0:w'.cell? ⟨z,0,none⟩=some (.int .i64 0):=by rw [zb w' z 0 _ _ _ b1];rfl
   have y1:w'.cell? ⟨z,1,none⟩=some (.int .i64 0):=by rw [zb w' z 1 _ _ _ b1];rfl
   have y2:w'.cell? ⟨z,2,none⟩=some (.string ⟨#[]⟩):=by rw [zb w' z 2 _ _ _ b1];rfl
   have y3:w'.cell? ⟨z,3,none⟩=some (.int .i64 0):=by rw [zb w' z 3 _ _ _ b1];rfl
   have yf:∀ q,w'.frozen? ⟨z,q,none⟩=false:=fun q=>zs1 w' z q _ _ b1
   have yl:z<w'.heap.size:=(zq7.1 b1).1
   have bl:b<w'.heap.size:=zt5 lt (zr5 B2.out.size hb2.size)
   obtain⟨es,clock,hm1,hm2⟩:=HW.out
   have hml:mb<w.heap.size:=(zq7.1 hm1).1
   have hlk:∀ m,(Instr.lookup 116 (.map (some mb)) (.string (s.extract i (i+(n+1+d)))) true).run Tryz.prog ((w'.alloc (.cells #[.int .i64 k,.int .i64 0,.string (s.extract i (i+(n+1+d))),.int .i64 i] 154)).drewN m) =
     .ok (.tuple #[.int .i64 (if LX.words.contains (bts (s.extract i (i+(n+1+d)))) then 5 else 0),.bool (LX.words.contains (bts (s.extract i (i+(n+1+d)))))]) ((w'.alloc (.cells #[.int .i64 k,.int .i64 0,.string (s.extract i (i+(n+1+d))),.int .i64 i] 154)).drewN m):=fun m =>
    hm2 _ _ ((zt2 w' _ mb (zt5 hml (zr5 B2.out.size hb2.size))).trans ((hb2.block mb (zt5 hml B2.out.size)).trans ((B2.out.block mb hml).trans hm1)))
   obtain⟨tx,htx⟩:∃ t,t=s.extract i (i+(n+1+d)):=⟨_,rfl⟩
   rw [← htx] at hlk ⊢
   have X1:=zh hb2
   have X2:=zh b1
   have X3:=zh htx
   have X4:=zh h24
   clear hb2 b1 b2 hb hm1 hm2 hml htx h24
   cases hcw:LX.words.contains (bts tx) with
   | true =>
    rw [hcw] at hlk
    simp only [if_true] at hlk
    have X5:=zh hcw
    clear hcw
    go_wp2_with fail
    go_quiet (fail)
    go_wp2_with fail
    have wt:LX.words.contains (((bts s).drop i).take (n+1+d))=true:=by
     have e:bts tx=((bts s).drop i).take (n+1+d):=by rw [X3.out,bts_extract,Nat.add_sub_cancel_left]
     rw [← e];exact X5.out
    have er:r = .tok 5 0 (n+1+d):=by
     rw [HR.out];unfold LX.named;rw [NL.out];unfold LX.made;rw [if_neg X4.out]
     simp only [wt]
     rfl
    have zl:z<w'.heap.size:=yl
    have hv:(((w'.alloc (.cells #[.int .i64 k,.int .i64 0,.string tx,.int .i64 i] 154)).drewN nq).setCell ⟨w'.heap.size,0,none⟩ (.int .i64 5)).heap[z]?=some (.cells #[.int .i64 0,.int .i64 0,.string ⟨#[]⟩,.int .i64 0] 154 (0,0)):=by
     rw [zt1 _ _ _ _ (by show z≠w'.heap.size;omega)];exact(zt2 w' _ z zl).trans X2.out
    have hf:=four_set hv (.int .i64 5) (.int .i64 0) (.string tx) (.int .i64 i)
    have hbel:Below w.heap.size w (((w'.alloc (.cells #[.int .i64 k,.int .i64 0,.string tx,.int .i64 i] 154)).drewN nq).setCell ⟨w'.heap.size,0,none⟩ (.int .i64 5)):=by
     have h1:=below_drawn ((B2.out.trans (X1.out.mono B2.out.size)).alloc (zr5 B2.out.size X1.out.size) (.cells #[.int .i64 k,.int .i64 0,.string tx,.int .i64 i] 154)) nq
     exact h1.setCell (p:=⟨w'.heap.size,0,none⟩) (zr5 B2.out.size X1.out.size) _
    have hzb:w.heap.size≤z:=Nat.le_of_eq B4.out.symm
    refine bodyPost_ret (v:=tokV 5 0 tx i) (by rw [zt rfl];simp [asAddr,load39 hf]) rfl ?_
    have hfin:=(((hbel.setCell (p:=⟨z,0,none⟩) hzb (.int .i64 5)).setCell (p:=⟨z,1,none⟩) hzb (.int .i64 0)).setCell (p:=⟨z,2,none⟩) hzb (.string tx)).setCell (p:=⟨z,3,none⟩) hzb (.int .i64 i)
    rw [er]
    exact⟨by rw [X3.out];try rfl,hfin⟩
   | false =>
    rw [hcw] at hlk
    simp only [Bool.false_eq_true,if_false] at hlk
    have X5:=zh hcw
    clear hcw
    go_wp2_with fail
    go_quiet (fail)
    go_wp2_with fail
    have wt:LX.words.contains (((bts s).drop i).take (n+1+d))=false:=by
     have e:bts tx=((bts s).drop i).take (n+1+d):=by rw [X3.out,bts_extract,Nat.add_sub_cancel_left]
     rw [← e];exact X5.out
    have er:r = .tok k 0 (n+1+d):=by
     rw [HR.out];unfold LX.named;rw [NL.out];unfold LX.made;rw [if_neg X4.out]
     simp only [wt]
     rfl
    have zl:z<w'.heap.size:=yl
    have hv:((w'.alloc (.cells #[.int .i64 k,.int .i64 0,.string tx,.int .i64 i] 154)).drewN nq).heap[z]?=some (.cells #[.int .i64 0,.int .i64 0,.string ⟨#[]⟩,.int .i64 0] 154 (0,0)):=by
     exact(zt2 w' _ z zl).trans X2.out
    have hf:=four_set hv (.int .i64 k) (.int .i64 0) (.string tx) (.int .i64 i)
    have hbel:Below w.heap.size w ((w'.alloc (.cells #[.int .i64 k,.int .i64 0,.string tx,.int .i64 i] 154)).drewN nq):=by
     have h1:=below_drawn ((B2.out.trans (X1.out.mono B2.out.size)).alloc (zr5 B2.out.size X1.out.size) (.cells #[.int .i64 k,.int .i64 0,.string tx,.int .i64 i] 154)) nq
     exact h1
    have hzb:w.heap.size≤z:=Nat.le_of_eq B4.out.symm
    refine bodyPost_ret (v:=tokV k 0 tx i) (by rw [zt rfl];simp [asAddr,load39 hf]) rfl ?_
    have hfin:=(((hbel.setCell (p:=⟨z,0,none⟩) hzb (.int .i64 k)).setCell (p:=⟨z,1,none⟩) hzb (.int .i64 0)).setCell (p:=⟨z,2,none⟩) hzb (.string tx)).setCell (p:=⟨z,3,none⟩) hzb (.int .i64 i)
    rw [er]
    exact⟨by rw [X3.out];try rfl,hfin⟩
  have NL:Hid (LX.nameLen ((bts s).drop i)=n):=by show _=_;rw [HNL.out,if_neg fun h=>hd0 h.2]
  have NS:=HNS
  have hdz:¬ (0:Int)<(d:Int):=by omega
  have hdz2:(d:Int)=0:=by omega
  clear hd0
  go_wp2_with fail
  have MD:=made_any (SCW.out (W0.drewN (q1+q2+q3)) B0.out) k (n) NS.out
  refine MD.mono ?_
  clear MD
  intro e w' hm
  unfold MPost at hm
  by_cases h24:24<n
  ·rw [if_pos h24] at hm
   obtain⟨rfl,hb⟩:=hm
   unfold thrown
   go_wp2_with fail
   refine⟨rfl,?_⟩
   have er:r = .bad 2:=by rw [HR.out];unfold LX.named;rw [NL.out];unfold LX.made;rw [if_pos h24]
   rw [er]
   exact⟨rfl,B2.out.trans ((zu hb).mono B2.out.size)⟩
  rw [if_neg h24] at hm
  obtain⟨rfl,hb⟩:=hm
  unfold tokV
  have hb2:Below W0.heap.size W0 w':=zu hb
  have b1:w'.heap[z]?=some (.cells #[.int .i64 0,.int .i64 0,.string ⟨#[]⟩,.int .i64 0] 154 (0,0)):=(hb2.block z B3.out).trans B1.out
  have b2:w'.heap[b]?=w.heap[b]?:=(hb2.block b (zt5 lt B2.out.size)).trans B0.out
  have M2:w'.cell? ⟨b,2,none⟩=some (.map (some mb)):=by rw [zb w' b 2 _ _ _ (b2.trans (SCW.out w rfl).1)];rfl
  have y0:w'.cell? ⟨z,0,none⟩=some (.int .i64 0):=by rw [zb w' z 0 _ _ _ b1];rfl
  have y1:w'.cell? ⟨z,1,none⟩=some (.int .i64 0):=by rw [zb w' z 1 _ _ _ b1];rfl
  have y2:w'.cell? ⟨z,2,none⟩=some (.string ⟨#[]⟩):=by rw [zb w' z 2 _ _ _ b1];rfl
  have y3:w'.cell? ⟨z,3,none⟩=some (.int .i64 0):=by rw [zb w' z 3 _ _ _ b1];rfl
  have yf:∀ q,w'.frozen? ⟨z,q,none⟩=false:=fun q=>zs1 w' z q _ _ b1
  have yl:z<w'.heap.size:=(zq7.1 b1).1
  have bl:b<w'.heap.size:=zt5 lt (zr5 B2.out.size hb2.size)
  obtain⟨es,clock,hm1,hm2⟩:=HW.out
  have hml:mb<w.heap.size:=(zq7.1 hm1).1
  have hlk:∀ m,(Instr.lookup 116 (.map (some mb)) (.string (s.extract i (i+(n)))) true).run Tryz.prog ((w'.alloc (.cells #[.int .i64 k,.int .i64 0,.string (s.extract i (i+(n))),.int .i64 i] 154)).drewN m) =
    .ok (.tuple #[.int .i64 (if LX.words.contains (bts (s.extract i (i+(n)))) then 5 else 0),.bool (LX.words.contains (bts (s.extract i (i+(n)))))]) ((w'.alloc (.cells #[.int .i64 k,.int .i64 0,.string (s.extract i (i+(n))),.int .i64 i] 154)).drewN m):=fun m =>
   hm2 _ _ ((zt2 w' _ mb (zt5 hml (zr5 B2.out.size hb2.size))).trans ((hb2.block mb (zt5 hml B2.out.size)).trans ((B2.out.block mb hml).trans hm1)))
  obtain⟨tx,htx⟩:∃ t,t=s.extract i (i+(n)):=⟨_,rfl⟩
  rw [← htx] at hlk ⊢
  have X1:=zh hb2
  have X2:=zh b1
  have X3:=zh htx
  have X4:=zh h24
  clear hb2 b1 b2 hb hm1 hm2 hml htx h24
  cases hcw:LX.words.contains (bts tx) with
  | true =>
   rw [hcw] at hlk
   simp only [if_true] at hlk
   have X5:=zh hcw
   clear hcw
   go_wp2_with fail
   go_quiet (fail)
   go_wp2_with fail
   have wt:LX.words.contains (((bts s).drop i).take (n))=true:=by
    have e:bts tx=((bts s).drop i).take (n):=by rw [X3.out,bts_extract,Nat.add_sub_cancel_left]
    rw [← e];exact X5.out
   have er:r = .tok 5 0 (n):=by
    rw [HR.out];unfold LX.named;rw [NL.out];unfold LX.made;rw [if_neg X4.out]
    simp only [wt]
    rfl
   have zl:z<w'.heap.size:=yl
   have hv:(((w'.alloc (.cells #[.int .i64 k,.int .i64 0,.string tx,.int .i64 i] 154)).drewN nq).setCell ⟨w'.heap.size,0,none⟩ (.int .i64 5)).heap[z]?=some (.cells #[.int .i64 0,.int .i64 0,.string ⟨#[]⟩,.int .i64 0] 154 (0,0)):=by
    rw [zt1 _ _ _ _ (by show z≠w'.heap.size;omega)];exact(zt2 w' _ z zl).trans X2.out
   have hf:=four_set hv (.int .i64 5) (.int .i64 0) (.string tx) (.int .i64 i)
   have hbel:Below w.heap.size w (((w'.alloc (.cells #[.int .i64 k,.int .i64 0,.string tx,.int .i64 i] 154)).drewN nq).setCell ⟨w'.heap.size,0,none⟩ (.int .i64 5)):=by
    have h1:=below_drawn ((B2.out.trans (X1.out.mono B2.out.size)).alloc (zr5 B2.out.size X1.out.size) (.cells #[.int .i64 k,.int .i64 0,.string tx,.int .i64 i] 154)) nq
    exact h1.setCell (p:=⟨w'.heap.size,0,none⟩) (zr5 B2.out.size X1.out.size) _
   have hzb:w.heap.size≤z:=Nat.le_of_eq B4.out.symm
   refine bodyPost_ret (v:=tokV 5 0 tx i) (by rw [zt rfl];simp [asAddr,load39 hf]) rfl ?_
   have hfin:=(((hbel.setCell (p:=⟨z,0,none⟩) hzb (.int .i64 5)).setCell (p:=⟨z,1,none⟩) hzb (.int .i64 0)).setCell (p:=⟨z,2,none⟩) hzb (.string tx)).setCell (p:=⟨z,3,none⟩) hzb (.int .i64 i)
   rw [er]
   exact⟨by rw [X3.out];try rfl,hfin⟩
  | false =>
   rw [hcw] at hlk
   simp only [Bool.false_eq_true,if_false] at hlk
   have X5:=zh hcw
   clear hcw
   go_wp2_with fail
   go_quiet (fail)
   go_wp2_with fail
   have wt:LX.words.contains (((bts s).drop i).take (n))=false:=by
    have e:bts tx=((bts s).drop i).take (n):=by rw [X3.out,bts_extract,Nat.add_sub_cancel_left]
    rw [← e];exact X5.out
   have er:r = .tok k 0 (n):=by
    rw [HR.out];unfold LX.named;rw [NL.out];unfold LX.made;rw [if_neg X4.out]
    simp only [wt]
    rfl
   have zl:z<w'.heap.size:=yl
   have hv:((w'.alloc (.cells #[.int .i64 k,.int .i64 0,.string tx,.int .i64 i] 154)).drewN nq).heap[z]?=some (.cells #[.int .i64 0,.int .i64 0,.string ⟨#[]⟩,.int .i64 0] 154 (0,0)):=by
    exact(zt2 w' _ z zl).trans X2.out
   have hf:=four_set hv (.int .i64 k) (.int .i64 0) (.string tx) (.int .i64 i)
   have hbel:Below w.heap.size w ((w'.alloc (.cells #[.int .i64 k,.int .i64 0,.string tx,.int .i64 i] 154)).drewN nq):=by
    have h1:=below_drawn ((B2.out.trans (X1.out.mono B2.out.size)).alloc (zr5 B2.out.size X1.out.size) (.cells #[.int .i64 k,.int .i64 0,.string tx,.int .i64 i] 154)) nq
    exact h1
   have hzb:w.heap.size≤z:=Nat.le_of_eq B4.out.symm
   refine bodyPost_ret (v:=tokV k 0 tx i) (by rw [zt rfl];simp [asAddr,load39 hf]) rfl ?_
   have hfin:=(((hbel.setCell (p:=⟨z,0,none⟩) hzb (.int .i64 k)).setCell (p:=⟨z,1,none⟩) hzb (.int .i64 0)).setCell (p:=⟨z,2,none⟩) hzb (.string tx)).setCell (p:=⟨z,3,none⟩) hzb (.int .i64 i)
   rw [er]
   exact⟨by rw [X3.out];try rfl,hfin⟩
 have hcb:¬ (c:Int)=39:=by omega
 have NL:Hid (LX.nameLen ((bts s).drop i)=n):=by show _=_;rw [HNL.out,if_neg fun h=>hc39 h.1]
 have NS:=HNS
 clear hc39
 go_wp2_with fail
 have MD:=made_any (SCW.out (W0.drewN (q1+q2)) B0.out) k (n) NS.out
 refine MD.mono ?_
 clear MD
 intro e w' hm
 unfold MPost at hm
 by_cases h24:24<n
 ·rw [if_pos h24] at hm
  obtain⟨rfl,hb⟩:=hm
  unfold thrown
  go_wp2_with fail
  refine⟨rfl,?_⟩
  have er:r = .bad 2:=by rw [HR.out];unfold LX.named;rw [NL.out];unfold LX.made;rw [if_pos h24]
  rw [er]
  exact⟨rfl,B2.out.trans ((zu hb).mono B2.out.size)⟩
 rw [if_neg h24] at hm
 obtain⟨rfl,hb⟩:=hm
 unfold tokV
 have hb2:Below W0.heap.size W0 w':=zu hb
 have b1:w'.heap[z]?=some (.cells #[.int .i64 0,.int .i64 0,.string ⟨#[]⟩,.int .i64 0] 154 (0,0)):=(hb2.block z B3.out).trans B1.out
 have b2:w'.heap[b]?=w.heap[b]?:=(hb2.block b (zt5 lt B2.out.size)).trans B0.out
 have M2:w'.cell? ⟨b,2,none⟩=some (.map (some mb)):=by rw [zb w' b 2 _ _ _ (b2.trans (SCW.out w rfl).1)];rfl
 have y0:w'.cell? ⟨z,0,none⟩=some (.int .i64 0):=by rw [zb w' z 0 _ _ _ b1];rfl
 have y1:w'.cell? ⟨z,1,none⟩=some (.int .i64 0):=by rw [zb w' z 1 _ _ _ b1];rfl
 have y2:w'.cell? ⟨z,2,none⟩=some (.string ⟨#[]⟩):=by rw [zb w' z 2 _ _ _ b1];rfl
 have y3:w'.cell? ⟨z,3,none⟩=some (.int .i64 0):=by rw [zb w' z 3 _ _ _ b1];rfl
 have yf:∀ q,w'.frozen? ⟨z,q,none⟩=false:=fun q=>zs1 w' z q _ _ b1
 have yl:z<w'.heap.size:=(zq7.1 b1).1
 have bl:b<w'.heap.size:=zt5 lt (zr5 B2.out.size hb2.size)
 obtain⟨es,clock,hm1,hm2⟩:=HW.out
 have hml:mb<w.heap.size:=(zq7.1 hm1).1
 have hlk:∀ m,(Instr.lookup 116 (.map (some mb)) (.string (s.extract i (i+(n)))) true).run Tryz.prog ((w'.alloc (.cells #[.int .i64 k,.int .i64 0,.string (s.extract i (i+(n))),.int .i64 i] 154)).drewN m) =
   .ok (.tuple #[.int .i64 (if LX.words.contains (bts (s.extract i (i+(n)))) then 5 else 0),.bool (LX.words.contains (bts (s.extract i (i+(n)))))]) ((w'.alloc (.cells #[.int .i64 k,.int .i64 0,.string (s.extract i (i+(n))),.int .i64 i] 154)).drewN m):=fun m =>
  hm2 _ _ ((zt2 w' _ mb (zt5 hml (zr5 B2.out.size hb2.size))).trans ((hb2.block mb (zt5 hml B2.out.size)).trans ((B2.out.block mb hml).trans hm1)))
 obtain⟨tx,htx⟩:∃ t,t=s.extract i (i+(n)):=⟨_,rfl⟩
 rw [← htx] at hlk ⊢
 have X1:=zh hb2
 have X2:=zh b1
 have X3:=zh htx
 have X4:=zh h24
 clear hb2 b1 b2 hb hm1 hm2 hml htx h24
 cases hcw:LX.words.contains (bts tx) with
 | true =>
  rw [hcw] at hlk
  simp only [if_true] at hlk
  have X5:=zh hcw
  clear hcw
  go_wp2_with fail
  go_quiet (fail)
  go_wp2_with fail
  have wt:LX.words.contains (((bts s).drop i).take (n))=true:=by
   have e:bts tx=((bts s).drop i).take (n):=by rw [X3.out,bts_extract,Nat.add_sub_cancel_left]
   rw [← e];exact X5.out
  have er:r = .tok 5 0 (n):=by
   rw [HR.out];unfold LX.named;rw [NL.out];unfold LX.made;rw [if_neg X4.out]
   simp only [wt]
   rfl
  have zl:z<w'.heap.size:=yl
  have hv:(((w'.alloc (.cells #[.int .i64 k,.int .i64 0,.string tx,.int .i64 i] 154)).drewN nq).setCell ⟨w'.heap.size,0,none⟩ (.int .i64 5)).heap[z]?=some (.cells #[.int .i64 0,.int .i64 0,.string ⟨#[]⟩,.int .i64 0] 154 (0,0)):=by
   rw [zt1 _ _ _ _ (by show z≠w'.heap.size;omega)];exact(zt2 w' _ z zl).trans X2.out
  have hf:=four_set hv (.int .i64 5) (.int .i64 0) (.string tx) (.int .i64 i)
  have hbel:Below w.heap.size w (((w'.alloc (.cells #[.int .i64 k,.int .i64 0,.string tx,.int .i64 i] 154)).drewN nq).setCell ⟨w'.heap.size,0,none⟩ (.int .i64 5)):=by
   have h1:=below_drawn ((B2.out.trans (X1.out.mono B2.out.size)).alloc (zr5 B2.out.size X1.out.size) (.cells #[.int .i64 k,.int .i64 0,.string tx,.int .i64 i] 154)) nq
   exact h1.setCell (p:=⟨w'.heap.size,0,none⟩) (zr5 B2.out.size X1.out.size) _
  have hzb:w.heap.size≤z:=Nat.le_of_eq B4.out.symm
  refine bodyPost_ret (v:=tokV 5 0 tx i) (by rw [zt rfl];simp [asAddr,load39 hf]) rfl ?_
  have hfin:=(((hbel.setCell (p:=⟨z,0,none⟩) hzb (.int .i64 5)).setCell (p:=⟨z,1,none⟩) hzb (.int .i64 0)).setCell (p:=⟨z,2,none⟩) hzb (.string tx)).setCell (p:=⟨z,3,none⟩) hzb (.int .i64 i)
  rw [er]
  exact⟨by rw [X3.out];try rfl,hfin⟩
 | false =>
  rw [hcw] at hlk
  simp only [Bool.false_eq_true,if_false] at hlk
  have X5:=zh hcw
  clear hcw
  go_wp2_with fail
  go_quiet (fail)
  go_wp2_with fail
  have wt:LX.words.contains (((bts s).drop i).take (n))=false:=by
   have e:bts tx=((bts s).drop i).take (n):=by rw [X3.out,bts_extract,Nat.add_sub_cancel_left]
   rw [← e];exact X5.out
  have er:r = .tok k 0 (n):=by
   rw [HR.out];unfold LX.named;rw [NL.out];unfold LX.made;rw [if_neg X4.out]
   simp only [wt]
   rfl
  have zl:z<w'.heap.size:=yl
  have hv:((w'.alloc (.cells #[.int .i64 k,.int .i64 0,.string tx,.int .i64 i] 154)).drewN nq).heap[z]?=some (.cells #[.int .i64 0,.int .i64 0,.string ⟨#[]⟩,.int .i64 0] 154 (0,0)):=by
   exact(zt2 w' _ z zl).trans X2.out
  have hf:=four_set hv (.int .i64 k) (.int .i64 0) (.string tx) (.int .i64 i)
  have hbel:Below w.heap.size w ((w'.alloc (.cells #[.int .i64 k,.int .i64 0,.string tx,.int .i64 i] 154)).drewN nq):=by
   have h1:=below_drawn ((B2.out.trans (X1.out.mono B2.out.size)).alloc (zr5 B2.out.size X1.out.size) (.cells #[.int .i64 k,.int .i64 0,.string tx,.int .i64 i] 154)) nq
   exact h1
  have hzb:w.heap.size≤z:=Nat.le_of_eq B4.out.symm
  refine bodyPost_ret (v:=tokV k 0 tx i) (by rw [zt rfl];simp [asAddr,load39 hf]) rfl ?_
  have hfin:=(((hbel.setCell (p:=⟨z,0,none⟩) hzb (.int .i64 k)).setCell (p:=⟨z,1,none⟩) hzb (.int .i64 0)).setCell (p:=⟨z,2,none⟩) hzb (.string tx)).setCell (p:=⟨z,3,none⟩) hzb (.int .i64 i)
  rw [er]
  exact⟨by rw [X3.out];try rfl,hfin⟩
end Lx
namespace Lx
open Go.RowKit
def wordBs:List ByteArray:=[⟨#[97,110,100]⟩,⟨#[99,97,115,101]⟩,⟨#[100,97,116,97]⟩,⟨#[101,108,115,101]⟩,⟨#[101,110,100]⟩,⟨#[102,110]⟩,⟨#[102,117,110]⟩,⟨#[105,102]⟩,⟨#[105,110]⟩,⟨#[105,110,112,117,116]⟩,⟨#[108,101,116]⟩,⟨#[111,102]⟩,⟨#[111,117,116,112,117,116]⟩,⟨#[116,104,101,110]⟩,⟨#[118,97,108]⟩]
def entsFrom:List ByteArray→Nat→List MapEntry
 | [],_=>[]
 | s :: t,i=>{ key := .string s,val := .int .i64 5,born:=i } :: entsFrom t (i+1)
def wordEs (k:Nat):Array MapEntry:=(entsFrom (wordBs.take k) 0).toArray
theorem find_ents (t:ByteArray):∀ (l:List ByteArray) (i n:Nat),∃ j,Instr.findNow .string (.string t) (entsFrom l i) n=some (if l.contains t then some (j,.int .i64 5) else none)
 | [],i,n=>⟨0,rfl⟩
 | s :: l,i,n=>by
  by_cases h:t=s
  ·subst h
   refine⟨n,?_⟩
   have hb:(t==t)=true:=(Go.MapKept.bytes_beq t t).2 rfl
   simp only [entsFrom,Instr.findNow,Instr.sameNow,List.contains_cons,hb,Bool.true_or,if_true]
  obtain⟨j,hj⟩:=find_ents t l (i+1) (n+1)
  refine⟨j,?_⟩
  have hb:(t==s)=false:=by
   cases hq:(t==s) with
   | false=>rfl
   | true=>exact absurd ((Go.MapKept.bytes_beq t s).1 hq) h
  simp only [entsFrom,Instr.findNow,Instr.sameNow,hb,hj]
  rw [List.contains_cons,hb,Bool.false_or]
theorem check_string (W:World) (t:ByteArray) (b:Bool):(Instr.checkKey b 10000 9 (.string t)).run Tryz.prog W = .ok () W:=by
 unfold Instr.checkKey
 simp only [Sem.run_bind,run_underlying Tryz.underlying9,Result.andThen_ok,Sem.run_pure]
theorem find_words (W:World) (t:ByteArray) (l:List ByteArray):∃ j,(Instr.findKey 9 (.string t) (entsFrom l 0)).run Tryz.prog W = .ok (if l.contains t then some (j,.int .i64 5) else none) W:=by
 obtain⟨j,hj⟩:=find_ents t l 0 0
 refine⟨j,?_⟩
 simp [Instr.findKey,go_sem,hj]
theorem zero3 (W:World):(zeroValue 3).run Tryz.prog W = .ok (.int .i64 0) W:=by kernel_rfl
theorem look_words (W:World) (mb k:Nat) (t:ByteArray) (h:W.heap[mb]?=some (.map (wordEs k) k)) :
  (Instr.lookup 116 (.map (some mb)) (.string t) true).run Tryz.prog W = .ok (.tuple #[.int .i64 (if (wordBs.take k).contains t then 5 else 0),.bool ((wordBs.take k).contains t)]) W:=by
 obtain⟨j,hj⟩:=find_words W t (wordBs.take k)
 have hg:(getObj mb).run Tryz.prog W = .ok (.map (wordEs k) k) W:=by simp [getObj,Sem.run,h]
 have hc:=check_string W t (wordEs k).isEmpty
 have hz:=zero3 W
 have hl:(wordEs k).toList=entsFrom (wordBs.take k) 0:=rfl
 cases hcon:(wordBs.take k).contains t with
 | true =>
  rw [hcon] at hj
  simp [Instr.lookup,go_sem,hg,hc,hl,hj,Result.andThen]
 | false =>
  rw [hcon] at hj
  simp [Instr.lookup,go_sem,hg,hc,hl,hj,hz,Result.andThen]
theorem entsFrom_append (a:List ByteArray) (x:ByteArray) (i:Nat):entsFrom (a++[x]) i=entsFrom a i++[{ key := .string x,val := .int .i64 5,born:=i+a.length }]:=by
 induction a generalizing i with
 | nil=>rfl
 | cons s a ih =>
  simp only [List.cons_append,entsFrom,ih,zv2]
  rw [show i+1+a.length=i+(a.length+1) from by omega]
theorem store_word (W:World) (mb k:Nat) (x:ByteArray) (h:W.heap[mb]?=some (.map (wordEs k) k)) (hk:k<15) (hx:wordBs[k]?=some x) :
  (Instr.mapUpdate 116 (.map (some mb)) (.string x) (.int .i64 5)).run Tryz.prog W = .ok () (W.putObj mb (.map (wordEs (k+1)) (k+1))):=by
 obtain⟨j,hj⟩:=find_words W x (wordBs.take k)
 have hn:(wordBs.take k).contains x=false:=by
  have h15:∀ i:Fin 15,(wordBs.take i.1).contains (wordBs.getD i.1 default)=false:=by decide +kernel
  have:=h15 ⟨k,hk⟩
  rw [zt4,hx] at this
  exact this
 rw [hn] at hj
 have hg:(getObj mb).run Tryz.prog W = .ok (.map (wordEs k) k) W:=by simp [getObj,Sem.run,h]
 have hc:=check_string W x false
 have hl:(wordEs k).toList=entsFrom (wordBs.take k) 0:=rfl
 have hs:(setObj mb (.map (wordEs (k+1)) (k+1))).run Tryz.prog W = .ok () (W.putObj mb (.map (wordEs (k+1)) (k+1))):=by simp [setObj,Sem.run,h,World.putObj]
 have hp:(wordEs k).push { key := .string x,val := .int .i64 5,born:=k }=wordEs (k+1):=by
  have ht:wordBs.take (k+1)=wordBs.take k++[x]:=by
   rw [List.take_add_one,hx];rfl
  unfold wordEs
  rw [ht,entsFrom_append,List.push_toArray]
  have hlen:(wordBs.take k).length=k:=by
   rw [List.length_take];exact Nat.min_eq_left (Nat.le_of_lt (by simpa [wordBs] using hk))
  rw [hlen,Nat.zero_add]
 simp [Instr.mapUpdate,go_sem,hg,hc,hl,hj,Result.andThen,hp,hs]
theorem word_at (W:World) (k:Nat) (x:ByteArray) (hx:wordBs[k]?=some x):(Instr.index 223 (.agg (wordBs.map Value.string).toArray) (.int .i64 k)).run Tryz.prog W = .ok (.string x) W:=by
 have hk:k<15:=by
  rcases Nat.lt_or_ge k 15 with h | h
  ·exact h
  rw [List.getElem?_eq_none (by simpa [wordBs] using h)] at hx;cases hx
 have e:x=wordBs.getD k default:=by rw [zt4,hx];rfl
 rw [e]
 clear e hx
 obtain h | h:k=0∨k≠0:=Decidable.em _
 ·subst h;refine Eq.trans ?_ rfl;kernel_rfl
 obtain h | h:k=1∨k≠1:=Decidable.em _
 ·subst h;refine Eq.trans ?_ rfl;kernel_rfl
 obtain h | h:k=2∨k≠2:=Decidable.em _
 ·subst h;refine Eq.trans ?_ rfl;kernel_rfl
 obtain h | h:k=3∨k≠3:=Decidable.em _
 ·subst h;refine Eq.trans ?_ rfl;kernel_rfl
 obtain h | h:k=4∨k≠4:=Decidable.em _
 ·subst h;refine Eq.trans ?_ rfl;kernel_rfl
 obtain h | h:k=5∨k≠5:=Decidable.em _
 ·subst h;refine Eq.trans ?_ rfl;kernel_rfl
 obtain h | h:k=6∨k≠6:=Decidable.em _
 ·subst h;refine Eq.trans ?_ rfl;kernel_rfl
 obtain h | h:k=7∨k≠7:=Decidable.em _
 ·subst h;refine Eq.trans ?_ rfl;kernel_rfl
 obtain h | h:k=8∨k≠8:=Decidable.em _
 ·subst h;refine Eq.trans ?_ rfl;kernel_rfl
 obtain h | h:k=9∨k≠9:=Decidable.em _
 ·subst h;refine Eq.trans ?_ rfl;kernel_rfl
 obtain h | h:k=10∨k≠10:=Decidable.em _
 ·subst h;refine Eq.trans ?_ rfl;kernel_rfl
 obtain h | h:k=11∨k≠11:=Decidable.em _
 ·subst h;refine Eq.trans ?_ rfl;kernel_rfl
 obtain h | h:k=12∨k≠12:=Decidable.em _
 ·subst h;refine Eq.trans ?_ rfl;kernel_rfl
 obtain h | h:k=13∨k≠13:=Decidable.em _
 ·subst h;refine Eq.trans ?_ rfl;kernel_rfl
 obtain h | h:k=14∨k≠14:=Decidable.em _
 ·subst h;refine Eq.trans ?_ rfl;kernel_rfl
 omega
end Lx
namespace Lx
open Go.RowKit
theorem index_not {a:UInt8}:∀ {l:List UInt8},a∉l→Lib.index l [a] = -1
 | [],_=>rfl
 | b :: l,h=>by
  have h1:¬ a=b:=fun e=>h (by rw [e];exact zr7)
  have h2:a∉l:=fun e=>h (zr8 _ e)
  unfold Lib.index
  rw [index_not h2,if_neg (by simp [List.isPrefixOf,h1])]
  rfl
theorem replace_not {a b:UInt8}{l:List UInt8}(h:a∉l):Lib.replace l [a] [b] 1=l:=by
 unfold Lib.replace
 split
 ·rfl
 generalize Lib.replaceNum l [a] 1=k
 cases k with
 | zero=>rfl
 | succ k=>unfold Lib.replaceK;rw [index_not h];rfl
theorem replace_head {a b:UInt8}(hab:a≠b) (l:List UInt8):Lib.replace (a :: l) [a] [b] 1=b :: l:=by
 have hi:Lib.index (a :: l) [a]=(0:Nat):=by
  unfold Lib.index
  rw [if_pos (by simp [List.isPrefixOf])]
  rfl
 have hc:=Lib.count_hit (sub:=[a]) (by simp) hi
 unfold Lib.replace
 rw [if_neg (by simpa using hab)]
 unfold Lib.replaceNum
 rw [if_neg (by omega)]
 show Lib.replaceK [a] [b] 1 (a :: l)=_
 rw [Lib.replaceK_hit [a] [b] 0 (a :: l) 0 hi]
 rfl
theorem dec_nat10:∀ (f u:Nat),1≤f→u<10 ^ f→(Lib.decDigits u).map UInt8.toNat=LX.nat10 f u
 | 0,_,h,_=>absurd h (by decide)
 | f+1,u,_,h=>by
  rw [Lib.decDigits,LX.nat10]
  by_cases h10:u<10
  ·rw [dif_pos h10,if_pos h10]
   simp only [List.map_cons,List.map_nil,UInt8.toNat_ofNat']
   rw [Nat.mod_eq_of_lt (by omega)]
  rw [dif_neg h10,if_neg h10,List.map_append]
  have hf:1≤f:=by
   rcases Nat.eq_zero_or_pos f with rfl | h0
   ·simp at h;omega
   exact h0
  rw [dec_nat10 f (u / 10) hf (by rw [Nat.pow_succ] at h;omega)]
  simp only [List.map_cons,List.map_nil,UInt8.toNat_ofNat']
  rw [Nat.mod_eq_of_lt (by omega)]
theorem dec_digit:∀ (u:Nat),∀ c∈Lib.decDigits u,48≤c.toNat∧c.toNat≤57:=fun u=>by
 induction u using Nat.strongRecOn with
 | ind u ih =>
  intro c hc
  rw [Lib.decDigits] at hc
  by_cases h10:u<10
  ·rw [dif_pos h10] at hc
   simp only [List.mem_singleton] at hc
   subst hc
   rw [UInt8.toNat_ofNat',Nat.mod_eq_of_lt (by omega)]
   omega
  rw [dif_neg h10,List.mem_append] at hc
  rcases hc with hc | hc
  ·exact ih (u / 10) (by omega) c hc
  simp only [List.mem_singleton] at hc
  subst hc
  rw [UInt8.toNat_ofNat',Nat.mod_eq_of_lt (by omega)]
  omega
theorem dec_ne (u:Nat):Lib.decDigits u≠[]:=by
 rw [Lib.decDigits]
 split<;>simp
theorem not_mem_dec {a:UInt8}(ha:¬ (48≤a.toNat∧a.toNat≤57)) (u:Nat):a∉Lib.decDigits u:=fun h=>ha (dec_digit u a h)
def digL (n:Int):List UInt8:=if n<0 then 126 :: Lib.decDigits n.natAbs else Lib.decDigits n.natAbs
theorem replace_itoa (n:Int):Lib.replace (Lib.itoa n) [45] [126] 1=digL n:=by
 unfold Lib.itoa digL
 by_cases h:n<0
 ·rw [if_pos h,if_pos h];exact replace_head (by decide) _
 rw [if_neg h,if_neg h,replace_not (not_mem_dec (by decide) _)]
 congr 1
 omega
theorem replace_digL (n:Int):Lib.replace (digL n) [126] [45] 1=Lib.itoa n:=by
 unfold Lib.itoa digL
 by_cases h:n<0
 ·rw [if_pos h,if_pos h];exact replace_head (by decide) _
 rw [if_neg h,if_neg h,replace_not (not_mem_dec (by decide) _)]
 congr 1
 omega
theorem digL_digs (n:Int) (h:n.natAbs<10 ^ 30):(digL n).map UInt8.toNat=LX.digs n:=by
 unfold digL LX.digs
 split
 ·rw [List.map_cons,dec_nat10 30 _ (by decide) h];rfl
 exact dec_nat10 30 _ (by decide) h
theorem parse_append (acc:Nat):∀ (l:List UInt8) (c:UInt8) (u:Nat),Lib.parseUint10 acc l = .ok u→48≤c.toNat∧c.toNat≤57→u*10+(c.toNat - 48)<18446744073709551616 →
  Lib.parseUint10 acc (l++[c]) = .ok (u*10+(c.toNat - 48)):=by
 intro l
 induction l generalizing acc with
 | nil =>
  intro c u h hc hu
  simp only [Lib.parseUint10] at h
  injection h with h
  subst h
  simp only [List.nil_append,Lib.parseUint10]
  rw [if_pos hc,if_neg (by omega),if_neg (by omega)]
 | cons x l ih =>
  intro c u h hc hu
  simp only [Lib.parseUint10,List.cons_append] at h ⊢
  split at h
  ·rename_i h1
   rw [if_pos h1]
   split at h
   ·cases h
   rename_i h2
   rw [if_neg h2]
   split at h
   ·cases h
   rename_i h3
   rw [if_neg h3]
   exact ih _ c u h hc hu
  cases h
theorem parse_dec:∀ (u:Nat),u<18446744073709551616→Lib.parseUint10 0 (Lib.decDigits u) = .ok u:=fun u=>by
 induction u using Nat.strongRecOn with
 | ind u ih =>
  intro hu
  rw [Lib.decDigits]
  by_cases h10:u<10
  ·rw [dif_pos h10]
   have e:(UInt8.ofNat (48+u)).toNat=48+u:=by rw [UInt8.toNat_ofNat',Nat.mod_eq_of_lt (by omega)]
   simp only [Lib.parseUint10,e]
   rw [if_pos (by omega),if_neg (by omega),if_neg (by omega)]
   congr 1
   omega
  rw [dif_neg h10]
  have e:(UInt8.ofNat (48+u % 10)).toNat=48+u % 10:=by rw [UInt8.toNat_ofNat',Nat.mod_eq_of_lt (by omega)]
  rw [parse_append 0 _ _ (u / 10) (ih (u / 10) (by omega) (by omega)) (by rw [e];omega) (by rw [e];omega),e]
  congr 1
  omega
theorem atoi_itoa (n:Int) (h0 : -9223372036854775808≤n) (h1:n≤9223372036854775807):Lib.atoiAll (Lib.itoa n) = .ok n:=by
 unfold Lib.itoa
 by_cases h:n<0
 ·rw [if_pos h]
  unfold Lib.atoiAll
  have hp:Lib.parseMag (Lib.decDigits n.natAbs) = .ok n.natAbs:=by
   unfold Lib.parseMag
   rw [if_neg (dec_ne _)]
   exact parse_dec _ (by omega)
  simp only [show ((45:UInt8).toNat=45)=True from by decide,or_true,if_true,hp,not_true,false_and,if_false,true_and]
  rw [if_neg (by omega)]
  congr 1
  omega
 rw [if_neg h]
 have hp:Lib.parseMag (Lib.decDigits n.toNat) = .ok n.toNat:=by
  unfold Lib.parseMag
  rw [if_neg (dec_ne _)]
  exact parse_dec _ (by omega)
 have hd:=dec_digit n.toNat
 unfold Lib.atoiAll
 generalize Lib.decDigits n.toNat=l at hp hd
 cases l with
 | nil=>unfold Lib.parseMag at hp;rw [if_pos rfl] at hp;cases hp
 | cons c r =>
  have hc:=hd c zr7
  have h45:¬ c.toNat=45:=by omega
  have h2:¬ 9223372036854775808≤n.toNat:=by omega
  have e:((n.toNat:Nat):Int)=n:=by omega
  have h43':¬ c.toNat=43:=by omega
  simp [h43',hp,h45,h2,e]
theorem mag_append (l:List Nat) (c:Nat):LX.mag (l++[c])=10*LX.mag l+(c - 48):=by
 unfold LX.mag
 rw [List.foldl_append]
 rfl
theorem mag_nat10:∀ (f u:Nat),1≤f→u<10 ^ f→LX.mag (LX.nat10 f u)=u
 | 0,_,h,_=>absurd h (by decide)
 | f+1,u,_,h=>by
  rw [LX.nat10]
  by_cases h10:u<10
  ·rw [if_pos h10];simp [LX.mag]
  rw [if_neg h10,mag_append]
  have hf:1≤f:=by
   rcases Nat.eq_zero_or_pos f with rfl | h0
   ·simp at h;omega
   exact h0
  rw [mag_nat10 f (u / 10) hf (by rw [Nat.pow_succ] at h;omega)]
  omega
theorem nat10_digit:∀ (f u:Nat),∀ c∈LX.nat10 f u,48≤c∧c≤57
 | 0,_,c,h=>by simp [LX.nat10] at h
 | f+1,u,c,h=>by
  rw [LX.nat10] at h
  by_cases h10:u<10
  ·rw [if_pos h10] at h
   simp only [List.mem_singleton] at h
   omega
  rw [if_neg h10,List.mem_append] at h
  rcases h with h | h
  ·exact nat10_digit f _ c h
  simp only [List.mem_singleton] at h
  omega
def numv (l:List Nat):Int:=match l with | 126 :: t => - (LX.mag t:Int) | _=>(LX.mag l:Int)
theorem num_numv (l:List Nat):LX.num l=if -9223372036854775808≤numv l∧numv l≤9223372036854775807∧LX.digs (numv l)=l then some (numv l) else none:=rfl
theorem numv_neg (t:List Nat):numv (126 :: t) = - (LX.mag t:Int):=rfl
theorem numv_pos {l:List Nat}(h:∀ c∈l,48≤c∧c≤57):numv l=(LX.mag l:Int):=by
 unfold numv
 split
 ·exact absurd (h 126 zr7) (by decide)
 rfl
theorem num_digs (n : Int) (h0 : -9223372036854775808 ≤ n) (h1 : n ≤ 9223372036854775807) : LX.num (LX.digs n) = some n := by
  have hn : n.natAbs < 10 ^ 30 := by have : (10 : Nat) ^ 30 = 1000000000000000000000000000000 := by decide
                                     omega
  have hm := mag_nat10 30 n.natAbs (by decide) hn
  have hv : numv (LX.digs n) = n := by
    unfold LX.digs
    by_cases h : n < 0
    · rw [if_pos h, numv_neg, hm]
      omega
    · rw [if_neg h, numv_pos (nat10_digit 30 n.natAbs), hm]
      omega
  rw [num_numv, hv, if_pos ⟨h0, h1, rfl⟩]
theorem num_some {l:List Nat}{v:Int}(h:LX.num l=some v) : -9223372036854775808≤v∧v≤9223372036854775807∧LX.digs v=l:=by
 rw [num_numv] at h
 by_cases hc : -9223372036854775808≤numv l∧numv l≤9223372036854775807∧LX.digs (numv l)=l
 ·rw [if_pos hc] at h
  injection h with h
  rw [h] at hc
  exact hc
 rw [if_neg hc] at h
 cases h
theorem bts_inj {s t:ByteArray}(h:bts s=bts t):s=t:=by
 have e:s.data.toList=t.data.toList:=List.map_inj_right (fun a b=>UInt8.toNat_inj.1) |>.1 h
 cases s with | mk a=>cases t with | mk b=>exact congrArg ByteArray.mk (Array.toList_inj.1 e)
def digS (n:Int):ByteArray:=⟨(digL n).toArray⟩
theorem bts_digS (n : Int) (h0 : -9223372036854775808 ≤ n) (h1 : n ≤ 9223372036854775807) : bts (digS n) = LX.digs n := by
  have hn : n.natAbs < 10 ^ 30 := by have : (10 : Nat) ^ 30 = 1000000000000000000000000000000 := by decide
                                     omega
  exact digL_digs n hn
theorem atoi_of_num {t:ByteArray}{v:Int}(h:LX.num (bts t)=some v):t=digS v∧Lib.atoiAll (Lib.replace t.data.toList [126] [45] 1) = .ok v:=by
 obtain⟨h0,h1,h2⟩:=num_some h
 have e:t=digS v:=bts_inj (by rw [bts_digS v h0 h1,h2])
 refine⟨e,?_⟩
 rw [e]
 show Lib.atoiAll (Lib.replace (digL v) [126] [45] 1)=_
 rw [replace_digL,atoi_itoa v h0 h1]
theorem ne_of_num {t:ByteArray}(h:LX.num (bts t)=none) (v:Int) (h0 : -9223372036854775808≤v) (h1:v≤9223372036854775807):digS v≠t:=fun e=>by
 rw [← e,bts_digS v h0 h1,num_digs v h0 h1] at h
 cases h
theorem atoi_range {l:List UInt8}{v:Int}(h:Lib.atoiAll l = .ok v) : -9223372036854775808≤v∧v≤9223372036854775807:=by
 unfold Lib.atoiAll at h
 cases l with
 | nil=>cases h
 | cons c r =>
  dsimp only at h
  split at h
  ·cases h
  ·cases h
  rename_i u hu
  split at h
  ·cases h
  split at h
  ·cases h
  injection h with h
  subst h
  split<;>constructor<;>omega
end Lx
namespace Lx
open Go.RowKit
def NPost (w:World) (s:ByteArray) (e:Ending) (w':World):Prop :=
 e = .returned (.pointer (some ⟨w.heap.size+1,0,none⟩))∧Sc w' (w.heap.size+1) s 0 w.heap.size (.slice none 0 0)∧Wd w' w.heap.size∧Below w.heap.size w w'∧w'.heap.size=w.heap.size+2
theorem words_bts:wordBs.map bts=LX.words:=by decide +kernel
theorem words_contains (t:ByteArray):(wordBs.take 15).contains t=LX.words.contains (bts t):=by
 rw [← words_bts,show wordBs.take 15=wordBs from rfl]
 generalize wordBs=l
 induction l with
 | nil=>rfl
 | cons a l ih =>
  rw [List.map_cons,List.contains_cons,List.contains_cons,ih]
  congr 1
  rw [Bool.eq_iff_iff,Go.MapKept.bytes_beq,beq_iff_eq]
  exact⟨fun h=>by rw [h],fun h=>bts_inj h⟩
theorem wd_of_words {w:World}{mb:Nat}(h:w.heap[mb]?=some (.map (wordEs 15) 15)):Wd w mb :=
 ⟨_,_,h,fun W t hW=>by
  have:=look_words W mb 15 t hW
  rw [words_contains] at this
  exact this⟩
structure NW (w wr:World) (s:ByteArray) (z k:Nat):Prop where
 map:wr.heap[z]?=some (.map (wordEs k) k)
 blk:wr.heap[z+1]?=some (.cells #[.string s,.int .i64 0,.map (some z),.slice none 0 0] 222 (0,0))
 below:Below z w wr
 size:wr.heap.size=z+2
theorem NW.store {w wr:World}{s:ByteArray}{z k:Nat}(h:NW w wr s z k) (hz:z=w.heap.size):NW w (wr.putObj z (.map (wordEs (k+1)) (k+1))) s z (k+1):=by
 have hlt:z<wr.heap.size:=(zq7.1 h.map).1
 refine⟨World.putObj_heap_same hlt,(World.putObj_heap_other (by omega)).trans h.blk,?_,by rw [World.putObj_size];exact h.size⟩
 exact⟨h.below.os,h.below.tape,h.below.output,by rw [World.putObj_size];exact h.below.size,fun k hk=>(World.putObj_heap_other (by omega)).trans (h.below.block k hk)⟩
theorem newScanner_any (w:World) (s:ByteArray) (hs:s.size≤400000):Calls Tryz.prog 137 #[.string s] w (NPost w s):=by
 have hmm := @run_makeMap Tryz.prog
 have HS:=zh hs
 clear hs
 go_enter Tryz.func137,Tryz.ntmps137
 go_wp2_with fail
 clear hmm
 obtain⟨A,hA⟩:∃ A,A=Value.agg #[Value.string { data := #[97,110,100] },Value.string { data := #[99,97,115,101] },Value.string { data := #[100,97,116,97] },Value.string { data := #[101,108,115,101] },Value.string { data := #[101,110,100] },Value.string { data := #[102,110] },Value.string { data := #[102,117,110] },Value.string { data := #[105,102] },Value.string { data := #[105,110] },Value.string { data := #[105,110,112,117,116] },Value.string { data := #[108,101,116] },Value.string { data := #[111,102] },Value.string { data := #[111,117,116,112,117,116] },Value.string { data := #[116,104,101,110] },Value.string { data := #[118,97,108] }]:=⟨_,rfl⟩
 rw [← hA]
 obtain⟨z,hz⟩:∃ z,z=w.heap.size:=⟨_,rfl⟩
 obtain⟨W0,hW0⟩:∃ W,W=(w.alloc (.map #[] 0)).alloc (.cells #[.string s,.int .i64 0,.map (some w.heap.size),.slice none 0 0] 222):=⟨_,rfl⟩
 rw [← hW0]
 have N0:Hid (NW w W0 s z 0):=by
  rw [hW0,hz]
  refine⟨?_,?_,((zs9 _ _).alloc (zr4 _) _).alloc (by simp) _,by simp⟩
  ·rw [zt2 _ _ _ (by simp)];exact zs2 w _
  have:=zs2 (w.alloc (.map #[] 0)) (.cells #[.string s,.int .i64 0,.map (some w.heap.size),.slice none 0 0] 222)
  rwa [World.size_alloc] at this
 rw [← hz]
 have HA:Hid (A=Value.agg (wordBs.map Value.string).toArray):=hA
 have HZ:=zh hz
 have HX:Hid (z=w.heap.size→∀ wr,NW w wr s z 15→NPost w s (.returned (.pointer (some ⟨z+1,0,none⟩))) wr):=by
  rintro rfl wr h
  exact⟨rfl,⟨h.blk,zv3 _,HS.out⟩,wd_of_words h.map,h.below,h.size⟩
 clear hA hz hW0
 go_loopw [12] (fun v wr=>∃ k:Nat,k≤15∧v = .int .i64 k∧NW w wr s z k) (fun v _=>15 - (intOf v).toNat)
 case atStart=>exact⟨0,by decide,rfl,N0.out⟩
 obtain⟨k,hk,rfl,hN⟩:=hrel
 by_cases hk15:k<15
 ·have hkz:(k:Int)<15:=by omega
  obtain⟨x,hx⟩:∃ x,wordBs[k]?=some x:=⟨_,zq9 (show k<wordBs.length from hk15)⟩
  have hi:(Instr.index 223 A (.int .i64 k)).run Tryz.prog wr = .ok (.string x) wr:=by rw [HA.out];exact word_at wr k x hx
  have hst:=store_word wr z k x hN.map hk15 hx
  have hc2:wr.cell? ⟨z+1,2,none⟩=some (.map (some z)):=by rw [zb _ _ 2 _ _ _ hN.blk];rfl
  have H1:=zh hN
  have H2:=zh hk15
  clear hN hk15 hx hk
  go_wp2_with fail
  go_roundw
  case rel=>exact⟨k+1,H2.out,by go_num,H1.out.store HZ.out⟩
  case measure=>have:=H2.out;simp [intOf];omega
 have hkz:(15:Int)≤(k:Int):=by omega
 have H1:Hid (NW w wr s z 15):=by
  obtain rfl:k=15:=by omega
  exact hN
 clear hN hk15 hk
 go_wp2_with fail
 go_ret
 exact HX.out HZ.out wr H1.out
end Lx
namespace Lx
open Go.RowKit
structure Env (w:World):Prop where
 tab:Lib.TabIs Tryz.prog w "internal/strconv.uint64pow10" .u64 Lib.pow10Tab
 max:∃ m,w.cell? ⟨0,0,none⟩=some (.int .i64 m)
 syn:∃ t p,w.cell? ⟨1,0,none⟩=some (.iface t p)
 rng:∃ t p,w.cell? ⟨2,0,none⟩=some (.iface t p)
 size:10≤w.heap.size
theorem Env.keep {w w':World}{B:Nat}(h:Env w) (hb:Below B w w') (hB:10≤B):Env w':=by
 obtain⟨g,hg,hg30⟩:∃ g,Tryz.prog.globalNamed "internal/strconv.uint64pow10" = some g∧g<10:=by
  have hk:((Tryz.prog.globalNamed "internal/strconv.uint64pow10").map fun g=>decide (g<10))=some true:=by kernel_rfl
  obtain⟨g,hg,hd⟩:=Option.map_eq_some_iff.1 hk
  exact⟨g,hg,of_decide_eq_true hd⟩
 exact⟨var?_below hb hg (by omega) h.tab,by rw [hb.cell (by show 0<B;omega)];exact h.max,by rw [hb.cell (by show 1<B;omega)];exact h.syn,by rw [hb.cell (by show 2<B;omega)];exact h.rng,zr5 h.size hb.size⟩
def NumPost (w:World) (t:ByteArray) (e:Ending) (w':World):Prop :=
 e = .returned (.tuple #[.int .i64 ((LX.num (bts t)).getD 0),.int .i64 (if (LX.num (bts t)).isSome then 0 else 13)])∧Below w.heap.size w w'
def NumLaw:Prop:=∀ (w:World) (t:ByteArray),Env w→t.size≤400000→Calls Tryz.prog 158 #[.string t] w (NumPost w t)
theorem number_eq (s:ByteArray) (i n d:Nat) (hd:d=n+LX.run LX.digit ((bts s).drop (i+n))) :
  LX.number ((bts s).drop i) n=match LX.num (((bts s).drop i).take d) with
   | none => .bad 13
   | some v=>if LX.part ((bts s).getD (i+d) 0)||(bts s).getD (i+d) 0==39 then .bad 13 else .tok 1 v d:=by
 unfold LX.number
 simp only [List.drop_drop]
 rw [← hd]
 cases LX.num (((bts s).drop i).take d) with
 | none=>rfl
 | some v =>
  simp only []
  cases h:(bts s).drop (i+d) with
  | nil =>
   have hl:(bts s).length≤i+d:=List.drop_eq_nil_iff.1 h
   have e:(bts s).getD (i+d) 0=0:=by rw [zt4,List.getElem?_eq_none hl];rfl
   rw [e]
   rfl
  | cons c t =>
   have hl:i+d<(bts s).length:=by
    rcases Nat.lt_or_ge (i+d) (bts s).length with h2 | h2
    ·exact h2
    rw [List.drop_of_length_le h2] at h;cases h
   rw [List.drop_eq_getElem_cons hl] at h
   simp only [List.cons.injEq] at h
   have e:(bts s).getD (i+d) 0=c:=by rw [zt4,zq9 hl,← h.1];rfl
   rw [e]
theorem number_any (NL:NumLaw) {w:World}{b:Nat}{s:ByteArray}{i mb:Nat}{cv:Value}(h:Sc w b s i mb cv) (henv:Env w) (hi:i<s.size) :
  Calls Tryz.prog 150 #[.pointer (some ⟨b,0,none⟩)] w (TPost w s i (LX.number ((bts s).drop i) (if (bts s).getD i 0=126 then 1 else 0))):=by
 obtain⟨c0,c1,lt,le,sz⟩:=h.at'
 obtain⟨c,hc⟩:∃ c,c=(bts s).getD i 0:=⟨_,rfl⟩
 rw [← hc]
 obtain⟨n,hn⟩:∃ n:Nat,n=if c=126 then 1 else 0:=⟨_,rfl⟩
 rw [← hn]
 obtain⟨r,hr⟩:∃ r,r=LX.number ((bts s).drop i) n:=⟨_,rfl⟩
 rw [← hr]
 obtain⟨d1,hd1⟩:∃ d1,d1=LX.run LX.digit ((bts s).drop (i+n)):=⟨_,rfl⟩
 obtain⟨x,hx⟩:∃ x,x=(bts s).getD (i+(n+d1)) 0:=⟨_,rfl⟩
 have hne:=number_eq s i n (n+d1) (by rw [hd1])
 rw [← hx] at hne
 have hn1:n≤1:=by rw [hn];split<;>omega
 have hds:i+n+d1≤s.size:=by
  have:=run_le LX.digit ((bts s).drop (i+n))
  rw [List.length_drop,ze,← hd1] at this
  omega
 have ATW:Hid (∀ W:World,W.heap[b]?=w.heap[b]?→At W b s i):=fun W e=>⟨by rw [World.cell?_of_block (w:=w) e];exact c0,by rw [World.cell?_of_block (w:=w) e];exact c1,by
  rw [h.1] at e;exact(zq7.1 e).1,le,sz⟩
 have HC:=zh hc
 have HN:=zh hn
 have HR:=zh (hr.trans hne)
 have HD:=zh hd1
 have HX:=zh hx
 have HE:=zh henv
 have HDS:=zh hds
 have H1:=zh hn1
 have HL:=zh NL
 have hiz:(i:Int)+(n:Int)+(d1:Int)≤400000:=by omega
 have hnd0:(n:Int)+(d1:Int)≤400000:=by omega
 have hsz:(i:Int)+(n:Int)+(d1:Int)≤(s.size:Int):=by omega
 have hnz1:(n:Int)≤1:=by omega
 have hsl:∀ m:World,(Instr.slice 9 (.string s) (some (.int .i64 i)) (some (.int .i64 ((i:Int)+(n:Int)+(d1:Int)))) none).run Tryz.prog m = .ok (.string (s.extract i (i+(n+d1)))) m:=fun m=>by
  have:=run_slice_string (P:=Tryz.prog) m 9 s .i64 .i64 i ((i:Int)+(n:Int)+(d1:Int)) Tryz.underlying9 (by omega) (by omega) (by omega)
  rw [this]
  have e:((i:Int)+(n:Int)+(d1:Int)).toNat=i+(n+d1):=by omega
  rw [e]
  simp
 have hw1:IntKind.i64.wrap ((i:Int)+(n:Int))=(i:Int)+(n:Int):=wrap_in _ (by omega)
 have hw2:IntKind.i64.wrap ((i:Int)+(n:Int)+(d1:Int))=(i:Int)+(n:Int)+(d1:Int):=wrap_in _ (by omega)
 have HSL:=zh hsl
 clear hc hr hd1 hx hne hds henv NL hn1 le h hsl c0 c1 hn
 go_enter Tryz.func150,Tryz.ntmps150
 go_wp2_with fail
 obtain⟨z,hz⟩:∃ z,z=w.heap.size:=⟨_,rfl⟩
 obtain⟨W0,hW0⟩:∃ W,W=w.alloc (.cells #[.int .i64 0,.int .i64 0,.string ⟨#[]⟩,.int .i64 0] 154):=⟨_,rfl⟩
 rw [← hW0,← hz]
 have B0:Hid (W0.heap[b]?=w.heap[b]?):=by rw [hW0];exact zt2 _ _ _ lt
 have B1:Hid (W0.heap[z]?=some (.cells #[.int .i64 0,.int .i64 0,.string ⟨#[]⟩,.int .i64 0] 154 (0,0))):=by rw [hW0,hz];exact zs2 w _
 have B2:Hid (Below w.heap.size w W0):=by rw [hW0];exact(zs9 _ _).alloc (zr4 _) _
 have B3:Hid (z<W0.heap.size):=(zq7.1 B1.out).1
 have B4:=zh hz
 clear hz hW0
 refine(peek_any (ATW.out W0 B0.out) 0 (by decide)).mono ?_
 rintro e w1 ⟨rfl,q1,rfl⟩
 rw [Nat.add_zero,← HC.out]
 by_cases hc126:c=126
 case' pos =>
  have hcz:((c:Int)==126)=true:=by simp;omega
  have hcz2:(c:Int)=126:=by omega
  have HN1:Hid (n=1):=by show n=1;rw [HN.out,if_pos hc126]
  clear hc126
  go_wp2_with fail
  rw [show (1:Int)=(n:Int) from by rw [HN1.out];rfl]
 case' neg =>
  have hcz2:¬ (c:Int)=126:=by omega
  have HN1:Hid (n=0):=by show n=0;rw [HN.out,if_neg hc126]
  clear hc126
  go_wp2_with fail
  rw [show (0:Int)=(n:Int) from by rw [HN1.out];rfl]
 all_goals
  refine(run_digit (ATW.out (W0.drewN q1) B0.out) n (by have:=H1.out;omega)).mono ?_
  rintro e w2 ⟨rfl,q2,rfl⟩
  rw [← HD.out]
  go_wp2_with fail
  have PK:=peek_any (ATW.out (W0.drewN (q1+q2)) B0.out) (n+d1) (by have:=H1.out;have:=HDS.out;omega)
  rw [← HX.out,show ((n+d1:Nat):Int)=(n:Int)+(d1:Int) from by push_cast;rfl] at PK
  refine PK.mono ?_
  clear PK
  rintro e w3 ⟨rfl,q3,rfl⟩
  have hsl:=HSL.out
  obtain⟨e0,e1,elt,-,-⟩:=ATW.out W0 B0.out
  go_wp2_with fail
  go_quiet (fail)
  clear hsl e0 e1 elt hw1 hw2
  go_wp2_with fail
  have NB:=HL.out (W0.drewN (q1+q2+q3+nq)) (s.extract i (i+(n+d1))) (HE.out.keep (below_drawn B2.out _) HE.out.size) (by rw [ByteArray.size_extract];have:=HDS.out;omega)
  refine NB.mono ?_
  clear NB
  rintro e w4 ⟨rfl,hb4⟩
  obtain⟨tx,htx⟩:∃ t,t=s.extract i (i+(n+d1)):=⟨_,rfl⟩
  rw [← htx]
  have HTX:=zh htx
  have hb2:Below W0.heap.size W0 w4:=zu hb4
  have b1:w4.heap[z]?=some (.cells #[.int .i64 0,.int .i64 0,.string ⟨#[]⟩,.int .i64 0] 154 (0,0)):=(hb2.block z B3.out).trans B1.out
  have b2:w4.heap[b]?=w.heap[b]?:=(hb2.block b (zt5 lt B2.out.size)).trans B0.out
  obtain⟨e0,e1,elt,-,-⟩:=ATW.out w4 b2
  have X1:Hid (Below w.heap.size w w4):=B2.out.trans (hb2.mono B2.out.size)
  have X2:=zh b1
  have HWT:Hid (bts tx=((bts s).drop i).take (n+d1)):=by show _=_;rw [htx,bts_extract,Nat.add_sub_cancel_left]
  have yl:z<w4.heap.size:=(zq7.1 b1).1
  have Y:Hid (∀ q,w4.frozen? ⟨z,q,none⟩=false):=fun q=>zs1 w4 z q _ _ b1
  have HRN:Hid (LX.num (((bts s).drop i).take (n+d1))=none→r = .bad 13):=fun h=>by rw [HR.out,h]
  have HRS:Hid (∀ v,LX.num (((bts s).drop i).take (n+d1))=some v→r=if LX.part x||x==39 then .bad 13 else .tok 1 v (n+d1)):=fun v h=>by rw [HR.out,h]
  clear htx hb4 hb2 b1 b2 HR
  cases hv:LX.num (bts tx) with
  | none =>
   have HV:=zh hv
   clear hv
   go_wp2_with fail
   refine⟨rfl,?_⟩
   rw [HRN.out (by rw [← HWT.out];exact HV.out)]
   exact⟨rfl,X1.out⟩
  | some v =>
   have HV:=zh hv
   clear hv
   go_wp2_with fail
   refine(part_any w4 x).mono ?_
   rintro e w5 ⟨rfl,rfl⟩
   cases hp:LX.part x with
   | true =>
    have HP:=zh hp
    clear hp
    go_wp2_with fail
    refine⟨rfl,?_⟩
    rw [HRS.out v (by rw [← HWT.out];exact HV.out),HP.out]
    exact⟨rfl,X1.out⟩
   | false =>
    have HP:=zh hp
    clear hp
    by_cases hx39:x=39
    ·have hxz:(x:Int)=39:=by omega
     have HX3:=zh hx39
     clear hx39
     go_wp2_with fail
     refine⟨rfl,?_⟩
     rw [HRS.out v (by rw [← HWT.out];exact HV.out),HP.out,HX3.out]
     exact⟨rfl,X1.out⟩
    have hxz:¬ (x:Int)=39:=by omega
    have HX3:=zh hx39
    clear hx39
    have yf:∀ q,w5.frozen? ⟨z,q,none⟩=false:=Y.out
    have y0:w5.cell? ⟨z,0,none⟩=some (.int .i64 0):=by rw [zb w5 z 0 _ _ _ X2.out];rfl
    have y1:w5.cell? ⟨z,1,none⟩=some (.int .i64 0):=by rw [zb w5 z 1 _ _ _ X2.out];rfl
    have y2:w5.cell? ⟨z,2,none⟩=some (.string ⟨#[]⟩):=by rw [zb w5 z 2 _ _ _ X2.out];rfl
    have y3:w5.cell? ⟨z,3,none⟩=some (.int .i64 0):=by rw [zb w5 z 3 _ _ _ X2.out];rfl
    go_wp2_with fail
    have hf:=four_set X2.out (.int .i64 1) (.int .i64 v) (.string tx) (.int .i64 i)
    have hzb:w.heap.size≤z:=Nat.le_of_eq B4.out.symm
    refine bodyPost_ret (v:=tokV 1 v tx i) (by rw [zt rfl];simp [asAddr,load39 hf]) rfl ?_
    have hfin:=(((X1.out.setCell (p:=⟨z,0,none⟩) hzb (.int .i64 1)).setCell (p:=⟨z,1,none⟩) hzb (.int .i64 v)).setCell (p:=⟨z,2,none⟩) hzb (.string tx)).setCell (p:=⟨z,3,none⟩) hzb (.int .i64 i)
    rw [HRS.out v (by rw [← HWT.out];exact HV.out),HP.out,if_neg (by simpa using HX3.out)]
    exact⟨by rw [HTX.out];try rfl,hfin⟩
end Lx
namespace Lx
open Go.RowKit
theorem token_eq (s:ByteArray) (i:Nat) (hi:i<s.size) :
  LX.token ((bts s).drop i)=if LX.digit ((bts s).getD i 0)||(bts s).getD i 0==126 then LX.number ((bts s).drop i) (if (bts s).getD i 0=126 then 1 else 0)
  else if LX.small ((bts s).getD i 0) then LX.named 2 ((bts s).drop i)
  else if LX.great ((bts s).getD i 0) then LX.named 3 ((bts s).drop i)
  else if (bts s).getD i 0=39∧LX.small ((bts s).getD (i+1) 0) then LX.made 4 (1+LX.run LX.part ((bts s).drop (i+1)))
  else if [61,62].isPrefixOf ((bts s).drop i)=true∨[45,62].isPrefixOf ((bts s).drop i)=true then .tok 6 0 2
  else if LX.signs.contains ((bts s).getD i 0) then .tok 6 0 1
  else .bad 11:=by
 have hl:i<(bts s).length:=by rw [ze];exact hi
 have e1:(bts s).getD i 0=(bts s)[i]:=by rw [zt4,zq9 hl];rfl
 have e2:LX.head0 ((bts s).drop (i+1))=(bts s).getD (i+1) 0:=by
  unfold LX.head0
  rw [List.headD_eq_head?_getD,List.head?_drop,zt4]
 rw [← e2,e1,List.drop_eq_getElem_cons hl]
 generalize (bts s)[i]=c
 generalize (bts s).drop (i+1)=t
 unfold LX.token
 have e3:((c=61∨c=45)∧LX.head0 t=62)=([61,62].isPrefixOf (c :: t)=true∨[45,62].isPrefixOf (c :: t)=true):=by
  cases t with
  | nil=>simp [List.isPrefixOf,LX.head0]
  | cons d t =>
   simp only [List.isPrefixOf,LX.head0,List.headD_cons,Bool.and_true,Bool.and_eq_true,beq_iff_eq,eq_iff_iff]
   constructor
   ·rintro ⟨h | h,k⟩
    ·exact .inl ⟨h.symm,k.symm⟩
    exact .inr ⟨h.symm,k.symm⟩
   rintro (⟨h,k⟩|⟨h,k⟩)
   ·exact⟨.inl h.symm,k.symm⟩
   exact⟨.inr h.symm,k.symm⟩
 simp only [e3]
def signB:ByteArray:=⟨#[40,41,44,59,58,124,61,60,43,45,42,47,37,95]⟩
theorem signs_eq (c:Nat) (hc:c<256):decide (0≤Lib.indexByte signB.data.toList ((c:Int)).toNat.toUInt8)=LX.signs.contains c:=by
 have h:∀ c:Fin 256,decide (0≤Lib.indexByte signB.data.toList ((c.1:Int)).toNat.toUInt8)=LX.signs.contains c.1:=by decide +kernel
 exact h ⟨c,hc⟩
theorem bts_lt (s:ByteArray) (i:Nat):(bts s).getD i 0<256:=by
 rw [zt4]
 rcases Nat.lt_or_ge i s.size with h | h
 ·rw [bts_get s h];exact(s[i]'h).toNat_lt
 rw [List.getElem?_eq_none (by rw [ze];exact h)];decide
theorem made_tpost {w:World}{s:ByteArray}{i k n:Nat}{e:Ending}{w':World}(h:MPost w s i k n e w'):TPost w s i (LX.made k n) e w':=by
 unfold MPost at h
 unfold LX.made
 by_cases hn:24<n
 ·rw [if_pos hn] at h ⊢;exact h
 rw [if_neg hn] at h ⊢;exact h
theorem token_any (NL:NumLaw) {w:World}{b:Nat}{s:ByteArray}{i mb:Nat}{cv:Value}(h:Sc w b s i mb cv) (henv:Env w) (hw:Wd w mb) (hmb:mb≠b) (hi:i<s.size) :
  Calls Tryz.prog 143 #[.pointer (some ⟨b,0,none⟩)] w (TPost w s i (LX.token ((bts s).drop i))):=by
 have hne:=token_eq s i hi
 obtain⟨c,hc⟩:∃ c,c=(bts s).getD i 0:=⟨_,rfl⟩
 obtain⟨d,hd⟩:∃ d,d=(bts s).getD (i+1) 0:=⟨_,rfl⟩
 obtain⟨r,hr⟩:∃ r,r=LX.token ((bts s).drop i):=⟨_,rfl⟩
 have c256:c<256:=by rw [hc];exact bts_lt s i
 rw [← hr] at hne ⊢
 rw [← hc,← hd] at hne
 obtain⟨c0,c1,lt,le,sz⟩:=h.at'
 have ATW:Hid (∀ W:World,W.heap[b]?=w.heap[b]?→At W b s i):=fun W e=>⟨by rw [World.cell?_of_block (w:=w) e];exact c0,by rw [World.cell?_of_block (w:=w) e];exact c1,by
  rw [h.1] at e;exact(zq7.1 e).1,le,sz⟩
 have SCW:Hid (∀ W:World,W.heap[b]?=w.heap[b]?→Sc W b s i mb cv):=fun W e=>⟨e.trans h.1,h.2⟩
 have HC:=zh hc
 have HD:=zh hd
 have HR:=zh hne
 have HE:=zh henv
 have HW:=zh hw
 have HB:=zh hmb
 have HI:=zh hi
 have HL:=zh NL
 have HCB:=zh c256
 clear hc hd hr hne henv hw hmb hi NL c256 le h c0 c1 sz
 go_enter Tryz.func143,Tryz.ntmps143
 go_wp2_with fail
 obtain⟨z,hz⟩:∃ z,z=w.heap.size:=⟨_,rfl⟩
 obtain⟨W0,hW0⟩:∃ W,W=w.alloc (.cells #[.int .i64 0,.int .i64 0,.string ⟨#[]⟩,.int .i64 0] 154):=⟨_,rfl⟩
 rw [← hW0,← hz]
 have B0:Hid (W0.heap[b]?=w.heap[b]?):=by rw [hW0];exact zt2 _ _ _ lt
 have B1:Hid (W0.heap[z]?=some (.cells #[.int .i64 0,.int .i64 0,.string ⟨#[]⟩,.int .i64 0] 154 (0,0))):=by rw [hW0,hz];exact zs2 w _
 have B2:Hid (Below w.heap.size w W0):=by rw [hW0];exact(zs9 _ _).alloc (zr4 _) _
 have B3:Hid (z<W0.heap.size):=(zq7.1 B1.out).1
 have B4:=zh hz
 have HEW:Hid (∀ q,Env (W0.drewN q)):=fun q=>HE.out.keep (below_drawn B2.out q) HE.out.size
 have HWW:Hid (∀ q,Wd (W0.drewN q) mb):=fun q=>by
  obtain⟨es,clock,h1,h2⟩:=HW.out
  exact⟨es,clock,(B2.out.block mb (zq7.1 h1).1).trans h1,h2⟩
 have END:Hid (∀ (W W':World) (q:Nat) (k v:Int) (t:ByteArray),Below W0.heap.size (W0.drewN q) W →
   W.heap[z]?=some (.cells #[.int .i64 0,.int .i64 0,.string ⟨#[]⟩,.int .i64 0] 154 (0,0))∧Below w.heap.size w ((((W.setCell ⟨z,0,none⟩ (.int .i64 k)).setCell ⟨z,1,none⟩ (.int .i64 v)).setCell ⟨z,2,none⟩ (.string t)).setCell ⟨z,3,none⟩ (.int .i64 i))):=fun W W' q k v t hb=>by
  have hb2:Below W0.heap.size W0 W:=zu hb
  have hzb:w.heap.size≤z:=Nat.le_of_eq B4.out.symm
  exact⟨(hb2.block z B3.out).trans B1.out,((((B2.out.trans (hb2.mono B2.out.size)).setCell (p:=⟨z,0,none⟩) hzb (.int .i64 k)).setCell (p:=⟨z,1,none⟩) hzb (.int .i64 v)).setCell (p:=⟨z,2,none⟩) hzb (.string t)).setCell (p:=⟨z,3,none⟩) hzb (.int .i64 i)⟩
 clear hz hW0
 refine(peek_any (ATW.out W0 B0.out) 0 (by decide)).mono ?_
 rintro e w1 ⟨rfl,q1,rfl⟩
 rw [Nat.add_zero,← HC.out]
 go_wp2_with fail
 refine(digit_any _ c).mono ?_
 rintro e w2 ⟨rfl,rfl⟩
 cases hdg:LX.digit c with
 | true =>
  have HDG:=zh hdg
  clear hdg
  go_wp2_with fail
  have NB:=number_any HL.out (SCW.out (W0.drewN q1) B0.out) (HEW.out q1) HI.out
  refine NB.mono ?_
  clear NB
  intro e w3 hp
  obtain⟨cr,hcr⟩:∃ cr,cr=r:=⟨_,rfl⟩
  have HP0:TPost (W0.drewN (q1)) s i cr e w3:=by
   rw [hcr,HR.out,HDG.out,Bool.true_or,if_pos rfl,HC.out]
   exact hp
  have HCR:=zh hcr
  clear hp hcr
  cases cr with
  | bad er =>
   obtain⟨rfl,hb⟩:=HP0
   unfold thrown
   have X1:=zh hb
   clear hb
   go_wp2_with fail
   refine⟨rfl,?_⟩
   rw [← HCR.out]
   exact⟨rfl,B2.out.trans ((zu X1.out).mono B2.out.size)⟩
  | tok k v n =>
   obtain⟨rfl,hb⟩:=HP0
   unfold tokV
   have X2:=END.out w3 w3 _ k v (s.extract i (i+n)) hb
   have X1:=zh hb
   have X3:=zh X2
   have yf:∀ q,w3.frozen? ⟨z,q,none⟩=false:=fun q=>zs1 w3 z q _ _ X2.1
   have y0:w3.cell? ⟨z,0,none⟩=some (.int .i64 0):=by rw [zb w3 z 0 _ _ _ X2.1];rfl
   have y1:w3.cell? ⟨z,1,none⟩=some (.int .i64 0):=by rw [zb w3 z 1 _ _ _ X2.1];rfl
   have y2:w3.cell? ⟨z,2,none⟩=some (.string ⟨#[]⟩):=by rw [zb w3 z 2 _ _ _ X2.1];rfl
   have y3:w3.cell? ⟨z,3,none⟩=some (.int .i64 0):=by rw [zb w3 z 3 _ _ _ X2.1];rfl
   clear X2 hb
   obtain⟨tx,htx⟩:∃ t,t=s.extract i (i+n):=⟨_,rfl⟩
   rw [← htx]
   have HTX:=zh htx
   clear htx
   go_wp2_with fail
   have hf:=four_set X3.out.1 (.int .i64 k) (.int .i64 v) (.string tx) (.int .i64 i)
   refine bodyPost_ret (v:=tokV k v tx i) (by rw [zt rfl];simp [asAddr,load39 hf]) rfl ?_
   rw [← HCR.out]
   have X4:=X3.out.2
   rw [← HTX.out] at X4
   exact⟨by rw [HTX.out];try rfl,X4⟩
 | false =>
  have HDG:=zh hdg
  clear hdg
  by_cases hc126:c=126
  ·have hz126:(c:Int)=126:=by omega
   have HC6:=zh hc126
   clear hc126
   go_wp2_with fail
   have NB:=number_any HL.out (SCW.out (W0.drewN q1) B0.out) (HEW.out q1) HI.out
   refine NB.mono ?_
   clear NB
   intro e w3 hp
   obtain⟨cr,hcr⟩:∃ cr,cr=r:=⟨_,rfl⟩
   have HP0:TPost (W0.drewN (q1)) s i cr e w3:=by
    rw [hcr,HR.out,HDG.out,HC6.out,show ((false||(126:Nat)==126)=true) from rfl,if_pos rfl,if_pos rfl]
    rw [← HC.out,HC6.out,if_pos rfl] at hp;exact hp
   have HCR:=zh hcr
   clear hp hcr
   cases cr with
   | bad er =>
    obtain⟨rfl,hb⟩:=HP0
    unfold thrown
    have X1:=zh hb
    clear hb
    go_wp2_with fail
    refine⟨rfl,?_⟩
    rw [← HCR.out]
    exact⟨rfl,B2.out.trans ((zu X1.out).mono B2.out.size)⟩
   | tok k v n =>
    obtain⟨rfl,hb⟩:=HP0
    unfold tokV
    have X2:=END.out w3 w3 _ k v (s.extract i (i+n)) hb
    have X1:=zh hb
    have X3:=zh X2
    have yf:∀ q,w3.frozen? ⟨z,q,none⟩=false:=fun q=>zs1 w3 z q _ _ X2.1
    have y0:w3.cell? ⟨z,0,none⟩=some (.int .i64 0):=by rw [zb w3 z 0 _ _ _ X2.1];rfl
    have y1:w3.cell? ⟨z,1,none⟩=some (.int .i64 0):=by rw [zb w3 z 1 _ _ _ X2.1];rfl
    have y2:w3.cell? ⟨z,2,none⟩=some (.string ⟨#[]⟩):=by rw [zb w3 z 2 _ _ _ X2.1];rfl
    have y3:w3.cell? ⟨z,3,none⟩=some (.int .i64 0):=by rw [zb w3 z 3 _ _ _ X2.1];rfl
    clear X2 hb
    obtain⟨tx,htx⟩:∃ t,t=s.extract i (i+n):=⟨_,rfl⟩
    rw [← htx]
    have HTX:=zh htx
    clear htx
    go_wp2_with fail
    have hf:=four_set X3.out.1 (.int .i64 k) (.int .i64 v) (.string tx) (.int .i64 i)
    refine bodyPost_ret (v:=tokV k v tx i) (by rw [zt rfl];simp [asAddr,load39 hf]) rfl ?_
    rw [← HCR.out]
    have X4:=X3.out.2
    rw [← HTX.out] at X4
    exact⟨by rw [HTX.out];try rfl,X4⟩
  have hz126:¬ (c:Int)=126:=by omega
  have HDN:Hid ((LX.digit c||c==126)=false):=by show _=_;rw [HDG.out,Bool.false_or];exact zt6 hc126
  clear hc126
  go_wp2_with fail
  refine(small_any _ c).mono ?_
  rintro e w2 ⟨rfl,rfl⟩
  cases hsm:LX.small c with
  | true =>
   have HSM:=zh hsm
   clear hsm
   go_wp2_with fail
   have NB:=name_any (SCW.out (W0.drewN q1) B0.out) (HWW.out q1) HB.out 2 (by decide) HI.out
   refine NB.mono ?_
   clear NB
   intro e w3 hp
   obtain⟨cr,hcr⟩:∃ cr,cr=r:=⟨_,rfl⟩
   have HP0:TPost (W0.drewN (q1)) s i cr e w3:=by
    rw [hcr,HR.out,HDN.out,HSM.out,if_neg Bool.false_ne_true,if_pos rfl]
    exact hp
   have HCR:=zh hcr
   clear hp hcr
   cases cr with
   | bad er =>
    obtain⟨rfl,hb⟩:=HP0
    unfold thrown
    have X1:=zh hb
    clear hb
    go_wp2_with fail
    refine⟨rfl,?_⟩
    rw [← HCR.out]
    exact⟨rfl,B2.out.trans ((zu X1.out).mono B2.out.size)⟩
   | tok k v n =>
    obtain⟨rfl,hb⟩:=HP0
    unfold tokV
    have X2:=END.out w3 w3 _ k v (s.extract i (i+n)) hb
    have X1:=zh hb
    have X3:=zh X2
    have yf:∀ q,w3.frozen? ⟨z,q,none⟩=false:=fun q=>zs1 w3 z q _ _ X2.1
    have y0:w3.cell? ⟨z,0,none⟩=some (.int .i64 0):=by rw [zb w3 z 0 _ _ _ X2.1];rfl
    have y1:w3.cell? ⟨z,1,none⟩=some (.int .i64 0):=by rw [zb w3 z 1 _ _ _ X2.1];rfl
    have y2:w3.cell? ⟨z,2,none⟩=some (.string ⟨#[]⟩):=by rw [zb w3 z 2 _ _ _ X2.1];rfl
    have y3:w3.cell? ⟨z,3,none⟩=some (.int .i64 0):=by rw [zb w3 z 3 _ _ _ X2.1];rfl
    clear X2 hb
    obtain⟨tx,htx⟩:∃ t,t=s.extract i (i+n):=⟨_,rfl⟩
    rw [← htx]
    have HTX:=zh htx
    clear htx
    go_wp2_with fail
    have hf:=four_set X3.out.1 (.int .i64 k) (.int .i64 v) (.string tx) (.int .i64 i)
    refine bodyPost_ret (v:=tokV k v tx i) (by rw [zt rfl];simp [asAddr,load39 hf]) rfl ?_
    rw [← HCR.out]
    have X4:=X3.out.2
    rw [← HTX.out] at X4
    exact⟨by rw [HTX.out];try rfl,X4⟩
  | false =>
   have HSM:=zh hsm
   clear hsm
   go_wp2_with fail
   refine(great_any _ c).mono ?_
   rintro e w2 ⟨rfl,rfl⟩
   cases hgr:LX.great c with
   | true =>
    have HGR:=zh hgr
    clear hgr
    go_wp2_with fail
    have NB:=name_any (SCW.out (W0.drewN q1) B0.out) (HWW.out q1) HB.out 3 (by decide) HI.out
    refine NB.mono ?_
    clear NB
    intro e w3 hp
    obtain⟨cr,hcr⟩:∃ cr,cr=r:=⟨_,rfl⟩
    have HP0:TPost (W0.drewN (q1)) s i cr e w3:=by
     rw [hcr,HR.out,HDN.out,HSM.out,HGR.out,if_neg Bool.false_ne_true,if_neg Bool.false_ne_true,if_pos rfl]
     exact hp
    have HCR:=zh hcr
    clear hp hcr
    cases cr with
    | bad er =>
     obtain⟨rfl,hb⟩:=HP0
     unfold thrown
     have X1:=zh hb
     clear hb
     go_wp2_with fail
     refine⟨rfl,?_⟩
     rw [← HCR.out]
     exact⟨rfl,B2.out.trans ((zu X1.out).mono B2.out.size)⟩
    | tok k v n =>
     obtain⟨rfl,hb⟩:=HP0
     unfold tokV
     have X2:=END.out w3 w3 _ k v (s.extract i (i+n)) hb
     have X1:=zh hb
     have X3:=zh X2
     have yf:∀ q,w3.frozen? ⟨z,q,none⟩=false:=fun q=>zs1 w3 z q _ _ X2.1
     have y0:w3.cell? ⟨z,0,none⟩=some (.int .i64 0):=by rw [zb w3 z 0 _ _ _ X2.1];rfl
     have y1:w3.cell? ⟨z,1,none⟩=some (.int .i64 0):=by rw [zb w3 z 1 _ _ _ X2.1];rfl
     have y2:w3.cell? ⟨z,2,none⟩=some (.string ⟨#[]⟩):=by rw [zb w3 z 2 _ _ _ X2.1];rfl
     have y3:w3.cell? ⟨z,3,none⟩=some (.int .i64 0):=by rw [zb w3 z 3 _ _ _ X2.1];rfl
     clear X2 hb
     obtain⟨tx,htx⟩:∃ t,t=s.extract i (i+n):=⟨_,rfl⟩
     rw [← htx]
     have HTX:=zh htx
     clear htx
     go_wp2_with fail
     have hf:=four_set X3.out.1 (.int .i64 k) (.int .i64 v) (.string tx) (.int .i64 i)
     refine bodyPost_ret (v:=tokV k v tx i) (by rw [zt rfl];simp [asAddr,load39 hf]) rfl ?_
     rw [← HCR.out]
     have X4:=X3.out.2
     rw [← HTX.out] at X4
     exact⟨by rw [HTX.out];try rfl,X4⟩
   | false =>
    have HGR:=zh hgr
    clear hgr
    have HR2:Hid (r=if c=39∧LX.small d then LX.made 4 (1+LX.run LX.part ((bts s).drop (i+1)))
      else if [61,62].isPrefixOf ((bts s).drop i)=true∨[45,62].isPrefixOf ((bts s).drop i)=true then .tok 6 0 2
      else if LX.signs.contains c then .tok 6 0 1
      else .bad 11):=by
     show _=_
     rw [HR.out,HDN.out,HSM.out,HGR.out,if_neg Bool.false_ne_true,if_neg Bool.false_ne_true,if_neg Bool.false_ne_true]
    by_cases hc39:c=39
    ·have hz39:(c:Int)=39:=by omega
     have HC9:=zh hc39
     clear hc39
     go_wp2_with fail
     refine(peek_any (ATW.out (W0.drewN q1) B0.out) 1 (by decide)).mono ?_
     rintro e w3 ⟨rfl,q2,rfl⟩
     rw [← HD.out]
     go_wp2_with fail
     refine(small_any _ d).mono ?_
     rintro e w3 ⟨rfl,rfl⟩
     cases hsd:LX.small d with
     | true =>
      have HSD:=zh hsd
      clear hsd
      go_wp2_with fail
      have RP:=run_part (ATW.out (W0.drewN (q1+q2)) B0.out) 1 (by decide)
      obtain⟨rp,hrp⟩:∃ rp,rp=LX.run LX.part ((bts s).drop (i+1)):=⟨_,rfl⟩
      have hle:i+(1+rp)≤s.size:=by
       have:=run_le LX.part ((bts s).drop (i+1))
       have:=HI.out
       rw [List.length_drop,ze,← hrp] at *
       omega
      have hsz:rp≤400000:=by have:=(SCW.out w rfl).2.2;omega
      rw [← hrp] at RP
      have HRP:=zh hrp
      have HLE:=zh hle
      clear hrp hle
      refine RP.mono ?_
      clear RP
      rintro e w3 ⟨rfl,q3,rfl⟩
      go_wp2_with fail
      have MD:=made_any (SCW.out (W0.drewN (q1+q2+q3)) B0.out) 4 (1+rp) HLE.out
      rw [show ((1+rp:Nat):Int)=1+(rp:Int) from by push_cast;rfl] at MD
      have NB:=MD
      refine NB.mono ?_
      clear NB
      intro e w3 hp
      obtain⟨cr,hcr⟩:∃ cr,cr=r:=⟨_,rfl⟩
      have HP0:TPost (W0.drewN (q1+q2+q3)) s i cr e w3:=by
       rw [hcr,HR2.out,HC9.out,if_pos ⟨rfl,HSD.out⟩,← HRP.out]
       exact made_tpost (k:=4) hp
      have HCR:=zh hcr
      clear hp hcr
      cases cr with
      | bad er =>
       obtain⟨rfl,hb⟩:=HP0
       unfold thrown
       have X1:=zh hb
       clear hb
       go_wp2_with fail
       refine⟨rfl,?_⟩
       rw [← HCR.out]
       exact⟨rfl,B2.out.trans ((zu X1.out).mono B2.out.size)⟩
      | tok k v n =>
       obtain⟨rfl,hb⟩:=HP0
       unfold tokV
       have X2:=END.out w3 w3 _ k v (s.extract i (i+n)) hb
       have X1:=zh hb
       have X3:=zh X2
       have yf:∀ q,w3.frozen? ⟨z,q,none⟩=false:=fun q=>zs1 w3 z q _ _ X2.1
       have y0:w3.cell? ⟨z,0,none⟩=some (.int .i64 0):=by rw [zb w3 z 0 _ _ _ X2.1];rfl
       have y1:w3.cell? ⟨z,1,none⟩=some (.int .i64 0):=by rw [zb w3 z 1 _ _ _ X2.1];rfl
       have y2:w3.cell? ⟨z,2,none⟩=some (.string ⟨#[]⟩):=by rw [zb w3 z 2 _ _ _ X2.1];rfl
       have y3:w3.cell? ⟨z,3,none⟩=some (.int .i64 0):=by rw [zb w3 z 3 _ _ _ X2.1];rfl
       clear X2 hb
       obtain⟨tx,htx⟩:∃ t,t=s.extract i (i+n):=⟨_,rfl⟩
       rw [← htx]
       have HTX:=zh htx
       clear htx
       go_wp2_with fail
       have hf:=four_set X3.out.1 (.int .i64 k) (.int .i64 v) (.string tx) (.int .i64 i)
       refine bodyPost_ret (v:=tokV k v tx i) (by rw [zt rfl];simp [asAddr,load39 hf]) rfl ?_
       rw [← HCR.out]
       have X4:=X3.out.2
       rw [← HTX.out] at X4
       exact⟨by rw [HTX.out];try rfl,X4⟩
     | false =>
      have HR3:Hid (r=if [61,62].isPrefixOf ((bts s).drop i)=true∨[45,62].isPrefixOf ((bts s).drop i)=true then .tok 6 0 2
           else if LX.signs.contains c then .tok 6 0 1
           else .bad 11):=by
       show _=_
       rw [HR2.out,if_neg (by rw [hsd];simp)]
      clear hsd
      go_wp2_with fail
      refine(starts_any (ATW.out (W0.drewN (q1+q2)) B0.out) ⟨#[61,62]⟩).mono ?_
      rintro e w3 ⟨rfl,q4,rfl⟩
      rw [show bts ⟨#[61,62]⟩=[61,62] from rfl]
      cases h61:[61,62].isPrefixOf ((bts s).drop i) with
      | true =>
       have H61:=zh h61
       have HLE:Hid (i+2≤s.size):=by
        have:=prefix2_length h61
        rw [List.length_drop,ze] at this
        show _≤_
        omega
       clear h61
       go_wp2_with fail
       have NB:=made_any (SCW.out (W0.drewN (q1+q2+q4)) B0.out) 6 2 HLE.out
       refine NB.mono ?_
       clear NB
       intro e w3 hp
       obtain⟨cr,hcr⟩:∃ cr,cr=r:=⟨_,rfl⟩
       have HP0:TPost (W0.drewN (q1+q2+q4)) s i cr e w3:=by
        rw [hcr,HR3.out,if_pos (.inl H61.out)]
        exact made_tpost (k:=6) (n:=2) hp
       have HCR:=zh hcr
       clear hp hcr
       cases cr with
       | bad er =>
        obtain⟨rfl,hb⟩:=HP0
        unfold thrown
        have X1:=zh hb
        clear hb
        go_wp2_with fail
        refine⟨rfl,?_⟩
        rw [← HCR.out]
        exact⟨rfl,B2.out.trans ((zu X1.out).mono B2.out.size)⟩
       | tok k v n =>
        obtain⟨rfl,hb⟩:=HP0
        unfold tokV
        have X2:=END.out w3 w3 _ k v (s.extract i (i+n)) hb
        have X1:=zh hb
        have X3:=zh X2
        have yf:∀ q,w3.frozen? ⟨z,q,none⟩=false:=fun q=>zs1 w3 z q _ _ X2.1
        have y0:w3.cell? ⟨z,0,none⟩=some (.int .i64 0):=by rw [zb w3 z 0 _ _ _ X2.1];rfl
        have y1:w3.cell? ⟨z,1,none⟩=some (.int .i64 0):=by rw [zb w3 z 1 _ _ _ X2.1];rfl
        have y2:w3.cell? ⟨z,2,none⟩=some (.string ⟨#[]⟩):=by rw [zb w3 z 2 _ _ _ X2.1];rfl
        have y3:w3.cell? ⟨z,3,none⟩=some (.int .i64 0):=by rw [zb w3 z 3 _ _ _ X2.1];rfl
        clear X2 hb
        obtain⟨tx,htx⟩:∃ t,t=s.extract i (i+n):=⟨_,rfl⟩
        rw [← htx]
        have HTX:=zh htx
        clear htx
        go_wp2_with fail
        have hf:=four_set X3.out.1 (.int .i64 k) (.int .i64 v) (.string tx) (.int .i64 i)
        refine bodyPost_ret (v:=tokV k v tx i) (by rw [zt rfl];simp [asAddr,load39 hf]) rfl ?_
        rw [← HCR.out]
        have X4:=X3.out.2
        rw [← HTX.out] at X4
        exact⟨by rw [HTX.out];try rfl,X4⟩
      | false =>
       have H61:=zh h61
       clear h61
       go_wp2_with fail
       refine(starts_any (ATW.out (W0.drewN (q1+q2+q4)) B0.out) ⟨#[45,62]⟩).mono ?_
       rintro e w3 ⟨rfl,q5,rfl⟩
       rw [show bts ⟨#[45,62]⟩=[45,62] from rfl]
       cases h45:[45,62].isPrefixOf ((bts s).drop i) with
       | true =>
        have H45:=zh h45
        have HLE:Hid (i+2≤s.size):=by
         have:=prefix2_length h45
         rw [List.length_drop,ze] at this
         show _≤_
         omega
        clear h45
        go_wp2_with fail
        have NB:=made_any (SCW.out (W0.drewN (q1+q2+q4+q5)) B0.out) 6 2 HLE.out
        refine NB.mono ?_
        clear NB
        intro e w3 hp
        obtain⟨cr,hcr⟩:∃ cr,cr=r:=⟨_,rfl⟩
        have HP0:TPost (W0.drewN (q1+q2+q4+q5)) s i cr e w3:=by
         rw [hcr,HR3.out,if_pos (.inr H45.out)]
         exact made_tpost (k:=6) (n:=2) hp
        have HCR:=zh hcr
        clear hp hcr
        cases cr with
        | bad er =>
         obtain⟨rfl,hb⟩:=HP0
         unfold thrown
         have X1:=zh hb
         clear hb
         go_wp2_with fail
         refine⟨rfl,?_⟩
         rw [← HCR.out]
         exact⟨rfl,B2.out.trans ((zu X1.out).mono B2.out.size)⟩
        | tok k v n =>
         obtain⟨rfl,hb⟩:=HP0
         unfold tokV
         have X2:=END.out w3 w3 _ k v (s.extract i (i+n)) hb
         have X1:=zh hb
         have X3:=zh X2
         have yf:∀ q,w3.frozen? ⟨z,q,none⟩=false:=fun q=>zs1 w3 z q _ _ X2.1
         have y0:w3.cell? ⟨z,0,none⟩=some (.int .i64 0):=by rw [zb w3 z 0 _ _ _ X2.1];rfl
         have y1:w3.cell? ⟨z,1,none⟩=some (.int .i64 0):=by rw [zb w3 z 1 _ _ _ X2.1];rfl
         have y2:w3.cell? ⟨z,2,none⟩=some (.string ⟨#[]⟩):=by rw [zb w3 z 2 _ _ _ X2.1];rfl
         have y3:w3.cell? ⟨z,3,none⟩=some (.int .i64 0):=by rw [zb w3 z 3 _ _ _ X2.1];rfl
         clear X2 hb
         obtain⟨tx,htx⟩:∃ t,t=s.extract i (i+n):=⟨_,rfl⟩
         rw [← htx]
         have HTX:=zh htx
         clear htx
         go_wp2_with fail
         have hf:=four_set X3.out.1 (.int .i64 k) (.int .i64 v) (.string tx) (.int .i64 i)
         refine bodyPost_ret (v:=tokV k v tx i) (by rw [zt rfl];simp [asAddr,load39 hf]) rfl ?_
         rw [← HCR.out]
         have X4:=X3.out.2
         rw [← HTX.out] at X4
         exact⟨by rw [HTX.out];try rfl,X4⟩
       | false =>
        have HR4:Hid (r=if LX.signs.contains c then .tok 6 0 1 else .bad 11):=by
         show _=_
         rw [HR3.out,if_neg (by rw [H61.out,h45];simp)]
        clear h45
        go_wp2_with fail
        have SB:=Tryz.strings_IndexByte signB c (W0.drewN (q1+q2+q4+q5))
        have hsg:=signs_eq c HCB.out
        rw [hz39] at SB hsg
        refine SB.mono ?_
        clear SB
        rintro e w3 ⟨rfl,rfl⟩
        obtain⟨x,hx⟩:∃ x,x=Lib.indexByte signB.data.toList (39:Int).toNat.toUInt8:=⟨_,rfl⟩
        rw [← hx] at hsg ⊢
        clear hx
        cases hct:LX.signs.contains c with
        | true =>
         rw [hct] at hsg
         have hx0:0≤x:=of_decide_eq_true hsg
         have HCT:=zh hct
         clear hct hsg
         go_wp2_with fail
         have NB:=made_any (SCW.out (W0.drewN (q1+q2+q4+q5)) B0.out) 6 1 HI.out
         refine NB.mono ?_
         clear NB
         intro e w3 hp
         obtain⟨cr,hcr⟩:∃ cr,cr=r:=⟨_,rfl⟩
         have HP0:TPost (W0.drewN (q1+q2+q4+q5)) s i cr e w3:=by
          rw [hcr,HR4.out,if_pos HCT.out]
          exact made_tpost (k:=6) (n:=1) hp
         have HCR:=zh hcr
         clear hp hcr
         cases cr with
         | bad er =>
          obtain⟨rfl,hb⟩:=HP0
          unfold thrown
          have X1:=zh hb
          clear hb
          go_wp2_with fail
          refine⟨rfl,?_⟩
          rw [← HCR.out]
          exact⟨rfl,B2.out.trans ((zu X1.out).mono B2.out.size)⟩
         | tok k v n =>
          obtain⟨rfl,hb⟩:=HP0
          unfold tokV
          have X2:=END.out w3 w3 _ k v (s.extract i (i+n)) hb
          have X1:=zh hb
          have X3:=zh X2
          have yf:∀ q,w3.frozen? ⟨z,q,none⟩=false:=fun q=>zs1 w3 z q _ _ X2.1
          have y0:w3.cell? ⟨z,0,none⟩=some (.int .i64 0):=by rw [zb w3 z 0 _ _ _ X2.1];rfl
          have y1:w3.cell? ⟨z,1,none⟩=some (.int .i64 0):=by rw [zb w3 z 1 _ _ _ X2.1];rfl
          have y2:w3.cell? ⟨z,2,none⟩=some (.string ⟨#[]⟩):=by rw [zb w3 z 2 _ _ _ X2.1];rfl
          have y3:w3.cell? ⟨z,3,none⟩=some (.int .i64 0):=by rw [zb w3 z 3 _ _ _ X2.1];rfl
          clear X2 hb
          obtain⟨tx,htx⟩:∃ t,t=s.extract i (i+n):=⟨_,rfl⟩
          rw [← htx]
          have HTX:=zh htx
          clear htx
          go_wp2_with fail
          have hf:=four_set X3.out.1 (.int .i64 k) (.int .i64 v) (.string tx) (.int .i64 i)
          refine bodyPost_ret (v:=tokV k v tx i) (by rw [zt rfl];simp [asAddr,load39 hf]) rfl ?_
          rw [← HCR.out]
          have X4:=X3.out.2
          rw [← HTX.out] at X4
          exact⟨by rw [HTX.out];try rfl,X4⟩
        | false =>
         rw [hct] at hsg
         have hx0:¬ 0≤x:=of_decide_eq_false hsg
         have HCT:=zh hct
         obtain⟨c0,c1,lt',-,-⟩:=ATW.out W0 B0.out
         clear hct hsg
         go_wp2_with fail
         refine⟨rfl,?_⟩
         rw [HR4.out,if_neg (by rw [HCT.out];exact Bool.false_ne_true)]
         exact⟨rfl,below_drawn B2.out _⟩
    have HR3:Hid (r=if [61,62].isPrefixOf ((bts s).drop i)=true∨[45,62].isPrefixOf ((bts s).drop i)=true then .tok 6 0 2
         else if LX.signs.contains c then .tok 6 0 1
         else .bad 11):=by
     show _=_
     rw [HR2.out,if_neg (by rintro ⟨h,-⟩;exact hc39 h)]
    have hz39:¬ (c:Int)=39:=by omega
    clear hc39
    go_wp2_with fail
    refine(starts_any (ATW.out (W0.drewN (q1)) B0.out) ⟨#[61,62]⟩).mono ?_
    rintro e w3 ⟨rfl,q4,rfl⟩
    rw [show bts ⟨#[61,62]⟩=[61,62] from rfl]
    cases h61:[61,62].isPrefixOf ((bts s).drop i) with
    | true =>
     have H61:=zh h61
     have HLE:Hid (i+2≤s.size):=by
      have:=prefix2_length h61
      rw [List.length_drop,ze] at this
      show _≤_
      omega
     clear h61
     go_wp2_with fail
     have NB:=made_any (SCW.out (W0.drewN (q1+q4)) B0.out) 6 2 HLE.out
     refine NB.mono ?_
     clear NB
     intro e w3 hp
     obtain⟨cr,hcr⟩:∃ cr,cr=r:=⟨_,rfl⟩
     have HP0:TPost (W0.drewN (q1+q4)) s i cr e w3:=by
      rw [hcr,HR3.out,if_pos (.inl H61.out)]
      exact made_tpost (k:=6) (n:=2) hp
     have HCR:=zh hcr
     clear hp hcr
     cases cr with
     | bad er =>
      obtain⟨rfl,hb⟩:=HP0
      unfold thrown
      have X1:=zh hb
      clear hb
      go_wp2_with fail
      refine⟨rfl,?_⟩
      rw [← HCR.out]
      exact⟨rfl,B2.out.trans ((zu X1.out).mono B2.out.size)⟩
     | tok k v n =>
      obtain⟨rfl,hb⟩:=HP0
      unfold tokV
      have X2:=END.out w3 w3 _ k v (s.extract i (i+n)) hb
      have X1:=zh hb
      have X3:=zh X2
      have yf:∀ q,w3.frozen? ⟨z,q,none⟩=false:=fun q=>zs1 w3 z q _ _ X2.1
      have y0:w3.cell? ⟨z,0,none⟩=some (.int .i64 0):=by rw [zb w3 z 0 _ _ _ X2.1];rfl
      have y1:w3.cell? ⟨z,1,none⟩=some (.int .i64 0):=by rw [zb w3 z 1 _ _ _ X2.1];rfl
      have y2:w3.cell? ⟨z,2,none⟩=some (.string ⟨#[]⟩):=by rw [zb w3 z 2 _ _ _ X2.1];rfl
      have y3:w3.cell? ⟨z,3,none⟩=some (.int .i64 0):=by rw [zb w3 z 3 _ _ _ X2.1];rfl
      clear X2 hb
      obtain⟨tx,htx⟩:∃ t,t=s.extract i (i+n):=⟨_,rfl⟩
      rw [← htx]
      have HTX:=zh htx
      clear htx
      go_wp2_with fail
      have hf:=four_set X3.out.1 (.int .i64 k) (.int .i64 v) (.string tx) (.int .i64 i)
      refine bodyPost_ret (v:=tokV k v tx i) (by rw [zt rfl];simp [asAddr,load39 hf]) rfl ?_
      rw [← HCR.out]
      have X4:=X3.out.2
      rw [← HTX.out] at X4
      exact⟨by rw [HTX.out];try rfl,X4⟩
    | false =>
     have H61:=zh h61
     clear h61
     go_wp2_with fail
     refine(starts_any (ATW.out (W0.drewN (q1+q4)) B0.out) ⟨#[45,62]⟩).mono ?_
     rintro e w3 ⟨rfl,q5,rfl⟩
     rw [show bts ⟨#[45,62]⟩=[45,62] from rfl]
     cases h45:[45,62].isPrefixOf ((bts s).drop i) with
     | true =>
      have H45:=zh h45
      have HLE:Hid (i+2≤s.size):=by
       have:=prefix2_length h45
       rw [List.length_drop,ze] at this
       show _≤_
       omega
      clear h45
      go_wp2_with fail
      have NB:=made_any (SCW.out (W0.drewN (q1+q4+q5)) B0.out) 6 2 HLE.out
      refine NB.mono ?_
      clear NB
      intro e w3 hp
      obtain⟨cr,hcr⟩:∃ cr,cr=r:=⟨_,rfl⟩
      have HP0:TPost (W0.drewN (q1+q4+q5)) s i cr e w3:=by
       rw [hcr,HR3.out,if_pos (.inr H45.out)]
       exact made_tpost (k:=6) (n:=2) hp
      have HCR:=zh hcr
      clear hp hcr
      cases cr with
      | bad er =>
       obtain⟨rfl,hb⟩:=HP0
       unfold thrown
       have X1:=zh hb
       clear hb
       go_wp2_with fail
       refine⟨rfl,?_⟩
       rw [← HCR.out]
       exact⟨rfl,B2.out.trans ((zu X1.out).mono B2.out.size)⟩
      | tok k v n =>
       obtain⟨rfl,hb⟩:=HP0
       unfold tokV
       have X2:=END.out w3 w3 _ k v (s.extract i (i+n)) hb
       have X1:=zh hb
       have X3:=zh X2
       have yf:∀ q,w3.frozen? ⟨z,q,none⟩=false:=fun q=>zs1 w3 z q _ _ X2.1
       have y0:w3.cell? ⟨z,0,none⟩=some (.int .i64 0):=by rw [zb w3 z 0 _ _ _ X2.1];rfl
       have y1:w3.cell? ⟨z,1,none⟩=some (.int .i64 0):=by rw [zb w3 z 1 _ _ _ X2.1];rfl
       have y2:w3.cell? ⟨z,2,none⟩=some (.string ⟨#[]⟩):=by rw [zb w3 z 2 _ _ _ X2.1];rfl
       have y3:w3.cell? ⟨z,3,none⟩=some (.int .i64 0):=by rw [zb w3 z 3 _ _ _ X2.1];rfl
       clear X2 hb
       obtain⟨tx,htx⟩:∃ t,t=s.extract i (i+n):=⟨_,rfl⟩
       rw [← htx]
       have HTX:=zh htx
       clear htx
       go_wp2_with fail
       have hf:=four_set X3.out.1 (.int .i64 k) (.int .i64 v) (.string tx) (.int .i64 i)
       refine bodyPost_ret (v:=tokV k v tx i) (by rw [zt rfl];simp [asAddr,load39 hf]) rfl ?_
       rw [← HCR.out]
       have X4:=X3.out.2
       rw [← HTX.out] at X4
       exact⟨by rw [HTX.out];try rfl,X4⟩
     | false =>
      have HR4:Hid (r=if LX.signs.contains c then .tok 6 0 1 else .bad 11):=by
       show _=_
       rw [HR3.out,if_neg (by rw [H61.out,h45];simp)]
      clear h45
      go_wp2_with fail
      have SB:=Tryz.strings_IndexByte signB c (W0.drewN (q1+q4+q5))
      have hsg:=signs_eq c HCB.out
      refine SB.mono ?_
      clear SB
      rintro e w3 ⟨rfl,rfl⟩
      obtain⟨x,hx⟩:∃ x,x=Lib.indexByte signB.data.toList ((c:Int):Int).toNat.toUInt8:=⟨_,rfl⟩
      rw [← hx] at hsg ⊢
      clear hx
      cases hct:LX.signs.contains c with
      | true =>
       rw [hct] at hsg
       have hx0:0≤x:=of_decide_eq_true hsg
       have HCT:=zh hct
       clear hct hsg
       go_wp2_with fail
       have NB:=made_any (SCW.out (W0.drewN (q1+q4+q5)) B0.out) 6 1 HI.out
       refine NB.mono ?_
       clear NB
       intro e w3 hp
       obtain⟨cr,hcr⟩:∃ cr,cr=r:=⟨_,rfl⟩
       have HP0:TPost (W0.drewN (q1+q4+q5)) s i cr e w3:=by
        rw [hcr,HR4.out,if_pos HCT.out]
        exact made_tpost (k:=6) (n:=1) hp
       have HCR:=zh hcr
       clear hp hcr
       cases cr with
       | bad er =>
        obtain⟨rfl,hb⟩:=HP0
        unfold thrown
        have X1:=zh hb
        clear hb
        go_wp2_with fail
        refine⟨rfl,?_⟩
        rw [← HCR.out]
        exact⟨rfl,B2.out.trans ((zu X1.out).mono B2.out.size)⟩
       | tok k v n =>
        obtain⟨rfl,hb⟩:=HP0
        unfold tokV
        have X2:=END.out w3 w3 _ k v (s.extract i (i+n)) hb
        have X1:=zh hb
        have X3:=zh X2
        have yf:∀ q,w3.frozen? ⟨z,q,none⟩=false:=fun q=>zs1 w3 z q _ _ X2.1
        have y0:w3.cell? ⟨z,0,none⟩=some (.int .i64 0):=by rw [zb w3 z 0 _ _ _ X2.1];rfl
        have y1:w3.cell? ⟨z,1,none⟩=some (.int .i64 0):=by rw [zb w3 z 1 _ _ _ X2.1];rfl
        have y2:w3.cell? ⟨z,2,none⟩=some (.string ⟨#[]⟩):=by rw [zb w3 z 2 _ _ _ X2.1];rfl
        have y3:w3.cell? ⟨z,3,none⟩=some (.int .i64 0):=by rw [zb w3 z 3 _ _ _ X2.1];rfl
        clear X2 hb
        obtain⟨tx,htx⟩:∃ t,t=s.extract i (i+n):=⟨_,rfl⟩
        rw [← htx]
        have HTX:=zh htx
        clear htx
        go_wp2_with fail
        have hf:=four_set X3.out.1 (.int .i64 k) (.int .i64 v) (.string tx) (.int .i64 i)
        refine bodyPost_ret (v:=tokV k v tx i) (by rw [zt rfl];simp [asAddr,load39 hf]) rfl ?_
        rw [← HCR.out]
        have X4:=X3.out.2
        rw [← HTX.out] at X4
        exact⟨by rw [HTX.out];try rfl,X4⟩
      | false =>
       rw [hct] at hsg
       have hx0:¬ 0≤x:=of_decide_eq_false hsg
       have HCT:=zh hct
       obtain⟨c0,c1,lt',-,-⟩:=ATW.out W0 B0.out
       clear hct hsg
       go_wp2_with fail
       refine⟨rfl,?_⟩
       rw [HR4.out,if_neg (by rw [HCT.out];exact Bool.false_ne_true)]
       exact⟨rfl,below_drawn B2.out _⟩
end Lx
namespace Lx
namespace LX
theorem run_le (p:Nat→Bool) (l:List Nat):run p l≤l.length:=by
 induction l with
 | nil=>exact Nat.le_refl _
 | cons c t ih =>
  rw [run]
  split
  ·simp only [List.length_cons];omega
  exact Nat.zero_le _
theorem num_nil:num []=none:=by decide
theorem made_ok {k n k' n':Nat}{v:Int}(h:made k n = .tok k' v n'):n'=n∧k'=k∧v=0∧n≤24:=by
 unfold made at h
 split at h
 ·cases h
 cases h;exact⟨rfl,rfl,rfl,by omega⟩
theorem nameLen_le (l:List Nat):nameLen l≤l.length:=by
 unfold nameLen
 have h1:=run_le part l
 simp only []
 split
 ·exact h1
 rename_i c t hc
 have h2:=run_le digit t
 have h3:(l.drop (run part l)).length=(c :: t).length:=by rw [hc]
 simp only [List.length_drop,List.length_cons] at h3
 split<;>omega
theorem nameLen_ge (l:List Nat):run part l≤nameLen l:=by
 unfold nameLen
 simp only []
 split
 ·exact Nat.le_refl _
 split<;>omega
theorem part_small {c:Nat}(h:small c=true):part c=true:=by simp [part,h]
theorem part_great {c:Nat}(h:great c=true):part c=true:=by simp [part,h]
theorem run_pos {p:Nat→Bool}{c:Nat}{t:List Nat}(h:p c=true):0<run p (c :: t):=by
 rw [run,if_pos h];omega
theorem number_ok {l:List Nat}{n k m:Nat}{v:Int}(h:number l n = .tok k v m):k=1∧m=n+run digit (l.drop n)∧num (l.take m)=some v:=by
 unfold number at h
 simp only [] at h
 split at h
 ·cases h
 rename_i v' hv
 split at h
 ·cases h;exact⟨rfl,rfl,hv⟩
 split at h
 ·cases h
 cases h;exact⟨rfl,rfl,hv⟩
theorem named_ok {l:List Nat}{k k' m:Nat}{v:Int}(h:named k l = .tok k' v m):m=nameLen l∧v=0∧m≤24∧k'=if words.contains (l.take m) then 5 else k:=by
 unfold named at h
 cases hm:made k (nameLen l) with
 | bad e=>rw [hm] at h;cases h
 | tok a b c =>
  rw [hm] at h
  obtain⟨rfl,rfl,rfl,h24⟩:=made_ok hm
  simp only [TR.tok.injEq] at h
  obtain⟨h1,h2,h3⟩:=h
  subst h3
  exact⟨rfl,h2.symm,h24,h1.symm⟩
theorem token_len {l:List Nat}{k m:Nat}{v:Int}(h:token l = .tok k v m):0<m∧m≤l.length:=by
 cases l with
 | nil=>cases h
 | cons c t =>
  unfold token at h
  simp only [] at h
  split at h
  ·obtain⟨_,hm,hv⟩:=number_ok h
   refine⟨?_,?_⟩
   ·rcases Nat.eq_zero_or_pos m with h0 | h0
    ·subst h0;rw [List.take_zero,num_nil] at hv;cases hv
    exact h0
   rw [hm]
   have:=run_le digit ((c :: t).drop (if c=126 then 1 else 0))
   rw [List.length_drop] at this
   split at this<;>simp_all<;>omega
  split at h
  ·rename_i hs
   obtain⟨rfl,_⟩:=named_ok h
   exact⟨Nat.lt_of_lt_of_le (run_pos (part_small hs)) (nameLen_ge _),nameLen_le _⟩
  split at h
  ·rename_i hs
   obtain⟨rfl,_⟩:=named_ok h
   exact⟨Nat.lt_of_lt_of_le (run_pos (part_great hs)) (nameLen_ge _),nameLen_le _⟩
  split at h
  ·obtain⟨rfl,_⟩:=made_ok h
   have:=run_le part t
   simp only [List.length_cons]
   exact⟨by omega,by omega⟩
  split at h
  ·rename_i hs
   cases h
   cases t with
   | nil=>simp [head0] at hs
   | cons d t=>simp
  split at h
  ·cases h;simp
  cases h
def Res.app (ts:List Tok) (cs:List (Nat×Nat)):Res→Res
 | .ok l c => .ok (ts++l) (cs++c)
 | .bad p e => .bad p e
theorem Res.app_app (a b:List Tok) (c d:List (Nat×Nat)) (r:Res):(r.app b d).app a c=r.app (a++b) (c++d):=by
 cases r<;>simp [Res.app]
theorem Res.app_nil (r:Res):r.app [] []=r:=by cases r<;>rfl
theorem Res.tok_app (t:Tok) (r:Res):r.tok t=r.app [t] []:=by cases r<;>rfl
theorem Res.cmt_app (c:Nat×Nat) (r:Res):r.cmt c=r.app [] [c]:=by cases r<;>rfl
theorem scanN_fuel:∀ (f g:Nat) (l:List Nat) (p:Nat),l.length≤f→l.length≤g→scanN f l p=scanN g l p
 | f,g,[],p,_,_=>by cases f<;>cases g<;>rfl
 | 0,g,c :: t,p,hf,_=>by simp at hf
 | f+1,0,c :: t,p,_,hg=>by simp at hg
 | f+1,g+1,c :: t,p,hf,hg=>by
  simp only [List.length_cons] at hf hg
  rw [scanN,scanN]
  split
  ·exact scanN_fuel f g t (p+1) (by omega) (by omega)
  split
  ·cases hc:cmt (c :: t) 0 0 with
   | fin n =>
    have h0:=cmt_fin hc
    simp only []
    rw [scanN_fuel f g ((c :: t).drop n) (p+n) (by simp only [List.length_drop,List.length_cons];omega) (by simp only [List.length_drop,List.length_cons];omega)]
   | deep n=>rfl
   | never=>rfl
  cases hc:token (c :: t) with
  | tok k v n =>
   have h0:=(token_len hc).1
   simp only []
   rw [scanN_fuel f g ((c :: t).drop n) (p+n) (by simp only [List.length_drop,List.length_cons];omega) (by simp only [List.length_drop,List.length_cons];omega)]
  | bad e=>rfl
def sc (T:List Nat) (j:Nat):Res:=scanN T.length (T.drop j) j
theorem scan_sc (T:List Nat):scan T=sc T 0:=rfl
theorem sc_end {T:List Nat}{j:Nat}(h:T.length≤j):sc T j = .ok [] []:=by
 unfold sc
 rw [List.drop_of_length_le h]
 cases T.length<;>rfl
theorem drop_get {T:List Nat}{j:Nat}(h:j<T.length):T.drop j=T.getD j 0 :: T.drop (j+1):=by
 rw [List.drop_eq_getElem_cons h,List.getD_eq_getElem?_getD,List.getElem?_eq_getElem h];rfl
theorem sc_step {T:List Nat}{j:Nat}(h:j<T.length):sc T j =
  if space (T.getD j 0) then sc T (j+1)
  else if opens (T.drop j) then
   match cmt (T.drop j) 0 0 with
   | .fin n=>(sc T (j+n)).app [] [(j,j+n)]
   | .deep n => .bad (j+n) 6
   | .never => .bad j 12
  else
   match token (T.drop j) with
   | .tok k v n=>(sc T (j+n)).app [⟨k,v,(T.drop j).take n,j⟩] []
   | .bad e => .bad j e:=by
 obtain⟨f,hf⟩:∃ f,T.length=f+1:=⟨T.length - 1,by omega⟩
 have hs:∀ n,0<n→scanN f ((T.drop j).drop n) (j+n)=sc T (j+n):=fun n hn=>by
  unfold sc
  rw [List.drop_drop]
  exact scanN_fuel _ _ _ _ (by rw [List.length_drop];omega) (by rw [List.length_drop];omega)
 have h1:scanN f (T.drop (j+1)) (j+1)=sc T (j+1):=by rw [← hs 1 (by omega),List.drop_drop]
 rw [← h1]
 conv=>lhs;unfold sc;rw [hf,drop_get h,scanN]
 rw [← drop_get h]
 split
 ·rfl
 split
 ·cases hc:cmt (T.drop j) 0 0 with
  | fin n=>simp only [];rw [Res.cmt_app,hs n (by have:=cmt_fin hc;omega)]
  | deep n=>rfl
  | never=>rfl
 cases hc:token (T.drop j) with
 | tok k v n=>simp only [];rw [Res.tok_app,hs n (token_len hc).1]
 | bad e=>rfl
theorem run_step {p:Nat→Bool}{T:List Nat}{j:Nat}(h:j<T.length):run p (T.drop j)=if p (T.getD j 0) then run p (T.drop (j+1))+1 else 0:=by
 rw [drop_get h,run]
theorem sc_spaces (T:List Nat):∀ (k j:Nat),run space (T.drop j)=k→sc T j=sc T (j+k)
 | 0,j,_=>rfl
 | k+1,j,hk=>by
  have hl:j<T.length:=by
   rcases Nat.lt_or_ge j T.length with h | h
   ·exact h
   rw [List.drop_of_length_le h] at hk;cases hk
  rw [run_step hl] at hk
  split at hk
  ·rename_i hs
   rw [sc_step hl,if_pos hs,sc_spaces T k (j+1) (by omega)]
   congr 1;omega
  cases hk
theorem run_stops (p:Nat→Bool) (T:List Nat):∀ (k j:Nat),run p (T.drop j)=k→j+k<T.length→p (T.getD (j+k) 0)=false
 | 0,j,hk,hl=>by
  rw [Nat.add_zero] at hl ⊢
  rw [run_step hl] at hk
  split at hk
  ·cases hk
  rename_i h;simpa using h
 | k+1,j,hk,hl=>by
  rw [run_step (by omega)] at hk
  split at hk
  ·have:=run_stops p T k (j+1) (by omega) (by omega)
   rw [show j+(k+1)=j+1+k from by omega];exact this
  cases hk
theorem cmt_le:∀ (l:List Nat) (d n m:Nat),cmt l d n = .fin m→m≤n+l.length
 | [],_,_,_,h=>by cases h
 | [_],_,_,_,h=>by cases h
 | a :: b :: t,d,n,m,h=>by
  rw [cmt] at h
  simp only [List.length_cons]
  split at h
  ·split at h
   ·cases h
   have:=cmt_le t _ _ _ h;omega
  split at h
  ·split at h
   ·cases h;omega
   have:=cmt_le t _ _ _ h;omega
  have:=cmt_le (b :: t) _ _ _ h
  simp only [List.length_cons] at this
  omega
theorem passN_abs (f : Nat) (T : List Nat) (j : Nat) : passN (f + 1) (T.drop j) j = if opens (T.drop (j + run space (T.drop j))) then
      match cmt (T.drop (j + run space (T.drop j))) 0 0 with
      | .fin n => (passN f (T.drop (j + run space (T.drop j) + n)) (j + run space (T.drop j) + n)).add [(j + run space (T.drop j), j + run space (T.drop j) + n)]
      | .deep n => .bad (j + run space (T.drop j) + n) 6
      | .never => .bad (j + run space (T.drop j)) 12
    else .to (j + run space (T.drop j)) [] := by
  rw [passN]
  simp only [List.drop_drop]
  all_goals
   by_cases h : opens (T.drop (j + run space (T.drop j))) = true
   · rw [if_pos h, if_pos h]
     cases cmt (T.drop (j + run space (T.drop j))) 0 0 <;> rfl
   · rw [if_neg h, if_neg h]
theorem opens_lt {T:List Nat}{j:Nat}(h:opens (T.drop j)=true):j<T.length∧space (T.getD j 0)=false:=by
 rcases Nat.lt_or_ge j T.length with hl | hl
 ·refine⟨hl,?_⟩
  rw [drop_get hl] at h
  generalize T.getD j 0=c at h
  by_cases e:c=40
  ·subst e;rfl
  exfalso
  unfold opens at h
  split at h
  ·rename_i heq;simp at heq;exact e heq.1
  cases h
 rw [List.drop_of_length_le hl] at h;cases h
theorem sc_pass (T:List Nat):∀ (f j:Nat),j≤T.length→T.length<f+j→(match passN f (T.drop j) j with
  | .bad q e=>sc T j = .bad q e
  | .to n cs=>sc T j=(sc T n).app [] cs∧j≤n∧n≤T.length∧cs.length+j≤n∧(n<T.length→space (T.getD n 0)=false∧opens (T.drop n)=false))
 | 0,j,hj,hf=>by omega
 | f+1,j,hj,hf=>by
  obtain⟨k,hk⟩:∃ k,k=run space (T.drop j):=⟨_,rfl⟩
  have hs:=sc_spaces T k j hk.symm
  have hkl:j+k≤T.length:=by
   have:=run_le space (T.drop j)
   rw [List.length_drop] at this
   omega
  rw [passN_abs,← hk,hs]
  cases ho:opens (T.drop (j+k)) with
  | false =>
   rw [if_neg (by decide)]
   exact⟨(Res.app_nil _).symm,by omega,hkl,by simp,fun hl=>⟨run_stops space T k j hk.symm hl,ho⟩⟩
  | true =>
   rw [if_pos rfl]
   obtain⟨hl,hsp⟩:=opens_lt ho
   have h1:=sc_step hl
   rw [hsp,if_neg (by decide),ho,if_pos rfl] at h1
   cases hc:cmt (T.drop (j+k)) 0 0 with
   | deep n=>rw [hc] at h1;exact h1
   | never=>rw [hc] at h1;exact h1
   | fin n =>
    rw [hc] at h1
    simp only [] at h1 ⊢
    have hn0:=cmt_fin hc
    have hn1:=cmt_le _ _ _ _ hc
    rw [List.length_drop] at hn1
    have ih:=sc_pass T f (j+k+n) (by omega) (by omega)
    rcases hp:passN f (T.drop (j+k+n)) (j+k+n) with ⟨m,cs⟩|⟨q,e⟩
    case bad =>
     rw [hp] at ih
     simp only [PR.add] at ih ⊢
     rw [h1,ih];rfl
    case «to» =>
     rw [hp] at ih
     simp only [PR.add] at ih ⊢
     obtain⟨i1,i2,i3,i4,i5⟩:=ih
     refine⟨?_,by omega,i3,by simp only [List.length_append,List.length_cons,List.length_nil];omega,i5⟩
     rw [h1,i1,Res.app_app]
     rfl
end LX
end Lx
namespace Lx
open Go.RowKit
structure Kt (n0:Nat) (w w':World):Prop where
 os:w'.os=w.os
 tape:w'.tape=w.tape
 output:w'.output=w.output
 size:w.heap.size≤w'.heap.size
 block:∀ k o,w.heap[k]?=some o→(k<n0∨((∀ c r,o ≠ .cells c 222 r)∧(∀ c r,o ≠ .cells c 228 r)))→w'.heap[k]?=some o
theorem Kt.refl (n0:Nat) (w:World):Kt n0 w w:=⟨rfl,rfl,rfl,zr4 _,fun _ _ h _=>h⟩
theorem Kt.trans {n0:Nat}{w w1 w2:World}(h:Kt n0 w w1) (k:Kt n0 w1 w2):Kt n0 w w2 :=
 ⟨k.os.trans h.os,k.tape.trans h.tape,k.output.trans h.output,zr5 h.size k.size,fun q o ho hq=>k.block q o (h.block q o ho hq) hq⟩
theorem Kt.drewN {n0:Nat}{w w':World}(h:Kt n0 w w') (m:Nat):Kt n0 w (w'.drewN m):=⟨h.os,h.tape,h.output,h.size,h.block⟩
theorem Kt.of_below {n0:Nat}{w w':World}(h:Below w.heap.size w w'):Kt n0 w w' :=
 ⟨h.os,h.tape,h.output,h.size,fun k o ho _=>(h.block k (zq7.1 ho).1).trans ho⟩
structure Kb (n0:Nat) (w w':World):Prop where
 os:w'.os=w.os
 tape:w'.tape=w.tape
 output:w'.output=w.output
 size:w.heap.size≤w'.heap.size
 block:∀ k o,w.heap[k]?=some o→(k<n0∨(∃ c,o = .cells c 222 (0,0))∨(∃ c,o = .cells c 228 (0,0))∨(∃ es cl,o = .map es cl)∨(∃ c,o = .cells c 200 (0,0)))→w'.heap[k]?=some o
theorem Kb.below {n0:Nat}{w w':World}(h:Kb n0 w w') (hn:n0≤w.heap.size):Below n0 w w' :=
 ⟨h.os,h.tape,h.output,h.size,fun k hk=>by
  have ho:w.heap[k]?=some w.heap[k]:=Array.getElem?_eq_getElem (by omega)
  rw [ho]
  exact h.block k _ ho (.inl hk)⟩
structure It (n0:Nat) (w:World) (b mb ib:Nat) (s:ByteArray) (i:Nat) (cv:Value) (cs:List (Nat×Nat)):Prop where
 sc:Sc w b s i mb cv
 cm:Cm w b cv cs
 hb:n0≤b
 hcv:∀ k,cv.ownBlock=some k→n0≤k
 wd:Wd w mb
 env:Env w
 hmb:mb≠b
 box:w.heap[ib]?=some (.cells #[.pointer (some ⟨b,0,none⟩)] 200 (0,0))
 n30:10≤n0
 n0w:n0≤w.heap.size
theorem Cm.blk {w:World}{b:Nat}{cv:Value}{cs:List (Nat×Nat)}(h:Cm w b cv cs) {k:Nat}(hk:cv.ownBlock=some k):∃ c,w.heap[k]?=some (.cells c 228 (0,0)):=by
 rcases h.row.2 with ⟨rfl,_⟩|⟨g,cap,cur,rfl,_,hg,_⟩
 ·simp [Value.ownBlock] at hk
 simp [Value.ownBlock] at hk;subst hk;exact⟨_,hg⟩
theorem Wd.keep {w w':World}{mb:Nat}(h:Wd w mb) (hk:∀ o,w.heap[mb]?=some o→(∃ es cl,o = .map es cl)→w'.heap[mb]?=some o):Wd w' mb:=by
 obtain⟨es,cl,h1,h2⟩:=h
 exact⟨es,cl,hk _ h1 ⟨_,_,rfl⟩,h2⟩
theorem Fr.kt {n0:Nat}{w w':World}{b mb i:Nat}{s:ByteArray}{cv cv':Value}{cs:List (Nat×Nat)}(h:Fr w w' b cv cv') (hs:Sc w b s i mb cv) (hc:Cm w b cv cs) (hb:n0≤b) (hcv:∀ k,cv.ownBlock=some k→n0≤k):Kt n0 w w':=by
 refine⟨h.os,h.tape,h.output,h.size,fun k o ho hk=>?_⟩
 refine(h.block k (zq7.1 ho).1 ?_ ?_).trans ho
 ·rintro rfl
  rcases hk with hk | ⟨hk,_⟩
  ·omega
  rw [hs.1] at ho
  simp only [zt3] at ho
  exact hk _ _ ho.symm
 intro hk2
 rcases hk with hk | ⟨_,hk⟩
 ·have:=hcv k hk2;omega
 obtain⟨c,hc2⟩:=hc.blk hk2
 rw [hc2] at ho
 simp only [zt3] at ho
 exact hk _ _ ho.symm
theorem Kt.below {n0:Nat}{w w':World}(h:Kt n0 w w') (hn:n0≤w.heap.size):Below n0 w w' :=
 ⟨h.os,h.tape,h.output,h.size,fun k hk=>by
  have ho:w.heap[k]?=some w.heap[k]:=Array.getElem?_eq_getElem (by omega)
  rw [ho]
  exact h.block k _ ho (.inl hk)⟩
theorem It.kt {n0:Nat}{w w':World}{b mb ib i i':Nat}{s:ByteArray}{cv cv':Value}{cs cs':List (Nat×Nat)}(h:It n0 w b mb ib s i cv cs) (k:Kt n0 w w') (hs:Sc w' b s i' mb cv') (hc:Cm w' b cv' cs') (hcv:∀ k,cv'.ownBlock=some k→n0≤k):It n0 w' b mb ib s i' cv' cs' :=
 ⟨hs,hc,h.hb,hcv,h.wd.keep (fun o ho he=>by obtain⟨es,cl,rfl⟩:=he;exact k.block mb _ ho (.inr ⟨nofun,nofun⟩)),
  h.env.keep (k.below h.n0w) h.n30,h.hmb,k.block ib _ h.box (.inr ⟨fun c r e=>by simp at e,fun c r e=>by simp at e⟩),h.n30,zr5 h.n0w k.size⟩
theorem It.fr {n0:Nat}{w w':World}{b mb ib i i':Nat}{s:ByteArray}{cv cv':Value}{cs cs':List (Nat×Nat)}(h:It n0 w b mb ib s i cv cs) (k:Fr w w' b cv cv') (hs:Sc w' b s i' mb cv') (hc:Cm w' b cv' cs'):It n0 w' b mb ib s i' cv' cs' :=
 h.kt (k.kt h.sc h.cm h.hb h.hcv) hs hc fun q hq=>by
  rcases k.own with e | ⟨p,e,hp⟩
  ·exact h.hcv q (e ▸ hq)
  rw [e] at hq;cases hq;exact zr5 h.n0w hp
theorem It.below {n0:Nat}{w w':World}{b mb ib i:Nat}{s:ByteArray}{cv:Value}{cs:List (Nat×Nat)}(h:It n0 w b mb ib s i cv cs) (k:Below w.heap.size w w'):It n0 w' b mb ib s i cv cs :=
 h.kt (Kt.of_below k) ⟨(k.block b (zq7.1 h.sc.1).1).trans h.sc.1,h.sc.2⟩ (h.cm.keep fun q hq _=>k.block q hq) h.hcv
theorem It.kb {n0:Nat}{w w':World}{b mb ib i:Nat}{s:ByteArray}{cv:Value}{cs:List (Nat×Nat)}(h:It n0 w b mb ib s i cv cs) (k:Kb n0 w w'):It n0 w' b mb ib s i cv cs :=
 ⟨⟨k.block b _ h.sc.1 (.inr (.inl ⟨_,rfl⟩)),h.sc.2⟩,h.cm.keep (fun q _ hq=>by obtain⟨c,hc⟩:=h.cm.blk hq;rw [hc];exact k.block q _ hc (.inr (.inr (.inl ⟨_,rfl⟩)))),h.hb,h.hcv,
  h.wd.keep fun o ho he=>k.block mb o ho (.inr (.inr (.inr (.inl he)))),h.env.keep (k.below h.n0w) h.n30,h.hmb,k.block ib _ h.box (.inr (.inr (.inr (.inr ⟨_,rfl⟩)))),h.n30,zr5 h.n0w k.size⟩
theorem It.drewN {n0:Nat}{w:World}{b mb ib i:Nat}{s:ByteArray}{cv:Value}{cs:List (Nat×Nat)}(h:It n0 w b mb ib s i cv cs) (m:Nat):It n0 (w.drewN m) b mb ib s i cv cs:=h.below (below_drawn (zs9 _ _) m)
theorem It.adv {n0:Nat}{w w':World}{b mb ib i j:Nat}{s:ByteArray}{cv:Value}{cs:List (Nat×Nat)}(h:It n0 w b mb ib s i cv cs) (k:Mv w w' b j) (hj:j≤s.size):It n0 w' b mb ib s j cv cs∧Kt n0 w w':=by
 have f:=k.fr cv
 refine⟨h.fr f (h.sc.mv k hj) (h.cm.keep fun p hp hb=>k.block p fun e=>h.cm.ne (by rw [hb,e])),f.kt h.sc h.cm h.hb h.hcv⟩
end Lx
end Go.Proofs.YtnkahlloahgifaaGreatDoor
