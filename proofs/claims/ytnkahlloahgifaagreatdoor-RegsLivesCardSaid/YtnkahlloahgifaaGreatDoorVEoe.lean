/- Part. -/
import Derived.Test.YtnkahlloahgifaaGreatDoorVEob
set_option maxHeartbeats 16000000
set_option maxRecDepth 100000
set_option linter.unusedSimpArgs false
set_option linter.unusedVariables false
namespace Go.Proofs.YtnkahlloahgifaaGreatDoor
open Go.RowKit RG Go.Maps RF
theorem modR_any (w:World) (n m:Int) (hn : -9223372036854775808≤n∧n≤9223372036854775807) (h0:0<m) (hm:m<4000000000000000000) :
  Calls Tryz.prog 22 #[.int .i64 n,.int .i64 m] w fun e w'=>e = .returned (.int .i64 (n % m))∧w'=w:=by
 have hb : -m<n.tmod m∧n.tmod m<m:=by
  have h1:=Int.tmod_lt_of_pos n h0
  have h2:=Int.lt_tmod_of_pos n h0
  omega
 have e1:n % m=if n.tmod m<0 then n.tmod m+m else n.tmod m:=by
  have h1:=Int.emod_eq_tmod (a:=n) (b:=m)
  have h2:=Int.emod_nonneg n (show m≠0 by omega)
  have h3:=Int.emod_lt_of_pos n h0
  have h4:(m.natAbs:Int)=m:=by omega
  by_cases hneg:n.tmod m<0
  ·rw [if_pos hneg]
   split at h1<;>omega
  rw [if_neg hneg]
  split at h1<;>omega
 by_cases hneg:n.tmod m<0
 ·rw [e1,if_pos hneg]
  go_enter Tryz.func22,Tryz.ntmps22
  go_wp2
  go_ret
  exact⟨rfl,rfl⟩
 rw [e1,if_neg hneg]
 go_enter Tryz.func22,Tryz.ntmps22
 go_wp2
 go_ret
 exact⟨rfl,rfl⟩
end Go.Proofs.YtnkahlloahgifaaGreatDoor
