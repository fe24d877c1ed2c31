/- Part. -/
import Derived.Test.YtnkahlloahgifaaGreatDoorVOm
set_option maxHeartbeats 16000000
set_option maxRecDepth 100000
set_option linter.unusedSimpArgs false
set_option linter.unusedVariables false
namespace Go.Proofs.YtnkahlloahgifaaGreatDoor
open Go.RowKit RG Go.Maps RF
theorem SlAt.nat {w:World}{ad:Option Addr}{n c:Nat}{l:List Nat}(h:SlAt w (.slice ad n c) l.length (nats l)) {k m:Nat}(hm:l[k]?=some m):∃ g o,ad=some ⟨g,o,none⟩∧w.cell? ⟨g,o+k,none⟩=some (.int .i64 (m:Nat)):=by
 obtain⟨-,ad',c',e,hat⟩:=h
 obtain⟨rfl,rfl,rfl⟩:=by simpa using e
 obtain⟨g,o,rfl,h2⟩:=hat (by have:=(zq8.1 hm).1;omega)
 exact⟨g,o,rfl,h2 k _ (nats_at hm)⟩
variable {w w':World} {fb:Nat} {F:List Nd} {sva:Option Addr} {svc ug uo uc ng no nc bg bo bc ag ao ac:Nat} {so:Value}
end Go.Proofs.YtnkahlloahgifaaGreatDoor
