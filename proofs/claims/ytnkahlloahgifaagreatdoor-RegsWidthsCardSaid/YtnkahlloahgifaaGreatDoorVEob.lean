/- Part. -/
import Derived.Test.YtnkahlloahgifaaGreatDoorVOm
set_option maxHeartbeats 16000000
set_option maxRecDepth 100000
set_option linter.unusedSimpArgs false
set_option linter.unusedVariables false
namespace Go.Proofs.YtnkahlloahgifaaGreatDoor
open Go.RowKit RG Go.Maps RF
def vrCells (l:List (Nm×Int)):List Value:=l.flatMap fun m=>[.string m.1,.int .i64 m.2]
theorem vrCells_at:∀ (l:List (Nm×Int)) (i:Nat) (m:Nm×Int),l[i]?=some m→(vrCells l)[i*2]?=some (.string m.1)∧(vrCells l)[i*2+1]?=some (.int .i64 m.2)
 | [],i,m,h=>by simp at h
 | a :: l,0,m,h=>by
  simp at h
  subst h
  exact⟨rfl,rfl⟩
 | a :: l,i+1,m,h=>by
  rw [List.getElem?_cons_succ] at h
  have:=vrCells_at l i m h
  rw [show (i+1)*2=i*2+1+1 from by omega]
  exact this
def VrOwn (w:World) (base:Nat) (v:Value) (l:List (Nm×Int)):Prop:=w.ownsRow base 61 2 v l.length (vrCells l)
theorem VrOwn.block {w:World}{base:Nat}{v:Value}{l:List (Nm×Int)}(h:VrOwn w base v l) (h0:0<l.length):∃ (g cap:Nat) (cur:Array Value),v = .slice (some ⟨g,0,none⟩) l.length cap∧base≤g∧w.heap[g]?=some (.cells cur 61 (0,0)) ∧
  ∀ (i:Nat) m,l[i]?=some m→cur[i*2]?=some (.string m.1)∧cur[i*2+1]?=some (.int .i64 m.2):=by
 obtain⟨h1,h2⟩:=h
 rcases h2 with ⟨rfl,hz⟩|⟨g,cap,cur,rfl,hb,hg,k1,k2,k3,k4⟩
 ·omega
 refine⟨g,cap,cur,rfl,hb,hg,fun i m hi=>?_⟩
 have hl:=(zq8.1 hi).1
 obtain⟨a,b⟩:=vrCells_at l i m hi
 constructor
 ·rw [← Array.getElem?_toList,← List.getElem?_take_of_lt (show i*2<l.length*2 by omega),k4];exact a
 rw [← Array.getElem?_toList,← List.getElem?_take_of_lt (show i*2+1<l.length*2 by omega),k4];exact b
end Go.Proofs.YtnkahlloahgifaaGreatDoor
