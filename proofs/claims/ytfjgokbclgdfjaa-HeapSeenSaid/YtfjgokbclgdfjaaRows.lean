/-
  No cell of these rows narrows 'for every input' (looked for: loops, veiled, ifaces, maps, wideKeys, modest, calm, conditions, laid).
  DERIVED. THE GIVEN ROWS OF THIS SEAT. 8 by the template 'for every input the law returns true; each argument reads behind the call as it read before'; 0 by the template 'total and deterministic' (their statements: YtfjgokbclgdfjaaTotals.lean).
  GIVEN WITH THE SEED: the statements are not yours to turn. If you find one false, say at which input.
  Laid BY PROGRAM, IN A SANDBOX (cutbox-rows.mjs): the forced cells as the released guide's own fill.sh prints them over the translation 179cbcdc2b68393a… (all of the seat's roots in one cut). By AI agents, Wed Nov 11 2026. No macro, syntax, notation, axiom, sorry.
-/
import Derived.Test.YtfjgokbclgdfjaaChecked
import GoSem.Claim
import GoSem.ClaimJoined
import GoSem.ClaimMapViews
import Derived.JoinedTies
import Derived.KernelRfl
namespace Go.Proofs.Ytfjgokbclgdfjaa
/- THE CELL 'sum', in the pinned program and in every row, IS THE sha256 OF THE DUMP (.gsa) THAT YtfjgokbclgdfjaaProg.lean LOADS. Nothing in Lean hashes anything: it is a label: what it is worth is what the hold of that sum in a sandbox is worth. -/
noncomputable def Try.pinned : Pinned := { name := "ytfjgokbclgdfjaa", sum := "179cbcdc2b68393aee8cb1c5f0bb16a90ca75f91bca7f5fcd222d61961ca7021", checked := Try.checked }
namespace Rows
def none {H : Type} : Left H := { results := [], args := [] }

/-- 'restitchlaw19.HeapRoom': WHATEVER THE INPUT: true; the input reads as it did. -/
def heapRoomSpec : ChangeSpec := { name := "heapRoom", fn := fun _ => fun
  | [d1, d2, d3] => { results := [.lit (.bool true)], args := [d1, d2, d3] }
  | _ => none }
def heapRoomRow : OpenClaim := { program := "ytfjgokbclgdfjaa", sum := "179cbcdc2b68393aee8cb1c5f0bb16a90ca75f91bca7f5fcd222d61961ca7021", func := "restitch/restitchlaw19.HeapRoom", spec := "heapRoom", unfollowed := true, recurses := true, apart := false }
def HeapRoomSaid : Prop := heapRoomRow.holds Try.pinned (OpenSpec.ofChange heapRoomSpec)

/-- ITS FALSE NEIGHBOUR: 'it returns false'. Refute it at one input. -/
def heapRoomWrong : ChangeSpec := { name := "heapRoom", fn := fun _ => fun
  | [d1, d2, d3] => { results := [.lit (.bool false)], args := [d1, d2, d3] }
  | _ => none }
def HeapRoomWrongFalsely : Prop := heapRoomRow.holds Try.pinned (OpenSpec.ofChange heapRoomWrong)

/-- 'restitchlaw19.HeapWeak': WHATEVER THE INPUT: true; the input reads as it did. -/
def heapWeakSpec : ChangeSpec := { name := "heapWeak", fn := fun _ => fun
  | [d1, d2] => { results := [.lit (.bool true)], args := [d1, d2] }
  | _ => none }
def heapWeakRow : OpenClaim := { program := "ytfjgokbclgdfjaa", sum := "179cbcdc2b68393aee8cb1c5f0bb16a90ca75f91bca7f5fcd222d61961ca7021", func := "restitch/restitchlaw19.HeapWeak", spec := "heapWeak", unfollowed := true, recurses := true, apart := false }
def HeapWeakSaid : Prop := heapWeakRow.holds Try.pinned (OpenSpec.ofChange heapWeakSpec)

/-- ITS FALSE NEIGHBOUR: 'it returns false'. Refute it at one input. -/
def heapWeakWrong : ChangeSpec := { name := "heapWeak", fn := fun _ => fun
  | [d1, d2] => { results := [.lit (.bool false)], args := [d1, d2] }
  | _ => none }
def HeapWeakWrongFalsely : Prop := heapWeakRow.holds Try.pinned (OpenSpec.ofChange heapWeakWrong)

/-- 'restitchlaw19.HeapKept': WHATEVER THE INPUT: true; the input reads as it did. -/
def heapKeptSpec : ChangeSpec := { name := "heapKept", fn := fun _ => fun
  | [d1, d2] => { results := [.lit (.bool true)], args := [d1, d2] }
  | _ => none }
def heapKeptRow : OpenClaim := { program := "ytfjgokbclgdfjaa", sum := "179cbcdc2b68393aee8cb1c5f0bb16a90ca75f91bca7f5fcd222d61961ca7021", func := "restitch/restitchlaw19.HeapKept", spec := "heapKept", unfollowed := true, recurses := true, apart := false }
def HeapKeptSaid : Prop := heapKeptRow.holds Try.pinned (OpenSpec.ofChange heapKeptSpec)

/-- ITS FALSE NEIGHBOUR: 'it returns false'. Refute it at one input. -/
def heapKeptWrong : ChangeSpec := { name := "heapKept", fn := fun _ => fun
  | [d1, d2] => { results := [.lit (.bool false)], args := [d1, d2] }
  | _ => none }
def HeapKeptWrongFalsely : Prop := heapKeptRow.holds Try.pinned (OpenSpec.ofChange heapKeptWrong)

/-- 'restitchlaw19.HeapFreed': WHATEVER THE INPUT: true; the input reads as it did. -/
def heapFreedSpec : ChangeSpec := { name := "heapFreed", fn := fun _ => fun
  | [d1, d2] => { results := [.lit (.bool true)], args := [d1, d2] }
  | _ => none }
def heapFreedRow : OpenClaim := { program := "ytfjgokbclgdfjaa", sum := "179cbcdc2b68393aee8cb1c5f0bb16a90ca75f91bca7f5fcd222d61961ca7021", func := "restitch/restitchlaw19.HeapFreed", spec := "heapFreed", unfollowed := true, recurses := true, apart := false }
def HeapFreedSaid : Prop := heapFreedRow.holds Try.pinned (OpenSpec.ofChange heapFreedSpec)

/-- ITS FALSE NEIGHBOUR: 'it returns false'. Refute it at one input. -/
def heapFreedWrong : ChangeSpec := { name := "heapFreed", fn := fun _ => fun
  | [d1, d2] => { results := [.lit (.bool false)], args := [d1, d2] }
  | _ => none }
def HeapFreedWrongFalsely : Prop := heapFreedRow.holds Try.pinned (OpenSpec.ofChange heapFreedWrong)

/-- 'restitchlaw19.HeapBounded': WHATEVER THE INPUT: true; the input reads as it did. -/
def heapBoundedSpec : ChangeSpec := { name := "heapBounded", fn := fun _ => fun
  | [d1, d2] => { results := [.lit (.bool true)], args := [d1, d2] }
  | _ => none }
def heapBoundedRow : OpenClaim := { program := "ytfjgokbclgdfjaa", sum := "179cbcdc2b68393aee8cb1c5f0bb16a90ca75f91bca7f5fcd222d61961ca7021", func := "restitch/restitchlaw19.HeapBounded", spec := "heapBounded", unfollowed := true, recurses := true, apart := false }
def HeapBoundedSaid : Prop := heapBoundedRow.holds Try.pinned (OpenSpec.ofChange heapBoundedSpec)

/-- ITS FALSE NEIGHBOUR: 'it returns false'. Refute it at one input. -/
def heapBoundedWrong : ChangeSpec := { name := "heapBounded", fn := fun _ => fun
  | [d1, d2] => { results := [.lit (.bool false)], args := [d1, d2] }
  | _ => none }
def HeapBoundedWrongFalsely : Prop := heapBoundedRow.holds Try.pinned (OpenSpec.ofChange heapBoundedWrong)

/-- 'restitchlaw19.HeapPlaces': WHATEVER THE INPUT: true; the input reads as it did. -/
def heapPlacesSpec : ChangeSpec := { name := "heapPlaces", fn := fun _ => fun
  | [d1, d2] => { results := [.lit (.bool true)], args := [d1, d2] }
  | _ => none }
def heapPlacesRow : OpenClaim := { program := "ytfjgokbclgdfjaa", sum := "179cbcdc2b68393aee8cb1c5f0bb16a90ca75f91bca7f5fcd222d61961ca7021", func := "restitch/restitchlaw19.HeapPlaces", spec := "heapPlaces", unfollowed := true, recurses := true, apart := false }
def HeapPlacesSaid : Prop := heapPlacesRow.holds Try.pinned (OpenSpec.ofChange heapPlacesSpec)

/-- ITS FALSE NEIGHBOUR: 'it returns false'. Refute it at one input. -/
def heapPlacesWrong : ChangeSpec := { name := "heapPlaces", fn := fun _ => fun
  | [d1, d2] => { results := [.lit (.bool false)], args := [d1, d2] }
  | _ => none }
def HeapPlacesWrongFalsely : Prop := heapPlacesRow.holds Try.pinned (OpenSpec.ofChange heapPlacesWrong)

/-- 'restitchlaw19.HeapNews': WHATEVER THE INPUT: true; the input reads as it did. -/
def heapNewsSpec : ChangeSpec := { name := "heapNews", fn := fun _ => fun
  | [d] => { results := [.lit (.bool true)], args := [d] }
  | _ => none }
def heapNewsRow : OpenClaim := { program := "ytfjgokbclgdfjaa", sum := "179cbcdc2b68393aee8cb1c5f0bb16a90ca75f91bca7f5fcd222d61961ca7021", func := "restitch/restitchlaw19.HeapNews", spec := "heapNews", unfollowed := true, recurses := true, apart := false }
def HeapNewsSaid : Prop := heapNewsRow.holds Try.pinned (OpenSpec.ofChange heapNewsSpec)

/-- ITS FALSE NEIGHBOUR: 'it returns false'. Refute it at one input. -/
def heapNewsWrong : ChangeSpec := { name := "heapNews", fn := fun _ => fun
  | [d] => { results := [.lit (.bool false)], args := [d] }
  | _ => none }
def HeapNewsWrongFalsely : Prop := heapNewsRow.holds Try.pinned (OpenSpec.ofChange heapNewsWrong)

/-- 'restitchlaw19.HeapSeen': WHATEVER THE INPUT: true; the input reads as it did. -/
def heapSeenSpec : ChangeSpec := { name := "heapSeen", fn := fun _ => fun
  | [d1, d2] => { results := [.lit (.bool true)], args := [d1, d2] }
  | _ => none }
def heapSeenRow : OpenClaim := { program := "ytfjgokbclgdfjaa", sum := "179cbcdc2b68393aee8cb1c5f0bb16a90ca75f91bca7f5fcd222d61961ca7021", func := "restitch/restitchlaw19.HeapSeen", spec := "heapSeen", unfollowed := true, recurses := true, apart := false }
def HeapSeenSaid : Prop := heapSeenRow.holds Try.pinned (OpenSpec.ofChange heapSeenSpec)

/-- ITS FALSE NEIGHBOUR: 'it returns false'. Refute it at one input. -/
def heapSeenWrong : ChangeSpec := { name := "heapSeen", fn := fun _ => fun
  | [d1, d2] => { results := [.lit (.bool false)], args := [d1, d2] }
  | _ => none }
def HeapSeenWrongFalsely : Prop := heapSeenRow.holds Try.pinned (OpenSpec.ofChange heapSeenWrong)

/- THE SECOND FORM. 'bulk': how many values and letters a reading holds, each counted each time it is reached (what is shared counts as often as it is met; a slice's spare places count too). A statement '..UptoSaid' is the law's where the arguments, and the package variables that the reading takes, are together of bulk at most 1048576: NARROWER than '..Said'. Prove '..Said' where nothing that the law and all that it calls make is longer than what came in: it says more and counts as full. Else prove '..UptoSaid'. A law counts once. -/
mutual
def uptoBulk {H : Type} : DataW H → Nat
  | .lit (.string bytes) => bytes.length + 1
  | .lit _ => 1
  | .nil => 1
  | .ptr d => uptoBulk d + 1
  | .slice elems spare => uptoBulkAll elems + uptoBulkAll spare + 1
  | .agg parts => uptoBulkAll parts + 1
  | .iface _ d => uptoBulk d + 1
  | .map entries => uptoBulkEntries entries + 1
  | .held _ => 1
def uptoBulkAll {H : Type} : List (DataW H) → Nat
  | [] => 0
  | d :: r => uptoBulk d + uptoBulkAll r
def uptoBulkEntries {H : Type} : List (Lit × DataW H) → Nat
  | [] => 0
  | x :: r => uptoBulkEntry x + uptoBulkEntries r
def uptoBulkEntry {H : Type} : Lit × DataW H → Nat
  | (.string bytes, d) => bytes.length + uptoBulk d + 1
  | (_, d) => uptoBulk d + 1
 end
def uptoSmall : (H : Type) → List (DataW H) → Bool := fun _ ds => decide (uptoBulkAll ds ≤ 1048576)
def OpenSpec.upto (s : _root_.Go.ChangeSpec) : _root_.Go.OpenSpec := { _root_.Go.OpenSpec.ofChange s with cond := some uptoSmall }

/-- 'restitchlaw19.HeapRoom', WHERE WHAT IT READS IS OF BULK AT MOST 1048576: true; the input reads as it did. -/
def heapRoomUptoRow : OpenClaim := { program := "ytfjgokbclgdfjaa", sum := "179cbcdc2b68393aee8cb1c5f0bb16a90ca75f91bca7f5fcd222d61961ca7021", func := "restitch/restitchlaw19.HeapRoom", spec := "heapRoom", unfollowed := true, recurses := true, apart := false, narrowed := true }
def HeapRoomUptoSaid : Prop := heapRoomUptoRow.holds Try.pinned (OpenSpec.upto heapRoomSpec)

/-- 'restitchlaw19.HeapWeak', WHERE WHAT IT READS IS OF BULK AT MOST 1048576: true; the input reads as it did. -/
def heapWeakUptoRow : OpenClaim := { program := "ytfjgokbclgdfjaa", sum := "179cbcdc2b68393aee8cb1c5f0bb16a90ca75f91bca7f5fcd222d61961ca7021", func := "restitch/restitchlaw19.HeapWeak", spec := "heapWeak", unfollowed := true, recurses := true, apart := false, narrowed := true }
def HeapWeakUptoSaid : Prop := heapWeakUptoRow.holds Try.pinned (OpenSpec.upto heapWeakSpec)

/-- 'restitchlaw19.HeapKept', WHERE WHAT IT READS IS OF BULK AT MOST 1048576: true; the input reads as it did. -/
def heapKeptUptoRow : OpenClaim := { program := "ytfjgokbclgdfjaa", sum := "179cbcdc2b68393aee8cb1c5f0bb16a90ca75f91bca7f5fcd222d61961ca7021", func := "restitch/restitchlaw19.HeapKept", spec := "heapKept", unfollowed := true, recurses := true, apart := false, narrowed := true }
def HeapKeptUptoSaid : Prop := heapKeptUptoRow.holds Try.pinned (OpenSpec.upto heapKeptSpec)

/-- 'restitchlaw19.HeapFreed', WHERE WHAT IT READS IS OF BULK AT MOST 1048576: true; the input reads as it did. -/
def heapFreedUptoRow : OpenClaim := { program := "ytfjgokbclgdfjaa", sum := "179cbcdc2b68393aee8cb1c5f0bb16a90ca75f91bca7f5fcd222d61961ca7021", func := "restitch/restitchlaw19.HeapFreed", spec := "heapFreed", unfollowed := true, recurses := true, apart := false, narrowed := true }
def HeapFreedUptoSaid : Prop := heapFreedUptoRow.holds Try.pinned (OpenSpec.upto heapFreedSpec)

/-- 'restitchlaw19.HeapBounded', WHERE WHAT IT READS IS OF BULK AT MOST 1048576: true; the input reads as it did. -/
def heapBoundedUptoRow : OpenClaim := { program := "ytfjgokbclgdfjaa", sum := "179cbcdc2b68393aee8cb1c5f0bb16a90ca75f91bca7f5fcd222d61961ca7021", func := "restitch/restitchlaw19.HeapBounded", spec := "heapBounded", unfollowed := true, recurses := true, apart := false, narrowed := true }
def HeapBoundedUptoSaid : Prop := heapBoundedUptoRow.holds Try.pinned (OpenSpec.upto heapBoundedSpec)

/-- 'restitchlaw19.HeapPlaces', WHERE WHAT IT READS IS OF BULK AT MOST 1048576: true; the input reads as it did. -/
def heapPlacesUptoRow : OpenClaim := { program := "ytfjgokbclgdfjaa", sum := "179cbcdc2b68393aee8cb1c5f0bb16a90ca75f91bca7f5fcd222d61961ca7021", func := "restitch/restitchlaw19.HeapPlaces", spec := "heapPlaces", unfollowed := true, recurses := true, apart := false, narrowed := true }
def HeapPlacesUptoSaid : Prop := heapPlacesUptoRow.holds Try.pinned (OpenSpec.upto heapPlacesSpec)

/-- 'restitchlaw19.HeapNews', WHERE WHAT IT READS IS OF BULK AT MOST 1048576: true; the input reads as it did. -/
def heapNewsUptoRow : OpenClaim := { program := "ytfjgokbclgdfjaa", sum := "179cbcdc2b68393aee8cb1c5f0bb16a90ca75f91bca7f5fcd222d61961ca7021", func := "restitch/restitchlaw19.HeapNews", spec := "heapNews", unfollowed := true, recurses := true, apart := false, narrowed := true }
def HeapNewsUptoSaid : Prop := heapNewsUptoRow.holds Try.pinned (OpenSpec.upto heapNewsSpec)

/-- 'restitchlaw19.HeapSeen', WHERE WHAT IT READS IS OF BULK AT MOST 1048576: true; the input reads as it did. -/
def heapSeenUptoRow : OpenClaim := { program := "ytfjgokbclgdfjaa", sum := "179cbcdc2b68393aee8cb1c5f0bb16a90ca75f91bca7f5fcd222d61961ca7021", func := "restitch/restitchlaw19.HeapSeen", spec := "heapSeen", unfollowed := true, recurses := true, apart := false, narrowed := true }
def HeapSeenUptoSaid : Prop := heapSeenUptoRow.holds Try.pinned (OpenSpec.upto heapSeenSpec)

end Rows
end Go.Proofs.Ytfjgokbclgdfjaa
