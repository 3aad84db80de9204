/-
  No cell of these rows narrows 'for every input' (looked for: loops, veiled, ifaces, maps, wideKeys, modest, calm, conditions, laid).
  DERIVED. THE GIVEN ROWS OF THIS SEAT. 7 by the template 'for every input the law returns true; each argument reads behind the call as it read before'; 0 by the template 'total and deterministic' (their statements: YtgmabepdhbnppaaTotals.lean).
  GIVEN WITH THE SEED: the statements are not yours to turn. If you find one false, say at which input.
  Laid BY PROGRAM, IN A SANDBOX (cutbox-rows.mjs): the forced cells as the released guide's own fill.sh prints them over the translation 530c991f885c1aea… (all of the seat's roots in one cut). By AI agents, Wed Nov 11 2026. No macro, syntax, notation, axiom, sorry.
-/
import Derived.Test.YtgmabepdhbnppaaChecked
import GoSem.Claim
import GoSem.ClaimJoined
import GoSem.ClaimMapViews
import Derived.JoinedTies
import Derived.KernelRfl
namespace Go.Proofs.Ytgmabepdhbnppaa
/- THE CELL 'sum', in the pinned program and in every row, IS THE sha256 OF THE DUMP (.gsa) THAT YtgmabepdhbnppaaProg.lean LOADS. Nothing in Lean hashes anything: it is a label: what it is worth is what the hold of that sum in a sandbox is worth. -/
noncomputable def Try.pinned : Pinned := { name := "ytgmabepdhbnppaa", sum := "530c991f885c1aea7c0a8afe7552f56e9dba5482dfa3e90092843b416ff07d0c", checked := Try.checked }
namespace Rows
def none {H : Type} : Left H := { results := [], args := [] }

/-- 'slatewalllaw05.StrokeMatchesReference': WHATEVER THE INPUT: true; the input reads as it did. -/
def strokeMatchesReferenceSpec : ChangeSpec := { name := "strokeMatchesReference", fn := fun _ => fun
  | [d1, d2, d3, d4, d5, d6, d7, d8, d9, d10] => { results := [.lit (.bool true)], args := [d1, d2, d3, d4, d5, d6, d7, d8, d9, d10] }
  | _ => none }
def strokeMatchesReferenceRow : OpenClaim := { program := "ytgmabepdhbnppaa", sum := "530c991f885c1aea7c0a8afe7552f56e9dba5482dfa3e90092843b416ff07d0c", func := "slatewall/slatewalllaw05.StrokeMatchesReference", spec := "strokeMatchesReference", unfollowed := true, recurses := true, apart := false }
def StrokeMatchesReferenceSaid : Prop := strokeMatchesReferenceRow.holds Try.pinned (OpenSpec.ofChange strokeMatchesReferenceSpec)

/-- ITS FALSE NEIGHBOUR: 'it returns false'. Refute it at one input. -/
def strokeMatchesReferenceWrong : ChangeSpec := { name := "strokeMatchesReference", fn := fun _ => fun
  | [d1, d2, d3, d4, d5, d6, d7, d8, d9, d10] => { results := [.lit (.bool false)], args := [d1, d2, d3, d4, d5, d6, d7, d8, d9, d10] }
  | _ => none }
def StrokeMatchesReferenceWrongFalsely : Prop := strokeMatchesReferenceRow.holds Try.pinned (OpenSpec.ofChange strokeMatchesReferenceWrong)

/-- 'slatewalllaw05.StrokeThin': WHATEVER THE INPUT: true; the input reads as it did. -/
def strokeThinSpec : ChangeSpec := { name := "strokeThin", fn := fun _ => fun
  | [d1, d2, d3, d4, d5] => { results := [.lit (.bool true)], args := [d1, d2, d3, d4, d5] }
  | _ => none }
def strokeThinRow : OpenClaim := { program := "ytgmabepdhbnppaa", sum := "530c991f885c1aea7c0a8afe7552f56e9dba5482dfa3e90092843b416ff07d0c", func := "slatewall/slatewalllaw05.StrokeThin", spec := "strokeThin", unfollowed := true, recurses := true, apart := false }
def StrokeThinSaid : Prop := strokeThinRow.holds Try.pinned (OpenSpec.ofChange strokeThinSpec)

/-- ITS FALSE NEIGHBOUR: 'it returns false'. Refute it at one input. -/
def strokeThinWrong : ChangeSpec := { name := "strokeThin", fn := fun _ => fun
  | [d1, d2, d3, d4, d5] => { results := [.lit (.bool false)], args := [d1, d2, d3, d4, d5] }
  | _ => none }
def StrokeThinWrongFalsely : Prop := strokeThinRow.holds Try.pinned (OpenSpec.ofChange strokeThinWrong)

/-- 'slatewalllaw05.StrokeTolerance': WHATEVER THE INPUT: true; the input reads as it did. -/
def strokeToleranceSpec : ChangeSpec := { name := "strokeTolerance", fn := fun _ => fun
  | [d1, d2, d3, d4, d5] => { results := [.lit (.bool true)], args := [d1, d2, d3, d4, d5] }
  | _ => none }
def strokeToleranceRow : OpenClaim := { program := "ytgmabepdhbnppaa", sum := "530c991f885c1aea7c0a8afe7552f56e9dba5482dfa3e90092843b416ff07d0c", func := "slatewall/slatewalllaw05.StrokeTolerance", spec := "strokeTolerance", unfollowed := true, recurses := true, apart := false }
def StrokeToleranceSaid : Prop := strokeToleranceRow.holds Try.pinned (OpenSpec.ofChange strokeToleranceSpec)

/-- ITS FALSE NEIGHBOUR: 'it returns false'. Refute it at one input. -/
def strokeToleranceWrong : ChangeSpec := { name := "strokeTolerance", fn := fun _ => fun
  | [d1, d2, d3, d4, d5] => { results := [.lit (.bool false)], args := [d1, d2, d3, d4, d5] }
  | _ => none }
def StrokeToleranceWrongFalsely : Prop := strokeToleranceRow.holds Try.pinned (OpenSpec.ofChange strokeToleranceWrong)

/-- 'slatewalllaw05.StrokeTurned': WHATEVER THE INPUT: true; the input reads as it did. -/
def strokeTurnedSpec : ChangeSpec := { name := "strokeTurned", fn := fun _ => fun
  | [d1, d2, d3, d4, d5, d6] => { results := [.lit (.bool true)], args := [d1, d2, d3, d4, d5, d6] }
  | _ => none }
def strokeTurnedRow : OpenClaim := { program := "ytgmabepdhbnppaa", sum := "530c991f885c1aea7c0a8afe7552f56e9dba5482dfa3e90092843b416ff07d0c", func := "slatewall/slatewalllaw05.StrokeTurned", spec := "strokeTurned", unfollowed := true, recurses := true, apart := false }
def StrokeTurnedSaid : Prop := strokeTurnedRow.holds Try.pinned (OpenSpec.ofChange strokeTurnedSpec)

/-- ITS FALSE NEIGHBOUR: 'it returns false'. Refute it at one input. -/
def strokeTurnedWrong : ChangeSpec := { name := "strokeTurned", fn := fun _ => fun
  | [d1, d2, d3, d4, d5, d6] => { results := [.lit (.bool false)], args := [d1, d2, d3, d4, d5, d6] }
  | _ => none }
def StrokeTurnedWrongFalsely : Prop := strokeTurnedRow.holds Try.pinned (OpenSpec.ofChange strokeTurnedWrong)

/-- 'slatewalllaw05.StrokeMoved': WHATEVER THE INPUT: true; the input reads as it did. -/
def strokeMovedSpec : ChangeSpec := { name := "strokeMoved", fn := fun _ => fun
  | [d1, d2, d3, d4, d5] => { results := [.lit (.bool true)], args := [d1, d2, d3, d4, d5] }
  | _ => none }
def strokeMovedRow : OpenClaim := { program := "ytgmabepdhbnppaa", sum := "530c991f885c1aea7c0a8afe7552f56e9dba5482dfa3e90092843b416ff07d0c", func := "slatewall/slatewalllaw05.StrokeMoved", spec := "strokeMoved", unfollowed := true, recurses := true, apart := false }
def StrokeMovedSaid : Prop := strokeMovedRow.holds Try.pinned (OpenSpec.ofChange strokeMovedSpec)

/-- ITS FALSE NEIGHBOUR: 'it returns false'. Refute it at one input. -/
def strokeMovedWrong : ChangeSpec := { name := "strokeMoved", fn := fun _ => fun
  | [d1, d2, d3, d4, d5] => { results := [.lit (.bool false)], args := [d1, d2, d3, d4, d5] }
  | _ => none }
def StrokeMovedWrongFalsely : Prop := strokeMovedRow.holds Try.pinned (OpenSpec.ofChange strokeMovedWrong)

/-- 'slatewalllaw05.StrokeNear': WHATEVER THE INPUT: true; the input reads as it did. -/
def strokeNearSpec : ChangeSpec := { name := "strokeNear", fn := fun _ => fun
  | [d1, d2, d3] => { results := [.lit (.bool true)], args := [d1, d2, d3] }
  | _ => none }
def strokeNearRow : OpenClaim := { program := "ytgmabepdhbnppaa", sum := "530c991f885c1aea7c0a8afe7552f56e9dba5482dfa3e90092843b416ff07d0c", func := "slatewall/slatewalllaw05.StrokeNear", spec := "strokeNear", unfollowed := true, recurses := true, apart := false }
def StrokeNearSaid : Prop := strokeNearRow.holds Try.pinned (OpenSpec.ofChange strokeNearSpec)

/-- ITS FALSE NEIGHBOUR: 'it returns false'. Refute it at one input. -/
def strokeNearWrong : ChangeSpec := { name := "strokeNear", fn := fun _ => fun
  | [d1, d2, d3] => { results := [.lit (.bool false)], args := [d1, d2, d3] }
  | _ => none }
def StrokeNearWrongFalsely : Prop := strokeNearRow.holds Try.pinned (OpenSpec.ofChange strokeNearWrong)

/-- 'slatewalllaw05.StrokeBox': WHATEVER THE INPUT: true; the input reads as it did. -/
def strokeBoxSpec : ChangeSpec := { name := "strokeBox", fn := fun _ => fun
  | [d1, d2, d3, d4, d5] => { results := [.lit (.bool true)], args := [d1, d2, d3, d4, d5] }
  | _ => none }
def strokeBoxRow : OpenClaim := { program := "ytgmabepdhbnppaa", sum := "530c991f885c1aea7c0a8afe7552f56e9dba5482dfa3e90092843b416ff07d0c", func := "slatewall/slatewalllaw05.StrokeBox", spec := "strokeBox", unfollowed := true, recurses := true, apart := false }
def StrokeBoxSaid : Prop := strokeBoxRow.holds Try.pinned (OpenSpec.ofChange strokeBoxSpec)

/-- ITS FALSE NEIGHBOUR: 'it returns false'. Refute it at one input. -/
def strokeBoxWrong : ChangeSpec := { name := "strokeBox", fn := fun _ => fun
  | [d1, d2, d3, d4, d5] => { results := [.lit (.bool false)], args := [d1, d2, d3, d4, d5] }
  | _ => none }
def StrokeBoxWrongFalsely : Prop := strokeBoxRow.holds Try.pinned (OpenSpec.ofChange strokeBoxWrong)

/- THE SECOND FORM. 'bulk': how many values and letters a reading holds, each counted each time it is reached (what is shared counts as often as it is met; a slice's spare places count too). A statement '..UptoSaid' is the law's where the arguments, and the package variables that the reading takes, are together of bulk at most 1048576: NARROWER than '..Said'. Prove '..Said' where nothing that the law and all that it calls make is longer than what came in: it says more and counts as full. Else prove '..UptoSaid'. A law counts once. -/
mutual
def uptoBulk {H : Type} : DataW H → Nat
  | .lit (.string bytes) => bytes.length + 1
  | .lit _ => 1
  | .nil => 1
  | .ptr d => uptoBulk d + 1
  | .slice elems spare => uptoBulkAll elems + uptoBulkAll spare + 1
  | .agg parts => uptoBulkAll parts + 1
  | .iface _ d => uptoBulk d + 1
  | .map entries => uptoBulkEntries entries + 1
  | .held _ => 1
def uptoBulkAll {H : Type} : List (DataW H) → Nat
  | [] => 0
  | d :: r => uptoBulk d + uptoBulkAll r
def uptoBulkEntries {H : Type} : List (Lit × DataW H) → Nat
  | [] => 0
  | x :: r => uptoBulkEntry x + uptoBulkEntries r
def uptoBulkEntry {H : Type} : Lit × DataW H → Nat
  | (.string bytes, d) => bytes.length + uptoBulk d + 1
  | (_, d) => uptoBulk d + 1
 end
def uptoSmall : (H : Type) → List (DataW H) → Bool := fun _ ds => decide (uptoBulkAll ds ≤ 1048576)
def OpenSpec.upto (s : _root_.Go.ChangeSpec) : _root_.Go.OpenSpec := { _root_.Go.OpenSpec.ofChange s with cond := some uptoSmall }

/-- 'slatewalllaw05.StrokeMatchesReference', WHERE WHAT IT READS IS OF BULK AT MOST 1048576: true; the input reads as it did. -/
def strokeMatchesReferenceUptoRow : OpenClaim := { program := "ytgmabepdhbnppaa", sum := "530c991f885c1aea7c0a8afe7552f56e9dba5482dfa3e90092843b416ff07d0c", func := "slatewall/slatewalllaw05.StrokeMatchesReference", spec := "strokeMatchesReference", unfollowed := true, recurses := true, apart := false, narrowed := true }
def StrokeMatchesReferenceUptoSaid : Prop := strokeMatchesReferenceUptoRow.holds Try.pinned (OpenSpec.upto strokeMatchesReferenceSpec)

/-- 'slatewalllaw05.StrokeThin', WHERE WHAT IT READS IS OF BULK AT MOST 1048576: true; the input reads as it did. -/
def strokeThinUptoRow : OpenClaim := { program := "ytgmabepdhbnppaa", sum := "530c991f885c1aea7c0a8afe7552f56e9dba5482dfa3e90092843b416ff07d0c", func := "slatewall/slatewalllaw05.StrokeThin", spec := "strokeThin", unfollowed := true, recurses := true, apart := false, narrowed := true }
def StrokeThinUptoSaid : Prop := strokeThinUptoRow.holds Try.pinned (OpenSpec.upto strokeThinSpec)

/-- 'slatewalllaw05.StrokeTolerance', WHERE WHAT IT READS IS OF BULK AT MOST 1048576: true; the input reads as it did. -/
def strokeToleranceUptoRow : OpenClaim := { program := "ytgmabepdhbnppaa", sum := "530c991f885c1aea7c0a8afe7552f56e9dba5482dfa3e90092843b416ff07d0c", func := "slatewall/slatewalllaw05.StrokeTolerance", spec := "strokeTolerance", unfollowed := true, recurses := true, apart := false, narrowed := true }
def StrokeToleranceUptoSaid : Prop := strokeToleranceUptoRow.holds Try.pinned (OpenSpec.upto strokeToleranceSpec)

/-- 'slatewalllaw05.StrokeTurned', WHERE WHAT IT READS IS OF BULK AT MOST 1048576: true; the input reads as it did. -/
def strokeTurnedUptoRow : OpenClaim := { program := "ytgmabepdhbnppaa", sum := "530c991f885c1aea7c0a8afe7552f56e9dba5482dfa3e90092843b416ff07d0c", func := "slatewall/slatewalllaw05.StrokeTurned", spec := "strokeTurned", unfollowed := true, recurses := true, apart := false, narrowed := true }
def StrokeTurnedUptoSaid : Prop := strokeTurnedUptoRow.holds Try.pinned (OpenSpec.upto strokeTurnedSpec)

/-- 'slatewalllaw05.StrokeMoved', WHERE WHAT IT READS IS OF BULK AT MOST 1048576: true; the input reads as it did. -/
def strokeMovedUptoRow : OpenClaim := { program := "ytgmabepdhbnppaa", sum := "530c991f885c1aea7c0a8afe7552f56e9dba5482dfa3e90092843b416ff07d0c", func := "slatewall/slatewalllaw05.StrokeMoved", spec := "strokeMoved", unfollowed := true, recurses := true, apart := false, narrowed := true }
def StrokeMovedUptoSaid : Prop := strokeMovedUptoRow.holds Try.pinned (OpenSpec.upto strokeMovedSpec)

/-- 'slatewalllaw05.StrokeNear', WHERE WHAT IT READS IS OF BULK AT MOST 1048576: true; the input reads as it did. -/
def strokeNearUptoRow : OpenClaim := { program := "ytgmabepdhbnppaa", sum := "530c991f885c1aea7c0a8afe7552f56e9dba5482dfa3e90092843b416ff07d0c", func := "slatewall/slatewalllaw05.StrokeNear", spec := "strokeNear", unfollowed := true, recurses := true, apart := false, narrowed := true }
def StrokeNearUptoSaid : Prop := strokeNearUptoRow.holds Try.pinned (OpenSpec.upto strokeNearSpec)

/-- 'slatewalllaw05.StrokeBox', WHERE WHAT IT READS IS OF BULK AT MOST 1048576: true; the input reads as it did. -/
def strokeBoxUptoRow : OpenClaim := { program := "ytgmabepdhbnppaa", sum := "530c991f885c1aea7c0a8afe7552f56e9dba5482dfa3e90092843b416ff07d0c", func := "slatewall/slatewalllaw05.StrokeBox", spec := "strokeBox", unfollowed := true, recurses := true, apart := false, narrowed := true }
def StrokeBoxUptoSaid : Prop := strokeBoxUptoRow.holds Try.pinned (OpenSpec.upto strokeBoxSpec)

end Rows
end Go.Proofs.Ytgmabepdhbnppaa
