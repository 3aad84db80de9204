/-
  No cell of these rows narrows 'for every input' (looked for: loops, veiled, ifaces, maps, wideKeys, modest, calm, conditions, laid).
  DERIVED. THE GIVEN ROWS OF THIS SEAT. 6 by the template 'for every input the law returns true; each argument reads behind the call as it read before'; 0 by the template 'total and deterministic' (their statements: YtgopadbdnndkiaaTotals.lean).
  GIVEN WITH THE SEED: the statements are not yours to turn. If you find one false, say at which input.
  Laid BY PROGRAM, IN A SANDBOX (cutbox-rows.mjs): the forced cells as the released guide's own fill.sh prints them over the translation e0c9fa2a58033d66… (all of the seat's roots in one cut). By AI agents, Wed Nov 11 2026. No macro, syntax, notation, axiom, sorry.
-/
import Derived.Test.YtgopadbdnndkiaaChecked
import GoSem.Claim
import GoSem.ClaimJoined
import GoSem.ClaimMapViews
import Derived.JoinedTies
import Derived.KernelRfl
namespace Go.Proofs.Ytgopadbdnndkiaa
/- THE CELL 'sum', in the pinned program and in every row, IS THE sha256 OF THE DUMP (.gsa) THAT YtgopadbdnndkiaaProg.lean LOADS. Nothing in Lean hashes anything: it is a label: what it is worth is what the hold of that sum in a sandbox is worth. -/
noncomputable def Try.pinned : Pinned := { name := "ytgopadbdnndkiaa", sum := "e0c9fa2a58033d662f78aea85682fc62c2e8db35edf5a3834bf341ffc6c8eaeb", checked := Try.checked }
namespace Rows
def none {H : Type} : Left H := { results := [], args := [] }

/-- 'slatewalllaw26.PlotBest': WHATEVER THE INPUT: true; the input reads as it did. -/
def plotBestSpec : ChangeSpec := { name := "plotBest", fn := fun _ => fun
  | [d1, d2] => { results := [.lit (.bool true)], args := [d1, d2] }
  | _ => none }
def plotBestRow : OpenClaim := { program := "ytgopadbdnndkiaa", sum := "e0c9fa2a58033d662f78aea85682fc62c2e8db35edf5a3834bf341ffc6c8eaeb", func := "slatewall/slatewalllaw26.PlotBest", spec := "plotBest", unfollowed := true, recurses := true, apart := false }
def PlotBestSaid : Prop := plotBestRow.holds Try.pinned (OpenSpec.ofChange plotBestSpec)

/-- ITS FALSE NEIGHBOUR: 'it returns false'. Refute it at one input. -/
def plotBestWrong : ChangeSpec := { name := "plotBest", fn := fun _ => fun
  | [d1, d2] => { results := [.lit (.bool false)], args := [d1, d2] }
  | _ => none }
def PlotBestWrongFalsely : Prop := plotBestRow.holds Try.pinned (OpenSpec.ofChange plotBestWrong)

/-- 'slatewalllaw26.PlotProof': WHATEVER THE INPUT: true; the input reads as it did. -/
def plotProofSpec : ChangeSpec := { name := "plotProof", fn := fun _ => fun
  | [d1, d2, d3, d4, d5, d6] => { results := [.lit (.bool true)], args := [d1, d2, d3, d4, d5, d6] }
  | _ => none }
def plotProofRow : OpenClaim := { program := "ytgopadbdnndkiaa", sum := "e0c9fa2a58033d662f78aea85682fc62c2e8db35edf5a3834bf341ffc6c8eaeb", func := "slatewall/slatewalllaw26.PlotProof", spec := "plotProof", unfollowed := true, recurses := true, apart := false }
def PlotProofSaid : Prop := plotProofRow.holds Try.pinned (OpenSpec.ofChange plotProofSpec)

/-- ITS FALSE NEIGHBOUR: 'it returns false'. Refute it at one input. -/
def plotProofWrong : ChangeSpec := { name := "plotProof", fn := fun _ => fun
  | [d1, d2, d3, d4, d5, d6] => { results := [.lit (.bool false)], args := [d1, d2, d3, d4, d5, d6] }
  | _ => none }
def PlotProofWrongFalsely : Prop := plotProofRow.holds Try.pinned (OpenSpec.ofChange plotProofWrong)

/-- 'slatewalllaw26.PlotReads': WHATEVER THE INPUT: true; the input reads as it did. -/
def plotReadsSpec : ChangeSpec := { name := "plotReads", fn := fun _ => fun
  | [d1, d2] => { results := [.lit (.bool true)], args := [d1, d2] }
  | _ => none }
def plotReadsRow : OpenClaim := { program := "ytgopadbdnndkiaa", sum := "e0c9fa2a58033d662f78aea85682fc62c2e8db35edf5a3834bf341ffc6c8eaeb", func := "slatewall/slatewalllaw26.PlotReads", spec := "plotReads", unfollowed := true, recurses := true, apart := false }
def PlotReadsSaid : Prop := plotReadsRow.holds Try.pinned (OpenSpec.ofChange plotReadsSpec)

/-- ITS FALSE NEIGHBOUR: 'it returns false'. Refute it at one input. -/
def plotReadsWrong : ChangeSpec := { name := "plotReads", fn := fun _ => fun
  | [d1, d2] => { results := [.lit (.bool false)], args := [d1, d2] }
  | _ => none }
def PlotReadsWrongFalsely : Prop := plotReadsRow.holds Try.pinned (OpenSpec.ofChange plotReadsWrong)

/-- 'slatewalllaw26.PlotMirrored': WHATEVER THE INPUT: true; the input reads as it did. -/
def plotMirroredSpec : ChangeSpec := { name := "plotMirrored", fn := fun _ => fun
  | [d] => { results := [.lit (.bool true)], args := [d] }
  | _ => none }
def plotMirroredRow : OpenClaim := { program := "ytgopadbdnndkiaa", sum := "e0c9fa2a58033d662f78aea85682fc62c2e8db35edf5a3834bf341ffc6c8eaeb", func := "slatewall/slatewalllaw26.PlotMirrored", spec := "plotMirrored", unfollowed := true, recurses := true, apart := false }
def PlotMirroredSaid : Prop := plotMirroredRow.holds Try.pinned (OpenSpec.ofChange plotMirroredSpec)

/-- ITS FALSE NEIGHBOUR: 'it returns false'. Refute it at one input. -/
def plotMirroredWrong : ChangeSpec := { name := "plotMirrored", fn := fun _ => fun
  | [d] => { results := [.lit (.bool false)], args := [d] }
  | _ => none }
def PlotMirroredWrongFalsely : Prop := plotMirroredRow.holds Try.pinned (OpenSpec.ofChange plotMirroredWrong)

/-- 'slatewalllaw26.PlotGap': WHATEVER THE INPUT: true; the input reads as it did. -/
def plotGapSpec : ChangeSpec := { name := "plotGap", fn := fun _ => fun
  | [d1, d2, d3] => { results := [.lit (.bool true)], args := [d1, d2, d3] }
  | _ => none }
def plotGapRow : OpenClaim := { program := "ytgopadbdnndkiaa", sum := "e0c9fa2a58033d662f78aea85682fc62c2e8db35edf5a3834bf341ffc6c8eaeb", func := "slatewall/slatewalllaw26.PlotGap", spec := "plotGap", unfollowed := true, recurses := true, apart := false }
def PlotGapSaid : Prop := plotGapRow.holds Try.pinned (OpenSpec.ofChange plotGapSpec)

/-- ITS FALSE NEIGHBOUR: 'it returns false'. Refute it at one input. -/
def plotGapWrong : ChangeSpec := { name := "plotGap", fn := fun _ => fun
  | [d1, d2, d3] => { results := [.lit (.bool false)], args := [d1, d2, d3] }
  | _ => none }
def PlotGapWrongFalsely : Prop := plotGapRow.holds Try.pinned (OpenSpec.ofChange plotGapWrong)

/-- 'slatewalllaw26.PlotWay': WHATEVER THE INPUT: true; the input reads as it did. -/
def plotWaySpec : ChangeSpec := { name := "plotWay", fn := fun _ => fun
  | [d1, d2] => { results := [.lit (.bool true)], args := [d1, d2] }
  | _ => none }
def plotWayRow : OpenClaim := { program := "ytgopadbdnndkiaa", sum := "e0c9fa2a58033d662f78aea85682fc62c2e8db35edf5a3834bf341ffc6c8eaeb", func := "slatewall/slatewalllaw26.PlotWay", spec := "plotWay", unfollowed := true, recurses := true, apart := false }
def PlotWaySaid : Prop := plotWayRow.holds Try.pinned (OpenSpec.ofChange plotWaySpec)

/-- ITS FALSE NEIGHBOUR: 'it returns false'. Refute it at one input. -/
def plotWayWrong : ChangeSpec := { name := "plotWay", fn := fun _ => fun
  | [d1, d2] => { results := [.lit (.bool false)], args := [d1, d2] }
  | _ => none }
def PlotWayWrongFalsely : Prop := plotWayRow.holds Try.pinned (OpenSpec.ofChange plotWayWrong)

/- THE SECOND FORM. 'bulk': how many values and letters a reading holds, each counted each time it is reached (what is shared counts as often as it is met; a slice's spare places count too). A statement '..UptoSaid' is the law's where the arguments, and the package variables that the reading takes, are together of bulk at most 1048576: NARROWER than '..Said'. Prove '..Said' where nothing that the law and all that it calls make is longer than what came in: it says more and counts as full. Else prove '..UptoSaid'. A law counts once. -/
mutual
def uptoBulk {H : Type} : DataW H → Nat
  | .lit (.string bytes) => bytes.length + 1
  | .lit _ => 1
  | .nil => 1
  | .ptr d => uptoBulk d + 1
  | .slice elems spare => uptoBulkAll elems + uptoBulkAll spare + 1
  | .agg parts => uptoBulkAll parts + 1
  | .iface _ d => uptoBulk d + 1
  | .map entries => uptoBulkEntries entries + 1
  | .held _ => 1
def uptoBulkAll {H : Type} : List (DataW H) → Nat
  | [] => 0
  | d :: r => uptoBulk d + uptoBulkAll r
def uptoBulkEntries {H : Type} : List (Lit × DataW H) → Nat
  | [] => 0
  | x :: r => uptoBulkEntry x + uptoBulkEntries r
def uptoBulkEntry {H : Type} : Lit × DataW H → Nat
  | (.string bytes, d) => bytes.length + uptoBulk d + 1
  | (_, d) => uptoBulk d + 1
 end
def uptoSmall : (H : Type) → List (DataW H) → Bool := fun _ ds => decide (uptoBulkAll ds ≤ 1048576)
def OpenSpec.upto (s : _root_.Go.ChangeSpec) : _root_.Go.OpenSpec := { _root_.Go.OpenSpec.ofChange s with cond := some uptoSmall }

/-- 'slatewalllaw26.PlotBest', WHERE WHAT IT READS IS OF BULK AT MOST 1048576: true; the input reads as it did. -/
def plotBestUptoRow : OpenClaim := { program := "ytgopadbdnndkiaa", sum := "e0c9fa2a58033d662f78aea85682fc62c2e8db35edf5a3834bf341ffc6c8eaeb", func := "slatewall/slatewalllaw26.PlotBest", spec := "plotBest", unfollowed := true, recurses := true, apart := false, narrowed := true }
def PlotBestUptoSaid : Prop := plotBestUptoRow.holds Try.pinned (OpenSpec.upto plotBestSpec)

/-- 'slatewalllaw26.PlotProof', WHERE WHAT IT READS IS OF BULK AT MOST 1048576: true; the input reads as it did. -/
def plotProofUptoRow : OpenClaim := { program := "ytgopadbdnndkiaa", sum := "e0c9fa2a58033d662f78aea85682fc62c2e8db35edf5a3834bf341ffc6c8eaeb", func := "slatewall/slatewalllaw26.PlotProof", spec := "plotProof", unfollowed := true, recurses := true, apart := false, narrowed := true }
def PlotProofUptoSaid : Prop := plotProofUptoRow.holds Try.pinned (OpenSpec.upto plotProofSpec)

/-- 'slatewalllaw26.PlotReads', WHERE WHAT IT READS IS OF BULK AT MOST 1048576: true; the input reads as it did. -/
def plotReadsUptoRow : OpenClaim := { program := "ytgopadbdnndkiaa", sum := "e0c9fa2a58033d662f78aea85682fc62c2e8db35edf5a3834bf341ffc6c8eaeb", func := "slatewall/slatewalllaw26.PlotReads", spec := "plotReads", unfollowed := true, recurses := true, apart := false, narrowed := true }
def PlotReadsUptoSaid : Prop := plotReadsUptoRow.holds Try.pinned (OpenSpec.upto plotReadsSpec)

/-- 'slatewalllaw26.PlotMirrored', WHERE WHAT IT READS IS OF BULK AT MOST 1048576: true; the input reads as it did. -/
def plotMirroredUptoRow : OpenClaim := { program := "ytgopadbdnndkiaa", sum := "e0c9fa2a58033d662f78aea85682fc62c2e8db35edf5a3834bf341ffc6c8eaeb", func := "slatewall/slatewalllaw26.PlotMirrored", spec := "plotMirrored", unfollowed := true, recurses := true, apart := false, narrowed := true }
def PlotMirroredUptoSaid : Prop := plotMirroredUptoRow.holds Try.pinned (OpenSpec.upto plotMirroredSpec)

/-- 'slatewalllaw26.PlotGap', WHERE WHAT IT READS IS OF BULK AT MOST 1048576: true; the input reads as it did. -/
def plotGapUptoRow : OpenClaim := { program := "ytgopadbdnndkiaa", sum := "e0c9fa2a58033d662f78aea85682fc62c2e8db35edf5a3834bf341ffc6c8eaeb", func := "slatewall/slatewalllaw26.PlotGap", spec := "plotGap", unfollowed := true, recurses := true, apart := false, narrowed := true }
def PlotGapUptoSaid : Prop := plotGapUptoRow.holds Try.pinned (OpenSpec.upto plotGapSpec)

/-- 'slatewalllaw26.PlotWay', WHERE WHAT IT READS IS OF BULK AT MOST 1048576: true; the input reads as it did. -/
def plotWayUptoRow : OpenClaim := { program := "ytgopadbdnndkiaa", sum := "e0c9fa2a58033d662f78aea85682fc62c2e8db35edf5a3834bf341ffc6c8eaeb", func := "slatewall/slatewalllaw26.PlotWay", spec := "plotWay", unfollowed := true, recurses := true, apart := false, narrowed := true }
def PlotWayUptoSaid : Prop := plotWayUptoRow.holds Try.pinned (OpenSpec.upto plotWaySpec)

end Rows
end Go.Proofs.Ytgopadbdnndkiaa
