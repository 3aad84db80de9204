/-
  No cell of these rows narrows 'for every input' (looked for: loops, veiled, ifaces, maps, wideKeys, modest, calm, conditions, laid).
  DERIVED. THE GIVEN ROWS OF THIS SEAT. 7 by the template 'for every input the law returns true; each argument reads behind the call as it read before'; 0 by the template 'total and deterministic' (their statements: YtebfenkjipaedaaTotals.lean).
  GIVEN WITH THE SEED: the statements are not yours to turn. If you find one false, say at which input.
  Laid BY PROGRAM, IN A SANDBOX (cutbox-rows.mjs): the forced cells as the released guide's own fill.sh prints them over the translation 3e1e97811f821326… (all of the seat's roots in one cut). By AI agents, Wed Nov 11 2026. No macro, syntax, notation, axiom, sorry.
-/
import Derived.Test.YtebfenkjipaedaaChecked
import GoSem.Claim
import GoSem.ClaimJoined
import GoSem.ClaimMapViews
import Derived.JoinedTies
import Derived.KernelRfl
namespace Go.Proofs.Ytebfenkjipaedaa
/- THE CELL 'sum', in the pinned program and in every row, IS THE sha256 OF THE DUMP (.gsa) THAT YtebfenkjipaedaaProg.lean LOADS. Nothing in Lean hashes anything: it is a label: what it is worth is what the hold of that sum in a sandbox is worth. -/
noncomputable def Try.pinned : Pinned := { name := "ytebfenkjipaedaa", sum := "3e1e97811f821326342d945ae976dff468a323ffb0747ec2ab2815854620d435", checked := Try.checked }
namespace Rows
def none {H : Type} : Left H := { results := [], args := [] }

/-- 'slatewalllaw13.GroupMatchesReference': WHATEVER THE INPUT: true; the input reads as it did. -/
def groupMatchesReferenceSpec : ChangeSpec := { name := "groupMatchesReference", fn := fun _ => fun
  | [d1, d2, d3, d4, d5, d6, d7, d8, d9, d10, d11, d12] => { results := [.lit (.bool true)], args := [d1, d2, d3, d4, d5, d6, d7, d8, d9, d10, d11, d12] }
  | _ => none }
def groupMatchesReferenceRow : OpenClaim := { program := "ytebfenkjipaedaa", sum := "3e1e97811f821326342d945ae976dff468a323ffb0747ec2ab2815854620d435", func := "slatewall/slatewalllaw13.GroupMatchesReference", spec := "groupMatchesReference", unfollowed := true, recurses := true, apart := false }
def GroupMatchesReferenceSaid : Prop := groupMatchesReferenceRow.holds Try.pinned (OpenSpec.ofChange groupMatchesReferenceSpec)

/-- ITS FALSE NEIGHBOUR: 'it returns false'. Refute it at one input. -/
def groupMatchesReferenceWrong : ChangeSpec := { name := "groupMatchesReference", fn := fun _ => fun
  | [d1, d2, d3, d4, d5, d6, d7, d8, d9, d10, d11, d12] => { results := [.lit (.bool false)], args := [d1, d2, d3, d4, d5, d6, d7, d8, d9, d10, d11, d12] }
  | _ => none }
def GroupMatchesReferenceWrongFalsely : Prop := groupMatchesReferenceRow.holds Try.pinned (OpenSpec.ofChange groupMatchesReferenceWrong)

/-- 'slatewalllaw13.GroupForest': WHATEVER THE INPUT: true; the input reads as it did. -/
def groupForestSpec : ChangeSpec := { name := "groupForest", fn := fun _ => fun
  | [d1, d2, d3] => { results := [.lit (.bool true)], args := [d1, d2, d3] }
  | _ => none }
def groupForestRow : OpenClaim := { program := "ytebfenkjipaedaa", sum := "3e1e97811f821326342d945ae976dff468a323ffb0747ec2ab2815854620d435", func := "slatewall/slatewalllaw13.GroupForest", spec := "groupForest", unfollowed := true, recurses := true, apart := false }
def GroupForestSaid : Prop := groupForestRow.holds Try.pinned (OpenSpec.ofChange groupForestSpec)

/-- ITS FALSE NEIGHBOUR: 'it returns false'. Refute it at one input. -/
def groupForestWrong : ChangeSpec := { name := "groupForest", fn := fun _ => fun
  | [d1, d2, d3] => { results := [.lit (.bool false)], args := [d1, d2, d3] }
  | _ => none }
def GroupForestWrongFalsely : Prop := groupForestRow.holds Try.pinned (OpenSpec.ofChange groupForestWrong)

/-- 'slatewalllaw13.GroupCommon': WHATEVER THE INPUT: true; the input reads as it did. -/
def groupCommonSpec : ChangeSpec := { name := "groupCommon", fn := fun _ => fun
  | [d1, d2, d3, d4] => { results := [.lit (.bool true)], args := [d1, d2, d3, d4] }
  | _ => none }
def groupCommonRow : OpenClaim := { program := "ytebfenkjipaedaa", sum := "3e1e97811f821326342d945ae976dff468a323ffb0747ec2ab2815854620d435", func := "slatewall/slatewalllaw13.GroupCommon", spec := "groupCommon", unfollowed := true, recurses := true, apart := false }
def GroupCommonSaid : Prop := groupCommonRow.holds Try.pinned (OpenSpec.ofChange groupCommonSpec)

/-- ITS FALSE NEIGHBOUR: 'it returns false'. Refute it at one input. -/
def groupCommonWrong : ChangeSpec := { name := "groupCommon", fn := fun _ => fun
  | [d1, d2, d3, d4] => { results := [.lit (.bool false)], args := [d1, d2, d3, d4] }
  | _ => none }
def GroupCommonWrongFalsely : Prop := groupCommonRow.holds Try.pinned (OpenSpec.ofChange groupCommonWrong)

/-- 'slatewalllaw13.GroupDivides': WHATEVER THE INPUT: true; the input reads as it did. -/
def groupDividesSpec : ChangeSpec := { name := "groupDivides", fn := fun _ => fun
  | [d1, d2, d3, d4, d5] => { results := [.lit (.bool true)], args := [d1, d2, d3, d4, d5] }
  | _ => none }
def groupDividesRow : OpenClaim := { program := "ytebfenkjipaedaa", sum := "3e1e97811f821326342d945ae976dff468a323ffb0747ec2ab2815854620d435", func := "slatewall/slatewalllaw13.GroupDivides", spec := "groupDivides", unfollowed := true, recurses := true, apart := false }
def GroupDividesSaid : Prop := groupDividesRow.holds Try.pinned (OpenSpec.ofChange groupDividesSpec)

/-- ITS FALSE NEIGHBOUR: 'it returns false'. Refute it at one input. -/
def groupDividesWrong : ChangeSpec := { name := "groupDivides", fn := fun _ => fun
  | [d1, d2, d3, d4, d5] => { results := [.lit (.bool false)], args := [d1, d2, d3, d4, d5] }
  | _ => none }
def GroupDividesWrongFalsely : Prop := groupDividesRow.holds Try.pinned (OpenSpec.ofChange groupDividesWrong)

/-- 'slatewalllaw13.GroupDissolves': WHATEVER THE INPUT: true; the input reads as it did. -/
def groupDissolvesSpec : ChangeSpec := { name := "groupDissolves", fn := fun _ => fun
  | [d1, d2, d3, d4] => { results := [.lit (.bool true)], args := [d1, d2, d3, d4] }
  | _ => none }
def groupDissolvesRow : OpenClaim := { program := "ytebfenkjipaedaa", sum := "3e1e97811f821326342d945ae976dff468a323ffb0747ec2ab2815854620d435", func := "slatewall/slatewalllaw13.GroupDissolves", spec := "groupDissolves", unfollowed := true, recurses := true, apart := false }
def GroupDissolvesSaid : Prop := groupDissolvesRow.holds Try.pinned (OpenSpec.ofChange groupDissolvesSpec)

/-- ITS FALSE NEIGHBOUR: 'it returns false'. Refute it at one input. -/
def groupDissolvesWrong : ChangeSpec := { name := "groupDissolves", fn := fun _ => fun
  | [d1, d2, d3, d4] => { results := [.lit (.bool false)], args := [d1, d2, d3, d4] }
  | _ => none }
def GroupDissolvesWrongFalsely : Prop := groupDissolvesRow.holds Try.pinned (OpenSpec.ofChange groupDissolvesWrong)

/-- 'slatewalllaw13.GroupNested': WHATEVER THE INPUT: true; the input reads as it did. -/
def groupNestedSpec : ChangeSpec := { name := "groupNested", fn := fun _ => fun
  | [d1, d2, d3, d4, d5] => { results := [.lit (.bool true)], args := [d1, d2, d3, d4, d5] }
  | _ => none }
def groupNestedRow : OpenClaim := { program := "ytebfenkjipaedaa", sum := "3e1e97811f821326342d945ae976dff468a323ffb0747ec2ab2815854620d435", func := "slatewall/slatewalllaw13.GroupNested", spec := "groupNested", unfollowed := true, recurses := true, apart := false }
def GroupNestedSaid : Prop := groupNestedRow.holds Try.pinned (OpenSpec.ofChange groupNestedSpec)

/-- ITS FALSE NEIGHBOUR: 'it returns false'. Refute it at one input. -/
def groupNestedWrong : ChangeSpec := { name := "groupNested", fn := fun _ => fun
  | [d1, d2, d3, d4, d5] => { results := [.lit (.bool false)], args := [d1, d2, d3, d4, d5] }
  | _ => none }
def GroupNestedWrongFalsely : Prop := groupNestedRow.holds Try.pinned (OpenSpec.ofChange groupNestedWrong)

/-- 'slatewalllaw13.GroupPorts': WHATEVER THE INPUT: true; the input reads as it did. -/
def groupPortsSpec : ChangeSpec := { name := "groupPorts", fn := fun _ => fun
  | [d1, d2, d3, d4, d5, d6] => { results := [.lit (.bool true)], args := [d1, d2, d3, d4, d5, d6] }
  | _ => none }
def groupPortsRow : OpenClaim := { program := "ytebfenkjipaedaa", sum := "3e1e97811f821326342d945ae976dff468a323ffb0747ec2ab2815854620d435", func := "slatewall/slatewalllaw13.GroupPorts", spec := "groupPorts", unfollowed := true, recurses := true, apart := false }
def GroupPortsSaid : Prop := groupPortsRow.holds Try.pinned (OpenSpec.ofChange groupPortsSpec)

/-- ITS FALSE NEIGHBOUR: 'it returns false'. Refute it at one input. -/
def groupPortsWrong : ChangeSpec := { name := "groupPorts", fn := fun _ => fun
  | [d1, d2, d3, d4, d5, d6] => { results := [.lit (.bool false)], args := [d1, d2, d3, d4, d5, d6] }
  | _ => none }
def GroupPortsWrongFalsely : Prop := groupPortsRow.holds Try.pinned (OpenSpec.ofChange groupPortsWrong)

/- THE SECOND FORM. 'bulk': how many values and letters a reading holds, each counted each time it is reached (what is shared counts as often as it is met; a slice's spare places count too). A statement '..UptoSaid' is the law's where the arguments, and the package variables that the reading takes, are together of bulk at most 1048576: NARROWER than '..Said'. Prove '..Said' where nothing that the law and all that it calls make is longer than what came in: it says more and counts as full. Else prove '..UptoSaid'. A law counts once. -/
mutual
def uptoBulk {H : Type} : DataW H → Nat
  | .lit (.string bytes) => bytes.length + 1
  | .lit _ => 1
  | .nil => 1
  | .ptr d => uptoBulk d + 1
  | .slice elems spare => uptoBulkAll elems + uptoBulkAll spare + 1
  | .agg parts => uptoBulkAll parts + 1
  | .iface _ d => uptoBulk d + 1
  | .map entries => uptoBulkEntries entries + 1
  | .held _ => 1
def uptoBulkAll {H : Type} : List (DataW H) → Nat
  | [] => 0
  | d :: r => uptoBulk d + uptoBulkAll r
def uptoBulkEntries {H : Type} : List (Lit × DataW H) → Nat
  | [] => 0
  | x :: r => uptoBulkEntry x + uptoBulkEntries r
def uptoBulkEntry {H : Type} : Lit × DataW H → Nat
  | (.string bytes, d) => bytes.length + uptoBulk d + 1
  | (_, d) => uptoBulk d + 1
 end
def uptoSmall : (H : Type) → List (DataW H) → Bool := fun _ ds => decide (uptoBulkAll ds ≤ 1048576)
def OpenSpec.upto (s : _root_.Go.ChangeSpec) : _root_.Go.OpenSpec := { _root_.Go.OpenSpec.ofChange s with cond := some uptoSmall }

/-- 'slatewalllaw13.GroupMatchesReference', WHERE WHAT IT READS IS OF BULK AT MOST 1048576: true; the input reads as it did. -/
def groupMatchesReferenceUptoRow : OpenClaim := { program := "ytebfenkjipaedaa", sum := "3e1e97811f821326342d945ae976dff468a323ffb0747ec2ab2815854620d435", func := "slatewall/slatewalllaw13.GroupMatchesReference", spec := "groupMatchesReference", unfollowed := true, recurses := true, apart := false, narrowed := true }
def GroupMatchesReferenceUptoSaid : Prop := groupMatchesReferenceUptoRow.holds Try.pinned (OpenSpec.upto groupMatchesReferenceSpec)

/-- 'slatewalllaw13.GroupForest', WHERE WHAT IT READS IS OF BULK AT MOST 1048576: true; the input reads as it did. -/
def groupForestUptoRow : OpenClaim := { program := "ytebfenkjipaedaa", sum := "3e1e97811f821326342d945ae976dff468a323ffb0747ec2ab2815854620d435", func := "slatewall/slatewalllaw13.GroupForest", spec := "groupForest", unfollowed := true, recurses := true, apart := false, narrowed := true }
def GroupForestUptoSaid : Prop := groupForestUptoRow.holds Try.pinned (OpenSpec.upto groupForestSpec)

/-- 'slatewalllaw13.GroupCommon', WHERE WHAT IT READS IS OF BULK AT MOST 1048576: true; the input reads as it did. -/
def groupCommonUptoRow : OpenClaim := { program := "ytebfenkjipaedaa", sum := "3e1e97811f821326342d945ae976dff468a323ffb0747ec2ab2815854620d435", func := "slatewall/slatewalllaw13.GroupCommon", spec := "groupCommon", unfollowed := true, recurses := true, apart := false, narrowed := true }
def GroupCommonUptoSaid : Prop := groupCommonUptoRow.holds Try.pinned (OpenSpec.upto groupCommonSpec)

/-- 'slatewalllaw13.GroupDivides', WHERE WHAT IT READS IS OF BULK AT MOST 1048576: true; the input reads as it did. -/
def groupDividesUptoRow : OpenClaim := { program := "ytebfenkjipaedaa", sum := "3e1e97811f821326342d945ae976dff468a323ffb0747ec2ab2815854620d435", func := "slatewall/slatewalllaw13.GroupDivides", spec := "groupDivides", unfollowed := true, recurses := true, apart := false, narrowed := true }
def GroupDividesUptoSaid : Prop := groupDividesUptoRow.holds Try.pinned (OpenSpec.upto groupDividesSpec)

/-- 'slatewalllaw13.GroupDissolves', WHERE WHAT IT READS IS OF BULK AT MOST 1048576: true; the input reads as it did. -/
def groupDissolvesUptoRow : OpenClaim := { program := "ytebfenkjipaedaa", sum := "3e1e97811f821326342d945ae976dff468a323ffb0747ec2ab2815854620d435", func := "slatewall/slatewalllaw13.GroupDissolves", spec := "groupDissolves", unfollowed := true, recurses := true, apart := false, narrowed := true }
def GroupDissolvesUptoSaid : Prop := groupDissolvesUptoRow.holds Try.pinned (OpenSpec.upto groupDissolvesSpec)

/-- 'slatewalllaw13.GroupNested', WHERE WHAT IT READS IS OF BULK AT MOST 1048576: true; the input reads as it did. -/
def groupNestedUptoRow : OpenClaim := { program := "ytebfenkjipaedaa", sum := "3e1e97811f821326342d945ae976dff468a323ffb0747ec2ab2815854620d435", func := "slatewall/slatewalllaw13.GroupNested", spec := "groupNested", unfollowed := true, recurses := true, apart := false, narrowed := true }
def GroupNestedUptoSaid : Prop := groupNestedUptoRow.holds Try.pinned (OpenSpec.upto groupNestedSpec)

/-- 'slatewalllaw13.GroupPorts', WHERE WHAT IT READS IS OF BULK AT MOST 1048576: true; the input reads as it did. -/
def groupPortsUptoRow : OpenClaim := { program := "ytebfenkjipaedaa", sum := "3e1e97811f821326342d945ae976dff468a323ffb0747ec2ab2815854620d435", func := "slatewall/slatewalllaw13.GroupPorts", spec := "groupPorts", unfollowed := true, recurses := true, apart := false, narrowed := true }
def GroupPortsUptoSaid : Prop := groupPortsUptoRow.holds Try.pinned (OpenSpec.upto groupPortsSpec)

end Rows
end Go.Proofs.Ytebfenkjipaedaa
