/-
  No cell of these rows narrows 'for every input' (looked for: loops, veiled, ifaces, maps, wideKeys, modest, calm, conditions, laid).
  DERIVED. THE GIVEN ROWS OF THIS SEAT. 8 by the template 'for every input the law returns true; each argument reads behind the call as it read before'; 0 by the template 'total and deterministic' (their statements: YtckfopdkknckcaaTotals.lean).
  GIVEN WITH THE SEED: the statements are not yours to turn. If you find one false, say at which input.
  Laid BY PROGRAM, IN A SANDBOX (cutbox-rows.mjs): the forced cells as the released guide's own fill.sh prints them over the translation 05490c13338fe82b… (all of the seat's roots in one cut). By AI agents, Wed Nov 11 2026. No macro, syntax, notation, axiom, sorry.
-/
import Derived.Test.YtckfopdkknckcaaChecked
import GoSem.Claim
import GoSem.ClaimJoined
import GoSem.ClaimMapViews
import Derived.JoinedTies
import Derived.KernelRfl
namespace Go.Proofs.Ytckfopdkknckcaa
/- THE CELL 'sum', in the pinned program and in every row, IS THE sha256 OF THE DUMP (.gsa) THAT YtckfopdkknckcaaProg.lean LOADS. Nothing in Lean hashes anything: it is a label: what it is worth is what the hold of that sum in a sandbox is worth. -/
noncomputable def Try.pinned : Pinned := { name := "ytckfopdkknckcaa", sum := "05490c13338fe82bc5d0307e9ef790a6b49c32d389f6e6950810e70c6a6482d7", checked := Try.checked }
namespace Rows
def none {H : Type} : Left H := { results := [], args := [] }

/-- 'kinkeeplaw28.VersionvectorCompares': WHATEVER THE INPUT: true; the input reads as it did. -/
def versionvectorComparesSpec : ChangeSpec := { name := "versionvectorCompares", fn := fun _ => fun
  | [d1, d2] => { results := [.lit (.bool true)], args := [d1, d2] }
  | _ => none }
def versionvectorComparesRow : OpenClaim := { program := "ytckfopdkknckcaa", sum := "05490c13338fe82bc5d0307e9ef790a6b49c32d389f6e6950810e70c6a6482d7", func := "kinkeep/kinkeeplaw28.VersionvectorCompares", spec := "versionvectorCompares", unfollowed := true, recurses := true, apart := false }
def VersionvectorComparesSaid : Prop := versionvectorComparesRow.holds Try.pinned (OpenSpec.ofChange versionvectorComparesSpec)

/-- ITS FALSE NEIGHBOUR: 'it returns false'. Refute it at one input. -/
def versionvectorComparesWrong : ChangeSpec := { name := "versionvectorCompares", fn := fun _ => fun
  | [d1, d2] => { results := [.lit (.bool false)], args := [d1, d2] }
  | _ => none }
def VersionvectorComparesWrongFalsely : Prop := versionvectorComparesRow.holds Try.pinned (OpenSpec.ofChange versionvectorComparesWrong)

/-- 'kinkeeplaw28.VersionvectorMissing': WHATEVER THE INPUT: true; the input reads as it did. -/
def versionvectorMissingSpec : ChangeSpec := { name := "versionvectorMissing", fn := fun _ => fun
  | [d1, d2] => { results := [.lit (.bool true)], args := [d1, d2] }
  | _ => none }
def versionvectorMissingRow : OpenClaim := { program := "ytckfopdkknckcaa", sum := "05490c13338fe82bc5d0307e9ef790a6b49c32d389f6e6950810e70c6a6482d7", func := "kinkeep/kinkeeplaw28.VersionvectorMissing", spec := "versionvectorMissing", unfollowed := true, recurses := true, apart := false }
def VersionvectorMissingSaid : Prop := versionvectorMissingRow.holds Try.pinned (OpenSpec.ofChange versionvectorMissingSpec)

/-- ITS FALSE NEIGHBOUR: 'it returns false'. Refute it at one input. -/
def versionvectorMissingWrong : ChangeSpec := { name := "versionvectorMissing", fn := fun _ => fun
  | [d1, d2] => { results := [.lit (.bool false)], args := [d1, d2] }
  | _ => none }
def VersionvectorMissingWrongFalsely : Prop := versionvectorMissingRow.holds Try.pinned (OpenSpec.ofChange versionvectorMissingWrong)

/-- 'kinkeeplaw28.VersionvectorJoins': WHATEVER THE INPUT: true; the input reads as it did. -/
def versionvectorJoinsSpec : ChangeSpec := { name := "versionvectorJoins", fn := fun _ => fun
  | [d] => { results := [.lit (.bool true)], args := [d] }
  | _ => none }
def versionvectorJoinsRow : OpenClaim := { program := "ytckfopdkknckcaa", sum := "05490c13338fe82bc5d0307e9ef790a6b49c32d389f6e6950810e70c6a6482d7", func := "kinkeep/kinkeeplaw28.VersionvectorJoins", spec := "versionvectorJoins", unfollowed := true, recurses := true, apart := false }
def VersionvectorJoinsSaid : Prop := versionvectorJoinsRow.holds Try.pinned (OpenSpec.ofChange versionvectorJoinsSpec)

/-- ITS FALSE NEIGHBOUR: 'it returns false'. Refute it at one input. -/
def versionvectorJoinsWrong : ChangeSpec := { name := "versionvectorJoins", fn := fun _ => fun
  | [d] => { results := [.lit (.bool false)], args := [d] }
  | _ => none }
def VersionvectorJoinsWrongFalsely : Prop := versionvectorJoinsRow.holds Try.pinned (OpenSpec.ofChange versionvectorJoinsWrong)

/-- 'kinkeeplaw28.VersionvectorLattice': WHATEVER THE INPUT: true; the input reads as it did. -/
def versionvectorLatticeSpec : ChangeSpec := { name := "versionvectorLattice", fn := fun _ => fun
  | [d1, d2, d3] => { results := [.lit (.bool true)], args := [d1, d2, d3] }
  | _ => none }
def versionvectorLatticeRow : OpenClaim := { program := "ytckfopdkknckcaa", sum := "05490c13338fe82bc5d0307e9ef790a6b49c32d389f6e6950810e70c6a6482d7", func := "kinkeep/kinkeeplaw28.VersionvectorLattice", spec := "versionvectorLattice", unfollowed := true, recurses := true, apart := false }
def VersionvectorLatticeSaid : Prop := versionvectorLatticeRow.holds Try.pinned (OpenSpec.ofChange versionvectorLatticeSpec)

/-- ITS FALSE NEIGHBOUR: 'it returns false'. Refute it at one input. -/
def versionvectorLatticeWrong : ChangeSpec := { name := "versionvectorLattice", fn := fun _ => fun
  | [d1, d2, d3] => { results := [.lit (.bool false)], args := [d1, d2, d3] }
  | _ => none }
def VersionvectorLatticeWrongFalsely : Prop := versionvectorLatticeRow.holds Try.pinned (OpenSpec.ofChange versionvectorLatticeWrong)

/-- 'kinkeeplaw28.VersionvectorCatchesUp': WHATEVER THE INPUT: true; the input reads as it did. -/
def versionvectorCatchesUpSpec : ChangeSpec := { name := "versionvectorCatchesUp", fn := fun _ => fun
  | [d1, d2] => { results := [.lit (.bool true)], args := [d1, d2] }
  | _ => none }
def versionvectorCatchesUpRow : OpenClaim := { program := "ytckfopdkknckcaa", sum := "05490c13338fe82bc5d0307e9ef790a6b49c32d389f6e6950810e70c6a6482d7", func := "kinkeep/kinkeeplaw28.VersionvectorCatchesUp", spec := "versionvectorCatchesUp", unfollowed := true, recurses := true, apart := false }
def VersionvectorCatchesUpSaid : Prop := versionvectorCatchesUpRow.holds Try.pinned (OpenSpec.ofChange versionvectorCatchesUpSpec)

/-- ITS FALSE NEIGHBOUR: 'it returns false'. Refute it at one input. -/
def versionvectorCatchesUpWrong : ChangeSpec := { name := "versionvectorCatchesUp", fn := fun _ => fun
  | [d1, d2] => { results := [.lit (.bool false)], args := [d1, d2] }
  | _ => none }
def VersionvectorCatchesUpWrongFalsely : Prop := versionvectorCatchesUpRow.holds Try.pinned (OpenSpec.ofChange versionvectorCatchesUpWrong)

/-- 'kinkeeplaw28.VersionvectorSets': WHATEVER THE INPUT: true; the input reads as it did. -/
def versionvectorSetsSpec : ChangeSpec := { name := "versionvectorSets", fn := fun _ => fun
  | [d1, d2, d3] => { results := [.lit (.bool true)], args := [d1, d2, d3] }
  | _ => none }
def versionvectorSetsRow : OpenClaim := { program := "ytckfopdkknckcaa", sum := "05490c13338fe82bc5d0307e9ef790a6b49c32d389f6e6950810e70c6a6482d7", func := "kinkeep/kinkeeplaw28.VersionvectorSets", spec := "versionvectorSets", unfollowed := true, recurses := true, apart := false }
def VersionvectorSetsSaid : Prop := versionvectorSetsRow.holds Try.pinned (OpenSpec.ofChange versionvectorSetsSpec)

/-- ITS FALSE NEIGHBOUR: 'it returns false'. Refute it at one input. -/
def versionvectorSetsWrong : ChangeSpec := { name := "versionvectorSets", fn := fun _ => fun
  | [d1, d2, d3] => { results := [.lit (.bool false)], args := [d1, d2, d3] }
  | _ => none }
def VersionvectorSetsWrongFalsely : Prop := versionvectorSetsRow.holds Try.pinned (OpenSpec.ofChange versionvectorSetsWrong)

/-- 'kinkeeplaw28.VersionvectorEncodes': WHATEVER THE INPUT: true; the input reads as it did. -/
def versionvectorEncodesSpec : ChangeSpec := { name := "versionvectorEncodes", fn := fun _ => fun
  | [d] => { results := [.lit (.bool true)], args := [d] }
  | _ => none }
def versionvectorEncodesRow : OpenClaim := { program := "ytckfopdkknckcaa", sum := "05490c13338fe82bc5d0307e9ef790a6b49c32d389f6e6950810e70c6a6482d7", func := "kinkeep/kinkeeplaw28.VersionvectorEncodes", spec := "versionvectorEncodes", unfollowed := true, recurses := true, apart := false }
def VersionvectorEncodesSaid : Prop := versionvectorEncodesRow.holds Try.pinned (OpenSpec.ofChange versionvectorEncodesSpec)

/-- ITS FALSE NEIGHBOUR: 'it returns false'. Refute it at one input. -/
def versionvectorEncodesWrong : ChangeSpec := { name := "versionvectorEncodes", fn := fun _ => fun
  | [d] => { results := [.lit (.bool false)], args := [d] }
  | _ => none }
def VersionvectorEncodesWrongFalsely : Prop := versionvectorEncodesRow.holds Try.pinned (OpenSpec.ofChange versionvectorEncodesWrong)

/-- 'kinkeeplaw28.VersionvectorDecodes': WHATEVER THE INPUT: true; the input reads as it did. -/
def versionvectorDecodesSpec : ChangeSpec := { name := "versionvectorDecodes", fn := fun _ => fun
  | [d] => { results := [.lit (.bool true)], args := [d] }
  | _ => none }
def versionvectorDecodesRow : OpenClaim := { program := "ytckfopdkknckcaa", sum := "05490c13338fe82bc5d0307e9ef790a6b49c32d389f6e6950810e70c6a6482d7", func := "kinkeep/kinkeeplaw28.VersionvectorDecodes", spec := "versionvectorDecodes", unfollowed := true, recurses := true, apart := false }
def VersionvectorDecodesSaid : Prop := versionvectorDecodesRow.holds Try.pinned (OpenSpec.ofChange versionvectorDecodesSpec)

/-- ITS FALSE NEIGHBOUR: 'it returns false'. Refute it at one input. -/
def versionvectorDecodesWrong : ChangeSpec := { name := "versionvectorDecodes", fn := fun _ => fun
  | [d] => { results := [.lit (.bool false)], args := [d] }
  | _ => none }
def VersionvectorDecodesWrongFalsely : Prop := versionvectorDecodesRow.holds Try.pinned (OpenSpec.ofChange versionvectorDecodesWrong)

/- THE SECOND FORM. 'bulk': how many values and letters a reading holds, each counted each time it is reached (what is shared counts as often as it is met; a slice's spare places count too). A statement '..UptoSaid' is the law's where the arguments, and the package variables that the reading takes, are together of bulk at most 1048576: NARROWER than '..Said'. Prove '..Said' where nothing that the law and all that it calls make is longer than what came in: it says more and counts as full. Else prove '..UptoSaid'. A law counts once. -/
mutual
def uptoBulk {H : Type} : DataW H → Nat
  | .lit (.string bytes) => bytes.length + 1
  | .lit _ => 1
  | .nil => 1
  | .ptr d => uptoBulk d + 1
  | .slice elems spare => uptoBulkAll elems + uptoBulkAll spare + 1
  | .agg parts => uptoBulkAll parts + 1
  | .iface _ d => uptoBulk d + 1
  | .map entries => uptoBulkEntries entries + 1
  | .held _ => 1
def uptoBulkAll {H : Type} : List (DataW H) → Nat
  | [] => 0
  | d :: r => uptoBulk d + uptoBulkAll r
def uptoBulkEntries {H : Type} : List (Lit × DataW H) → Nat
  | [] => 0
  | x :: r => uptoBulkEntry x + uptoBulkEntries r
def uptoBulkEntry {H : Type} : Lit × DataW H → Nat
  | (.string bytes, d) => bytes.length + uptoBulk d + 1
  | (_, d) => uptoBulk d + 1
 end
def uptoSmall : (H : Type) → List (DataW H) → Bool := fun _ ds => decide (uptoBulkAll ds ≤ 1048576)
def OpenSpec.upto (s : _root_.Go.ChangeSpec) : _root_.Go.OpenSpec := { _root_.Go.OpenSpec.ofChange s with cond := some uptoSmall }

/-- 'kinkeeplaw28.VersionvectorCompares', WHERE WHAT IT READS IS OF BULK AT MOST 1048576: true; the input reads as it did. -/
def versionvectorComparesUptoRow : OpenClaim := { program := "ytckfopdkknckcaa", sum := "05490c13338fe82bc5d0307e9ef790a6b49c32d389f6e6950810e70c6a6482d7", func := "kinkeep/kinkeeplaw28.VersionvectorCompares", spec := "versionvectorCompares", unfollowed := true, recurses := true, apart := false, narrowed := true }
def VersionvectorComparesUptoSaid : Prop := versionvectorComparesUptoRow.holds Try.pinned (OpenSpec.upto versionvectorComparesSpec)

/-- 'kinkeeplaw28.VersionvectorMissing', WHERE WHAT IT READS IS OF BULK AT MOST 1048576: true; the input reads as it did. -/
def versionvectorMissingUptoRow : OpenClaim := { program := "ytckfopdkknckcaa", sum := "05490c13338fe82bc5d0307e9ef790a6b49c32d389f6e6950810e70c6a6482d7", func := "kinkeep/kinkeeplaw28.VersionvectorMissing", spec := "versionvectorMissing", unfollowed := true, recurses := true, apart := false, narrowed := true }
def VersionvectorMissingUptoSaid : Prop := versionvectorMissingUptoRow.holds Try.pinned (OpenSpec.upto versionvectorMissingSpec)

/-- 'kinkeeplaw28.VersionvectorJoins', WHERE WHAT IT READS IS OF BULK AT MOST 1048576: true; the input reads as it did. -/
def versionvectorJoinsUptoRow : OpenClaim := { program := "ytckfopdkknckcaa", sum := "05490c13338fe82bc5d0307e9ef790a6b49c32d389f6e6950810e70c6a6482d7", func := "kinkeep/kinkeeplaw28.VersionvectorJoins", spec := "versionvectorJoins", unfollowed := true, recurses := true, apart := false, narrowed := true }
def VersionvectorJoinsUptoSaid : Prop := versionvectorJoinsUptoRow.holds Try.pinned (OpenSpec.upto versionvectorJoinsSpec)

/-- 'kinkeeplaw28.VersionvectorLattice', WHERE WHAT IT READS IS OF BULK AT MOST 1048576: true; the input reads as it did. -/
def versionvectorLatticeUptoRow : OpenClaim := { program := "ytckfopdkknckcaa", sum := "05490c13338fe82bc5d0307e9ef790a6b49c32d389f6e6950810e70c6a6482d7", func := "kinkeep/kinkeeplaw28.VersionvectorLattice", spec := "versionvectorLattice", unfollowed := true, recurses := true, apart := false, narrowed := true }
def VersionvectorLatticeUptoSaid : Prop := versionvectorLatticeUptoRow.holds Try.pinned (OpenSpec.upto versionvectorLatticeSpec)

/-- 'kinkeeplaw28.VersionvectorCatchesUp', WHERE WHAT IT READS IS OF BULK AT MOST 1048576: true; the input reads as it did. -/
def versionvectorCatchesUpUptoRow : OpenClaim := { program := "ytckfopdkknckcaa", sum := "05490c13338fe82bc5d0307e9ef790a6b49c32d389f6e6950810e70c6a6482d7", func := "kinkeep/kinkeeplaw28.VersionvectorCatchesUp", spec := "versionvectorCatchesUp", unfollowed := true, recurses := true, apart := false, narrowed := true }
def VersionvectorCatchesUpUptoSaid : Prop := versionvectorCatchesUpUptoRow.holds Try.pinned (OpenSpec.upto versionvectorCatchesUpSpec)

/-- 'kinkeeplaw28.VersionvectorSets', WHERE WHAT IT READS IS OF BULK AT MOST 1048576: true; the input reads as it did. -/
def versionvectorSetsUptoRow : OpenClaim := { program := "ytckfopdkknckcaa", sum := "05490c13338fe82bc5d0307e9ef790a6b49c32d389f6e6950810e70c6a6482d7", func := "kinkeep/kinkeeplaw28.VersionvectorSets", spec := "versionvectorSets", unfollowed := true, recurses := true, apart := false, narrowed := true }
def VersionvectorSetsUptoSaid : Prop := versionvectorSetsUptoRow.holds Try.pinned (OpenSpec.upto versionvectorSetsSpec)

/-- 'kinkeeplaw28.VersionvectorEncodes', WHERE WHAT IT READS IS OF BULK AT MOST 1048576: true; the input reads as it did. -/
def versionvectorEncodesUptoRow : OpenClaim := { program := "ytckfopdkknckcaa", sum := "05490c13338fe82bc5d0307e9ef790a6b49c32d389f6e6950810e70c6a6482d7", func := "kinkeep/kinkeeplaw28.VersionvectorEncodes", spec := "versionvectorEncodes", unfollowed := true, recurses := true, apart := false, narrowed := true }
def VersionvectorEncodesUptoSaid : Prop := versionvectorEncodesUptoRow.holds Try.pinned (OpenSpec.upto versionvectorEncodesSpec)

/-- 'kinkeeplaw28.VersionvectorDecodes', WHERE WHAT IT READS IS OF BULK AT MOST 1048576: true; the input reads as it did. -/
def versionvectorDecodesUptoRow : OpenClaim := { program := "ytckfopdkknckcaa", sum := "05490c13338fe82bc5d0307e9ef790a6b49c32d389f6e6950810e70c6a6482d7", func := "kinkeep/kinkeeplaw28.VersionvectorDecodes", spec := "versionvectorDecodes", unfollowed := true, recurses := true, apart := false, narrowed := true }
def VersionvectorDecodesUptoSaid : Prop := versionvectorDecodesUptoRow.holds Try.pinned (OpenSpec.upto versionvectorDecodesSpec)

end Rows
end Go.Proofs.Ytckfopdkknckcaa
