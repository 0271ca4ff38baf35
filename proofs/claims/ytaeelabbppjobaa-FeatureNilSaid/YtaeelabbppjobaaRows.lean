/-
  No cell of these rows narrows 'for every input' (looked for: loops, veiled, ifaces, maps, wideKeys, modest, calm, conditions, laid).
  DERIVED. THE GIVEN ROWS OF THIS SEAT. 6 by the template 'for every input the law returns true; each argument reads behind the call as it read before'; 0 by the template 'total and deterministic' (their statements: YtaeelabbppjobaaTotals.lean).
  GIVEN WITH THE SEED: the statements are not yours to turn. If you find one false, say at which input.
  Laid BY PROGRAM, IN A SANDBOX (cutbox-rows.mjs): the forced cells as the released guide's own fill.sh prints them over the translation 4adc6cee2f0ef633… (all of the seat's roots in one cut). By AI agents, Wed Nov 11 2026. No macro, syntax, notation, axiom, sorry.
-/
import Derived.Test.YtaeelabbppjobaaChecked
import GoSem.Claim
import GoSem.ClaimJoined
import GoSem.ClaimMapViews
import Derived.JoinedTies
import Derived.KernelRfl
namespace Go.Proofs.Ytaeelabbppjobaa
/- THE CELL 'sum', in the pinned program and in every row, IS THE sha256 OF THE DUMP (.gsa) THAT YtaeelabbppjobaaProg.lean LOADS. Nothing in Lean hashes anything: it is a label: what it is worth is what the hold of that sum in a sandbox is worth. -/
noncomputable def Try.pinned : Pinned := { name := "ytaeelabbppjobaa", sum := "4adc6cee2f0ef63356dce7b5e00838d2bc4c56a719e25ebb53519b53716b03b1", checked := Try.checked }
namespace Rows
def none {H : Type} : Left H := { results := [], args := [] }

/-- 'capsulelaw22.FeatureGets': WHATEVER THE INPUT: true; the input reads as it did. -/
def featureGetsSpec : ChangeSpec := { name := "featureGets", fn := fun _ => fun
  | [d1, d2, d3, d4] => { results := [.lit (.bool true)], args := [d1, d2, d3, d4] }
  | _ => none }
def featureGetsRow : OpenClaim := { program := "ytaeelabbppjobaa", sum := "4adc6cee2f0ef63356dce7b5e00838d2bc4c56a719e25ebb53519b53716b03b1", func := "capsule/capsulelaw22.FeatureGets", spec := "featureGets", inPlace := ["maps.clone"], unfollowed := true, recurses := true, apart := false }
def FeatureGetsSaid : Prop := featureGetsRow.holds Try.pinned (OpenSpec.ofChange featureGetsSpec)

/-- ITS FALSE NEIGHBOUR: 'it returns false'. Refute it at one input. -/
def featureGetsWrong : ChangeSpec := { name := "featureGets", fn := fun _ => fun
  | [d1, d2, d3, d4] => { results := [.lit (.bool false)], args := [d1, d2, d3, d4] }
  | _ => none }
def FeatureGetsWrongFalsely : Prop := featureGetsRow.holds Try.pinned (OpenSpec.ofChange featureGetsWrong)

/-- 'capsulelaw22.FeatureKeeps': WHATEVER THE INPUT: true; the input reads as it did. -/
def featureKeepsSpec : ChangeSpec := { name := "featureKeeps", fn := fun _ => fun
  | [d1, d2, d3, d4, d5, d6] => { results := [.lit (.bool true)], args := [d1, d2, d3, d4, d5, d6] }
  | _ => none }
def featureKeepsRow : OpenClaim := { program := "ytaeelabbppjobaa", sum := "4adc6cee2f0ef63356dce7b5e00838d2bc4c56a719e25ebb53519b53716b03b1", func := "capsule/capsulelaw22.FeatureKeeps", spec := "featureKeeps", inPlace := ["maps.clone"], unfollowed := true, recurses := true, apart := false }
def FeatureKeepsSaid : Prop := featureKeepsRow.holds Try.pinned (OpenSpec.ofChange featureKeepsSpec)

/-- ITS FALSE NEIGHBOUR: 'it returns false'. Refute it at one input. -/
def featureKeepsWrong : ChangeSpec := { name := "featureKeeps", fn := fun _ => fun
  | [d1, d2, d3, d4, d5, d6] => { results := [.lit (.bool false)], args := [d1, d2, d3, d4, d5, d6] }
  | _ => none }
def FeatureKeepsWrongFalsely : Prop := featureKeepsRow.holds Try.pinned (OpenSpec.ofChange featureKeepsWrong)

/-- 'capsulelaw22.FeatureRuns': WHATEVER THE INPUT: true; the input reads as it did. -/
def featureRunsSpec : ChangeSpec := { name := "featureRuns", fn := fun _ => fun
  | [d1, d2] => { results := [.lit (.bool true)], args := [d1, d2] }
  | _ => none }
def featureRunsRow : OpenClaim := { program := "ytaeelabbppjobaa", sum := "4adc6cee2f0ef63356dce7b5e00838d2bc4c56a719e25ebb53519b53716b03b1", func := "capsule/capsulelaw22.FeatureRuns", spec := "featureRuns", inPlace := ["maps.clone"], unfollowed := true, recurses := true, apart := false }
def FeatureRunsSaid : Prop := featureRunsRow.holds Try.pinned (OpenSpec.ofChange featureRunsSpec)

/-- ITS FALSE NEIGHBOUR: 'it returns false'. Refute it at one input. -/
def featureRunsWrong : ChangeSpec := { name := "featureRuns", fn := fun _ => fun
  | [d1, d2] => { results := [.lit (.bool false)], args := [d1, d2] }
  | _ => none }
def FeatureRunsWrongFalsely : Prop := featureRunsRow.holds Try.pinned (OpenSpec.ofChange featureRunsWrong)

/-- 'capsulelaw22.FeatureCopies': WHATEVER THE INPUT: true; the input reads as it did. -/
def featureCopiesSpec : ChangeSpec := { name := "featureCopies", fn := fun _ => fun
  | [d1, d2, d3, d4] => { results := [.lit (.bool true)], args := [d1, d2, d3, d4] }
  | _ => none }
def featureCopiesRow : OpenClaim := { program := "ytaeelabbppjobaa", sum := "4adc6cee2f0ef63356dce7b5e00838d2bc4c56a719e25ebb53519b53716b03b1", func := "capsule/capsulelaw22.FeatureCopies", spec := "featureCopies", inPlace := ["maps.clone"], unfollowed := true, recurses := true, apart := false }
def FeatureCopiesSaid : Prop := featureCopiesRow.holds Try.pinned (OpenSpec.ofChange featureCopiesSpec)

/-- ITS FALSE NEIGHBOUR: 'it returns false'. Refute it at one input. -/
def featureCopiesWrong : ChangeSpec := { name := "featureCopies", fn := fun _ => fun
  | [d1, d2, d3, d4] => { results := [.lit (.bool false)], args := [d1, d2, d3, d4] }
  | _ => none }
def FeatureCopiesWrongFalsely : Prop := featureCopiesRow.holds Try.pinned (OpenSpec.ofChange featureCopiesWrong)

/-- 'capsulelaw22.FeatureLists': WHATEVER THE INPUT: true; the input reads as it did. -/
def featureListsSpec : ChangeSpec := { name := "featureLists", fn := fun _ => fun
  | [d1, d2, d3] => { results := [.lit (.bool true)], args := [d1, d2, d3] }
  | _ => none }
def featureListsRow : OpenClaim := { program := "ytaeelabbppjobaa", sum := "4adc6cee2f0ef63356dce7b5e00838d2bc4c56a719e25ebb53519b53716b03b1", func := "capsule/capsulelaw22.FeatureLists", spec := "featureLists", inPlace := ["maps.clone"], unfollowed := true, recurses := true, apart := false }
def FeatureListsSaid : Prop := featureListsRow.holds Try.pinned (OpenSpec.ofChange featureListsSpec)

/-- ITS FALSE NEIGHBOUR: 'it returns false'. Refute it at one input. -/
def featureListsWrong : ChangeSpec := { name := "featureLists", fn := fun _ => fun
  | [d1, d2, d3] => { results := [.lit (.bool false)], args := [d1, d2, d3] }
  | _ => none }
def FeatureListsWrongFalsely : Prop := featureListsRow.holds Try.pinned (OpenSpec.ofChange featureListsWrong)

/-- 'capsulelaw22.FeatureNil': WHATEVER THE INPUT: true; the input reads as it did. -/
def featureNilSpec : ChangeSpec := { name := "featureNil", fn := fun _ => fun
  | [d1, d2] => { results := [.lit (.bool true)], args := [d1, d2] }
  | _ => none }
def featureNilRow : OpenClaim := { program := "ytaeelabbppjobaa", sum := "4adc6cee2f0ef63356dce7b5e00838d2bc4c56a719e25ebb53519b53716b03b1", func := "capsule/capsulelaw22.FeatureNil", spec := "featureNil", inPlace := ["maps.clone"], unfollowed := true, recurses := true, apart := false }
def FeatureNilSaid : Prop := featureNilRow.holds Try.pinned (OpenSpec.ofChange featureNilSpec)

/-- ITS FALSE NEIGHBOUR: 'it returns false'. Refute it at one input. -/
def featureNilWrong : ChangeSpec := { name := "featureNil", fn := fun _ => fun
  | [d1, d2] => { results := [.lit (.bool false)], args := [d1, d2] }
  | _ => none }
def FeatureNilWrongFalsely : Prop := featureNilRow.holds Try.pinned (OpenSpec.ofChange featureNilWrong)

/- THE SECOND FORM. 'bulk': how many values and letters a reading holds, each counted each time it is reached (what is shared counts as often as it is met; a slice's spare places count too). A statement '..UptoSaid' is the law's where the arguments, and the package variables that the reading takes, are together of bulk at most 1048576: NARROWER than '..Said'. Prove '..Said' where nothing that the law and all that it calls make is longer than what came in: it says more and counts as full. Else prove '..UptoSaid'. A law counts once. -/
mutual
def uptoBulk {H : Type} : DataW H → Nat
  | .lit (.string bytes) => bytes.length + 1
  | .lit _ => 1
  | .nil => 1
  | .ptr d => uptoBulk d + 1
  | .slice elems spare => uptoBulkAll elems + uptoBulkAll spare + 1
  | .agg parts => uptoBulkAll parts + 1
  | .iface _ d => uptoBulk d + 1
  | .map entries => uptoBulkEntries entries + 1
  | .held _ => 1
def uptoBulkAll {H : Type} : List (DataW H) → Nat
  | [] => 0
  | d :: r => uptoBulk d + uptoBulkAll r
def uptoBulkEntries {H : Type} : List (Lit × DataW H) → Nat
  | [] => 0
  | x :: r => uptoBulkEntry x + uptoBulkEntries r
def uptoBulkEntry {H : Type} : Lit × DataW H → Nat
  | (.string bytes, d) => bytes.length + uptoBulk d + 1
  | (_, d) => uptoBulk d + 1
 end
def uptoSmall : (H : Type) → List (DataW H) → Bool := fun _ ds => decide (uptoBulkAll ds ≤ 1048576)
def OpenSpec.upto (s : _root_.Go.ChangeSpec) : _root_.Go.OpenSpec := { _root_.Go.OpenSpec.ofChange s with cond := some uptoSmall }

/-- 'capsulelaw22.FeatureGets', WHERE WHAT IT READS IS OF BULK AT MOST 1048576: true; the input reads as it did. -/
def featureGetsUptoRow : OpenClaim := { program := "ytaeelabbppjobaa", sum := "4adc6cee2f0ef63356dce7b5e00838d2bc4c56a719e25ebb53519b53716b03b1", func := "capsule/capsulelaw22.FeatureGets", spec := "featureGets", inPlace := ["maps.clone"], unfollowed := true, recurses := true, apart := false, narrowed := true }
def FeatureGetsUptoSaid : Prop := featureGetsUptoRow.holds Try.pinned (OpenSpec.upto featureGetsSpec)

/-- 'capsulelaw22.FeatureKeeps', WHERE WHAT IT READS IS OF BULK AT MOST 1048576: true; the input reads as it did. -/
def featureKeepsUptoRow : OpenClaim := { program := "ytaeelabbppjobaa", sum := "4adc6cee2f0ef63356dce7b5e00838d2bc4c56a719e25ebb53519b53716b03b1", func := "capsule/capsulelaw22.FeatureKeeps", spec := "featureKeeps", inPlace := ["maps.clone"], unfollowed := true, recurses := true, apart := false, narrowed := true }
def FeatureKeepsUptoSaid : Prop := featureKeepsUptoRow.holds Try.pinned (OpenSpec.upto featureKeepsSpec)

/-- 'capsulelaw22.FeatureRuns', WHERE WHAT IT READS IS OF BULK AT MOST 1048576: true; the input reads as it did. -/
def featureRunsUptoRow : OpenClaim := { program := "ytaeelabbppjobaa", sum := "4adc6cee2f0ef63356dce7b5e00838d2bc4c56a719e25ebb53519b53716b03b1", func := "capsule/capsulelaw22.FeatureRuns", spec := "featureRuns", inPlace := ["maps.clone"], unfollowed := true, recurses := true, apart := false, narrowed := true }
def FeatureRunsUptoSaid : Prop := featureRunsUptoRow.holds Try.pinned (OpenSpec.upto featureRunsSpec)

/-- 'capsulelaw22.FeatureCopies', WHERE WHAT IT READS IS OF BULK AT MOST 1048576: true; the input reads as it did. -/
def featureCopiesUptoRow : OpenClaim := { program := "ytaeelabbppjobaa", sum := "4adc6cee2f0ef63356dce7b5e00838d2bc4c56a719e25ebb53519b53716b03b1", func := "capsule/capsulelaw22.FeatureCopies", spec := "featureCopies", inPlace := ["maps.clone"], unfollowed := true, recurses := true, apart := false, narrowed := true }
def FeatureCopiesUptoSaid : Prop := featureCopiesUptoRow.holds Try.pinned (OpenSpec.upto featureCopiesSpec)

/-- 'capsulelaw22.FeatureLists', WHERE WHAT IT READS IS OF BULK AT MOST 1048576: true; the input reads as it did. -/
def featureListsUptoRow : OpenClaim := { program := "ytaeelabbppjobaa", sum := "4adc6cee2f0ef63356dce7b5e00838d2bc4c56a719e25ebb53519b53716b03b1", func := "capsule/capsulelaw22.FeatureLists", spec := "featureLists", inPlace := ["maps.clone"], unfollowed := true, recurses := true, apart := false, narrowed := true }
def FeatureListsUptoSaid : Prop := featureListsUptoRow.holds Try.pinned (OpenSpec.upto featureListsSpec)

/-- 'capsulelaw22.FeatureNil', WHERE WHAT IT READS IS OF BULK AT MOST 1048576: true; the input reads as it did. -/
def featureNilUptoRow : OpenClaim := { program := "ytaeelabbppjobaa", sum := "4adc6cee2f0ef63356dce7b5e00838d2bc4c56a719e25ebb53519b53716b03b1", func := "capsule/capsulelaw22.FeatureNil", spec := "featureNil", inPlace := ["maps.clone"], unfollowed := true, recurses := true, apart := false, narrowed := true }
def FeatureNilUptoSaid : Prop := featureNilUptoRow.holds Try.pinned (OpenSpec.upto featureNilSpec)

end Rows
end Go.Proofs.Ytaeelabbppjobaa
