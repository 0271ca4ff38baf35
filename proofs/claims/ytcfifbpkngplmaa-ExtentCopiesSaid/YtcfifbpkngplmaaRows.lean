/-
  No cell of these rows narrows 'for every input' (looked for: loops, veiled, ifaces, maps, wideKeys, modest, calm, conditions, laid).
  DERIVED. THE GIVEN ROWS OF THIS SEAT. 5 by the template 'for every input the law returns true; each argument reads behind the call as it read before'; 0 by the template 'total and deterministic' (their statements: YtcfifbpkngplmaaTotals.lean).
  GIVEN WITH THE SEED: the statements are not yours to turn. If you find one false, say at which input.
  Laid BY PROGRAM, IN A SANDBOX (cutbox-rows.mjs): the forced cells as the released guide's own fill.sh prints them over the translation c98d472a17b0b9c3… (all of the seat's roots in one cut). By AI agents, Wed Nov 11 2026. No macro, syntax, notation, axiom, sorry.
-/
import Derived.Test.YtcfifbpkngplmaaChecked
import GoSem.Claim
import GoSem.ClaimJoined
import GoSem.ClaimMapViews
import Derived.JoinedTies
import Derived.KernelRfl
namespace Go.Proofs.Ytcfifbpkngplmaa
/- THE CELL 'sum', in the pinned program and in every row, IS THE sha256 OF THE DUMP (.gsa) THAT YtcfifbpkngplmaaProg.lean LOADS. Nothing in Lean hashes anything: it is a label: what it is worth is what the hold of that sum in a sandbox is worth. -/
noncomputable def Try.pinned : Pinned := { name := "ytcfifbpkngplmaa", sum := "c98d472a17b0b9c3465e5eb37406675892d242ac6b5d5bed0ab7fb44ce4e36c1", checked := Try.checked }
namespace Rows
def none {H : Type} : Left H := { results := [], args := [] }

/-- 'capsulelaw27.ExtentBounds': WHATEVER THE INPUT: true; the input reads as it did. -/
def extentBoundsSpec : ChangeSpec := { name := "extentBounds", fn := fun _ => fun
  | [d1, d2] => { results := [.lit (.bool true)], args := [d1, d2] }
  | _ => none }
def extentBoundsRow : OpenClaim := { program := "ytcfifbpkngplmaa", sum := "c98d472a17b0b9c3465e5eb37406675892d242ac6b5d5bed0ab7fb44ce4e36c1", func := "capsule/capsulelaw27.ExtentBounds", spec := "extentBounds", inPlace := ["slices.overlaps[int]"], unfollowed := true, recurses := true, apart := false }
def ExtentBoundsSaid : Prop := extentBoundsRow.holds Try.pinned (OpenSpec.ofChange extentBoundsSpec)

/-- ITS FALSE NEIGHBOUR: 'it returns false'. Refute it at one input. -/
def extentBoundsWrong : ChangeSpec := { name := "extentBounds", fn := fun _ => fun
  | [d1, d2] => { results := [.lit (.bool false)], args := [d1, d2] }
  | _ => none }
def ExtentBoundsWrongFalsely : Prop := extentBoundsRow.holds Try.pinned (OpenSpec.ofChange extentBoundsWrong)

/-- 'capsulelaw27.ExtentHolds': WHATEVER THE INPUT: true; the input reads as it did. -/
def extentHoldsSpec : ChangeSpec := { name := "extentHolds", fn := fun _ => fun
  | [d1, d2, d3, d4] => { results := [.lit (.bool true)], args := [d1, d2, d3, d4] }
  | _ => none }
def extentHoldsRow : OpenClaim := { program := "ytcfifbpkngplmaa", sum := "c98d472a17b0b9c3465e5eb37406675892d242ac6b5d5bed0ab7fb44ce4e36c1", func := "capsule/capsulelaw27.ExtentHolds", spec := "extentHolds", inPlace := ["slices.overlaps[int]"], unfollowed := true, recurses := true, apart := false }
def ExtentHoldsSaid : Prop := extentHoldsRow.holds Try.pinned (OpenSpec.ofChange extentHoldsSpec)

/-- ITS FALSE NEIGHBOUR: 'it returns false'. Refute it at one input. -/
def extentHoldsWrong : ChangeSpec := { name := "extentHolds", fn := fun _ => fun
  | [d1, d2, d3, d4] => { results := [.lit (.bool false)], args := [d1, d2, d3, d4] }
  | _ => none }
def ExtentHoldsWrongFalsely : Prop := extentHoldsRow.holds Try.pinned (OpenSpec.ofChange extentHoldsWrong)

/-- 'capsulelaw27.ExtentPlays': WHATEVER THE INPUT: true; the input reads as it did. -/
def extentPlaysSpec : ChangeSpec := { name := "extentPlays", fn := fun _ => fun
  | [d1, d2, d3, d4] => { results := [.lit (.bool true)], args := [d1, d2, d3, d4] }
  | _ => none }
def extentPlaysRow : OpenClaim := { program := "ytcfifbpkngplmaa", sum := "c98d472a17b0b9c3465e5eb37406675892d242ac6b5d5bed0ab7fb44ce4e36c1", func := "capsule/capsulelaw27.ExtentPlays", spec := "extentPlays", inPlace := ["slices.overlaps[int]"], unfollowed := true, recurses := true, apart := false }
def ExtentPlaysSaid : Prop := extentPlaysRow.holds Try.pinned (OpenSpec.ofChange extentPlaysSpec)

/-- ITS FALSE NEIGHBOUR: 'it returns false'. Refute it at one input. -/
def extentPlaysWrong : ChangeSpec := { name := "extentPlays", fn := fun _ => fun
  | [d1, d2, d3, d4] => { results := [.lit (.bool false)], args := [d1, d2, d3, d4] }
  | _ => none }
def ExtentPlaysWrongFalsely : Prop := extentPlaysRow.holds Try.pinned (OpenSpec.ofChange extentPlaysWrong)

/-- 'capsulelaw27.ExtentCopies': WHATEVER THE INPUT: true; the input reads as it did. -/
def extentCopiesSpec : ChangeSpec := { name := "extentCopies", fn := fun _ => fun
  | [d1, d2, d3, d4] => { results := [.lit (.bool true)], args := [d1, d2, d3, d4] }
  | _ => none }
def extentCopiesRow : OpenClaim := { program := "ytcfifbpkngplmaa", sum := "c98d472a17b0b9c3465e5eb37406675892d242ac6b5d5bed0ab7fb44ce4e36c1", func := "capsule/capsulelaw27.ExtentCopies", spec := "extentCopies", inPlace := ["slices.overlaps[int]"], unfollowed := true, recurses := true, apart := false }
def ExtentCopiesSaid : Prop := extentCopiesRow.holds Try.pinned (OpenSpec.ofChange extentCopiesSpec)

/-- ITS FALSE NEIGHBOUR: 'it returns false'. Refute it at one input. -/
def extentCopiesWrong : ChangeSpec := { name := "extentCopies", fn := fun _ => fun
  | [d1, d2, d3, d4] => { results := [.lit (.bool false)], args := [d1, d2, d3, d4] }
  | _ => none }
def ExtentCopiesWrongFalsely : Prop := extentCopiesRow.holds Try.pinned (OpenSpec.ofChange extentCopiesWrong)

/-- 'capsulelaw27.ExtentNone': WHATEVER THE INPUT: true; the input reads as it did. -/
def extentNoneSpec : ChangeSpec := { name := "extentNone", fn := fun _ => fun
  | [d1, d2] => { results := [.lit (.bool true)], args := [d1, d2] }
  | _ => none }
def extentNoneRow : OpenClaim := { program := "ytcfifbpkngplmaa", sum := "c98d472a17b0b9c3465e5eb37406675892d242ac6b5d5bed0ab7fb44ce4e36c1", func := "capsule/capsulelaw27.ExtentNone", spec := "extentNone", inPlace := ["slices.overlaps[int]"], unfollowed := true, recurses := true, apart := false }
def ExtentNoneSaid : Prop := extentNoneRow.holds Try.pinned (OpenSpec.ofChange extentNoneSpec)

/-- ITS FALSE NEIGHBOUR: 'it returns false'. Refute it at one input. -/
def extentNoneWrong : ChangeSpec := { name := "extentNone", fn := fun _ => fun
  | [d1, d2] => { results := [.lit (.bool false)], args := [d1, d2] }
  | _ => none }
def ExtentNoneWrongFalsely : Prop := extentNoneRow.holds Try.pinned (OpenSpec.ofChange extentNoneWrong)

/- THE SECOND FORM. 'bulk': how many values and letters a reading holds, each counted each time it is reached (what is shared counts as often as it is met; a slice's spare places count too). A statement '..UptoSaid' is the law's where the arguments, and the package variables that the reading takes, are together of bulk at most 1048576: NARROWER than '..Said'. Prove '..Said' where nothing that the law and all that it calls make is longer than what came in: it says more and counts as full. Else prove '..UptoSaid'. A law counts once. -/
mutual
def uptoBulk {H : Type} : DataW H → Nat
  | .lit (.string bytes) => bytes.length + 1
  | .lit _ => 1
  | .nil => 1
  | .ptr d => uptoBulk d + 1
  | .slice elems spare => uptoBulkAll elems + uptoBulkAll spare + 1
  | .agg parts => uptoBulkAll parts + 1
  | .iface _ d => uptoBulk d + 1
  | .map entries => uptoBulkEntries entries + 1
  | .held _ => 1
def uptoBulkAll {H : Type} : List (DataW H) → Nat
  | [] => 0
  | d :: r => uptoBulk d + uptoBulkAll r
def uptoBulkEntries {H : Type} : List (Lit × DataW H) → Nat
  | [] => 0
  | x :: r => uptoBulkEntry x + uptoBulkEntries r
def uptoBulkEntry {H : Type} : Lit × DataW H → Nat
  | (.string bytes, d) => bytes.length + uptoBulk d + 1
  | (_, d) => uptoBulk d + 1
 end
def uptoSmall : (H : Type) → List (DataW H) → Bool := fun _ ds => decide (uptoBulkAll ds ≤ 1048576)
def OpenSpec.upto (s : _root_.Go.ChangeSpec) : _root_.Go.OpenSpec := { _root_.Go.OpenSpec.ofChange s with cond := some uptoSmall }

/-- 'capsulelaw27.ExtentBounds', WHERE WHAT IT READS IS OF BULK AT MOST 1048576: true; the input reads as it did. -/
def extentBoundsUptoRow : OpenClaim := { program := "ytcfifbpkngplmaa", sum := "c98d472a17b0b9c3465e5eb37406675892d242ac6b5d5bed0ab7fb44ce4e36c1", func := "capsule/capsulelaw27.ExtentBounds", spec := "extentBounds", inPlace := ["slices.overlaps[int]"], unfollowed := true, recurses := true, apart := false, narrowed := true }
def ExtentBoundsUptoSaid : Prop := extentBoundsUptoRow.holds Try.pinned (OpenSpec.upto extentBoundsSpec)

/-- 'capsulelaw27.ExtentHolds', WHERE WHAT IT READS IS OF BULK AT MOST 1048576: true; the input reads as it did. -/
def extentHoldsUptoRow : OpenClaim := { program := "ytcfifbpkngplmaa", sum := "c98d472a17b0b9c3465e5eb37406675892d242ac6b5d5bed0ab7fb44ce4e36c1", func := "capsule/capsulelaw27.ExtentHolds", spec := "extentHolds", inPlace := ["slices.overlaps[int]"], unfollowed := true, recurses := true, apart := false, narrowed := true }
def ExtentHoldsUptoSaid : Prop := extentHoldsUptoRow.holds Try.pinned (OpenSpec.upto extentHoldsSpec)

/-- 'capsulelaw27.ExtentPlays', WHERE WHAT IT READS IS OF BULK AT MOST 1048576: true; the input reads as it did. -/
def extentPlaysUptoRow : OpenClaim := { program := "ytcfifbpkngplmaa", sum := "c98d472a17b0b9c3465e5eb37406675892d242ac6b5d5bed0ab7fb44ce4e36c1", func := "capsule/capsulelaw27.ExtentPlays", spec := "extentPlays", inPlace := ["slices.overlaps[int]"], unfollowed := true, recurses := true, apart := false, narrowed := true }
def ExtentPlaysUptoSaid : Prop := extentPlaysUptoRow.holds Try.pinned (OpenSpec.upto extentPlaysSpec)

/-- 'capsulelaw27.ExtentCopies', WHERE WHAT IT READS IS OF BULK AT MOST 1048576: true; the input reads as it did. -/
def extentCopiesUptoRow : OpenClaim := { program := "ytcfifbpkngplmaa", sum := "c98d472a17b0b9c3465e5eb37406675892d242ac6b5d5bed0ab7fb44ce4e36c1", func := "capsule/capsulelaw27.ExtentCopies", spec := "extentCopies", inPlace := ["slices.overlaps[int]"], unfollowed := true, recurses := true, apart := false, narrowed := true }
def ExtentCopiesUptoSaid : Prop := extentCopiesUptoRow.holds Try.pinned (OpenSpec.upto extentCopiesSpec)

/-- 'capsulelaw27.ExtentNone', WHERE WHAT IT READS IS OF BULK AT MOST 1048576: true; the input reads as it did. -/
def extentNoneUptoRow : OpenClaim := { program := "ytcfifbpkngplmaa", sum := "c98d472a17b0b9c3465e5eb37406675892d242ac6b5d5bed0ab7fb44ce4e36c1", func := "capsule/capsulelaw27.ExtentNone", spec := "extentNone", inPlace := ["slices.overlaps[int]"], unfollowed := true, recurses := true, apart := false, narrowed := true }
def ExtentNoneUptoSaid : Prop := extentNoneUptoRow.holds Try.pinned (OpenSpec.upto extentNoneSpec)

end Rows
end Go.Proofs.Ytcfifbpkngplmaa
