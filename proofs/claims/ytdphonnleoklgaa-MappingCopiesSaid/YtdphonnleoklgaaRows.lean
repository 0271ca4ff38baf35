/-
  No cell of these rows narrows 'for every input' (looked for: loops, veiled, ifaces, maps, wideKeys, modest, calm, conditions, laid).
  DERIVED. THE GIVEN ROWS OF THIS SEAT. 3 by the template 'for every input the law returns true; each argument reads behind the call as it read before'; 0 by the template 'total and deterministic' (their statements: YtdphonnleoklgaaTotals.lean).
  GIVEN WITH THE SEED: the statements are not yours to turn. If you find one false, say at which input.
  Laid BY PROGRAM, IN A SANDBOX (cutbox-rows.mjs): the forced cells as the released guide's own fill.sh prints them over the translation bae06b62876d7261… (all of the seat's roots in one cut). By AI agents, Wed Nov 11 2026. No macro, syntax, notation, axiom, sorry.
-/
import Derived.Test.YtdphonnleoklgaaChecked
import GoSem.Claim
import GoSem.ClaimJoined
import GoSem.ClaimMapViews
import Derived.JoinedTies
import Derived.KernelRfl
namespace Go.Proofs.Ytdphonnleoklgaa
/- THE CELL 'sum', in the pinned program and in every row, IS THE sha256 OF THE DUMP (.gsa) THAT YtdphonnleoklgaaProg.lean LOADS. Nothing in Lean hashes anything: it is a label: what it is worth is what the hold of that sum in a sandbox is worth. -/
noncomputable def Try.pinned : Pinned := { name := "ytdphonnleoklgaa", sum := "bae06b62876d726149e8e7ff6a1f111216e4fc810a893097492eb0411ec1d8e8", checked := Try.checked }
namespace Rows
def none {H : Type} : Left H := { results := [], args := [] }

/-- 'capsulelaw07.MappingHolds': WHATEVER THE INPUT: true; the input reads as it did. -/
def mappingHoldsSpec : ChangeSpec := { name := "mappingHolds", fn := fun _ => fun
  | [d1, d2, d3, d4] => { results := [.lit (.bool true)], args := [d1, d2, d3, d4] }
  | _ => none }
def mappingHoldsRow : OpenClaim := { program := "ytdphonnleoklgaa", sum := "bae06b62876d726149e8e7ff6a1f111216e4fc810a893097492eb0411ec1d8e8", func := "capsule/capsulelaw07.MappingHolds", spec := "mappingHolds", unfollowed := true, recurses := true, apart := false }
def MappingHoldsSaid : Prop := mappingHoldsRow.holds Try.pinned (OpenSpec.ofChange mappingHoldsSpec)

/-- ITS FALSE NEIGHBOUR: 'it returns false'. Refute it at one input. -/
def mappingHoldsWrong : ChangeSpec := { name := "mappingHolds", fn := fun _ => fun
  | [d1, d2, d3, d4] => { results := [.lit (.bool false)], args := [d1, d2, d3, d4] }
  | _ => none }
def MappingHoldsWrongFalsely : Prop := mappingHoldsRow.holds Try.pinned (OpenSpec.ofChange mappingHoldsWrong)

/-- 'capsulelaw07.MappingPlays': WHATEVER THE INPUT: true; the input reads as it did. -/
def mappingPlaysSpec : ChangeSpec := { name := "mappingPlays", fn := fun _ => fun
  | [d1, d2, d3, d4] => { results := [.lit (.bool true)], args := [d1, d2, d3, d4] }
  | _ => none }
def mappingPlaysRow : OpenClaim := { program := "ytdphonnleoklgaa", sum := "bae06b62876d726149e8e7ff6a1f111216e4fc810a893097492eb0411ec1d8e8", func := "capsule/capsulelaw07.MappingPlays", spec := "mappingPlays", unfollowed := true, recurses := true, apart := false }
def MappingPlaysSaid : Prop := mappingPlaysRow.holds Try.pinned (OpenSpec.ofChange mappingPlaysSpec)

/-- ITS FALSE NEIGHBOUR: 'it returns false'. Refute it at one input. -/
def mappingPlaysWrong : ChangeSpec := { name := "mappingPlays", fn := fun _ => fun
  | [d1, d2, d3, d4] => { results := [.lit (.bool false)], args := [d1, d2, d3, d4] }
  | _ => none }
def MappingPlaysWrongFalsely : Prop := mappingPlaysRow.holds Try.pinned (OpenSpec.ofChange mappingPlaysWrong)

/-- 'capsulelaw07.MappingCopies': WHATEVER THE INPUT: true; the input reads as it did. -/
def mappingCopiesSpec : ChangeSpec := { name := "mappingCopies", fn := fun _ => fun
  | [d1, d2, d3, d4, d5, d6, d7] => { results := [.lit (.bool true)], args := [d1, d2, d3, d4, d5, d6, d7] }
  | _ => none }
def mappingCopiesRow : OpenClaim := { program := "ytdphonnleoklgaa", sum := "bae06b62876d726149e8e7ff6a1f111216e4fc810a893097492eb0411ec1d8e8", func := "capsule/capsulelaw07.MappingCopies", spec := "mappingCopies", inPlace := ["maps.clone"], unfollowed := true, recurses := true, apart := false }
def MappingCopiesSaid : Prop := mappingCopiesRow.holds Try.pinned (OpenSpec.ofChange mappingCopiesSpec)

/-- ITS FALSE NEIGHBOUR: 'it returns false'. Refute it at one input. -/
def mappingCopiesWrong : ChangeSpec := { name := "mappingCopies", fn := fun _ => fun
  | [d1, d2, d3, d4, d5, d6, d7] => { results := [.lit (.bool false)], args := [d1, d2, d3, d4, d5, d6, d7] }
  | _ => none }
def MappingCopiesWrongFalsely : Prop := mappingCopiesRow.holds Try.pinned (OpenSpec.ofChange mappingCopiesWrong)

/- THE SECOND FORM. 'bulk': how many values and letters a reading holds, each counted each time it is reached (what is shared counts as often as it is met; a slice's spare places count too). A statement '..UptoSaid' is the law's where the arguments, and the package variables that the reading takes, are together of bulk at most 1048576: NARROWER than '..Said'. Prove '..Said' where nothing that the law and all that it calls make is longer than what came in: it says more and counts as full. Else prove '..UptoSaid'. A law counts once. -/
mutual
def uptoBulk {H : Type} : DataW H → Nat
  | .lit (.string bytes) => bytes.length + 1
  | .lit _ => 1
  | .nil => 1
  | .ptr d => uptoBulk d + 1
  | .slice elems spare => uptoBulkAll elems + uptoBulkAll spare + 1
  | .agg parts => uptoBulkAll parts + 1
  | .iface _ d => uptoBulk d + 1
  | .map entries => uptoBulkEntries entries + 1
  | .held _ => 1
def uptoBulkAll {H : Type} : List (DataW H) → Nat
  | [] => 0
  | d :: r => uptoBulk d + uptoBulkAll r
def uptoBulkEntries {H : Type} : List (Lit × DataW H) → Nat
  | [] => 0
  | x :: r => uptoBulkEntry x + uptoBulkEntries r
def uptoBulkEntry {H : Type} : Lit × DataW H → Nat
  | (.string bytes, d) => bytes.length + uptoBulk d + 1
  | (_, d) => uptoBulk d + 1
 end
def uptoSmall : (H : Type) → List (DataW H) → Bool := fun _ ds => decide (uptoBulkAll ds ≤ 1048576)
def OpenSpec.upto (s : _root_.Go.ChangeSpec) : _root_.Go.OpenSpec := { _root_.Go.OpenSpec.ofChange s with cond := some uptoSmall }

/-- 'capsulelaw07.MappingHolds', WHERE WHAT IT READS IS OF BULK AT MOST 1048576: true; the input reads as it did. -/
def mappingHoldsUptoRow : OpenClaim := { program := "ytdphonnleoklgaa", sum := "bae06b62876d726149e8e7ff6a1f111216e4fc810a893097492eb0411ec1d8e8", func := "capsule/capsulelaw07.MappingHolds", spec := "mappingHolds", unfollowed := true, recurses := true, apart := false, narrowed := true }
def MappingHoldsUptoSaid : Prop := mappingHoldsUptoRow.holds Try.pinned (OpenSpec.upto mappingHoldsSpec)

/-- 'capsulelaw07.MappingPlays', WHERE WHAT IT READS IS OF BULK AT MOST 1048576: true; the input reads as it did. -/
def mappingPlaysUptoRow : OpenClaim := { program := "ytdphonnleoklgaa", sum := "bae06b62876d726149e8e7ff6a1f111216e4fc810a893097492eb0411ec1d8e8", func := "capsule/capsulelaw07.MappingPlays", spec := "mappingPlays", unfollowed := true, recurses := true, apart := false, narrowed := true }
def MappingPlaysUptoSaid : Prop := mappingPlaysUptoRow.holds Try.pinned (OpenSpec.upto mappingPlaysSpec)

/-- 'capsulelaw07.MappingCopies', WHERE WHAT IT READS IS OF BULK AT MOST 1048576: true; the input reads as it did. -/
def mappingCopiesUptoRow : OpenClaim := { program := "ytdphonnleoklgaa", sum := "bae06b62876d726149e8e7ff6a1f111216e4fc810a893097492eb0411ec1d8e8", func := "capsule/capsulelaw07.MappingCopies", spec := "mappingCopies", inPlace := ["maps.clone"], unfollowed := true, recurses := true, apart := false, narrowed := true }
def MappingCopiesUptoSaid : Prop := mappingCopiesUptoRow.holds Try.pinned (OpenSpec.upto mappingCopiesSpec)

end Rows
end Go.Proofs.Ytdphonnleoklgaa
