/-
  No cell of these rows narrows 'for every input' (looked for: loops, veiled, ifaces, maps, wideKeys, modest, calm, conditions, laid).
  DERIVED. THE GIVEN ROWS OF THIS SEAT. 5 by the template 'for every input the law returns true; each argument reads behind the call as it read before'; 0 by the template 'total and deterministic' (their statements: YtmnlmghchegjaaaTotals.lean).
  GIVEN WITH THE SEED: the statements are not yours to turn. If you find one false, say at which input.
  Laid BY PROGRAM, IN A SANDBOX (cutbox-rows.mjs): the forced cells as the released guide's own fill.sh prints them over the translation b1649860c2c04ae3… (all of the seat's roots in one cut). By AI agents, Wed Nov 11 2026. No macro, syntax, notation, axiom, sorry.
-/
import Derived.Test.YtmnlmghchegjaaaChecked
import GoSem.Claim
import GoSem.ClaimJoined
import GoSem.ClaimMapViews
import Derived.JoinedTies
import Derived.KernelRfl
namespace Go.Proofs.Ytmnlmghchegjaaa
/- THE CELL 'sum', in the pinned program and in every row, IS THE sha256 OF THE DUMP (.gsa) THAT YtmnlmghchegjaaaProg.lean LOADS. Nothing in Lean hashes anything: it is a label: what it is worth is what the hold of that sum in a sandbox is worth. -/
noncomputable def Try.pinned : Pinned := { name := "ytmnlmghchegjaaa", sum := "b1649860c2c04ae358c8bff55836bd6c6966251386f222d44e44341e4e5d59b4", checked := Try.checked }
namespace Rows
def none {H : Type} : Left H := { results := [], args := [] }

/-- 'capsulelaw29.ReserveNotices': WHATEVER THE INPUT: true; the input reads as it did. -/
def reserveNoticesSpec : ChangeSpec := { name := "reserveNotices", fn := fun _ => fun
  | [d1, d2] => { results := [.lit (.bool true)], args := [d1, d2] }
  | _ => none }
def reserveNoticesRow : OpenClaim := { program := "ytmnlmghchegjaaa", sum := "b1649860c2c04ae358c8bff55836bd6c6966251386f222d44e44341e4e5d59b4", func := "capsule/capsulelaw29.ReserveNotices", spec := "reserveNotices", inPlace := ["maps.clone"], unfollowed := true, recurses := true, apart := false }
def ReserveNoticesSaid : Prop := reserveNoticesRow.holds Try.pinned (OpenSpec.ofChange reserveNoticesSpec)

/-- ITS FALSE NEIGHBOUR: 'it returns false'. Refute it at one input. -/
def reserveNoticesWrong : ChangeSpec := { name := "reserveNotices", fn := fun _ => fun
  | [d1, d2] => { results := [.lit (.bool false)], args := [d1, d2] }
  | _ => none }
def ReserveNoticesWrongFalsely : Prop := reserveNoticesRow.holds Try.pinned (OpenSpec.ofChange reserveNoticesWrong)

/-- 'capsulelaw29.ReserveNone': WHATEVER THE INPUT: true; the input reads as it did. -/
def reserveNoneSpec : ChangeSpec := { name := "reserveNone", fn := fun _ => fun
  | [d1, d2] => { results := [.lit (.bool true)], args := [d1, d2] }
  | _ => none }
def reserveNoneRow : OpenClaim := { program := "ytmnlmghchegjaaa", sum := "b1649860c2c04ae358c8bff55836bd6c6966251386f222d44e44341e4e5d59b4", func := "capsule/capsulelaw29.ReserveNone", spec := "reserveNone", inPlace := ["maps.clone"], unfollowed := true, recurses := true, apart := false }
def ReserveNoneSaid : Prop := reserveNoneRow.holds Try.pinned (OpenSpec.ofChange reserveNoneSpec)

/-- ITS FALSE NEIGHBOUR: 'it returns false'. Refute it at one input. -/
def reserveNoneWrong : ChangeSpec := { name := "reserveNone", fn := fun _ => fun
  | [d1, d2] => { results := [.lit (.bool false)], args := [d1, d2] }
  | _ => none }
def ReserveNoneWrongFalsely : Prop := reserveNoneRow.holds Try.pinned (OpenSpec.ofChange reserveNoneWrong)

/-- 'capsulelaw29.ReserveCodes': WHATEVER THE INPUT: true; the input reads as it did. -/
def reserveCodesSpec : ChangeSpec := { name := "reserveCodes", fn := fun _ => fun
  | [d1, d2] => { results := [.lit (.bool true)], args := [d1, d2] }
  | _ => none }
def reserveCodesRow : OpenClaim := { program := "ytmnlmghchegjaaa", sum := "b1649860c2c04ae358c8bff55836bd6c6966251386f222d44e44341e4e5d59b4", func := "capsule/capsulelaw29.ReserveCodes", spec := "reserveCodes", inPlace := ["maps.clone"], unfollowed := true, recurses := true, apart := false }
def ReserveCodesSaid : Prop := reserveCodesRow.holds Try.pinned (OpenSpec.ofChange reserveCodesSpec)

/-- ITS FALSE NEIGHBOUR: 'it returns false'. Refute it at one input. -/
def reserveCodesWrong : ChangeSpec := { name := "reserveCodes", fn := fun _ => fun
  | [d1, d2] => { results := [.lit (.bool false)], args := [d1, d2] }
  | _ => none }
def ReserveCodesWrongFalsely : Prop := reserveCodesRow.holds Try.pinned (OpenSpec.ofChange reserveCodesWrong)

/-- 'capsulelaw29.ReserveBounds': WHATEVER THE INPUT: true; the input reads as it did. -/
def reserveBoundsSpec : ChangeSpec := { name := "reserveBounds", fn := fun _ => fun
  | [d] => { results := [.lit (.bool true)], args := [d] }
  | _ => none }
def reserveBoundsRow : OpenClaim := { program := "ytmnlmghchegjaaa", sum := "b1649860c2c04ae358c8bff55836bd6c6966251386f222d44e44341e4e5d59b4", func := "capsule/capsulelaw29.ReserveBounds", spec := "reserveBounds", inPlace := ["maps.clone"], unfollowed := true, recurses := true, apart := false }
def ReserveBoundsSaid : Prop := reserveBoundsRow.holds Try.pinned (OpenSpec.ofChange reserveBoundsSpec)

/-- ITS FALSE NEIGHBOUR: 'it returns false'. Refute it at one input. -/
def reserveBoundsWrong : ChangeSpec := { name := "reserveBounds", fn := fun _ => fun
  | [d] => { results := [.lit (.bool false)], args := [d] }
  | _ => none }
def ReserveBoundsWrongFalsely : Prop := reserveBoundsRow.holds Try.pinned (OpenSpec.ofChange reserveBoundsWrong)

/-- 'capsulelaw29.ReserveHolds': WHATEVER THE INPUT: true; the input reads as it did. -/
def reserveHoldsSpec : ChangeSpec := { name := "reserveHolds", fn := fun _ => fun
  | [d] => { results := [.lit (.bool true)], args := [d] }
  | _ => none }
def reserveHoldsRow : OpenClaim := { program := "ytmnlmghchegjaaa", sum := "b1649860c2c04ae358c8bff55836bd6c6966251386f222d44e44341e4e5d59b4", func := "capsule/capsulelaw29.ReserveHolds", spec := "reserveHolds", inPlace := ["maps.clone"], unfollowed := true, recurses := true, apart := false }
def ReserveHoldsSaid : Prop := reserveHoldsRow.holds Try.pinned (OpenSpec.ofChange reserveHoldsSpec)

/-- ITS FALSE NEIGHBOUR: 'it returns false'. Refute it at one input. -/
def reserveHoldsWrong : ChangeSpec := { name := "reserveHolds", fn := fun _ => fun
  | [d] => { results := [.lit (.bool false)], args := [d] }
  | _ => none }
def ReserveHoldsWrongFalsely : Prop := reserveHoldsRow.holds Try.pinned (OpenSpec.ofChange reserveHoldsWrong)

/- THE SECOND FORM. 'bulk': how many values and letters a reading holds, each counted each time it is reached (what is shared counts as often as it is met; a slice's spare places count too). A statement '..UptoSaid' is the law's where the arguments, and the package variables that the reading takes, are together of bulk at most 1048576: NARROWER than '..Said'. Prove '..Said' where nothing that the law and all that it calls make is longer than what came in: it says more and counts as full. Else prove '..UptoSaid'. A law counts once. -/
mutual
def uptoBulk {H : Type} : DataW H → Nat
  | .lit (.string bytes) => bytes.length + 1
  | .lit _ => 1
  | .nil => 1
  | .ptr d => uptoBulk d + 1
  | .slice elems spare => uptoBulkAll elems + uptoBulkAll spare + 1
  | .agg parts => uptoBulkAll parts + 1
  | .iface _ d => uptoBulk d + 1
  | .map entries => uptoBulkEntries entries + 1
  | .held _ => 1
def uptoBulkAll {H : Type} : List (DataW H) → Nat
  | [] => 0
  | d :: r => uptoBulk d + uptoBulkAll r
def uptoBulkEntries {H : Type} : List (Lit × DataW H) → Nat
  | [] => 0
  | x :: r => uptoBulkEntry x + uptoBulkEntries r
def uptoBulkEntry {H : Type} : Lit × DataW H → Nat
  | (.string bytes, d) => bytes.length + uptoBulk d + 1
  | (_, d) => uptoBulk d + 1
 end
def uptoSmall : (H : Type) → List (DataW H) → Bool := fun _ ds => decide (uptoBulkAll ds ≤ 1048576)
def OpenSpec.upto (s : _root_.Go.ChangeSpec) : _root_.Go.OpenSpec := { _root_.Go.OpenSpec.ofChange s with cond := some uptoSmall }

/-- 'capsulelaw29.ReserveNotices', WHERE WHAT IT READS IS OF BULK AT MOST 1048576: true; the input reads as it did. -/
def reserveNoticesUptoRow : OpenClaim := { program := "ytmnlmghchegjaaa", sum := "b1649860c2c04ae358c8bff55836bd6c6966251386f222d44e44341e4e5d59b4", func := "capsule/capsulelaw29.ReserveNotices", spec := "reserveNotices", inPlace := ["maps.clone"], unfollowed := true, recurses := true, apart := false, narrowed := true }
def ReserveNoticesUptoSaid : Prop := reserveNoticesUptoRow.holds Try.pinned (OpenSpec.upto reserveNoticesSpec)

/-- 'capsulelaw29.ReserveNone', WHERE WHAT IT READS IS OF BULK AT MOST 1048576: true; the input reads as it did. -/
def reserveNoneUptoRow : OpenClaim := { program := "ytmnlmghchegjaaa", sum := "b1649860c2c04ae358c8bff55836bd6c6966251386f222d44e44341e4e5d59b4", func := "capsule/capsulelaw29.ReserveNone", spec := "reserveNone", inPlace := ["maps.clone"], unfollowed := true, recurses := true, apart := false, narrowed := true }
def ReserveNoneUptoSaid : Prop := reserveNoneUptoRow.holds Try.pinned (OpenSpec.upto reserveNoneSpec)

/-- 'capsulelaw29.ReserveCodes', WHERE WHAT IT READS IS OF BULK AT MOST 1048576: true; the input reads as it did. -/
def reserveCodesUptoRow : OpenClaim := { program := "ytmnlmghchegjaaa", sum := "b1649860c2c04ae358c8bff55836bd6c6966251386f222d44e44341e4e5d59b4", func := "capsule/capsulelaw29.ReserveCodes", spec := "reserveCodes", inPlace := ["maps.clone"], unfollowed := true, recurses := true, apart := false, narrowed := true }
def ReserveCodesUptoSaid : Prop := reserveCodesUptoRow.holds Try.pinned (OpenSpec.upto reserveCodesSpec)

/-- 'capsulelaw29.ReserveBounds', WHERE WHAT IT READS IS OF BULK AT MOST 1048576: true; the input reads as it did. -/
def reserveBoundsUptoRow : OpenClaim := { program := "ytmnlmghchegjaaa", sum := "b1649860c2c04ae358c8bff55836bd6c6966251386f222d44e44341e4e5d59b4", func := "capsule/capsulelaw29.ReserveBounds", spec := "reserveBounds", inPlace := ["maps.clone"], unfollowed := true, recurses := true, apart := false, narrowed := true }
def ReserveBoundsUptoSaid : Prop := reserveBoundsUptoRow.holds Try.pinned (OpenSpec.upto reserveBoundsSpec)

/-- 'capsulelaw29.ReserveHolds', WHERE WHAT IT READS IS OF BULK AT MOST 1048576: true; the input reads as it did. -/
def reserveHoldsUptoRow : OpenClaim := { program := "ytmnlmghchegjaaa", sum := "b1649860c2c04ae358c8bff55836bd6c6966251386f222d44e44341e4e5d59b4", func := "capsule/capsulelaw29.ReserveHolds", spec := "reserveHolds", inPlace := ["maps.clone"], unfollowed := true, recurses := true, apart := false, narrowed := true }
def ReserveHoldsUptoSaid : Prop := reserveHoldsUptoRow.holds Try.pinned (OpenSpec.upto reserveHoldsSpec)

end Rows
end Go.Proofs.Ytmnlmghchegjaaa
