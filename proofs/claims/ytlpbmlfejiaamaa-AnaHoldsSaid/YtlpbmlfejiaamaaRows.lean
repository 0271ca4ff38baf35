/-
  No cell of these rows narrows 'for every input' (looked for: loops, veiled, ifaces, maps, wideKeys, modest, calm, conditions, laid).
  DERIVED. THE GIVEN ROWS OF THIS SEAT. 6 by the template 'for every input the law returns true; each argument reads behind the call as it read before'; 0 by the template 'total and deterministic' (their statements: YtlpbmlfejiaamaaTotals.lean).
  GIVEN WITH THE SEED: the statements are not yours to turn. If you find one false, say at which input.
  Laid BY PROGRAM, IN A SANDBOX (cutbox-rows.mjs): the forced cells as the released guide's own fill.sh prints them over the translation 67951692cb598ad3… (all of the seat's roots in one cut). By AI agents, Wed Nov 11 2026. No macro, syntax, notation, axiom, sorry.
-/
import Derived.Test.YtlpbmlfejiaamaaChecked
import GoSem.Claim
import GoSem.ClaimJoined
import GoSem.ClaimMapViews
import Derived.JoinedTies
import Derived.KernelRfl
namespace Go.Proofs.Ytlpbmlfejiaamaa
/- THE CELL 'sum', in the pinned program and in every row, IS THE sha256 OF THE DUMP (.gsa) THAT YtlpbmlfejiaamaaProg.lean LOADS. Nothing in Lean hashes anything: it is a label: what it is worth is what the hold of that sum in a sandbox is worth. -/
noncomputable def Try.pinned : Pinned := { name := "ytlpbmlfejiaamaa", sum := "67951692cb598ad3bfb12f108183fbaa9c6a64af0d5e0ca9adebee25daf066bf", checked := Try.checked }
namespace Rows
def none {H : Type} : Left H := { results := [], args := [] }

/-- 'capsulelaw44.AnaBounds': WHATEVER THE INPUT: true; the input reads as it did. -/
def anaBoundsSpec : ChangeSpec := { name := "anaBounds", fn := fun _ => fun
  | [d] => { results := [.lit (.bool true)], args := [d] }
  | _ => none }
def anaBoundsRow : OpenClaim := { program := "ytlpbmlfejiaamaa", sum := "67951692cb598ad3bfb12f108183fbaa9c6a64af0d5e0ca9adebee25daf066bf", func := "capsule/capsulelaw44.AnaBounds", spec := "anaBounds", unfollowed := true, recurses := true, apart := false }
def AnaBoundsSaid : Prop := anaBoundsRow.holds Try.pinned (OpenSpec.ofChange anaBoundsSpec)

/-- ITS FALSE NEIGHBOUR: 'it returns false'. Refute it at one input. -/
def anaBoundsWrong : ChangeSpec := { name := "anaBounds", fn := fun _ => fun
  | [d] => { results := [.lit (.bool false)], args := [d] }
  | _ => none }
def AnaBoundsWrongFalsely : Prop := anaBoundsRow.holds Try.pinned (OpenSpec.ofChange anaBoundsWrong)

/-- 'capsulelaw44.AnaPlays': WHATEVER THE INPUT: true; the input reads as it did. -/
def anaPlaysSpec : ChangeSpec := { name := "anaPlays", fn := fun _ => fun
  | [d1, d2] => { results := [.lit (.bool true)], args := [d1, d2] }
  | _ => none }
def anaPlaysRow : OpenClaim := { program := "ytlpbmlfejiaamaa", sum := "67951692cb598ad3bfb12f108183fbaa9c6a64af0d5e0ca9adebee25daf066bf", func := "capsule/capsulelaw44.AnaPlays", spec := "anaPlays", inPlace := ["maps.clone"], unfollowed := true, recurses := true, apart := false }
def AnaPlaysSaid : Prop := anaPlaysRow.holds Try.pinned (OpenSpec.ofChange anaPlaysSpec)

/-- ITS FALSE NEIGHBOUR: 'it returns false'. Refute it at one input. -/
def anaPlaysWrong : ChangeSpec := { name := "anaPlays", fn := fun _ => fun
  | [d1, d2] => { results := [.lit (.bool false)], args := [d1, d2] }
  | _ => none }
def AnaPlaysWrongFalsely : Prop := anaPlaysRow.holds Try.pinned (OpenSpec.ofChange anaPlaysWrong)

/-- 'capsulelaw44.AnaMembers': WHATEVER THE INPUT: true; the input reads as it did. -/
def anaMembersSpec : ChangeSpec := { name := "anaMembers", fn := fun _ => fun
  | [d1, d2, d3, d4, d5] => { results := [.lit (.bool true)], args := [d1, d2, d3, d4, d5] }
  | _ => none }
def anaMembersRow : OpenClaim := { program := "ytlpbmlfejiaamaa", sum := "67951692cb598ad3bfb12f108183fbaa9c6a64af0d5e0ca9adebee25daf066bf", func := "capsule/capsulelaw44.AnaMembers", spec := "anaMembers", inPlace := ["maps.clone"], unfollowed := true, recurses := true, apart := false }
def AnaMembersSaid : Prop := anaMembersRow.holds Try.pinned (OpenSpec.ofChange anaMembersSpec)

/-- ITS FALSE NEIGHBOUR: 'it returns false'. Refute it at one input. -/
def anaMembersWrong : ChangeSpec := { name := "anaMembers", fn := fun _ => fun
  | [d1, d2, d3, d4, d5] => { results := [.lit (.bool false)], args := [d1, d2, d3, d4, d5] }
  | _ => none }
def AnaMembersWrongFalsely : Prop := anaMembersRow.holds Try.pinned (OpenSpec.ofChange anaMembersWrong)

/-- 'capsulelaw44.AnaNone': WHATEVER THE INPUT: true; the input reads as it did. -/
def anaNoneSpec : ChangeSpec := { name := "anaNone", fn := fun _ => fun
  | [d1, d2] => { results := [.lit (.bool true)], args := [d1, d2] }
  | _ => none }
def anaNoneRow : OpenClaim := { program := "ytlpbmlfejiaamaa", sum := "67951692cb598ad3bfb12f108183fbaa9c6a64af0d5e0ca9adebee25daf066bf", func := "capsule/capsulelaw44.AnaNone", spec := "anaNone", inPlace := ["maps.clone"], unfollowed := true, recurses := true, apart := false }
def AnaNoneSaid : Prop := anaNoneRow.holds Try.pinned (OpenSpec.ofChange anaNoneSpec)

/-- ITS FALSE NEIGHBOUR: 'it returns false'. Refute it at one input. -/
def anaNoneWrong : ChangeSpec := { name := "anaNone", fn := fun _ => fun
  | [d1, d2] => { results := [.lit (.bool false)], args := [d1, d2] }
  | _ => none }
def AnaNoneWrongFalsely : Prop := anaNoneRow.holds Try.pinned (OpenSpec.ofChange anaNoneWrong)

/-- 'capsulelaw44.AnaCodes': WHATEVER THE INPUT: true; the input reads as it did. -/
def anaCodesSpec : ChangeSpec := { name := "anaCodes", fn := fun _ => fun
  | [d1, d2] => { results := [.lit (.bool true)], args := [d1, d2] }
  | _ => none }
def anaCodesRow : OpenClaim := { program := "ytlpbmlfejiaamaa", sum := "67951692cb598ad3bfb12f108183fbaa9c6a64af0d5e0ca9adebee25daf066bf", func := "capsule/capsulelaw44.AnaCodes", spec := "anaCodes", unfollowed := true, recurses := true, apart := false }
def AnaCodesSaid : Prop := anaCodesRow.holds Try.pinned (OpenSpec.ofChange anaCodesSpec)

/-- ITS FALSE NEIGHBOUR: 'it returns false'. Refute it at one input. -/
def anaCodesWrong : ChangeSpec := { name := "anaCodes", fn := fun _ => fun
  | [d1, d2] => { results := [.lit (.bool false)], args := [d1, d2] }
  | _ => none }
def AnaCodesWrongFalsely : Prop := anaCodesRow.holds Try.pinned (OpenSpec.ofChange anaCodesWrong)

/-- 'capsulelaw44.AnaHolds': WHATEVER THE INPUT: true; the input reads as it did. -/
def anaHoldsSpec : ChangeSpec := { name := "anaHolds", fn := fun _ => fun
  | [d1, d2, d3] => { results := [.lit (.bool true)], args := [d1, d2, d3] }
  | _ => none }
def anaHoldsRow : OpenClaim := { program := "ytlpbmlfejiaamaa", sum := "67951692cb598ad3bfb12f108183fbaa9c6a64af0d5e0ca9adebee25daf066bf", func := "capsule/capsulelaw44.AnaHolds", spec := "anaHolds", unfollowed := true, recurses := true, apart := false }
def AnaHoldsSaid : Prop := anaHoldsRow.holds Try.pinned (OpenSpec.ofChange anaHoldsSpec)

/-- ITS FALSE NEIGHBOUR: 'it returns false'. Refute it at one input. -/
def anaHoldsWrong : ChangeSpec := { name := "anaHolds", fn := fun _ => fun
  | [d1, d2, d3] => { results := [.lit (.bool false)], args := [d1, d2, d3] }
  | _ => none }
def AnaHoldsWrongFalsely : Prop := anaHoldsRow.holds Try.pinned (OpenSpec.ofChange anaHoldsWrong)

/- THE SECOND FORM. 'bulk': how many values and letters a reading holds, each counted each time it is reached (what is shared counts as often as it is met; a slice's spare places count too). A statement '..UptoSaid' is the law's where the arguments, and the package variables that the reading takes, are together of bulk at most 1048576: NARROWER than '..Said'. Prove '..Said' where nothing that the law and all that it calls make is longer than what came in: it says more and counts as full. Else prove '..UptoSaid'. A law counts once. -/
mutual
def uptoBulk {H : Type} : DataW H → Nat
  | .lit (.string bytes) => bytes.length + 1
  | .lit _ => 1
  | .nil => 1
  | .ptr d => uptoBulk d + 1
  | .slice elems spare => uptoBulkAll elems + uptoBulkAll spare + 1
  | .agg parts => uptoBulkAll parts + 1
  | .iface _ d => uptoBulk d + 1
  | .map entries => uptoBulkEntries entries + 1
  | .held _ => 1
def uptoBulkAll {H : Type} : List (DataW H) → Nat
  | [] => 0
  | d :: r => uptoBulk d + uptoBulkAll r
def uptoBulkEntries {H : Type} : List (Lit × DataW H) → Nat
  | [] => 0
  | x :: r => uptoBulkEntry x + uptoBulkEntries r
def uptoBulkEntry {H : Type} : Lit × DataW H → Nat
  | (.string bytes, d) => bytes.length + uptoBulk d + 1
  | (_, d) => uptoBulk d + 1
 end
def uptoSmall : (H : Type) → List (DataW H) → Bool := fun _ ds => decide (uptoBulkAll ds ≤ 1048576)
def OpenSpec.upto (s : _root_.Go.ChangeSpec) : _root_.Go.OpenSpec := { _root_.Go.OpenSpec.ofChange s with cond := some uptoSmall }

/-- 'capsulelaw44.AnaBounds', WHERE WHAT IT READS IS OF BULK AT MOST 1048576: true; the input reads as it did. -/
def anaBoundsUptoRow : OpenClaim := { program := "ytlpbmlfejiaamaa", sum := "67951692cb598ad3bfb12f108183fbaa9c6a64af0d5e0ca9adebee25daf066bf", func := "capsule/capsulelaw44.AnaBounds", spec := "anaBounds", unfollowed := true, recurses := true, apart := false, narrowed := true }
def AnaBoundsUptoSaid : Prop := anaBoundsUptoRow.holds Try.pinned (OpenSpec.upto anaBoundsSpec)

/-- 'capsulelaw44.AnaPlays', WHERE WHAT IT READS IS OF BULK AT MOST 1048576: true; the input reads as it did. -/
def anaPlaysUptoRow : OpenClaim := { program := "ytlpbmlfejiaamaa", sum := "67951692cb598ad3bfb12f108183fbaa9c6a64af0d5e0ca9adebee25daf066bf", func := "capsule/capsulelaw44.AnaPlays", spec := "anaPlays", inPlace := ["maps.clone"], unfollowed := true, recurses := true, apart := false, narrowed := true }
def AnaPlaysUptoSaid : Prop := anaPlaysUptoRow.holds Try.pinned (OpenSpec.upto anaPlaysSpec)

/-- 'capsulelaw44.AnaMembers', WHERE WHAT IT READS IS OF BULK AT MOST 1048576: true; the input reads as it did. -/
def anaMembersUptoRow : OpenClaim := { program := "ytlpbmlfejiaamaa", sum := "67951692cb598ad3bfb12f108183fbaa9c6a64af0d5e0ca9adebee25daf066bf", func := "capsule/capsulelaw44.AnaMembers", spec := "anaMembers", inPlace := ["maps.clone"], unfollowed := true, recurses := true, apart := false, narrowed := true }
def AnaMembersUptoSaid : Prop := anaMembersUptoRow.holds Try.pinned (OpenSpec.upto anaMembersSpec)

/-- 'capsulelaw44.AnaNone', WHERE WHAT IT READS IS OF BULK AT MOST 1048576: true; the input reads as it did. -/
def anaNoneUptoRow : OpenClaim := { program := "ytlpbmlfejiaamaa", sum := "67951692cb598ad3bfb12f108183fbaa9c6a64af0d5e0ca9adebee25daf066bf", func := "capsule/capsulelaw44.AnaNone", spec := "anaNone", inPlace := ["maps.clone"], unfollowed := true, recurses := true, apart := false, narrowed := true }
def AnaNoneUptoSaid : Prop := anaNoneUptoRow.holds Try.pinned (OpenSpec.upto anaNoneSpec)

/-- 'capsulelaw44.AnaCodes', WHERE WHAT IT READS IS OF BULK AT MOST 1048576: true; the input reads as it did. -/
def anaCodesUptoRow : OpenClaim := { program := "ytlpbmlfejiaamaa", sum := "67951692cb598ad3bfb12f108183fbaa9c6a64af0d5e0ca9adebee25daf066bf", func := "capsule/capsulelaw44.AnaCodes", spec := "anaCodes", unfollowed := true, recurses := true, apart := false, narrowed := true }
def AnaCodesUptoSaid : Prop := anaCodesUptoRow.holds Try.pinned (OpenSpec.upto anaCodesSpec)

/-- 'capsulelaw44.AnaHolds', WHERE WHAT IT READS IS OF BULK AT MOST 1048576: true; the input reads as it did. -/
def anaHoldsUptoRow : OpenClaim := { program := "ytlpbmlfejiaamaa", sum := "67951692cb598ad3bfb12f108183fbaa9c6a64af0d5e0ca9adebee25daf066bf", func := "capsule/capsulelaw44.AnaHolds", spec := "anaHolds", unfollowed := true, recurses := true, apart := false, narrowed := true }
def AnaHoldsUptoSaid : Prop := anaHoldsUptoRow.holds Try.pinned (OpenSpec.upto anaHoldsSpec)

end Rows
end Go.Proofs.Ytlpbmlfejiaamaa
