/-
  No cell of these rows narrows 'for every input' (looked for: loops, veiled, ifaces, maps, wideKeys, modest, calm, conditions, laid).
  DERIVED. THE GIVEN ROWS OF THIS SEAT. 8 by the template 'for every input the law returns true; each argument reads behind the call as it read before'; 0 by the template 'total and deterministic' (their statements: YtdjckiilfplnfaaTotals.lean).
  GIVEN WITH THE SEED: the statements are not yours to turn. If you find one false, say at which input.
  Laid BY PROGRAM, IN A SANDBOX (cutbox-rows.mjs): the forced cells as the released guide's own fill.sh prints them over the translation 0f2f3abebc493ec5… (all of the seat's roots in one cut). By AI agents, Wed Nov 11 2026. No macro, syntax, notation, axiom, sorry.
-/
import Derived.Test.YtdjckiilfplnfaaChecked
import GoSem.Claim
import GoSem.ClaimJoined
import GoSem.ClaimMapViews
import Derived.JoinedTies
import Derived.KernelRfl
namespace Go.Proofs.Ytdjckiilfplnfaa
/- THE CELL 'sum', in the pinned program and in every row, IS THE sha256 OF THE DUMP (.gsa) THAT YtdjckiilfplnfaaProg.lean LOADS. Nothing in Lean hashes anything: it is a label: what it is worth is what the hold of that sum in a sandbox is worth. -/
noncomputable def Try.pinned : Pinned := { name := "ytdjckiilfplnfaa", sum := "0f2f3abebc493ec574b4f982b3c0651a055f99972ffdc591d6b432bf6d8ff695", checked := Try.checked }
namespace Rows
def none {H : Type} : Left H := { results := [], args := [] }

/-- 'capsulelaw47.JudgeFinals': WHATEVER THE INPUT: true; the input reads as it did. -/
def judgeFinalsSpec : ChangeSpec := { name := "judgeFinals", fn := fun _ => fun
  | [d1, d2] => { results := [.lit (.bool true)], args := [d1, d2] }
  | _ => none }
def judgeFinalsRow : OpenClaim := { program := "ytdjckiilfplnfaa", sum := "0f2f3abebc493ec574b4f982b3c0651a055f99972ffdc591d6b432bf6d8ff695", func := "capsule/capsulelaw47.JudgeFinals", spec := "judgeFinals", unfollowed := true, recurses := true, plainKeys := false, apart := false }
def JudgeFinalsSaid : Prop := judgeFinalsRow.holds Try.pinned (OpenSpec.ofChange judgeFinalsSpec)

/-- ITS FALSE NEIGHBOUR: 'it returns false'. Refute it at one input. -/
def judgeFinalsWrong : ChangeSpec := { name := "judgeFinals", fn := fun _ => fun
  | [d1, d2] => { results := [.lit (.bool false)], args := [d1, d2] }
  | _ => none }
def JudgeFinalsWrongFalsely : Prop := judgeFinalsRow.holds Try.pinned (OpenSpec.ofChange judgeFinalsWrong)

/-- 'capsulelaw47.JudgeVerdicts': WHATEVER THE INPUT: true; the input reads as it did. -/
def judgeVerdictsSpec : ChangeSpec := { name := "judgeVerdicts", fn := fun _ => fun
  | [d] => { results := [.lit (.bool true)], args := [d] }
  | _ => none }
def judgeVerdictsRow : OpenClaim := { program := "ytdjckiilfplnfaa", sum := "0f2f3abebc493ec574b4f982b3c0651a055f99972ffdc591d6b432bf6d8ff695", func := "capsule/capsulelaw47.JudgeVerdicts", spec := "judgeVerdicts", unfollowed := true, recurses := true, plainKeys := false, apart := false }
def JudgeVerdictsSaid : Prop := judgeVerdictsRow.holds Try.pinned (OpenSpec.ofChange judgeVerdictsSpec)

/-- ITS FALSE NEIGHBOUR: 'it returns false'. Refute it at one input. -/
def judgeVerdictsWrong : ChangeSpec := { name := "judgeVerdicts", fn := fun _ => fun
  | [d] => { results := [.lit (.bool false)], args := [d] }
  | _ => none }
def JudgeVerdictsWrongFalsely : Prop := judgeVerdictsRow.holds Try.pinned (OpenSpec.ofChange judgeVerdictsWrong)

/-- 'capsulelaw47.JudgeEpochs': WHATEVER THE INPUT: true; the input reads as it did. -/
def judgeEpochsSpec : ChangeSpec := { name := "judgeEpochs", fn := fun _ => fun
  | [d1, d2] => { results := [.lit (.bool true)], args := [d1, d2] }
  | _ => none }
def judgeEpochsRow : OpenClaim := { program := "ytdjckiilfplnfaa", sum := "0f2f3abebc493ec574b4f982b3c0651a055f99972ffdc591d6b432bf6d8ff695", func := "capsule/capsulelaw47.JudgeEpochs", spec := "judgeEpochs", unfollowed := true, recurses := true, plainKeys := false, apart := false }
def JudgeEpochsSaid : Prop := judgeEpochsRow.holds Try.pinned (OpenSpec.ofChange judgeEpochsSpec)

/-- ITS FALSE NEIGHBOUR: 'it returns false'. Refute it at one input. -/
def judgeEpochsWrong : ChangeSpec := { name := "judgeEpochs", fn := fun _ => fun
  | [d1, d2] => { results := [.lit (.bool false)], args := [d1, d2] }
  | _ => none }
def JudgeEpochsWrongFalsely : Prop := judgeEpochsRow.holds Try.pinned (OpenSpec.ofChange judgeEpochsWrong)

/-- 'capsulelaw47.JudgeSequential': WHATEVER THE INPUT: true; the input reads as it did. -/
def judgeSequentialSpec : ChangeSpec := { name := "judgeSequential", fn := fun _ => fun
  | [d1, d2, d3] => { results := [.lit (.bool true)], args := [d1, d2, d3] }
  | _ => none }
def judgeSequentialRow : OpenClaim := { program := "ytdjckiilfplnfaa", sum := "0f2f3abebc493ec574b4f982b3c0651a055f99972ffdc591d6b432bf6d8ff695", func := "capsule/capsulelaw47.JudgeSequential", spec := "judgeSequential", unfollowed := true, recurses := true, plainKeys := false, apart := false }
def JudgeSequentialSaid : Prop := judgeSequentialRow.holds Try.pinned (OpenSpec.ofChange judgeSequentialSpec)

/-- ITS FALSE NEIGHBOUR: 'it returns false'. Refute it at one input. -/
def judgeSequentialWrong : ChangeSpec := { name := "judgeSequential", fn := fun _ => fun
  | [d1, d2, d3] => { results := [.lit (.bool false)], args := [d1, d2, d3] }
  | _ => none }
def JudgeSequentialWrongFalsely : Prop := judgeSequentialRow.holds Try.pinned (OpenSpec.ofChange judgeSequentialWrong)

/-- 'capsulelaw47.JudgeCatches': WHATEVER THE INPUT: true; the input reads as it did. -/
def judgeCatchesSpec : ChangeSpec := { name := "judgeCatches", fn := fun _ => fun
  | [d1, d2, d3, d4, d5] => { results := [.lit (.bool true)], args := [d1, d2, d3, d4, d5] }
  | _ => none }
def judgeCatchesRow : OpenClaim := { program := "ytdjckiilfplnfaa", sum := "0f2f3abebc493ec574b4f982b3c0651a055f99972ffdc591d6b432bf6d8ff695", func := "capsule/capsulelaw47.JudgeCatches", spec := "judgeCatches", unfollowed := true, recurses := true, plainKeys := false, apart := false }
def JudgeCatchesSaid : Prop := judgeCatchesRow.holds Try.pinned (OpenSpec.ofChange judgeCatchesSpec)

/-- ITS FALSE NEIGHBOUR: 'it returns false'. Refute it at one input. -/
def judgeCatchesWrong : ChangeSpec := { name := "judgeCatches", fn := fun _ => fun
  | [d1, d2, d3, d4, d5] => { results := [.lit (.bool false)], args := [d1, d2, d3, d4, d5] }
  | _ => none }
def JudgeCatchesWrongFalsely : Prop := judgeCatchesRow.holds Try.pinned (OpenSpec.ofChange judgeCatchesWrong)

/-- 'capsulelaw47.JudgeWeaker': WHATEVER THE INPUT: true; the input reads as it did. -/
def judgeWeakerSpec : ChangeSpec := { name := "judgeWeaker", fn := fun _ => fun
  | [d1, d2, d3, d4] => { results := [.lit (.bool true)], args := [d1, d2, d3, d4] }
  | _ => none }
def judgeWeakerRow : OpenClaim := { program := "ytdjckiilfplnfaa", sum := "0f2f3abebc493ec574b4f982b3c0651a055f99972ffdc591d6b432bf6d8ff695", func := "capsule/capsulelaw47.JudgeWeaker", spec := "judgeWeaker", unfollowed := true, recurses := true, plainKeys := false, apart := false }
def JudgeWeakerSaid : Prop := judgeWeakerRow.holds Try.pinned (OpenSpec.ofChange judgeWeakerSpec)

/-- ITS FALSE NEIGHBOUR: 'it returns false'. Refute it at one input. -/
def judgeWeakerWrong : ChangeSpec := { name := "judgeWeaker", fn := fun _ => fun
  | [d1, d2, d3, d4] => { results := [.lit (.bool false)], args := [d1, d2, d3, d4] }
  | _ => none }
def JudgeWeakerWrongFalsely : Prop := judgeWeakerRow.holds Try.pinned (OpenSpec.ofChange judgeWeakerWrong)

/-- 'capsulelaw47.JudgeApart': WHATEVER THE INPUT: true; the input reads as it did. -/
def judgeApartSpec : ChangeSpec := { name := "judgeApart", fn := fun _ => fun
  | [d1, d2] => { results := [.lit (.bool true)], args := [d1, d2] }
  | _ => none }
def judgeApartRow : OpenClaim := { program := "ytdjckiilfplnfaa", sum := "0f2f3abebc493ec574b4f982b3c0651a055f99972ffdc591d6b432bf6d8ff695", func := "capsule/capsulelaw47.JudgeApart", spec := "judgeApart", unfollowed := true, recurses := true, plainKeys := false, apart := false }
def JudgeApartSaid : Prop := judgeApartRow.holds Try.pinned (OpenSpec.ofChange judgeApartSpec)

/-- ITS FALSE NEIGHBOUR: 'it returns false'. Refute it at one input. -/
def judgeApartWrong : ChangeSpec := { name := "judgeApart", fn := fun _ => fun
  | [d1, d2] => { results := [.lit (.bool false)], args := [d1, d2] }
  | _ => none }
def JudgeApartWrongFalsely : Prop := judgeApartRow.holds Try.pinned (OpenSpec.ofChange judgeApartWrong)

/-- 'capsulelaw47.JudgeLong': WHATEVER THE INPUT: true; the input reads as it did. -/
def judgeLongSpec : ChangeSpec := { name := "judgeLong", fn := fun _ => fun
  | [d1, d2] => { results := [.lit (.bool true)], args := [d1, d2] }
  | _ => none }
def judgeLongRow : OpenClaim := { program := "ytdjckiilfplnfaa", sum := "0f2f3abebc493ec574b4f982b3c0651a055f99972ffdc591d6b432bf6d8ff695", func := "capsule/capsulelaw47.JudgeLong", spec := "judgeLong", unfollowed := true, recurses := true, plainKeys := false, apart := false }
def JudgeLongSaid : Prop := judgeLongRow.holds Try.pinned (OpenSpec.ofChange judgeLongSpec)

/-- ITS FALSE NEIGHBOUR: 'it returns false'. Refute it at one input. -/
def judgeLongWrong : ChangeSpec := { name := "judgeLong", fn := fun _ => fun
  | [d1, d2] => { results := [.lit (.bool false)], args := [d1, d2] }
  | _ => none }
def JudgeLongWrongFalsely : Prop := judgeLongRow.holds Try.pinned (OpenSpec.ofChange judgeLongWrong)

/- THE SECOND FORM. 'bulk': how many values and letters a reading holds, each counted each time it is reached (what is shared counts as often as it is met; a slice's spare places count too). A statement '..UptoSaid' is the law's where the arguments, and the package variables that the reading takes, are together of bulk at most 1048576: NARROWER than '..Said'. Prove '..Said' where nothing that the law and all that it calls make is longer than what came in: it says more and counts as full. Else prove '..UptoSaid'. A law counts once. -/
mutual
def uptoBulk {H : Type} : DataW H → Nat
  | .lit (.string bytes) => bytes.length + 1
  | .lit _ => 1
  | .nil => 1
  | .ptr d => uptoBulk d + 1
  | .slice elems spare => uptoBulkAll elems + uptoBulkAll spare + 1
  | .agg parts => uptoBulkAll parts + 1
  | .iface _ d => uptoBulk d + 1
  | .map entries => uptoBulkEntries entries + 1
  | .held _ => 1
def uptoBulkAll {H : Type} : List (DataW H) → Nat
  | [] => 0
  | d :: r => uptoBulk d + uptoBulkAll r
def uptoBulkEntries {H : Type} : List (Lit × DataW H) → Nat
  | [] => 0
  | x :: r => uptoBulkEntry x + uptoBulkEntries r
def uptoBulkEntry {H : Type} : Lit × DataW H → Nat
  | (.string bytes, d) => bytes.length + uptoBulk d + 1
  | (_, d) => uptoBulk d + 1
 end
def uptoSmall : (H : Type) → List (DataW H) → Bool := fun _ ds => decide (uptoBulkAll ds ≤ 1048576)
def OpenSpec.upto (s : _root_.Go.ChangeSpec) : _root_.Go.OpenSpec := { _root_.Go.OpenSpec.ofChange s with cond := some uptoSmall }

/-- 'capsulelaw47.JudgeFinals', WHERE WHAT IT READS IS OF BULK AT MOST 1048576: true; the input reads as it did. -/
def judgeFinalsUptoRow : OpenClaim := { program := "ytdjckiilfplnfaa", sum := "0f2f3abebc493ec574b4f982b3c0651a055f99972ffdc591d6b432bf6d8ff695", func := "capsule/capsulelaw47.JudgeFinals", spec := "judgeFinals", unfollowed := true, recurses := true, plainKeys := false, apart := false, narrowed := true }
def JudgeFinalsUptoSaid : Prop := judgeFinalsUptoRow.holds Try.pinned (OpenSpec.upto judgeFinalsSpec)

/-- 'capsulelaw47.JudgeVerdicts', WHERE WHAT IT READS IS OF BULK AT MOST 1048576: true; the input reads as it did. -/
def judgeVerdictsUptoRow : OpenClaim := { program := "ytdjckiilfplnfaa", sum := "0f2f3abebc493ec574b4f982b3c0651a055f99972ffdc591d6b432bf6d8ff695", func := "capsule/capsulelaw47.JudgeVerdicts", spec := "judgeVerdicts", unfollowed := true, recurses := true, plainKeys := false, apart := false, narrowed := true }
def JudgeVerdictsUptoSaid : Prop := judgeVerdictsUptoRow.holds Try.pinned (OpenSpec.upto judgeVerdictsSpec)

/-- 'capsulelaw47.JudgeEpochs', WHERE WHAT IT READS IS OF BULK AT MOST 1048576: true; the input reads as it did. -/
def judgeEpochsUptoRow : OpenClaim := { program := "ytdjckiilfplnfaa", sum := "0f2f3abebc493ec574b4f982b3c0651a055f99972ffdc591d6b432bf6d8ff695", func := "capsule/capsulelaw47.JudgeEpochs", spec := "judgeEpochs", unfollowed := true, recurses := true, plainKeys := false, apart := false, narrowed := true }
def JudgeEpochsUptoSaid : Prop := judgeEpochsUptoRow.holds Try.pinned (OpenSpec.upto judgeEpochsSpec)

/-- 'capsulelaw47.JudgeSequential', WHERE WHAT IT READS IS OF BULK AT MOST 1048576: true; the input reads as it did. -/
def judgeSequentialUptoRow : OpenClaim := { program := "ytdjckiilfplnfaa", sum := "0f2f3abebc493ec574b4f982b3c0651a055f99972ffdc591d6b432bf6d8ff695", func := "capsule/capsulelaw47.JudgeSequential", spec := "judgeSequential", unfollowed := true, recurses := true, plainKeys := false, apart := false, narrowed := true }
def JudgeSequentialUptoSaid : Prop := judgeSequentialUptoRow.holds Try.pinned (OpenSpec.upto judgeSequentialSpec)

/-- 'capsulelaw47.JudgeCatches', WHERE WHAT IT READS IS OF BULK AT MOST 1048576: true; the input reads as it did. -/
def judgeCatchesUptoRow : OpenClaim := { program := "ytdjckiilfplnfaa", sum := "0f2f3abebc493ec574b4f982b3c0651a055f99972ffdc591d6b432bf6d8ff695", func := "capsule/capsulelaw47.JudgeCatches", spec := "judgeCatches", unfollowed := true, recurses := true, plainKeys := false, apart := false, narrowed := true }
def JudgeCatchesUptoSaid : Prop := judgeCatchesUptoRow.holds Try.pinned (OpenSpec.upto judgeCatchesSpec)

/-- 'capsulelaw47.JudgeWeaker', WHERE WHAT IT READS IS OF BULK AT MOST 1048576: true; the input reads as it did. -/
def judgeWeakerUptoRow : OpenClaim := { program := "ytdjckiilfplnfaa", sum := "0f2f3abebc493ec574b4f982b3c0651a055f99972ffdc591d6b432bf6d8ff695", func := "capsule/capsulelaw47.JudgeWeaker", spec := "judgeWeaker", unfollowed := true, recurses := true, plainKeys := false, apart := false, narrowed := true }
def JudgeWeakerUptoSaid : Prop := judgeWeakerUptoRow.holds Try.pinned (OpenSpec.upto judgeWeakerSpec)

/-- 'capsulelaw47.JudgeApart', WHERE WHAT IT READS IS OF BULK AT MOST 1048576: true; the input reads as it did. -/
def judgeApartUptoRow : OpenClaim := { program := "ytdjckiilfplnfaa", sum := "0f2f3abebc493ec574b4f982b3c0651a055f99972ffdc591d6b432bf6d8ff695", func := "capsule/capsulelaw47.JudgeApart", spec := "judgeApart", unfollowed := true, recurses := true, plainKeys := false, apart := false, narrowed := true }
def JudgeApartUptoSaid : Prop := judgeApartUptoRow.holds Try.pinned (OpenSpec.upto judgeApartSpec)

/-- 'capsulelaw47.JudgeLong', WHERE WHAT IT READS IS OF BULK AT MOST 1048576: true; the input reads as it did. -/
def judgeLongUptoRow : OpenClaim := { program := "ytdjckiilfplnfaa", sum := "0f2f3abebc493ec574b4f982b3c0651a055f99972ffdc591d6b432bf6d8ff695", func := "capsule/capsulelaw47.JudgeLong", spec := "judgeLong", unfollowed := true, recurses := true, plainKeys := false, apart := false, narrowed := true }
def JudgeLongUptoSaid : Prop := judgeLongUptoRow.holds Try.pinned (OpenSpec.upto judgeLongSpec)

end Rows
end Go.Proofs.Ytdjckiilfplnfaa
