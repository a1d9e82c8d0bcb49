/-
  No cell of these rows narrows 'for every input' (looked for: loops, veiled, ifaces, maps, wideKeys, modest, calm, conditions, laid).
  DERIVED. THE GIVEN ROWS OF THIS SEAT. 8 by the template 'for every input the law returns true; each argument reads behind the call as it read before'; 0 by the template 'total and deterministic' (their statements: YtidfcoooccblaaaGreatTotals.lean).
  GIVEN WITH THE SEED: the statements are not yours to turn. If you find one false, say at which input.
  Laid BY PROGRAM, IN A SANDBOX (cutbox-rows.mjs): the forced cells as the released guide's own fill.sh prints them over the translation bd07d2c7a9155828… (all of the seat's roots in one cut). By AI agents, Wed Nov 11 2026. No macro, syntax, notation, axiom, sorry.
-/
import Derived.Test.YtidfcoooccblaaaGreatChecked
import GoSem.Claim
import GoSem.ClaimJoined
import GoSem.ClaimMapViews
import Derived.JoinedTies
import Derived.KernelRfl
namespace Go.Proofs.YtidfcoooccblaaaGreat
/- THE CELL 'sum', in the pinned program and in every row, IS THE sha256 OF THE DUMP (.gsa) THAT YtidfcoooccblaaaGreatProg.lean LOADS. Nothing in Lean hashes anything: it is a label: what it is worth is what the hold of that sum in a sandbox is worth. -/
noncomputable def Tryz.pinned : Pinned := { name := "ytidfcoooccblaaagreat", sum := "bd07d2c7a915582847bc9cb5d19b7061aeb8b97338b3078da4262d16c40e7c8b", checked := Tryz.checked }
namespace Rows
def none {H : Type} : Left H := { results := [], args := [] }

/-- 'yearbooklaw25.AnswerParted': WHATEVER THE INPUT: true; the input reads as it did. -/
def answerPartedSpec : ChangeSpec := { name := "answerParted", fn := fun _ => fun
  | [d1, d2, d3, d4] => { results := [.lit (.bool true)], args := [d1, d2, d3, d4] }
  | _ => none }
def answerPartedRow : OpenClaim := { program := "ytidfcoooccblaaagreat", sum := "bd07d2c7a915582847bc9cb5d19b7061aeb8b97338b3078da4262d16c40e7c8b", func := "yearbook/yearbooklaw25.AnswerParted", spec := "answerParted", inPlace := ["math/bits.Add64", "math/bits.Sub64"], unfollowed := true, recurses := true, named := ["math/bits.divideError", "math/bits.overflowError"], apart := false }
def AnswerPartedSaid : Prop := answerPartedRow.holds Tryz.pinned (OpenSpec.ofChange answerPartedSpec)

/-- ITS FALSE NEIGHBOUR: 'it returns false'. Refute it at one input. -/
def answerPartedWrong : ChangeSpec := { name := "answerParted", fn := fun _ => fun
  | [d1, d2, d3, d4] => { results := [.lit (.bool false)], args := [d1, d2, d3, d4] }
  | _ => none }
def AnswerPartedWrongFalsely : Prop := answerPartedRow.holds Tryz.pinned (OpenSpec.ofChange answerPartedWrong)

/-- 'yearbooklaw25.AnswerSheets': WHATEVER THE INPUT: true; the input reads as it did. -/
def answerSheetsSpec : ChangeSpec := { name := "answerSheets", fn := fun _ => fun
  | [d1, d2, d3] => { results := [.lit (.bool true)], args := [d1, d2, d3] }
  | _ => none }
def answerSheetsRow : OpenClaim := { program := "ytidfcoooccblaaagreat", sum := "bd07d2c7a915582847bc9cb5d19b7061aeb8b97338b3078da4262d16c40e7c8b", func := "yearbook/yearbooklaw25.AnswerSheets", spec := "answerSheets", inPlace := ["math/bits.Add64", "math/bits.Sub64"], unfollowed := true, recurses := true, named := ["math/bits.divideError", "math/bits.overflowError"], apart := false }
def AnswerSheetsSaid : Prop := answerSheetsRow.holds Tryz.pinned (OpenSpec.ofChange answerSheetsSpec)

/-- ITS FALSE NEIGHBOUR: 'it returns false'. Refute it at one input. -/
def answerSheetsWrong : ChangeSpec := { name := "answerSheets", fn := fun _ => fun
  | [d1, d2, d3] => { results := [.lit (.bool false)], args := [d1, d2, d3] }
  | _ => none }
def AnswerSheetsWrongFalsely : Prop := answerSheetsRow.holds Tryz.pinned (OpenSpec.ofChange answerSheetsWrong)

/-- 'yearbooklaw25.AnswerTells': WHATEVER THE INPUT: true; the input reads as it did. -/
def answerTellsSpec : ChangeSpec := { name := "answerTells", fn := fun _ => fun
  | [d1, d2, d3] => { results := [.lit (.bool true)], args := [d1, d2, d3] }
  | _ => none }
def answerTellsRow : OpenClaim := { program := "ytidfcoooccblaaagreat", sum := "bd07d2c7a915582847bc9cb5d19b7061aeb8b97338b3078da4262d16c40e7c8b", func := "yearbook/yearbooklaw25.AnswerTells", spec := "answerTells", inPlace := ["math/bits.Add64", "math/bits.Sub64"], unfollowed := true, recurses := true, named := ["math/bits.divideError", "math/bits.overflowError"], apart := false }
def AnswerTellsSaid : Prop := answerTellsRow.holds Tryz.pinned (OpenSpec.ofChange answerTellsSpec)

/-- ITS FALSE NEIGHBOUR: 'it returns false'. Refute it at one input. -/
def answerTellsWrong : ChangeSpec := { name := "answerTells", fn := fun _ => fun
  | [d1, d2, d3] => { results := [.lit (.bool false)], args := [d1, d2, d3] }
  | _ => none }
def AnswerTellsWrongFalsely : Prop := answerTellsRow.holds Tryz.pinned (OpenSpec.ofChange answerTellsWrong)

/-- 'yearbooklaw26.BucketOnes': WHATEVER THE INPUT: true; the input reads as it did. -/
def bucketOnesSpec : ChangeSpec := { name := "bucketOnes", fn := fun _ => fun
  | [d1, d2, d3] => { results := [.lit (.bool true)], args := [d1, d2, d3] }
  | _ => none }
def bucketOnesRow : OpenClaim := { program := "ytidfcoooccblaaagreat", sum := "bd07d2c7a915582847bc9cb5d19b7061aeb8b97338b3078da4262d16c40e7c8b", func := "yearbook/yearbooklaw26.BucketOnes", spec := "bucketOnes", inPlace := ["math/bits.Add64", "math/bits.Sub64"], unfollowed := true, recurses := true, named := ["math/bits.divideError", "math/bits.overflowError"], apart := false }
def BucketOnesSaid : Prop := bucketOnesRow.holds Tryz.pinned (OpenSpec.ofChange bucketOnesSpec)

/-- ITS FALSE NEIGHBOUR: 'it returns false'. Refute it at one input. -/
def bucketOnesWrong : ChangeSpec := { name := "bucketOnes", fn := fun _ => fun
  | [d1, d2, d3] => { results := [.lit (.bool false)], args := [d1, d2, d3] }
  | _ => none }
def BucketOnesWrongFalsely : Prop := bucketOnesRow.holds Tryz.pinned (OpenSpec.ofChange bucketOnesWrong)

/-- 'yearbooklaw26.BucketRows': WHATEVER THE INPUT: true; the input reads as it did. -/
def bucketRowsSpec : ChangeSpec := { name := "bucketRows", fn := fun _ => fun
  | [d1, d2] => { results := [.lit (.bool true)], args := [d1, d2] }
  | _ => none }
def bucketRowsRow : OpenClaim := { program := "ytidfcoooccblaaagreat", sum := "bd07d2c7a915582847bc9cb5d19b7061aeb8b97338b3078da4262d16c40e7c8b", func := "yearbook/yearbooklaw26.BucketRows", spec := "bucketRows", inPlace := ["math/bits.Add64", "math/bits.Sub64"], unfollowed := true, recurses := true, named := ["math/bits.divideError", "math/bits.overflowError"], apart := false }
def BucketRowsSaid : Prop := bucketRowsRow.holds Tryz.pinned (OpenSpec.ofChange bucketRowsSpec)

/-- ITS FALSE NEIGHBOUR: 'it returns false'. Refute it at one input. -/
def bucketRowsWrong : ChangeSpec := { name := "bucketRows", fn := fun _ => fun
  | [d1, d2] => { results := [.lit (.bool false)], args := [d1, d2] }
  | _ => none }
def BucketRowsWrongFalsely : Prop := bucketRowsRow.holds Tryz.pinned (OpenSpec.ofChange bucketRowsWrong)

/-- 'yearbooklaw26.BucketTogether': WHATEVER THE INPUT: true; the input reads as it did. -/
def bucketTogetherSpec : ChangeSpec := { name := "bucketTogether", fn := fun _ => fun
  | [d1, d2] => { results := [.lit (.bool true)], args := [d1, d2] }
  | _ => none }
def bucketTogetherRow : OpenClaim := { program := "ytidfcoooccblaaagreat", sum := "bd07d2c7a915582847bc9cb5d19b7061aeb8b97338b3078da4262d16c40e7c8b", func := "yearbook/yearbooklaw26.BucketTogether", spec := "bucketTogether", inPlace := ["math/bits.Add64", "math/bits.Sub64"], unfollowed := true, recurses := true, named := ["math/bits.divideError", "math/bits.overflowError"], apart := false }
def BucketTogetherSaid : Prop := bucketTogetherRow.holds Tryz.pinned (OpenSpec.ofChange bucketTogetherSpec)

/-- ITS FALSE NEIGHBOUR: 'it returns false'. Refute it at one input. -/
def bucketTogetherWrong : ChangeSpec := { name := "bucketTogether", fn := fun _ => fun
  | [d1, d2] => { results := [.lit (.bool false)], args := [d1, d2] }
  | _ => none }
def BucketTogetherWrongFalsely : Prop := bucketTogetherRow.holds Tryz.pinned (OpenSpec.ofChange bucketTogetherWrong)

/-- 'yearbooklaw26.BucketPlan': WHATEVER THE INPUT: true; the input reads as it did. -/
def bucketPlanSpec : ChangeSpec := { name := "bucketPlan", fn := fun _ => fun
  | [d1, d2, d3] => { results := [.lit (.bool true)], args := [d1, d2, d3] }
  | _ => none }
def bucketPlanRow : OpenClaim := { program := "ytidfcoooccblaaagreat", sum := "bd07d2c7a915582847bc9cb5d19b7061aeb8b97338b3078da4262d16c40e7c8b", func := "yearbook/yearbooklaw26.BucketPlan", spec := "bucketPlan", inPlace := ["math/bits.Add64", "math/bits.Sub64"], unfollowed := true, recurses := true, named := ["math/bits.divideError", "math/bits.overflowError"], apart := false }
def BucketPlanSaid : Prop := bucketPlanRow.holds Tryz.pinned (OpenSpec.ofChange bucketPlanSpec)

/-- ITS FALSE NEIGHBOUR: 'it returns false'. Refute it at one input. -/
def bucketPlanWrong : ChangeSpec := { name := "bucketPlan", fn := fun _ => fun
  | [d1, d2, d3] => { results := [.lit (.bool false)], args := [d1, d2, d3] }
  | _ => none }
def BucketPlanWrongFalsely : Prop := bucketPlanRow.holds Tryz.pinned (OpenSpec.ofChange bucketPlanWrong)

/-- 'yearbooklaw26.BucketHolds': WHATEVER THE INPUT: true; the input reads as it did. -/
def bucketHoldsSpec : ChangeSpec := { name := "bucketHolds", fn := fun _ => fun
  | [d1, d2, d3] => { results := [.lit (.bool true)], args := [d1, d2, d3] }
  | _ => none }
def bucketHoldsRow : OpenClaim := { program := "ytidfcoooccblaaagreat", sum := "bd07d2c7a915582847bc9cb5d19b7061aeb8b97338b3078da4262d16c40e7c8b", func := "yearbook/yearbooklaw26.BucketHolds", spec := "bucketHolds", inPlace := ["math/bits.Add64", "math/bits.Sub64"], unfollowed := true, recurses := true, named := ["math/bits.divideError", "math/bits.overflowError"], apart := false }
def BucketHoldsSaid : Prop := bucketHoldsRow.holds Tryz.pinned (OpenSpec.ofChange bucketHoldsSpec)

/-- ITS FALSE NEIGHBOUR: 'it returns false'. Refute it at one input. -/
def bucketHoldsWrong : ChangeSpec := { name := "bucketHolds", fn := fun _ => fun
  | [d1, d2, d3] => { results := [.lit (.bool false)], args := [d1, d2, d3] }
  | _ => none }
def BucketHoldsWrongFalsely : Prop := bucketHoldsRow.holds Tryz.pinned (OpenSpec.ofChange bucketHoldsWrong)

/- THE SECOND FORM. 'bulk': how many values and letters a reading holds, each counted each time it is reached (what is shared counts as often as it is met; a slice's spare places count too). A statement '..UptoSaid' is the law's where the arguments, and the package variables that the reading takes, are together of bulk at most 1048576: NARROWER than '..Said'. Prove '..Said' where nothing that the law and all that it calls make is longer than what came in: it says more and counts as full. Else prove '..UptoSaid'. A law counts once. -/
mutual
def uptoBulk {H : Type} : DataW H → Nat
  | .lit (.string bytes) => bytes.length + 1
  | .lit _ => 1
  | .nil => 1
  | .ptr d => uptoBulk d + 1
  | .slice elems spare => uptoBulkAll elems + uptoBulkAll spare + 1
  | .agg parts => uptoBulkAll parts + 1
  | .iface _ d => uptoBulk d + 1
  | .map entries => uptoBulkEntries entries + 1
  | .held _ => 1
def uptoBulkAll {H : Type} : List (DataW H) → Nat
  | [] => 0
  | d :: r => uptoBulk d + uptoBulkAll r
def uptoBulkEntries {H : Type} : List (Lit × DataW H) → Nat
  | [] => 0
  | x :: r => uptoBulkEntry x + uptoBulkEntries r
def uptoBulkEntry {H : Type} : Lit × DataW H → Nat
  | (.string bytes, d) => bytes.length + uptoBulk d + 1
  | (_, d) => uptoBulk d + 1
 end
def uptoSmall : (H : Type) → List (DataW H) → Bool := fun _ ds => decide (uptoBulkAll ds ≤ 1048576)
def OpenSpec.upto (s : _root_.Go.ChangeSpec) : _root_.Go.OpenSpec := { _root_.Go.OpenSpec.ofChange s with cond := some uptoSmall }

/-- 'yearbooklaw25.AnswerParted', WHERE WHAT IT READS IS OF BULK AT MOST 1048576: true; the input reads as it did. -/
def answerPartedUptoRow : OpenClaim := { program := "ytidfcoooccblaaagreat", sum := "bd07d2c7a915582847bc9cb5d19b7061aeb8b97338b3078da4262d16c40e7c8b", func := "yearbook/yearbooklaw25.AnswerParted", spec := "answerParted", inPlace := ["math/bits.Add64", "math/bits.Sub64"], unfollowed := true, recurses := true, named := ["math/bits.divideError", "math/bits.overflowError"], apart := false, narrowed := true }
def AnswerPartedUptoSaid : Prop := answerPartedUptoRow.holds Tryz.pinned (OpenSpec.upto answerPartedSpec)

/-- 'yearbooklaw25.AnswerSheets', WHERE WHAT IT READS IS OF BULK AT MOST 1048576: true; the input reads as it did. -/
def answerSheetsUptoRow : OpenClaim := { program := "ytidfcoooccblaaagreat", sum := "bd07d2c7a915582847bc9cb5d19b7061aeb8b97338b3078da4262d16c40e7c8b", func := "yearbook/yearbooklaw25.AnswerSheets", spec := "answerSheets", inPlace := ["math/bits.Add64", "math/bits.Sub64"], unfollowed := true, recurses := true, named := ["math/bits.divideError", "math/bits.overflowError"], apart := false, narrowed := true }
def AnswerSheetsUptoSaid : Prop := answerSheetsUptoRow.holds Tryz.pinned (OpenSpec.upto answerSheetsSpec)

/-- 'yearbooklaw25.AnswerTells', WHERE WHAT IT READS IS OF BULK AT MOST 1048576: true; the input reads as it did. -/
def answerTellsUptoRow : OpenClaim := { program := "ytidfcoooccblaaagreat", sum := "bd07d2c7a915582847bc9cb5d19b7061aeb8b97338b3078da4262d16c40e7c8b", func := "yearbook/yearbooklaw25.AnswerTells", spec := "answerTells", inPlace := ["math/bits.Add64", "math/bits.Sub64"], unfollowed := true, recurses := true, named := ["math/bits.divideError", "math/bits.overflowError"], apart := false, narrowed := true }
def AnswerTellsUptoSaid : Prop := answerTellsUptoRow.holds Tryz.pinned (OpenSpec.upto answerTellsSpec)

/-- 'yearbooklaw26.BucketOnes', WHERE WHAT IT READS IS OF BULK AT MOST 1048576: true; the input reads as it did. -/
def bucketOnesUptoRow : OpenClaim := { program := "ytidfcoooccblaaagreat", sum := "bd07d2c7a915582847bc9cb5d19b7061aeb8b97338b3078da4262d16c40e7c8b", func := "yearbook/yearbooklaw26.BucketOnes", spec := "bucketOnes", inPlace := ["math/bits.Add64", "math/bits.Sub64"], unfollowed := true, recurses := true, named := ["math/bits.divideError", "math/bits.overflowError"], apart := false, narrowed := true }
def BucketOnesUptoSaid : Prop := bucketOnesUptoRow.holds Tryz.pinned (OpenSpec.upto bucketOnesSpec)

/-- 'yearbooklaw26.BucketRows', WHERE WHAT IT READS IS OF BULK AT MOST 1048576: true; the input reads as it did. -/
def bucketRowsUptoRow : OpenClaim := { program := "ytidfcoooccblaaagreat", sum := "bd07d2c7a915582847bc9cb5d19b7061aeb8b97338b3078da4262d16c40e7c8b", func := "yearbook/yearbooklaw26.BucketRows", spec := "bucketRows", inPlace := ["math/bits.Add64", "math/bits.Sub64"], unfollowed := true, recurses := true, named := ["math/bits.divideError", "math/bits.overflowError"], apart := false, narrowed := true }
def BucketRowsUptoSaid : Prop := bucketRowsUptoRow.holds Tryz.pinned (OpenSpec.upto bucketRowsSpec)

/-- 'yearbooklaw26.BucketTogether', WHERE WHAT IT READS IS OF BULK AT MOST 1048576: true; the input reads as it did. -/
def bucketTogetherUptoRow : OpenClaim := { program := "ytidfcoooccblaaagreat", sum := "bd07d2c7a915582847bc9cb5d19b7061aeb8b97338b3078da4262d16c40e7c8b", func := "yearbook/yearbooklaw26.BucketTogether", spec := "bucketTogether", inPlace := ["math/bits.Add64", "math/bits.Sub64"], unfollowed := true, recurses := true, named := ["math/bits.divideError", "math/bits.overflowError"], apart := false, narrowed := true }
def BucketTogetherUptoSaid : Prop := bucketTogetherUptoRow.holds Tryz.pinned (OpenSpec.upto bucketTogetherSpec)

/-- 'yearbooklaw26.BucketPlan', WHERE WHAT IT READS IS OF BULK AT MOST 1048576: true; the input reads as it did. -/
def bucketPlanUptoRow : OpenClaim := { program := "ytidfcoooccblaaagreat", sum := "bd07d2c7a915582847bc9cb5d19b7061aeb8b97338b3078da4262d16c40e7c8b", func := "yearbook/yearbooklaw26.BucketPlan", spec := "bucketPlan", inPlace := ["math/bits.Add64", "math/bits.Sub64"], unfollowed := true, recurses := true, named := ["math/bits.divideError", "math/bits.overflowError"], apart := false, narrowed := true }
def BucketPlanUptoSaid : Prop := bucketPlanUptoRow.holds Tryz.pinned (OpenSpec.upto bucketPlanSpec)

/-- 'yearbooklaw26.BucketHolds', WHERE WHAT IT READS IS OF BULK AT MOST 1048576: true; the input reads as it did. -/
def bucketHoldsUptoRow : OpenClaim := { program := "ytidfcoooccblaaagreat", sum := "bd07d2c7a915582847bc9cb5d19b7061aeb8b97338b3078da4262d16c40e7c8b", func := "yearbook/yearbooklaw26.BucketHolds", spec := "bucketHolds", inPlace := ["math/bits.Add64", "math/bits.Sub64"], unfollowed := true, recurses := true, named := ["math/bits.divideError", "math/bits.overflowError"], apart := false, narrowed := true }
def BucketHoldsUptoSaid : Prop := bucketHoldsUptoRow.holds Tryz.pinned (OpenSpec.upto bucketHoldsSpec)

end Rows
end Go.Proofs.YtidfcoooccblaaaGreat
