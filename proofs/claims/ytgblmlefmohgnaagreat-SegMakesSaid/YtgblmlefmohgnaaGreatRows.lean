/-
  No cell of these rows narrows 'for every input' (looked for: loops, veiled, ifaces, maps, wideKeys, modest, calm, conditions, laid).
  DERIVED. THE GIVEN ROWS OF THIS SEAT. 7 by the template 'for every input the law returns true; each argument reads behind the call as it read before'; 0 by the template 'total and deterministic' (their statements: YtgblmlefmohgnaaGreatTotals.lean).
  GIVEN WITH THE SEED: the statements are not yours to turn. If you find one false, say at which input.
  Laid BY PROGRAM, IN A SANDBOX (cutbox-rows.mjs): the forced cells as the released guide's own fill.sh prints them over the translation cece74626bbf0e4d… (all of the seat's roots in one cut). By AI agents, Wed Nov 11 2026. No macro, syntax, notation, axiom, sorry.
-/
import Derived.Test.YtgblmlefmohgnaaGreatChecked
import GoSem.Claim
import GoSem.ClaimJoined
import GoSem.ClaimMapViews
import Derived.JoinedTies
import Derived.KernelRfl
namespace Go.Proofs.YtgblmlefmohgnaaGreat
/- THE CELL 'sum', in the pinned program and in every row, IS THE sha256 OF THE DUMP (.gsa) THAT YtgblmlefmohgnaaGreatProg.lean LOADS. Nothing in Lean hashes anything: it is a label: what it is worth is what the hold of that sum in a sandbox is worth. -/
noncomputable def Tryz.pinned : Pinned := { name := "ytgblmlefmohgnaagreat", sum := "cece74626bbf0e4d43ec996024722233fd293d72b36b20c205e17e0c65a1f936", checked := Tryz.checked }
namespace Rows
def none {H : Type} : Left H := { results := [], args := [] }

/-- 'yearbooklaw11.SegParts': WHATEVER THE INPUT: true; the input reads as it did. -/
def segPartsSpec : ChangeSpec := { name := "segParts", fn := fun _ => fun
  | [d1, d2, d3] => { results := [.lit (.bool true)], args := [d1, d2, d3] }
  | _ => none }
def segPartsRow : OpenClaim := { program := "ytgblmlefmohgnaagreat", sum := "cece74626bbf0e4d43ec996024722233fd293d72b36b20c205e17e0c65a1f936", func := "yearbook/yearbooklaw11.SegParts", spec := "segParts", inPlace := ["math/bits.Add64", "math/bits.Sub64"], unfollowed := true, recurses := true, named := ["math/bits.divideError", "math/bits.overflowError"], apart := false }
def SegPartsSaid : Prop := segPartsRow.holds Tryz.pinned (OpenSpec.ofChange segPartsSpec)

/-- ITS FALSE NEIGHBOUR: 'it returns false'. Refute it at one input. -/
def segPartsWrong : ChangeSpec := { name := "segParts", fn := fun _ => fun
  | [d1, d2, d3] => { results := [.lit (.bool false)], args := [d1, d2, d3] }
  | _ => none }
def SegPartsWrongFalsely : Prop := segPartsRow.holds Tryz.pinned (OpenSpec.ofChange segPartsWrong)

/-- 'yearbooklaw11.SegMakes': WHATEVER THE INPUT: true; the input reads as it did. -/
def segMakesSpec : ChangeSpec := { name := "segMakes", fn := fun _ => fun
  | [d1, d2, d3, d4] => { results := [.lit (.bool true)], args := [d1, d2, d3, d4] }
  | _ => none }
def segMakesRow : OpenClaim := { program := "ytgblmlefmohgnaagreat", sum := "cece74626bbf0e4d43ec996024722233fd293d72b36b20c205e17e0c65a1f936", func := "yearbook/yearbooklaw11.SegMakes", spec := "segMakes", inPlace := ["math/bits.Add64", "math/bits.Sub64"], unfollowed := true, recurses := true, named := ["math/bits.divideError", "math/bits.overflowError"], apart := false }
def SegMakesSaid : Prop := segMakesRow.holds Tryz.pinned (OpenSpec.ofChange segMakesSpec)

/-- ITS FALSE NEIGHBOUR: 'it returns false'. Refute it at one input. -/
def segMakesWrong : ChangeSpec := { name := "segMakes", fn := fun _ => fun
  | [d1, d2, d3, d4] => { results := [.lit (.bool false)], args := [d1, d2, d3, d4] }
  | _ => none }
def SegMakesWrongFalsely : Prop := segMakesRow.holds Tryz.pinned (OpenSpec.ofChange segMakesWrong)

/-- 'yearbooklaw11.SegChecks': WHATEVER THE INPUT: true; the input reads as it did. -/
def segChecksSpec : ChangeSpec := { name := "segChecks", fn := fun _ => fun
  | [d1, d2] => { results := [.lit (.bool true)], args := [d1, d2] }
  | _ => none }
def segChecksRow : OpenClaim := { program := "ytgblmlefmohgnaagreat", sum := "cece74626bbf0e4d43ec996024722233fd293d72b36b20c205e17e0c65a1f936", func := "yearbook/yearbooklaw11.SegChecks", spec := "segChecks", inPlace := ["math/bits.Add64", "math/bits.Sub64"], unfollowed := true, recurses := true, named := ["math/bits.divideError", "math/bits.overflowError"], apart := false }
def SegChecksSaid : Prop := segChecksRow.holds Tryz.pinned (OpenSpec.ofChange segChecksSpec)

/-- ITS FALSE NEIGHBOUR: 'it returns false'. Refute it at one input. -/
def segChecksWrong : ChangeSpec := { name := "segChecks", fn := fun _ => fun
  | [d1, d2] => { results := [.lit (.bool false)], args := [d1, d2] }
  | _ => none }
def SegChecksWrongFalsely : Prop := segChecksRow.holds Tryz.pinned (OpenSpec.ofChange segChecksWrong)

/-- 'yearbooklaw11.SegFolds': WHATEVER THE INPUT: true; the input reads as it did. -/
def segFoldsSpec : ChangeSpec := { name := "segFolds", fn := fun _ => fun
  | [d1, d2, d3] => { results := [.lit (.bool true)], args := [d1, d2, d3] }
  | _ => none }
def segFoldsRow : OpenClaim := { program := "ytgblmlefmohgnaagreat", sum := "cece74626bbf0e4d43ec996024722233fd293d72b36b20c205e17e0c65a1f936", func := "yearbook/yearbooklaw11.SegFolds", spec := "segFolds", inPlace := ["math/bits.Add64", "math/bits.Sub64"], unfollowed := true, recurses := true, named := ["math/bits.divideError", "math/bits.overflowError"], apart := false }
def SegFoldsSaid : Prop := segFoldsRow.holds Tryz.pinned (OpenSpec.ofChange segFoldsSpec)

/-- ITS FALSE NEIGHBOUR: 'it returns false'. Refute it at one input. -/
def segFoldsWrong : ChangeSpec := { name := "segFolds", fn := fun _ => fun
  | [d1, d2, d3] => { results := [.lit (.bool false)], args := [d1, d2, d3] }
  | _ => none }
def SegFoldsWrongFalsely : Prop := segFoldsRow.holds Tryz.pinned (OpenSpec.ofChange segFoldsWrong)

/-- 'yearbooklaw11.SegFar': WHATEVER THE INPUT: true; the input reads as it did. -/
def segFarSpec : ChangeSpec := { name := "segFar", fn := fun _ => fun
  | [d1, d2] => { results := [.lit (.bool true)], args := [d1, d2] }
  | _ => none }
def segFarRow : OpenClaim := { program := "ytgblmlefmohgnaagreat", sum := "cece74626bbf0e4d43ec996024722233fd293d72b36b20c205e17e0c65a1f936", func := "yearbook/yearbooklaw11.SegFar", spec := "segFar", inPlace := ["math/bits.Add64", "math/bits.Sub64"], unfollowed := true, recurses := true, named := ["math/bits.divideError", "math/bits.overflowError"], apart := false }
def SegFarSaid : Prop := segFarRow.holds Tryz.pinned (OpenSpec.ofChange segFarSpec)

/-- ITS FALSE NEIGHBOUR: 'it returns false'. Refute it at one input. -/
def segFarWrong : ChangeSpec := { name := "segFar", fn := fun _ => fun
  | [d1, d2] => { results := [.lit (.bool false)], args := [d1, d2] }
  | _ => none }
def SegFarWrongFalsely : Prop := segFarRow.holds Tryz.pinned (OpenSpec.ofChange segFarWrong)

/-- 'yearbooklaw11.SegValues': WHATEVER THE INPUT: true; the input reads as it did. -/
def segValuesSpec : ChangeSpec := { name := "segValues", fn := fun _ => fun
  | [d1, d2, d3] => { results := [.lit (.bool true)], args := [d1, d2, d3] }
  | _ => none }
def segValuesRow : OpenClaim := { program := "ytgblmlefmohgnaagreat", sum := "cece74626bbf0e4d43ec996024722233fd293d72b36b20c205e17e0c65a1f936", func := "yearbook/yearbooklaw11.SegValues", spec := "segValues", inPlace := ["math/bits.Add64", "math/bits.Sub64"], unfollowed := true, recurses := true, named := ["math/bits.divideError", "math/bits.overflowError"], apart := false }
def SegValuesSaid : Prop := segValuesRow.holds Tryz.pinned (OpenSpec.ofChange segValuesSpec)

/-- ITS FALSE NEIGHBOUR: 'it returns false'. Refute it at one input. -/
def segValuesWrong : ChangeSpec := { name := "segValues", fn := fun _ => fun
  | [d1, d2, d3] => { results := [.lit (.bool false)], args := [d1, d2, d3] }
  | _ => none }
def SegValuesWrongFalsely : Prop := segValuesRow.holds Tryz.pinned (OpenSpec.ofChange segValuesWrong)

/-- 'yearbooklaw11.SegBounds': WHATEVER THE INPUT: true; the input reads as it did. -/
def segBoundsSpec : ChangeSpec := { name := "segBounds", fn := fun _ => fun
  | [d1, d2, d3, d4] => { results := [.lit (.bool true)], args := [d1, d2, d3, d4] }
  | _ => none }
def segBoundsRow : OpenClaim := { program := "ytgblmlefmohgnaagreat", sum := "cece74626bbf0e4d43ec996024722233fd293d72b36b20c205e17e0c65a1f936", func := "yearbook/yearbooklaw11.SegBounds", spec := "segBounds", inPlace := ["math/bits.Add64", "math/bits.Sub64"], unfollowed := true, recurses := true, named := ["math/bits.divideError", "math/bits.overflowError"], apart := false }
def SegBoundsSaid : Prop := segBoundsRow.holds Tryz.pinned (OpenSpec.ofChange segBoundsSpec)

/-- ITS FALSE NEIGHBOUR: 'it returns false'. Refute it at one input. -/
def segBoundsWrong : ChangeSpec := { name := "segBounds", fn := fun _ => fun
  | [d1, d2, d3, d4] => { results := [.lit (.bool false)], args := [d1, d2, d3, d4] }
  | _ => none }
def SegBoundsWrongFalsely : Prop := segBoundsRow.holds Tryz.pinned (OpenSpec.ofChange segBoundsWrong)

/- THE SECOND FORM. 'bulk': how many values and letters a reading holds, each counted each time it is reached (what is shared counts as often as it is met; a slice's spare places count too). A statement '..UptoSaid' is the law's where the arguments, and the package variables that the reading takes, are together of bulk at most 1048576: NARROWER than '..Said'. Prove '..Said' where nothing that the law and all that it calls make is longer than what came in: it says more and counts as full. Else prove '..UptoSaid'. A law counts once. -/
mutual
def uptoBulk {H : Type} : DataW H → Nat
  | .lit (.string bytes) => bytes.length + 1
  | .lit _ => 1
  | .nil => 1
  | .ptr d => uptoBulk d + 1
  | .slice elems spare => uptoBulkAll elems + uptoBulkAll spare + 1
  | .agg parts => uptoBulkAll parts + 1
  | .iface _ d => uptoBulk d + 1
  | .map entries => uptoBulkEntries entries + 1
  | .held _ => 1
def uptoBulkAll {H : Type} : List (DataW H) → Nat
  | [] => 0
  | d :: r => uptoBulk d + uptoBulkAll r
def uptoBulkEntries {H : Type} : List (Lit × DataW H) → Nat
  | [] => 0
  | x :: r => uptoBulkEntry x + uptoBulkEntries r
def uptoBulkEntry {H : Type} : Lit × DataW H → Nat
  | (.string bytes, d) => bytes.length + uptoBulk d + 1
  | (_, d) => uptoBulk d + 1
 end
def uptoSmall : (H : Type) → List (DataW H) → Bool := fun _ ds => decide (uptoBulkAll ds ≤ 1048576)
def OpenSpec.upto (s : _root_.Go.ChangeSpec) : _root_.Go.OpenSpec := { _root_.Go.OpenSpec.ofChange s with cond := some uptoSmall }

/-- 'yearbooklaw11.SegParts', WHERE WHAT IT READS IS OF BULK AT MOST 1048576: true; the input reads as it did. -/
def segPartsUptoRow : OpenClaim := { program := "ytgblmlefmohgnaagreat", sum := "cece74626bbf0e4d43ec996024722233fd293d72b36b20c205e17e0c65a1f936", func := "yearbook/yearbooklaw11.SegParts", spec := "segParts", inPlace := ["math/bits.Add64", "math/bits.Sub64"], unfollowed := true, recurses := true, named := ["math/bits.divideError", "math/bits.overflowError"], apart := false, narrowed := true }
def SegPartsUptoSaid : Prop := segPartsUptoRow.holds Tryz.pinned (OpenSpec.upto segPartsSpec)

/-- 'yearbooklaw11.SegMakes', WHERE WHAT IT READS IS OF BULK AT MOST 1048576: true; the input reads as it did. -/
def segMakesUptoRow : OpenClaim := { program := "ytgblmlefmohgnaagreat", sum := "cece74626bbf0e4d43ec996024722233fd293d72b36b20c205e17e0c65a1f936", func := "yearbook/yearbooklaw11.SegMakes", spec := "segMakes", inPlace := ["math/bits.Add64", "math/bits.Sub64"], unfollowed := true, recurses := true, named := ["math/bits.divideError", "math/bits.overflowError"], apart := false, narrowed := true }
def SegMakesUptoSaid : Prop := segMakesUptoRow.holds Tryz.pinned (OpenSpec.upto segMakesSpec)

/-- 'yearbooklaw11.SegChecks', WHERE WHAT IT READS IS OF BULK AT MOST 1048576: true; the input reads as it did. -/
def segChecksUptoRow : OpenClaim := { program := "ytgblmlefmohgnaagreat", sum := "cece74626bbf0e4d43ec996024722233fd293d72b36b20c205e17e0c65a1f936", func := "yearbook/yearbooklaw11.SegChecks", spec := "segChecks", inPlace := ["math/bits.Add64", "math/bits.Sub64"], unfollowed := true, recurses := true, named := ["math/bits.divideError", "math/bits.overflowError"], apart := false, narrowed := true }
def SegChecksUptoSaid : Prop := segChecksUptoRow.holds Tryz.pinned (OpenSpec.upto segChecksSpec)

/-- 'yearbooklaw11.SegFolds', WHERE WHAT IT READS IS OF BULK AT MOST 1048576: true; the input reads as it did. -/
def segFoldsUptoRow : OpenClaim := { program := "ytgblmlefmohgnaagreat", sum := "cece74626bbf0e4d43ec996024722233fd293d72b36b20c205e17e0c65a1f936", func := "yearbook/yearbooklaw11.SegFolds", spec := "segFolds", inPlace := ["math/bits.Add64", "math/bits.Sub64"], unfollowed := true, recurses := true, named := ["math/bits.divideError", "math/bits.overflowError"], apart := false, narrowed := true }
def SegFoldsUptoSaid : Prop := segFoldsUptoRow.holds Tryz.pinned (OpenSpec.upto segFoldsSpec)

/-- 'yearbooklaw11.SegFar', WHERE WHAT IT READS IS OF BULK AT MOST 1048576: true; the input reads as it did. -/
def segFarUptoRow : OpenClaim := { program := "ytgblmlefmohgnaagreat", sum := "cece74626bbf0e4d43ec996024722233fd293d72b36b20c205e17e0c65a1f936", func := "yearbook/yearbooklaw11.SegFar", spec := "segFar", inPlace := ["math/bits.Add64", "math/bits.Sub64"], unfollowed := true, recurses := true, named := ["math/bits.divideError", "math/bits.overflowError"], apart := false, narrowed := true }
def SegFarUptoSaid : Prop := segFarUptoRow.holds Tryz.pinned (OpenSpec.upto segFarSpec)

/-- 'yearbooklaw11.SegValues', WHERE WHAT IT READS IS OF BULK AT MOST 1048576: true; the input reads as it did. -/
def segValuesUptoRow : OpenClaim := { program := "ytgblmlefmohgnaagreat", sum := "cece74626bbf0e4d43ec996024722233fd293d72b36b20c205e17e0c65a1f936", func := "yearbook/yearbooklaw11.SegValues", spec := "segValues", inPlace := ["math/bits.Add64", "math/bits.Sub64"], unfollowed := true, recurses := true, named := ["math/bits.divideError", "math/bits.overflowError"], apart := false, narrowed := true }
def SegValuesUptoSaid : Prop := segValuesUptoRow.holds Tryz.pinned (OpenSpec.upto segValuesSpec)

/-- 'yearbooklaw11.SegBounds', WHERE WHAT IT READS IS OF BULK AT MOST 1048576: true; the input reads as it did. -/
def segBoundsUptoRow : OpenClaim := { program := "ytgblmlefmohgnaagreat", sum := "cece74626bbf0e4d43ec996024722233fd293d72b36b20c205e17e0c65a1f936", func := "yearbook/yearbooklaw11.SegBounds", spec := "segBounds", inPlace := ["math/bits.Add64", "math/bits.Sub64"], unfollowed := true, recurses := true, named := ["math/bits.divideError", "math/bits.overflowError"], apart := false, narrowed := true }
def SegBoundsUptoSaid : Prop := segBoundsUptoRow.holds Tryz.pinned (OpenSpec.upto segBoundsSpec)

end Rows
end Go.Proofs.YtgblmlefmohgnaaGreat
