/-
  No cell of these rows narrows 'for every input' (looked for: loops, veiled, ifaces, maps, wideKeys, modest, calm, conditions, laid).
  DERIVED. THE GIVEN ROWS OF THIS SEAT. 5 by the template 'for every input the law returns true; each argument reads behind the call as it read before'; 0 by the template 'total and deterministic' (their statements: YtdeghcgakkhbmaaGreatTotals.lean).
  GIVEN WITH THE SEED: the statements are not yours to turn. If you find one false, say at which input.
  Laid BY PROGRAM, IN A SANDBOX (cutbox-rows.mjs): the forced cells as the released guide's own fill.sh prints them over the translation 7105cdd95bcaf738… (all of the seat's roots in one cut). By AI agents, Wed Nov 11 2026. No macro, syntax, notation, axiom, sorry.
-/
import Derived.Test.YtdeghcgakkhbmaaGreatChecked
import GoSem.Claim
import GoSem.ClaimJoined
import GoSem.ClaimMapViews
import Derived.JoinedTies
import Derived.KernelRfl
namespace Go.Proofs.YtdeghcgakkhbmaaGreat
/- THE CELL 'sum', in the pinned program and in every row, IS THE sha256 OF THE DUMP (.gsa) THAT YtdeghcgakkhbmaaGreatProg.lean LOADS. Nothing in Lean hashes anything: it is a label: what it is worth is what the hold of that sum in a sandbox is worth. -/
noncomputable def Tryz.pinned : Pinned := { name := "ytdeghcgakkhbmaagreat", sum := "7105cdd95bcaf738f591c2ed1f142b697262f28fa9142e45a35a48ce0af34ae9", checked := Tryz.checked }
namespace Rows
def none {H : Type} : Left H := { results := [], args := [] }

/-- 'yearbooklaw28.ModelStands': WHATEVER THE INPUT: true; the input reads as it did. -/
def modelStandsSpec : ChangeSpec := { name := "modelStands", fn := fun _ => fun
  | [d1, d2] => { results := [.lit (.bool true)], args := [d1, d2] }
  | _ => none }
def modelStandsRow : OpenClaim := { program := "ytdeghcgakkhbmaagreat", sum := "7105cdd95bcaf738f591c2ed1f142b697262f28fa9142e45a35a48ce0af34ae9", func := "yearbook/yearbooklaw28.ModelStands", spec := "modelStands", inPlace := ["slices.overlaps[yearbook/api.Raw]", "math/bits.Add64", "math/bits.Sub64"], unfollowed := true, recurses := true, named := ["math/bits.divideError", "math/bits.overflowError"], apart := false }
def ModelStandsSaid : Prop := modelStandsRow.holds Tryz.pinned (OpenSpec.ofChange modelStandsSpec)

/-- ITS FALSE NEIGHBOUR: 'it returns false'. Refute it at one input. -/
def modelStandsWrong : ChangeSpec := { name := "modelStands", fn := fun _ => fun
  | [d1, d2] => { results := [.lit (.bool false)], args := [d1, d2] }
  | _ => none }
def ModelStandsWrongFalsely : Prop := modelStandsRow.holds Tryz.pinned (OpenSpec.ofChange modelStandsWrong)

/-- 'yearbooklaw28.ModelStrict': WHATEVER THE INPUT: true; the input reads as it did. -/
def modelStrictSpec : ChangeSpec := { name := "modelStrict", fn := fun _ => fun
  | [d1, d2] => { results := [.lit (.bool true)], args := [d1, d2] }
  | _ => none }
def modelStrictRow : OpenClaim := { program := "ytdeghcgakkhbmaagreat", sum := "7105cdd95bcaf738f591c2ed1f142b697262f28fa9142e45a35a48ce0af34ae9", func := "yearbook/yearbooklaw28.ModelStrict", spec := "modelStrict", inPlace := ["slices.overlaps[yearbook/api.Raw]", "math/bits.Add64", "math/bits.Sub64"], unfollowed := true, recurses := true, named := ["math/bits.divideError", "math/bits.overflowError"], apart := false }
def ModelStrictSaid : Prop := modelStrictRow.holds Tryz.pinned (OpenSpec.ofChange modelStrictSpec)

/-- ITS FALSE NEIGHBOUR: 'it returns false'. Refute it at one input. -/
def modelStrictWrong : ChangeSpec := { name := "modelStrict", fn := fun _ => fun
  | [d1, d2] => { results := [.lit (.bool false)], args := [d1, d2] }
  | _ => none }
def ModelStrictWrongFalsely : Prop := modelStrictRow.holds Tryz.pinned (OpenSpec.ofChange modelStrictWrong)

/-- 'yearbooklaw28.ModelDoes': WHATEVER THE INPUT: true; the input reads as it did. -/
def modelDoesSpec : ChangeSpec := { name := "modelDoes", fn := fun _ => fun
  | [d1, d2] => { results := [.lit (.bool true)], args := [d1, d2] }
  | _ => none }
def modelDoesRow : OpenClaim := { program := "ytdeghcgakkhbmaagreat", sum := "7105cdd95bcaf738f591c2ed1f142b697262f28fa9142e45a35a48ce0af34ae9", func := "yearbook/yearbooklaw28.ModelDoes", spec := "modelDoes", inPlace := ["slices.overlaps[yearbook/api.Raw]", "math/bits.Add64", "math/bits.Sub64"], unfollowed := true, recurses := true, named := ["math/bits.divideError", "math/bits.overflowError"], apart := false }
def ModelDoesSaid : Prop := modelDoesRow.holds Tryz.pinned (OpenSpec.ofChange modelDoesSpec)

/-- ITS FALSE NEIGHBOUR: 'it returns false'. Refute it at one input. -/
def modelDoesWrong : ChangeSpec := { name := "modelDoes", fn := fun _ => fun
  | [d1, d2] => { results := [.lit (.bool false)], args := [d1, d2] }
  | _ => none }
def ModelDoesWrongFalsely : Prop := modelDoesRow.holds Tryz.pinned (OpenSpec.ofChange modelDoesWrong)

/-- 'yearbooklaw28.ModelHolds': WHATEVER THE INPUT: true; the input reads as it did. -/
def modelHoldsSpec : ChangeSpec := { name := "modelHolds", fn := fun _ => fun
  | [d1, d2] => { results := [.lit (.bool true)], args := [d1, d2] }
  | _ => none }
def modelHoldsRow : OpenClaim := { program := "ytdeghcgakkhbmaagreat", sum := "7105cdd95bcaf738f591c2ed1f142b697262f28fa9142e45a35a48ce0af34ae9", func := "yearbook/yearbooklaw28.ModelHolds", spec := "modelHolds", inPlace := ["slices.overlaps[yearbook/api.Raw]", "math/bits.Add64", "math/bits.Sub64"], unfollowed := true, recurses := true, named := ["math/bits.divideError", "math/bits.overflowError"], apart := false }
def ModelHoldsSaid : Prop := modelHoldsRow.holds Tryz.pinned (OpenSpec.ofChange modelHoldsSpec)

/-- ITS FALSE NEIGHBOUR: 'it returns false'. Refute it at one input. -/
def modelHoldsWrong : ChangeSpec := { name := "modelHolds", fn := fun _ => fun
  | [d1, d2] => { results := [.lit (.bool false)], args := [d1, d2] }
  | _ => none }
def ModelHoldsWrongFalsely : Prop := modelHoldsRow.holds Tryz.pinned (OpenSpec.ofChange modelHoldsWrong)

/-- 'yearbooklaw28.ModelTells': WHATEVER THE INPUT: true; the input reads as it did. -/
def modelTellsSpec : ChangeSpec := { name := "modelTells", fn := fun _ => fun
  | [d1, d2, d3] => { results := [.lit (.bool true)], args := [d1, d2, d3] }
  | _ => none }
def modelTellsRow : OpenClaim := { program := "ytdeghcgakkhbmaagreat", sum := "7105cdd95bcaf738f591c2ed1f142b697262f28fa9142e45a35a48ce0af34ae9", func := "yearbook/yearbooklaw28.ModelTells", spec := "modelTells", inPlace := ["slices.overlaps[yearbook/api.Raw]", "math/bits.Add64", "math/bits.Sub64"], unfollowed := true, recurses := true, named := ["math/bits.divideError", "math/bits.overflowError"], apart := false }
def ModelTellsSaid : Prop := modelTellsRow.holds Tryz.pinned (OpenSpec.ofChange modelTellsSpec)

/-- ITS FALSE NEIGHBOUR: 'it returns false'. Refute it at one input. -/
def modelTellsWrong : ChangeSpec := { name := "modelTells", fn := fun _ => fun
  | [d1, d2, d3] => { results := [.lit (.bool false)], args := [d1, d2, d3] }
  | _ => none }
def ModelTellsWrongFalsely : Prop := modelTellsRow.holds Tryz.pinned (OpenSpec.ofChange modelTellsWrong)

/- THE SECOND FORM. 'bulk': how many values and letters a reading holds, each counted each time it is reached (what is shared counts as often as it is met; a slice's spare places count too). A statement '..UptoSaid' is the law's where the arguments, and the package variables that the reading takes, are together of bulk at most 1048576: NARROWER than '..Said'. Prove '..Said' where nothing that the law and all that it calls make is longer than what came in: it says more and counts as full. Else prove '..UptoSaid'. A law counts once. -/
mutual
def uptoBulk {H : Type} : DataW H → Nat
  | .lit (.string bytes) => bytes.length + 1
  | .lit _ => 1
  | .nil => 1
  | .ptr d => uptoBulk d + 1
  | .slice elems spare => uptoBulkAll elems + uptoBulkAll spare + 1
  | .agg parts => uptoBulkAll parts + 1
  | .iface _ d => uptoBulk d + 1
  | .map entries => uptoBulkEntries entries + 1
  | .held _ => 1
def uptoBulkAll {H : Type} : List (DataW H) → Nat
  | [] => 0
  | d :: r => uptoBulk d + uptoBulkAll r
def uptoBulkEntries {H : Type} : List (Lit × DataW H) → Nat
  | [] => 0
  | x :: r => uptoBulkEntry x + uptoBulkEntries r
def uptoBulkEntry {H : Type} : Lit × DataW H → Nat
  | (.string bytes, d) => bytes.length + uptoBulk d + 1
  | (_, d) => uptoBulk d + 1
 end
def uptoSmall : (H : Type) → List (DataW H) → Bool := fun _ ds => decide (uptoBulkAll ds ≤ 1048576)
def OpenSpec.upto (s : _root_.Go.ChangeSpec) : _root_.Go.OpenSpec := { _root_.Go.OpenSpec.ofChange s with cond := some uptoSmall }

/-- 'yearbooklaw28.ModelStands', WHERE WHAT IT READS IS OF BULK AT MOST 1048576: true; the input reads as it did. -/
def modelStandsUptoRow : OpenClaim := { program := "ytdeghcgakkhbmaagreat", sum := "7105cdd95bcaf738f591c2ed1f142b697262f28fa9142e45a35a48ce0af34ae9", func := "yearbook/yearbooklaw28.ModelStands", spec := "modelStands", inPlace := ["slices.overlaps[yearbook/api.Raw]", "math/bits.Add64", "math/bits.Sub64"], unfollowed := true, recurses := true, named := ["math/bits.divideError", "math/bits.overflowError"], apart := false, narrowed := true }
def ModelStandsUptoSaid : Prop := modelStandsUptoRow.holds Tryz.pinned (OpenSpec.upto modelStandsSpec)

/-- 'yearbooklaw28.ModelStrict', WHERE WHAT IT READS IS OF BULK AT MOST 1048576: true; the input reads as it did. -/
def modelStrictUptoRow : OpenClaim := { program := "ytdeghcgakkhbmaagreat", sum := "7105cdd95bcaf738f591c2ed1f142b697262f28fa9142e45a35a48ce0af34ae9", func := "yearbook/yearbooklaw28.ModelStrict", spec := "modelStrict", inPlace := ["slices.overlaps[yearbook/api.Raw]", "math/bits.Add64", "math/bits.Sub64"], unfollowed := true, recurses := true, named := ["math/bits.divideError", "math/bits.overflowError"], apart := false, narrowed := true }
def ModelStrictUptoSaid : Prop := modelStrictUptoRow.holds Tryz.pinned (OpenSpec.upto modelStrictSpec)

/-- 'yearbooklaw28.ModelDoes', WHERE WHAT IT READS IS OF BULK AT MOST 1048576: true; the input reads as it did. -/
def modelDoesUptoRow : OpenClaim := { program := "ytdeghcgakkhbmaagreat", sum := "7105cdd95bcaf738f591c2ed1f142b697262f28fa9142e45a35a48ce0af34ae9", func := "yearbook/yearbooklaw28.ModelDoes", spec := "modelDoes", inPlace := ["slices.overlaps[yearbook/api.Raw]", "math/bits.Add64", "math/bits.Sub64"], unfollowed := true, recurses := true, named := ["math/bits.divideError", "math/bits.overflowError"], apart := false, narrowed := true }
def ModelDoesUptoSaid : Prop := modelDoesUptoRow.holds Tryz.pinned (OpenSpec.upto modelDoesSpec)

/-- 'yearbooklaw28.ModelHolds', WHERE WHAT IT READS IS OF BULK AT MOST 1048576: true; the input reads as it did. -/
def modelHoldsUptoRow : OpenClaim := { program := "ytdeghcgakkhbmaagreat", sum := "7105cdd95bcaf738f591c2ed1f142b697262f28fa9142e45a35a48ce0af34ae9", func := "yearbook/yearbooklaw28.ModelHolds", spec := "modelHolds", inPlace := ["slices.overlaps[yearbook/api.Raw]", "math/bits.Add64", "math/bits.Sub64"], unfollowed := true, recurses := true, named := ["math/bits.divideError", "math/bits.overflowError"], apart := false, narrowed := true }
def ModelHoldsUptoSaid : Prop := modelHoldsUptoRow.holds Tryz.pinned (OpenSpec.upto modelHoldsSpec)

/-- 'yearbooklaw28.ModelTells', WHERE WHAT IT READS IS OF BULK AT MOST 1048576: true; the input reads as it did. -/
def modelTellsUptoRow : OpenClaim := { program := "ytdeghcgakkhbmaagreat", sum := "7105cdd95bcaf738f591c2ed1f142b697262f28fa9142e45a35a48ce0af34ae9", func := "yearbook/yearbooklaw28.ModelTells", spec := "modelTells", inPlace := ["slices.overlaps[yearbook/api.Raw]", "math/bits.Add64", "math/bits.Sub64"], unfollowed := true, recurses := true, named := ["math/bits.divideError", "math/bits.overflowError"], apart := false, narrowed := true }
def ModelTellsUptoSaid : Prop := modelTellsUptoRow.holds Tryz.pinned (OpenSpec.upto modelTellsSpec)

end Rows
end Go.Proofs.YtdeghcgakkhbmaaGreat
