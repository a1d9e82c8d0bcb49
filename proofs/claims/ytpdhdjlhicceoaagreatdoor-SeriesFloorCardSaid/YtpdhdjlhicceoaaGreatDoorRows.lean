/-
  NARROWER THAN 'FOR EVERY INPUT', by the rows' own cells (each row's printed sentence says how): SeriesMakes: laid · SeriesTurns: laid · SeriesHolds: laid · SeriesExact: laid · SeriesTakes: laid · SeriesTells: laid · SeriesFewer: laid · SeriesFloor: laid.
  DERIVED. THE GIVEN ROWS OF THIS SEAT. 8 by the template 'for every input the law returns true; each argument reads behind the call as it read before'; 0 by the template 'total and deterministic' (their statements: YtpdhdjlhicceoaaGreatDoorTotals.lean).
  GIVEN WITH THE SEED: the statements are not yours to turn. If you find one false, say at which input.
  Laid BY PROGRAM, IN A SANDBOX (cutbox-rows.mjs): the forced cells as the released guide's own fill.sh prints them over the translation 583117abc8f8a267… (all of the seat's roots in one cut). By AI agents, Wed Nov 11 2026. No macro, syntax, notation, axiom, sorry.
-/
import Derived.Test.YtpdhdjlhicceoaaGreatDoorChecked
import GoSem.Claim
import GoSem.ClaimJoined
import GoSem.ClaimMapViews
import Derived.JoinedTies
import Derived.KernelRfl
namespace Go.Proofs.YtpdhdjlhicceoaaGreatDoor
/- THE CELL 'sum', in the pinned program and in every row, IS THE sha256 OF THE DUMP (.gsa) THAT YtpdhdjlhicceoaaGreatDoorProg.lean LOADS. Nothing in Lean hashes anything: it is a label: what it is worth is what the hold of that sum in a sandbox is worth. -/
noncomputable def Tryz.pinned : Pinned := { name := "ytpdhdjlhicceoaagreatdoor", sum := "583117abc8f8a2678f8d0645bc6bfc2b79e412b939a504e551f41e25a074d239", checked := Tryz.checked }
namespace Rows
def none {H : Type} : Left H := { results := [], args := [] }

/- WHAT THE LISTED PACKAGE-LEVEL VARIABLES READ AS WHEN THE CALL BEGINS. Each datum BY PROGRAM (the guide's laid-datum.mjs) off the statement by which the dump's own 'gosem.cut.vars' lays the variable. In a bare row this is a premise. The card (YtpdhdjlhicceoaaGreatDoorCards.lean) ties it to the program's text. -/
def laid_yearbook_slide_all {H : Type} : DataW H := .agg [.agg [.lit (.int .i64 (-4611688217450643456)), .lit (.int .i64 1)], .agg [.lit (.int .i64 4611688217450643456), .lit (.int .i64 1)]]

/-- 'yearbooklaw24.SeriesMakes': WHATEVER THE INPUT: true; the input reads as it did. -/
def seriesMakesSpec : ChangeSpec := { name := "seriesMakes", fn := fun _ => fun
  | [d1, d2, d3] => { results := [.lit (.bool true)], args := [d1, d2, d3] }
  | _ => none }
def seriesMakesRow : OpenClaim := { program := "ytpdhdjlhicceoaagreatdoor", sum := "583117abc8f8a2678f8d0645bc6bfc2b79e412b939a504e551f41e25a074d239", func := "yearbook/yearbooklaw24.SeriesMakes", spec := "seriesMakes", inPlace := ["math/bits.Sub64", "math/bits.Add64"], unfollowed := true, recurses := true, named := ["yearbook/slide.all", "math/bits.divideError", "math/bits.overflowError"], apart := false, laid := [("yearbook/slide.all", laid_yearbook_slide_all)] }
def SeriesMakesSaid : Prop := seriesMakesRow.holds Tryz.pinned (OpenSpec.ofChange seriesMakesSpec)

/-- ITS FALSE NEIGHBOUR: 'it returns false'. Refute it at one input. -/
def seriesMakesWrong : ChangeSpec := { name := "seriesMakes", fn := fun _ => fun
  | [d1, d2, d3] => { results := [.lit (.bool false)], args := [d1, d2, d3] }
  | _ => none }
def SeriesMakesWrongFalsely : Prop := seriesMakesRow.holds Tryz.pinned (OpenSpec.ofChange seriesMakesWrong)

/-- 'yearbooklaw24.SeriesTurns': WHATEVER THE INPUT: true; the input reads as it did. -/
def seriesTurnsSpec : ChangeSpec := { name := "seriesTurns", fn := fun _ => fun
  | [d1, d2] => { results := [.lit (.bool true)], args := [d1, d2] }
  | _ => none }
def seriesTurnsRow : OpenClaim := { program := "ytpdhdjlhicceoaagreatdoor", sum := "583117abc8f8a2678f8d0645bc6bfc2b79e412b939a504e551f41e25a074d239", func := "yearbook/yearbooklaw24.SeriesTurns", spec := "seriesTurns", inPlace := ["math/bits.Sub64", "math/bits.Add64"], unfollowed := true, recurses := true, named := ["yearbook/slide.all", "math/bits.divideError", "math/bits.overflowError"], apart := false, laid := [("yearbook/slide.all", laid_yearbook_slide_all)] }
def SeriesTurnsSaid : Prop := seriesTurnsRow.holds Tryz.pinned (OpenSpec.ofChange seriesTurnsSpec)

/-- ITS FALSE NEIGHBOUR: 'it returns false'. Refute it at one input. -/
def seriesTurnsWrong : ChangeSpec := { name := "seriesTurns", fn := fun _ => fun
  | [d1, d2] => { results := [.lit (.bool false)], args := [d1, d2] }
  | _ => none }
def SeriesTurnsWrongFalsely : Prop := seriesTurnsRow.holds Tryz.pinned (OpenSpec.ofChange seriesTurnsWrong)

/-- 'yearbooklaw24.SeriesHolds': WHATEVER THE INPUT: true; the input reads as it did. -/
def seriesHoldsSpec : ChangeSpec := { name := "seriesHolds", fn := fun _ => fun
  | [d1, d2] => { results := [.lit (.bool true)], args := [d1, d2] }
  | _ => none }
def seriesHoldsRow : OpenClaim := { program := "ytpdhdjlhicceoaagreatdoor", sum := "583117abc8f8a2678f8d0645bc6bfc2b79e412b939a504e551f41e25a074d239", func := "yearbook/yearbooklaw24.SeriesHolds", spec := "seriesHolds", inPlace := ["math/bits.Sub64", "math/bits.Add64"], unfollowed := true, recurses := true, named := ["yearbook/slide.all", "math/bits.divideError", "math/bits.overflowError"], apart := false, laid := [("yearbook/slide.all", laid_yearbook_slide_all)] }
def SeriesHoldsSaid : Prop := seriesHoldsRow.holds Tryz.pinned (OpenSpec.ofChange seriesHoldsSpec)

/-- ITS FALSE NEIGHBOUR: 'it returns false'. Refute it at one input. -/
def seriesHoldsWrong : ChangeSpec := { name := "seriesHolds", fn := fun _ => fun
  | [d1, d2] => { results := [.lit (.bool false)], args := [d1, d2] }
  | _ => none }
def SeriesHoldsWrongFalsely : Prop := seriesHoldsRow.holds Tryz.pinned (OpenSpec.ofChange seriesHoldsWrong)

/-- 'yearbooklaw24.SeriesExact': WHATEVER THE INPUT: true; the input reads as it did. -/
def seriesExactSpec : ChangeSpec := { name := "seriesExact", fn := fun _ => fun
  | [d] => { results := [.lit (.bool true)], args := [d] }
  | _ => none }
def seriesExactRow : OpenClaim := { program := "ytpdhdjlhicceoaagreatdoor", sum := "583117abc8f8a2678f8d0645bc6bfc2b79e412b939a504e551f41e25a074d239", func := "yearbook/yearbooklaw24.SeriesExact", spec := "seriesExact", inPlace := ["math/bits.Sub64", "math/bits.Add64"], unfollowed := true, recurses := true, named := ["yearbook/slide.all", "math/bits.divideError", "math/bits.overflowError"], apart := false, laid := [("yearbook/slide.all", laid_yearbook_slide_all)] }
def SeriesExactSaid : Prop := seriesExactRow.holds Tryz.pinned (OpenSpec.ofChange seriesExactSpec)

/-- ITS FALSE NEIGHBOUR: 'it returns false'. Refute it at one input. -/
def seriesExactWrong : ChangeSpec := { name := "seriesExact", fn := fun _ => fun
  | [d] => { results := [.lit (.bool false)], args := [d] }
  | _ => none }
def SeriesExactWrongFalsely : Prop := seriesExactRow.holds Tryz.pinned (OpenSpec.ofChange seriesExactWrong)

/-- 'yearbooklaw24.SeriesTakes': WHATEVER THE INPUT: true; the input reads as it did. -/
def seriesTakesSpec : ChangeSpec := { name := "seriesTakes", fn := fun _ => fun
  | [d1, d2] => { results := [.lit (.bool true)], args := [d1, d2] }
  | _ => none }
def seriesTakesRow : OpenClaim := { program := "ytpdhdjlhicceoaagreatdoor", sum := "583117abc8f8a2678f8d0645bc6bfc2b79e412b939a504e551f41e25a074d239", func := "yearbook/yearbooklaw24.SeriesTakes", spec := "seriesTakes", inPlace := ["math/bits.Sub64", "math/bits.Add64"], unfollowed := true, recurses := true, named := ["yearbook/slide.all", "math/bits.divideError", "math/bits.overflowError"], apart := false, laid := [("yearbook/slide.all", laid_yearbook_slide_all)] }
def SeriesTakesSaid : Prop := seriesTakesRow.holds Tryz.pinned (OpenSpec.ofChange seriesTakesSpec)

/-- ITS FALSE NEIGHBOUR: 'it returns false'. Refute it at one input. -/
def seriesTakesWrong : ChangeSpec := { name := "seriesTakes", fn := fun _ => fun
  | [d1, d2] => { results := [.lit (.bool false)], args := [d1, d2] }
  | _ => none }
def SeriesTakesWrongFalsely : Prop := seriesTakesRow.holds Tryz.pinned (OpenSpec.ofChange seriesTakesWrong)

/-- 'yearbooklaw24.SeriesTells': WHATEVER THE INPUT: true; the input reads as it did. -/
def seriesTellsSpec : ChangeSpec := { name := "seriesTells", fn := fun _ => fun
  | [d1, d2] => { results := [.lit (.bool true)], args := [d1, d2] }
  | _ => none }
def seriesTellsRow : OpenClaim := { program := "ytpdhdjlhicceoaagreatdoor", sum := "583117abc8f8a2678f8d0645bc6bfc2b79e412b939a504e551f41e25a074d239", func := "yearbook/yearbooklaw24.SeriesTells", spec := "seriesTells", inPlace := ["math/bits.Sub64", "math/bits.Add64"], unfollowed := true, recurses := true, named := ["yearbook/slide.all", "math/bits.divideError", "math/bits.overflowError"], apart := false, laid := [("yearbook/slide.all", laid_yearbook_slide_all)] }
def SeriesTellsSaid : Prop := seriesTellsRow.holds Tryz.pinned (OpenSpec.ofChange seriesTellsSpec)

/-- ITS FALSE NEIGHBOUR: 'it returns false'. Refute it at one input. -/
def seriesTellsWrong : ChangeSpec := { name := "seriesTells", fn := fun _ => fun
  | [d1, d2] => { results := [.lit (.bool false)], args := [d1, d2] }
  | _ => none }
def SeriesTellsWrongFalsely : Prop := seriesTellsRow.holds Tryz.pinned (OpenSpec.ofChange seriesTellsWrong)

/-- 'yearbooklaw24.SeriesFewer': WHATEVER THE INPUT: true; the input reads as it did. -/
def seriesFewerSpec : ChangeSpec := { name := "seriesFewer", fn := fun _ => fun
  | [d] => { results := [.lit (.bool true)], args := [d] }
  | _ => none }
def seriesFewerRow : OpenClaim := { program := "ytpdhdjlhicceoaagreatdoor", sum := "583117abc8f8a2678f8d0645bc6bfc2b79e412b939a504e551f41e25a074d239", func := "yearbook/yearbooklaw24.SeriesFewer", spec := "seriesFewer", inPlace := ["math/bits.Sub64", "math/bits.Add64"], unfollowed := true, recurses := true, named := ["yearbook/slide.all", "math/bits.divideError", "math/bits.overflowError"], apart := false, laid := [("yearbook/slide.all", laid_yearbook_slide_all)] }
def SeriesFewerSaid : Prop := seriesFewerRow.holds Tryz.pinned (OpenSpec.ofChange seriesFewerSpec)

/-- ITS FALSE NEIGHBOUR: 'it returns false'. Refute it at one input. -/
def seriesFewerWrong : ChangeSpec := { name := "seriesFewer", fn := fun _ => fun
  | [d] => { results := [.lit (.bool false)], args := [d] }
  | _ => none }
def SeriesFewerWrongFalsely : Prop := seriesFewerRow.holds Tryz.pinned (OpenSpec.ofChange seriesFewerWrong)

/-- 'yearbooklaw24.SeriesFloor': WHATEVER THE INPUT: true; the input reads as it did. -/
def seriesFloorSpec : ChangeSpec := { name := "seriesFloor", fn := fun _ => fun
  | [d1, d2, d3] => { results := [.lit (.bool true)], args := [d1, d2, d3] }
  | _ => none }
def seriesFloorRow : OpenClaim := { program := "ytpdhdjlhicceoaagreatdoor", sum := "583117abc8f8a2678f8d0645bc6bfc2b79e412b939a504e551f41e25a074d239", func := "yearbook/yearbooklaw24.SeriesFloor", spec := "seriesFloor", inPlace := ["math/bits.Sub64", "math/bits.Add64"], unfollowed := true, recurses := true, named := ["yearbook/slide.all", "math/bits.divideError", "math/bits.overflowError"], apart := false, laid := [("yearbook/slide.all", laid_yearbook_slide_all)] }
def SeriesFloorSaid : Prop := seriesFloorRow.holds Tryz.pinned (OpenSpec.ofChange seriesFloorSpec)

/-- ITS FALSE NEIGHBOUR: 'it returns false'. Refute it at one input. -/
def seriesFloorWrong : ChangeSpec := { name := "seriesFloor", fn := fun _ => fun
  | [d1, d2, d3] => { results := [.lit (.bool false)], args := [d1, d2, d3] }
  | _ => none }
def SeriesFloorWrongFalsely : Prop := seriesFloorRow.holds Tryz.pinned (OpenSpec.ofChange seriesFloorWrong)

/- THE SECOND FORM. 'bulk': how many values and letters a reading holds, each counted each time it is reached (what is shared counts as often as it is met; a slice's spare places count too). A statement '..UptoSaid' is the law's where the arguments, and the package variables that the reading takes, are together of bulk at most 1048576: NARROWER than '..Said'. Prove '..Said' where nothing that the law and all that it calls make is longer than what came in: it says more and counts as full. Else prove '..UptoSaid'. A law counts once. -/
mutual
def uptoBulk {H : Type} : DataW H → Nat
  | .lit (.string bytes) => bytes.length + 1
  | .lit _ => 1
  | .nil => 1
  | .ptr d => uptoBulk d + 1
  | .slice elems spare => uptoBulkAll elems + uptoBulkAll spare + 1
  | .agg parts => uptoBulkAll parts + 1
  | .iface _ d => uptoBulk d + 1
  | .map entries => uptoBulkEntries entries + 1
  | .held _ => 1
def uptoBulkAll {H : Type} : List (DataW H) → Nat
  | [] => 0
  | d :: r => uptoBulk d + uptoBulkAll r
def uptoBulkEntries {H : Type} : List (Lit × DataW H) → Nat
  | [] => 0
  | x :: r => uptoBulkEntry x + uptoBulkEntries r
def uptoBulkEntry {H : Type} : Lit × DataW H → Nat
  | (.string bytes, d) => bytes.length + uptoBulk d + 1
  | (_, d) => uptoBulk d + 1
 end
def uptoSmall : (H : Type) → List (DataW H) → Bool := fun _ ds => decide (uptoBulkAll ds ≤ 1048576)
def OpenSpec.upto (s : _root_.Go.ChangeSpec) : _root_.Go.OpenSpec := { _root_.Go.OpenSpec.ofChange s with cond := some uptoSmall }

/-- 'yearbooklaw24.SeriesMakes', WHERE WHAT IT READS IS OF BULK AT MOST 1048576: true; the input reads as it did. -/
def seriesMakesUptoRow : OpenClaim := { program := "ytpdhdjlhicceoaagreatdoor", sum := "583117abc8f8a2678f8d0645bc6bfc2b79e412b939a504e551f41e25a074d239", func := "yearbook/yearbooklaw24.SeriesMakes", spec := "seriesMakes", inPlace := ["math/bits.Sub64", "math/bits.Add64"], unfollowed := true, recurses := true, named := ["yearbook/slide.all", "math/bits.divideError", "math/bits.overflowError"], apart := false, laid := [("yearbook/slide.all", laid_yearbook_slide_all)], narrowed := true }
def SeriesMakesUptoSaid : Prop := seriesMakesUptoRow.holds Tryz.pinned (OpenSpec.upto seriesMakesSpec)

/-- 'yearbooklaw24.SeriesTurns', WHERE WHAT IT READS IS OF BULK AT MOST 1048576: true; the input reads as it did. -/
def seriesTurnsUptoRow : OpenClaim := { program := "ytpdhdjlhicceoaagreatdoor", sum := "583117abc8f8a2678f8d0645bc6bfc2b79e412b939a504e551f41e25a074d239", func := "yearbook/yearbooklaw24.SeriesTurns", spec := "seriesTurns", inPlace := ["math/bits.Sub64", "math/bits.Add64"], unfollowed := true, recurses := true, named := ["yearbook/slide.all", "math/bits.divideError", "math/bits.overflowError"], apart := false, laid := [("yearbook/slide.all", laid_yearbook_slide_all)], narrowed := true }
def SeriesTurnsUptoSaid : Prop := seriesTurnsUptoRow.holds Tryz.pinned (OpenSpec.upto seriesTurnsSpec)

/-- 'yearbooklaw24.SeriesHolds', WHERE WHAT IT READS IS OF BULK AT MOST 1048576: true; the input reads as it did. -/
def seriesHoldsUptoRow : OpenClaim := { program := "ytpdhdjlhicceoaagreatdoor", sum := "583117abc8f8a2678f8d0645bc6bfc2b79e412b939a504e551f41e25a074d239", func := "yearbook/yearbooklaw24.SeriesHolds", spec := "seriesHolds", inPlace := ["math/bits.Sub64", "math/bits.Add64"], unfollowed := true, recurses := true, named := ["yearbook/slide.all", "math/bits.divideError", "math/bits.overflowError"], apart := false, laid := [("yearbook/slide.all", laid_yearbook_slide_all)], narrowed := true }
def SeriesHoldsUptoSaid : Prop := seriesHoldsUptoRow.holds Tryz.pinned (OpenSpec.upto seriesHoldsSpec)

/-- 'yearbooklaw24.SeriesExact', WHERE WHAT IT READS IS OF BULK AT MOST 1048576: true; the input reads as it did. -/
def seriesExactUptoRow : OpenClaim := { program := "ytpdhdjlhicceoaagreatdoor", sum := "583117abc8f8a2678f8d0645bc6bfc2b79e412b939a504e551f41e25a074d239", func := "yearbook/yearbooklaw24.SeriesExact", spec := "seriesExact", inPlace := ["math/bits.Sub64", "math/bits.Add64"], unfollowed := true, recurses := true, named := ["yearbook/slide.all", "math/bits.divideError", "math/bits.overflowError"], apart := false, laid := [("yearbook/slide.all", laid_yearbook_slide_all)], narrowed := true }
def SeriesExactUptoSaid : Prop := seriesExactUptoRow.holds Tryz.pinned (OpenSpec.upto seriesExactSpec)

/-- 'yearbooklaw24.SeriesTakes', WHERE WHAT IT READS IS OF BULK AT MOST 1048576: true; the input reads as it did. -/
def seriesTakesUptoRow : OpenClaim := { program := "ytpdhdjlhicceoaagreatdoor", sum := "583117abc8f8a2678f8d0645bc6bfc2b79e412b939a504e551f41e25a074d239", func := "yearbook/yearbooklaw24.SeriesTakes", spec := "seriesTakes", inPlace := ["math/bits.Sub64", "math/bits.Add64"], unfollowed := true, recurses := true, named := ["yearbook/slide.all", "math/bits.divideError", "math/bits.overflowError"], apart := false, laid := [("yearbook/slide.all", laid_yearbook_slide_all)], narrowed := true }
def SeriesTakesUptoSaid : Prop := seriesTakesUptoRow.holds Tryz.pinned (OpenSpec.upto seriesTakesSpec)

/-- 'yearbooklaw24.SeriesTells', WHERE WHAT IT READS IS OF BULK AT MOST 1048576: true; the input reads as it did. -/
def seriesTellsUptoRow : OpenClaim := { program := "ytpdhdjlhicceoaagreatdoor", sum := "583117abc8f8a2678f8d0645bc6bfc2b79e412b939a504e551f41e25a074d239", func := "yearbook/yearbooklaw24.SeriesTells", spec := "seriesTells", inPlace := ["math/bits.Sub64", "math/bits.Add64"], unfollowed := true, recurses := true, named := ["yearbook/slide.all", "math/bits.divideError", "math/bits.overflowError"], apart := false, laid := [("yearbook/slide.all", laid_yearbook_slide_all)], narrowed := true }
def SeriesTellsUptoSaid : Prop := seriesTellsUptoRow.holds Tryz.pinned (OpenSpec.upto seriesTellsSpec)

/-- 'yearbooklaw24.SeriesFewer', WHERE WHAT IT READS IS OF BULK AT MOST 1048576: true; the input reads as it did. -/
def seriesFewerUptoRow : OpenClaim := { program := "ytpdhdjlhicceoaagreatdoor", sum := "583117abc8f8a2678f8d0645bc6bfc2b79e412b939a504e551f41e25a074d239", func := "yearbook/yearbooklaw24.SeriesFewer", spec := "seriesFewer", inPlace := ["math/bits.Sub64", "math/bits.Add64"], unfollowed := true, recurses := true, named := ["yearbook/slide.all", "math/bits.divideError", "math/bits.overflowError"], apart := false, laid := [("yearbook/slide.all", laid_yearbook_slide_all)], narrowed := true }
def SeriesFewerUptoSaid : Prop := seriesFewerUptoRow.holds Tryz.pinned (OpenSpec.upto seriesFewerSpec)

/-- 'yearbooklaw24.SeriesFloor', WHERE WHAT IT READS IS OF BULK AT MOST 1048576: true; the input reads as it did. -/
def seriesFloorUptoRow : OpenClaim := { program := "ytpdhdjlhicceoaagreatdoor", sum := "583117abc8f8a2678f8d0645bc6bfc2b79e412b939a504e551f41e25a074d239", func := "yearbook/yearbooklaw24.SeriesFloor", spec := "seriesFloor", inPlace := ["math/bits.Sub64", "math/bits.Add64"], unfollowed := true, recurses := true, named := ["yearbook/slide.all", "math/bits.divideError", "math/bits.overflowError"], apart := false, laid := [("yearbook/slide.all", laid_yearbook_slide_all)], narrowed := true }
def SeriesFloorUptoSaid : Prop := seriesFloorUptoRow.holds Tryz.pinned (OpenSpec.upto seriesFloorSpec)

end Rows
end Go.Proofs.YtpdhdjlhicceoaaGreatDoor
