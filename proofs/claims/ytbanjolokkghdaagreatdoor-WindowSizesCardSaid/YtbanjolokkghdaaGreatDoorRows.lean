/-
  NARROWER THAN 'FOR EVERY INPUT', by the rows' own cells (each row's printed sentence says how): WindowSizes: laid · MergeBands: laid · WindowBands: laid.
  DERIVED. THE GIVEN ROWS OF THIS SEAT. 3 by the template 'for every input the law returns true; each argument reads behind the call as it read before'; 0 by the template 'total and deterministic' (their statements: YtbanjolokkghdaaGreatDoorTotals.lean).
  GIVEN WITH THE SEED: the statements are not yours to turn. If you find one false, say at which input.
  Laid BY PROGRAM, IN A SANDBOX (cutbox-rows.mjs): the forced cells as the released guide's own fill.sh prints them over the translation 0379413c8ebde9b1… (all of the seat's roots in one cut). By AI agents, Wed Nov 11 2026. No macro, syntax, notation, axiom, sorry.
-/
import Derived.Test.YtbanjolokkghdaaGreatDoorChecked
import GoSem.Claim
import GoSem.ClaimJoined
import GoSem.ClaimMapViews
import Derived.JoinedTies
import Derived.KernelRfl
namespace Go.Proofs.YtbanjolokkghdaaGreatDoor
/- THE CELL 'sum', in the pinned program and in every row, IS THE sha256 OF THE DUMP (.gsa) THAT YtbanjolokkghdaaGreatDoorProg.lean LOADS. Nothing in Lean hashes anything: it is a label: what it is worth is what the hold of that sum in a sandbox is worth. -/
noncomputable def Tryz.pinned : Pinned := { name := "ytbanjolokkghdaagreatdoor", sum := "0379413c8ebde9b12d1fefbdaccaffc763e13385c8e58155670364f7f2e458c6", checked := Tryz.checked }
namespace Rows
def none {H : Type} : Left H := { results := [], args := [] }

/- WHAT THE LISTED PACKAGE-LEVEL VARIABLES READ AS WHEN THE CALL BEGINS. Each datum BY PROGRAM (the guide's laid-datum.mjs) off the statement by which the dump's own 'gosem.cut.vars' lays the variable. In a bare row this is a premise. The card (YtbanjolokkghdaaGreatDoorCards.lean) ties it to the program's text. -/
def laid_yearbook_slide_all {H : Type} : DataW H := .agg [.agg [.lit (.int .i64 (-4611688217450643456)), .lit (.int .i64 1)], .agg [.lit (.int .i64 4611688217450643456), .lit (.int .i64 1)]]

/-- 'yearbooklaw13.WindowSizes': WHATEVER THE INPUT: true; the input reads as it did. -/
def windowSizesSpec : ChangeSpec := { name := "windowSizes", fn := fun _ => fun
  | [d] => { results := [.lit (.bool true)], args := [d] }
  | _ => none }
def windowSizesRow : OpenClaim := { program := "ytbanjolokkghdaagreatdoor", sum := "0379413c8ebde9b12d1fefbdaccaffc763e13385c8e58155670364f7f2e458c6", func := "yearbook/yearbooklaw13.WindowSizes", spec := "windowSizes", inPlace := ["math/bits.Sub64", "math/bits.Add64"], unfollowed := true, recurses := true, named := ["yearbook/slide.all", "math/bits.divideError", "math/bits.overflowError"], apart := false, laid := [("yearbook/slide.all", laid_yearbook_slide_all)] }
def WindowSizesSaid : Prop := windowSizesRow.holds Tryz.pinned (OpenSpec.ofChange windowSizesSpec)

/-- ITS FALSE NEIGHBOUR: 'it returns false'. Refute it at one input. -/
def windowSizesWrong : ChangeSpec := { name := "windowSizes", fn := fun _ => fun
  | [d] => { results := [.lit (.bool false)], args := [d] }
  | _ => none }
def WindowSizesWrongFalsely : Prop := windowSizesRow.holds Tryz.pinned (OpenSpec.ofChange windowSizesWrong)

/-- 'yearbooklaw14.MergeBands': WHATEVER THE INPUT: true; the input reads as it did. -/
def mergeBandsSpec : ChangeSpec := { name := "mergeBands", fn := fun _ => fun
  | [d1, d2] => { results := [.lit (.bool true)], args := [d1, d2] }
  | _ => none }
def mergeBandsRow : OpenClaim := { program := "ytbanjolokkghdaagreatdoor", sum := "0379413c8ebde9b12d1fefbdaccaffc763e13385c8e58155670364f7f2e458c6", func := "yearbook/yearbooklaw14.MergeBands", spec := "mergeBands", inPlace := ["math/bits.Add64", "math/bits.Sub64"], unfollowed := true, recurses := true, named := ["math/bits.divideError", "math/bits.overflowError", "yearbook/slide.all"], apart := false, laid := [("yearbook/slide.all", laid_yearbook_slide_all)] }
def MergeBandsSaid : Prop := mergeBandsRow.holds Tryz.pinned (OpenSpec.ofChange mergeBandsSpec)

/-- ITS FALSE NEIGHBOUR: 'it returns false'. Refute it at one input. -/
def mergeBandsWrong : ChangeSpec := { name := "mergeBands", fn := fun _ => fun
  | [d1, d2] => { results := [.lit (.bool false)], args := [d1, d2] }
  | _ => none }
def MergeBandsWrongFalsely : Prop := mergeBandsRow.holds Tryz.pinned (OpenSpec.ofChange mergeBandsWrong)

/-- 'yearbooklaw13.WindowBands': WHATEVER THE INPUT: true; the input reads as it did. -/
def windowBandsSpec : ChangeSpec := { name := "windowBands", fn := fun _ => fun
  | [d1, d2] => { results := [.lit (.bool true)], args := [d1, d2] }
  | _ => none }
def windowBandsRow : OpenClaim := { program := "ytbanjolokkghdaagreatdoor", sum := "0379413c8ebde9b12d1fefbdaccaffc763e13385c8e58155670364f7f2e458c6", func := "yearbook/yearbooklaw13.WindowBands", spec := "windowBands", inPlace := ["math/bits.Sub64", "math/bits.Add64"], unfollowed := true, recurses := true, named := ["yearbook/slide.all", "math/bits.divideError", "math/bits.overflowError"], apart := false, laid := [("yearbook/slide.all", laid_yearbook_slide_all)] }
def WindowBandsSaid : Prop := windowBandsRow.holds Tryz.pinned (OpenSpec.ofChange windowBandsSpec)

/-- ITS FALSE NEIGHBOUR: 'it returns false'. Refute it at one input. -/
def windowBandsWrong : ChangeSpec := { name := "windowBands", fn := fun _ => fun
  | [d1, d2] => { results := [.lit (.bool false)], args := [d1, d2] }
  | _ => none }
def WindowBandsWrongFalsely : Prop := windowBandsRow.holds Tryz.pinned (OpenSpec.ofChange windowBandsWrong)

/- THE SECOND FORM. 'bulk': how many values and letters a reading holds, each counted each time it is reached (what is shared counts as often as it is met; a slice's spare places count too). A statement '..UptoSaid' is the law's where the arguments, and the package variables that the reading takes, are together of bulk at most 1048576: NARROWER than '..Said'. Prove '..Said' where nothing that the law and all that it calls make is longer than what came in: it says more and counts as full. Else prove '..UptoSaid'. A law counts once. -/
mutual
def uptoBulk {H : Type} : DataW H → Nat
  | .lit (.string bytes) => bytes.length + 1
  | .lit _ => 1
  | .nil => 1
  | .ptr d => uptoBulk d + 1
  | .slice elems spare => uptoBulkAll elems + uptoBulkAll spare + 1
  | .agg parts => uptoBulkAll parts + 1
  | .iface _ d => uptoBulk d + 1
  | .map entries => uptoBulkEntries entries + 1
  | .held _ => 1
def uptoBulkAll {H : Type} : List (DataW H) → Nat
  | [] => 0
  | d :: r => uptoBulk d + uptoBulkAll r
def uptoBulkEntries {H : Type} : List (Lit × DataW H) → Nat
  | [] => 0
  | x :: r => uptoBulkEntry x + uptoBulkEntries r
def uptoBulkEntry {H : Type} : Lit × DataW H → Nat
  | (.string bytes, d) => bytes.length + uptoBulk d + 1
  | (_, d) => uptoBulk d + 1
 end
def uptoSmall : (H : Type) → List (DataW H) → Bool := fun _ ds => decide (uptoBulkAll ds ≤ 1048576)
def OpenSpec.upto (s : _root_.Go.ChangeSpec) : _root_.Go.OpenSpec := { _root_.Go.OpenSpec.ofChange s with cond := some uptoSmall }

/-- 'yearbooklaw13.WindowSizes', WHERE WHAT IT READS IS OF BULK AT MOST 1048576: true; the input reads as it did. -/
def windowSizesUptoRow : OpenClaim := { program := "ytbanjolokkghdaagreatdoor", sum := "0379413c8ebde9b12d1fefbdaccaffc763e13385c8e58155670364f7f2e458c6", func := "yearbook/yearbooklaw13.WindowSizes", spec := "windowSizes", inPlace := ["math/bits.Sub64", "math/bits.Add64"], unfollowed := true, recurses := true, named := ["yearbook/slide.all", "math/bits.divideError", "math/bits.overflowError"], apart := false, laid := [("yearbook/slide.all", laid_yearbook_slide_all)], narrowed := true }
def WindowSizesUptoSaid : Prop := windowSizesUptoRow.holds Tryz.pinned (OpenSpec.upto windowSizesSpec)

/-- 'yearbooklaw14.MergeBands', WHERE WHAT IT READS IS OF BULK AT MOST 1048576: true; the input reads as it did. -/
def mergeBandsUptoRow : OpenClaim := { program := "ytbanjolokkghdaagreatdoor", sum := "0379413c8ebde9b12d1fefbdaccaffc763e13385c8e58155670364f7f2e458c6", func := "yearbook/yearbooklaw14.MergeBands", spec := "mergeBands", inPlace := ["math/bits.Add64", "math/bits.Sub64"], unfollowed := true, recurses := true, named := ["math/bits.divideError", "math/bits.overflowError", "yearbook/slide.all"], apart := false, laid := [("yearbook/slide.all", laid_yearbook_slide_all)], narrowed := true }
def MergeBandsUptoSaid : Prop := mergeBandsUptoRow.holds Tryz.pinned (OpenSpec.upto mergeBandsSpec)

/-- 'yearbooklaw13.WindowBands', WHERE WHAT IT READS IS OF BULK AT MOST 1048576: true; the input reads as it did. -/
def windowBandsUptoRow : OpenClaim := { program := "ytbanjolokkghdaagreatdoor", sum := "0379413c8ebde9b12d1fefbdaccaffc763e13385c8e58155670364f7f2e458c6", func := "yearbook/yearbooklaw13.WindowBands", spec := "windowBands", inPlace := ["math/bits.Sub64", "math/bits.Add64"], unfollowed := true, recurses := true, named := ["yearbook/slide.all", "math/bits.divideError", "math/bits.overflowError"], apart := false, laid := [("yearbook/slide.all", laid_yearbook_slide_all)], narrowed := true }
def WindowBandsUptoSaid : Prop := windowBandsUptoRow.holds Tryz.pinned (OpenSpec.upto windowBandsSpec)

end Rows
end Go.Proofs.YtbanjolokkghdaaGreatDoor
