/-
  DERIVED. GIVEN WITH THE SEED: THE CARDS: each row of YtbanjolokkghdaaGreatDoorRows.lean that lists a variable, with what it lists TIED to the program's text (the seventh form; the later family's looks); each row that meets fmt, with fmt's text TOLD by the authors' own Lean function (tested against real Go, not proved from fmt's source: count such statements apart). THE CARD IS WHAT COUNTS. Prove the row's statement (the work); the ties are given (YtbanjolokkghdaaGreatDoorTie.lean); close each card by the builder's one call (the guide's Derived/Test/ToyasCard.lean, 'card_holds'). Laid BY PROGRAM, IN A SANDBOX (cutbox-door.mjs). By AI agents, Wed Nov 11 2026. No macro, syntax, notation, axiom, sorry.
-/
import Derived.Test.YtbanjolokkghdaaGreatDoorRows
import GoSem.ClaimSeven
namespace Go.Proofs.YtbanjolokkghdaaGreatDoor
namespace Rows

/-- THE TIED CARD OF 'yearbooklaw13.WindowSizes'. -/
def windowSizesCard : Claim7 := { stood := { row := windowSizesRow, standIns := [], harness := (true, "0db55b66e46933565362f664a0a15d122420bf55e1bfbafe974bb7e39faa17c6"), looks := false }, kinds := [], alts := [], laidByText := true, laidKinds := [.data], laidTests := true, laidLooks := .later }
def WindowSizesCardSaid : Prop := Claim7.holds Tryz.pinned (.plain (OpenSpec.ofChange windowSizesSpec)) windowSizesCard

/-- THE TIED CARD OF 'yearbooklaw14.MergeBands'. -/
def mergeBandsCard : Claim7 := { stood := { row := mergeBandsRow, standIns := [], harness := (true, "0db55b66e46933565362f664a0a15d122420bf55e1bfbafe974bb7e39faa17c6"), looks := false }, kinds := [], alts := [], laidByText := true, laidKinds := [.data], laidTests := true, laidLooks := .later }
def MergeBandsCardSaid : Prop := Claim7.holds Tryz.pinned (.plain (OpenSpec.ofChange mergeBandsSpec)) mergeBandsCard

/-- THE TIED CARD OF 'yearbooklaw13.WindowBands'. -/
def windowBandsCard : Claim7 := { stood := { row := windowBandsRow, standIns := [], harness := (true, "0db55b66e46933565362f664a0a15d122420bf55e1bfbafe974bb7e39faa17c6"), looks := false }, kinds := [], alts := [], laidByText := true, laidKinds := [.data], laidTests := true, laidLooks := .later }
def WindowBandsCardSaid : Prop := Claim7.holds Tryz.pinned (.plain (OpenSpec.ofChange windowBandsSpec)) windowBandsCard

/-- THE SECOND FORM's CARD OF 'yearbooklaw13.WindowSizes'. -/
def windowSizesUptoCard : Claim7 := { stood := { row := windowSizesUptoRow, standIns := [], harness := (true, "0db55b66e46933565362f664a0a15d122420bf55e1bfbafe974bb7e39faa17c6"), looks := false }, kinds := [], alts := [], laidByText := true, laidKinds := [.data], laidTests := true, laidLooks := .later }
def WindowSizesUptoCardSaid : Prop := Claim7.holds Tryz.pinned (.plain (OpenSpec.upto windowSizesSpec)) windowSizesUptoCard

/-- THE SECOND FORM's CARD OF 'yearbooklaw14.MergeBands'. -/
def mergeBandsUptoCard : Claim7 := { stood := { row := mergeBandsUptoRow, standIns := [], harness := (true, "0db55b66e46933565362f664a0a15d122420bf55e1bfbafe974bb7e39faa17c6"), looks := false }, kinds := [], alts := [], laidByText := true, laidKinds := [.data], laidTests := true, laidLooks := .later }
def MergeBandsUptoCardSaid : Prop := Claim7.holds Tryz.pinned (.plain (OpenSpec.upto mergeBandsSpec)) mergeBandsUptoCard

/-- THE SECOND FORM's CARD OF 'yearbooklaw13.WindowBands'. -/
def windowBandsUptoCard : Claim7 := { stood := { row := windowBandsUptoRow, standIns := [], harness := (true, "0db55b66e46933565362f664a0a15d122420bf55e1bfbafe974bb7e39faa17c6"), looks := false }, kinds := [], alts := [], laidByText := true, laidKinds := [.data], laidTests := true, laidLooks := .later }
def WindowBandsUptoCardSaid : Prop := Claim7.holds Tryz.pinned (.plain (OpenSpec.upto windowBandsSpec)) windowBandsUptoCard
end Rows
end Go.Proofs.YtbanjolokkghdaaGreatDoor
