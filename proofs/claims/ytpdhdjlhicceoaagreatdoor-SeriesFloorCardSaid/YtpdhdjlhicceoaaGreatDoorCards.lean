/-
  DERIVED. GIVEN WITH THE SEED: THE CARDS: each row of YtpdhdjlhicceoaaGreatDoorRows.lean that lists a variable, with what it lists TIED to the program's text (the seventh form; the later family's looks); each row that meets fmt, with fmt's text TOLD by the authors' own Lean function (tested against real Go, not proved from fmt's source: count such statements apart). THE CARD IS WHAT COUNTS. Prove the row's statement (the work); the ties are given (YtpdhdjlhicceoaaGreatDoorTie.lean); close each card by the builder's one call (the guide's Derived/Test/ToyasCard.lean, 'card_holds'). Laid BY PROGRAM, IN A SANDBOX (cutbox-door.mjs). By AI agents, Wed Nov 11 2026. No macro, syntax, notation, axiom, sorry.
-/
import Derived.Test.YtpdhdjlhicceoaaGreatDoorRows
import GoSem.ClaimSeven
namespace Go.Proofs.YtpdhdjlhicceoaaGreatDoor
namespace Rows

/-- THE TIED CARD OF 'yearbooklaw24.SeriesMakes'. -/
def seriesMakesCard : Claim7 := { stood := { row := seriesMakesRow, standIns := [], harness := (true, "7c7c848ac5cbda52a138227296e77b7487d00f7861d6c77de33a65ced63e23e6"), looks := false }, kinds := [], alts := [], laidByText := true, laidKinds := [.data], laidTests := true, laidLooks := .later }
def SeriesMakesCardSaid : Prop := Claim7.holds Tryz.pinned (.plain (OpenSpec.ofChange seriesMakesSpec)) seriesMakesCard

/-- THE TIED CARD OF 'yearbooklaw24.SeriesTurns'. -/
def seriesTurnsCard : Claim7 := { stood := { row := seriesTurnsRow, standIns := [], harness := (true, "7c7c848ac5cbda52a138227296e77b7487d00f7861d6c77de33a65ced63e23e6"), looks := false }, kinds := [], alts := [], laidByText := true, laidKinds := [.data], laidTests := true, laidLooks := .later }
def SeriesTurnsCardSaid : Prop := Claim7.holds Tryz.pinned (.plain (OpenSpec.ofChange seriesTurnsSpec)) seriesTurnsCard

/-- THE TIED CARD OF 'yearbooklaw24.SeriesHolds'. -/
def seriesHoldsCard : Claim7 := { stood := { row := seriesHoldsRow, standIns := [], harness := (true, "7c7c848ac5cbda52a138227296e77b7487d00f7861d6c77de33a65ced63e23e6"), looks := false }, kinds := [], alts := [], laidByText := true, laidKinds := [.data], laidTests := true, laidLooks := .later }
def SeriesHoldsCardSaid : Prop := Claim7.holds Tryz.pinned (.plain (OpenSpec.ofChange seriesHoldsSpec)) seriesHoldsCard

/-- THE TIED CARD OF 'yearbooklaw24.SeriesExact'. -/
def seriesExactCard : Claim7 := { stood := { row := seriesExactRow, standIns := [], harness := (true, "7c7c848ac5cbda52a138227296e77b7487d00f7861d6c77de33a65ced63e23e6"), looks := false }, kinds := [], alts := [], laidByText := true, laidKinds := [.data], laidTests := true, laidLooks := .later }
def SeriesExactCardSaid : Prop := Claim7.holds Tryz.pinned (.plain (OpenSpec.ofChange seriesExactSpec)) seriesExactCard

/-- THE TIED CARD OF 'yearbooklaw24.SeriesTakes'. -/
def seriesTakesCard : Claim7 := { stood := { row := seriesTakesRow, standIns := [], harness := (true, "7c7c848ac5cbda52a138227296e77b7487d00f7861d6c77de33a65ced63e23e6"), looks := false }, kinds := [], alts := [], laidByText := true, laidKinds := [.data], laidTests := true, laidLooks := .later }
def SeriesTakesCardSaid : Prop := Claim7.holds Tryz.pinned (.plain (OpenSpec.ofChange seriesTakesSpec)) seriesTakesCard

/-- THE TIED CARD OF 'yearbooklaw24.SeriesTells'. -/
def seriesTellsCard : Claim7 := { stood := { row := seriesTellsRow, standIns := [], harness := (true, "7c7c848ac5cbda52a138227296e77b7487d00f7861d6c77de33a65ced63e23e6"), looks := false }, kinds := [], alts := [], laidByText := true, laidKinds := [.data], laidTests := true, laidLooks := .later }
def SeriesTellsCardSaid : Prop := Claim7.holds Tryz.pinned (.plain (OpenSpec.ofChange seriesTellsSpec)) seriesTellsCard

/-- THE TIED CARD OF 'yearbooklaw24.SeriesFewer'. -/
def seriesFewerCard : Claim7 := { stood := { row := seriesFewerRow, standIns := [], harness := (true, "7c7c848ac5cbda52a138227296e77b7487d00f7861d6c77de33a65ced63e23e6"), looks := false }, kinds := [], alts := [], laidByText := true, laidKinds := [.data], laidTests := true, laidLooks := .later }
def SeriesFewerCardSaid : Prop := Claim7.holds Tryz.pinned (.plain (OpenSpec.ofChange seriesFewerSpec)) seriesFewerCard

/-- THE TIED CARD OF 'yearbooklaw24.SeriesFloor'. -/
def seriesFloorCard : Claim7 := { stood := { row := seriesFloorRow, standIns := [], harness := (true, "7c7c848ac5cbda52a138227296e77b7487d00f7861d6c77de33a65ced63e23e6"), looks := false }, kinds := [], alts := [], laidByText := true, laidKinds := [.data], laidTests := true, laidLooks := .later }
def SeriesFloorCardSaid : Prop := Claim7.holds Tryz.pinned (.plain (OpenSpec.ofChange seriesFloorSpec)) seriesFloorCard

/-- THE SECOND FORM's CARD OF 'yearbooklaw24.SeriesMakes'. -/
def seriesMakesUptoCard : Claim7 := { stood := { row := seriesMakesUptoRow, standIns := [], harness := (true, "7c7c848ac5cbda52a138227296e77b7487d00f7861d6c77de33a65ced63e23e6"), looks := false }, kinds := [], alts := [], laidByText := true, laidKinds := [.data], laidTests := true, laidLooks := .later }
def SeriesMakesUptoCardSaid : Prop := Claim7.holds Tryz.pinned (.plain (OpenSpec.upto seriesMakesSpec)) seriesMakesUptoCard

/-- THE SECOND FORM's CARD OF 'yearbooklaw24.SeriesTurns'. -/
def seriesTurnsUptoCard : Claim7 := { stood := { row := seriesTurnsUptoRow, standIns := [], harness := (true, "7c7c848ac5cbda52a138227296e77b7487d00f7861d6c77de33a65ced63e23e6"), looks := false }, kinds := [], alts := [], laidByText := true, laidKinds := [.data], laidTests := true, laidLooks := .later }
def SeriesTurnsUptoCardSaid : Prop := Claim7.holds Tryz.pinned (.plain (OpenSpec.upto seriesTurnsSpec)) seriesTurnsUptoCard

/-- THE SECOND FORM's CARD OF 'yearbooklaw24.SeriesHolds'. -/
def seriesHoldsUptoCard : Claim7 := { stood := { row := seriesHoldsUptoRow, standIns := [], harness := (true, "7c7c848ac5cbda52a138227296e77b7487d00f7861d6c77de33a65ced63e23e6"), looks := false }, kinds := [], alts := [], laidByText := true, laidKinds := [.data], laidTests := true, laidLooks := .later }
def SeriesHoldsUptoCardSaid : Prop := Claim7.holds Tryz.pinned (.plain (OpenSpec.upto seriesHoldsSpec)) seriesHoldsUptoCard

/-- THE SECOND FORM's CARD OF 'yearbooklaw24.SeriesExact'. -/
def seriesExactUptoCard : Claim7 := { stood := { row := seriesExactUptoRow, standIns := [], harness := (true, "7c7c848ac5cbda52a138227296e77b7487d00f7861d6c77de33a65ced63e23e6"), looks := false }, kinds := [], alts := [], laidByText := true, laidKinds := [.data], laidTests := true, laidLooks := .later }
def SeriesExactUptoCardSaid : Prop := Claim7.holds Tryz.pinned (.plain (OpenSpec.upto seriesExactSpec)) seriesExactUptoCard

/-- THE SECOND FORM's CARD OF 'yearbooklaw24.SeriesTakes'. -/
def seriesTakesUptoCard : Claim7 := { stood := { row := seriesTakesUptoRow, standIns := [], harness := (true, "7c7c848ac5cbda52a138227296e77b7487d00f7861d6c77de33a65ced63e23e6"), looks := false }, kinds := [], alts := [], laidByText := true, laidKinds := [.data], laidTests := true, laidLooks := .later }
def SeriesTakesUptoCardSaid : Prop := Claim7.holds Tryz.pinned (.plain (OpenSpec.upto seriesTakesSpec)) seriesTakesUptoCard

/-- THE SECOND FORM's CARD OF 'yearbooklaw24.SeriesTells'. -/
def seriesTellsUptoCard : Claim7 := { stood := { row := seriesTellsUptoRow, standIns := [], harness := (true, "7c7c848ac5cbda52a138227296e77b7487d00f7861d6c77de33a65ced63e23e6"), looks := false }, kinds := [], alts := [], laidByText := true, laidKinds := [.data], laidTests := true, laidLooks := .later }
def SeriesTellsUptoCardSaid : Prop := Claim7.holds Tryz.pinned (.plain (OpenSpec.upto seriesTellsSpec)) seriesTellsUptoCard

/-- THE SECOND FORM's CARD OF 'yearbooklaw24.SeriesFewer'. -/
def seriesFewerUptoCard : Claim7 := { stood := { row := seriesFewerUptoRow, standIns := [], harness := (true, "7c7c848ac5cbda52a138227296e77b7487d00f7861d6c77de33a65ced63e23e6"), looks := false }, kinds := [], alts := [], laidByText := true, laidKinds := [.data], laidTests := true, laidLooks := .later }
def SeriesFewerUptoCardSaid : Prop := Claim7.holds Tryz.pinned (.plain (OpenSpec.upto seriesFewerSpec)) seriesFewerUptoCard

/-- THE SECOND FORM's CARD OF 'yearbooklaw24.SeriesFloor'. -/
def seriesFloorUptoCard : Claim7 := { stood := { row := seriesFloorUptoRow, standIns := [], harness := (true, "7c7c848ac5cbda52a138227296e77b7487d00f7861d6c77de33a65ced63e23e6"), looks := false }, kinds := [], alts := [], laidByText := true, laidKinds := [.data], laidTests := true, laidLooks := .later }
def SeriesFloorUptoCardSaid : Prop := Claim7.holds Tryz.pinned (.plain (OpenSpec.upto seriesFloorSpec)) seriesFloorUptoCard
end Rows
end Go.Proofs.YtpdhdjlhicceoaaGreatDoor
