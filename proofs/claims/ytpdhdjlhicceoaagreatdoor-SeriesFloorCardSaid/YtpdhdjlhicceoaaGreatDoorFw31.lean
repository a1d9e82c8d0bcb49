/- Parts of the proof that follows: SeriesTells, walked. No condition. -/
import Derived.Test.YtpdhdjlhicceoaaGreatDoorFw30
set_option linter.unusedSimpArgs false
set_option linter.unusedVariables false
namespace Go.Proofs.YtpdhdjlhicceoaaGreatDoor
open Go.RowKit
/-- A series of its own, as a drawn step's value. -/
def OSer (s : SerT) : Spec := fun v w => ∃ p q c d, v = .agg (serA s p c q d) ∧ SerO w s p q
theorem OSer.closed (s : SerT) : Closed [] (OSer s) := fun _ _ _ hr ⟨p, q, c, d, e, h⟩ => ⟨p, q, c, d, e, h.rex hr rfl⟩
end Go.Proofs.YtpdhdjlhicceoaaGreatDoor
