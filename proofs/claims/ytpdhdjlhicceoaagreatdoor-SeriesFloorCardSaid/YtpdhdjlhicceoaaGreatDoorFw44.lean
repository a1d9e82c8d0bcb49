/- For every series that comes in, whatever is in it, and any two floors: SeriesFloor returns true; the arguments read as before. Condition of the row: slide's numbers are laid as the program's text lays them; the card ties that to the text. -/
import Derived.Test.YtpdhdjlhicceoaaGreatDoorCards
import Derived.Test.YtpdhdjlhicceoaaGreatDoorTie
import Derived.SevenTiedAt
import Derived.Test.YtpdhdjlhicceoaaGreatDoorFw43
set_option linter.unusedSimpArgs false
set_option linter.unusedVariables false
namespace Go.Proofs.YtpdhdjlhicceoaaGreatDoor
open Go.RowKit
set_option maxRecDepth 1000000
noncomputable def wk24O : Orc := orcT (mkT tabs24) (orcR Tryz.prog 137)
theorem wk24O_ok : OrcOk Tryz.prog wk24O := orc_mkT orc_rises (by kernel_rfl) (by kernel_rfl) tabs24_ok
noncomputable def wk24c : Code := match Tryz.f11.body with | some c => c | none => .skip
def wk24v1 : List Value := [.bool false, .pointer (some ⟨5, 0, none⟩), .int .i64 0, .int .i64 0, .pointer (some ⟨80, 0, none⟩), .int .i64 342, .tuple #[], .tuple #[], .tuple #[], .tuple #[], .tuple #[], .tuple #[], .tuple #[], .tuple #[], .tuple #[], .tuple #[], .tuple #[.agg #[.string ⟨#[97]⟩, .int .i64 1, .int .i64 0, .int .i64 (-1), .int .i64 0, .slice none 0 0, .slice none 0 0], .int .i64 0], .tuple #[.agg #[.string ⟨#[97]⟩, .int .i64 1, .int .i64 0, .int .i64 (-1), .int .i64 0, .slice none 0 0, .slice none 0 0], .int .i64 0], .agg #[.string ⟨#[97]⟩, .int .i64 1, .int .i64 0, .int .i64 (-1), .int .i64 0, .slice none 0 0, .slice none 0 0], .int .i64 0, .tuple #[.agg #[.string ⟨#[97]⟩, .int .i64 1, .int .i64 0, .int .i64 2, .int .i64 0, .slice (some ⟨26, 0, none⟩) 0 0, .slice (some ⟨47, 0, some 0⟩) 3 3], .int .i64 0], .agg #[.string ⟨#[97]⟩, .int .i64 1, .int .i64 0, .int .i64 (-1), .int .i64 0, .slice none 0 0, .slice none 0 0], .agg #[.int .i64 0, .int .i64 5], .agg #[.int .i64 1, .int .i64 6], .agg #[.int .i64 2, .int .i64 9], .slice (some ⟨6, 0, none⟩) 3 3, .tuple #[.agg #[.string ⟨#[97]⟩, .int .i64 1, .int .i64 0, .int .i64 2, .int .i64 0, .slice (some ⟨26, 0, none⟩) 0 0, .slice (some ⟨47, 0, some 0⟩) 3 3], .int .i64 0], .agg #[.string ⟨#[97]⟩, .int .i64 1, .int .i64 0, .int .i64 2, .int .i64 0, .slice (some ⟨26, 0, none⟩) 0 0, .slice (some ⟨47, 0, some 0⟩) 3 3], .int .i64 0, .tuple #[.agg #[.string ⟨#[]⟩, .int .i64 0, .int .i64 0, .int .i64 0, .int .i64 0, .slice none 0 0, .slice none 0 0], .int .i64 342], .agg #[.string ⟨#[97]⟩, .int .i64 1, .int .i64 0, .int .i64 2, .int .i64 0, .slice (some ⟨26, 0, none⟩) 0 0, .slice (some ⟨47, 0, some 0⟩) 3 3], .agg #[.int .i64 2, .int .i64 7], .slice (some ⟨48, 0, none⟩) 1 1, .tuple #[.agg #[.string ⟨#[]⟩, .int .i64 0, .int .i64 0, .int .i64 0, .int .i64 0, .slice none 0 0, .slice none 0 0], .int .i64 342], .agg #[.string ⟨#[]⟩, .int .i64 0, .int .i64 0, .int .i64 0, .int .i64 0, .slice none 0 0, .slice none 0 0], .int .i64 342, .tuple #[], .tuple #[], .tuple #[], .tuple #[], .tuple #[], .tuple #[], .tuple #[], .tuple #[], .tuple #[], .tuple #[], .tuple #[], .tuple #[], .tuple #[], .tuple #[], .tuple #[], .tuple #[], .tuple #[], .tuple #[], .tuple #[], .tuple #[], .tuple #[], .tuple #[], .tuple #[], .tuple #[], .tuple #[], .tuple #[], .tuple #[], .tuple #[], .tuple #[], .tuple #[], .tuple #[], .tuple #[], .tuple #[], .tuple #[], .tuple #[], .tuple #[], .tuple #[], .tuple #[], .tuple #[], .tuple #[], .tuple #[], .tuple #[], .tuple #[], .tuple #[], .tuple #[], .tuple #[], .tuple #[], .tuple #[], .tuple #[], .tuple #[], .tuple #[], .tuple #[], .tuple #[], .tuple #[], .tuple #[], .tuple #[], .tuple #[], .tuple #[], .tuple #[], .tuple #[], .tuple #[], .tuple #[], .tuple #[], .tuple #[], .tuple #[], .tuple #[], .tuple #[], .tuple #[], .tuple #[], .tuple #[], .tuple #[], .tuple #[], .tuple #[], .tuple #[], .tuple #[], .tuple #[], .tuple #[], .tuple #[], .tuple #[], .tuple #[], .tuple #[], .tuple #[], .tuple #[], .tuple #[], .tuple #[], .tuple #[], .tuple #[], .tuple #[], .tuple #[], .tuple #[], .tuple #[], .tuple #[], .tuple #[], .tuple #[], .tuple #[], .tuple #[], .tuple #[], .tuple #[], .tuple #[], .tuple #[], .tuple #[], .tuple #[], .tuple #[], .tuple #[], .tuple #[], .tuple #[], .tuple #[], .tuple #[], .tuple #[]]
def wk24m1 : Mem := [(5, [.string ⟨#[97]⟩, .int .i64 1, .int .i64 0, .int .i64 2, .int .i64 0, .slice (some ⟨26, 0, none⟩) 0 0, .slice (some ⟨47, 0, some 0⟩) 3 3], 26, false), (26, [], 49, false), (47, [.int .i64 0, .int .i64 5, .int .i64 1, .int .i64 6, .int .i64 2, .int .i64 9], 53, true), (80, [.string ⟨#[]⟩, .int .i64 0, .int .i64 0, .int .i64 0, .int .i64 0, .slice none 0 0, .slice none 0 0], 26, false), (6, [.int .i64 0, .int .i64 5, .int .i64 1, .int .i64 6, .int .i64 2, .int .i64 9], 53, false), (48, [.int .i64 2, .int .i64 7], 53, false)]
def wk24v2 : List Value := [.bool false, .pointer (some ⟨5, 0, none⟩), .int .i64 0, .int .i64 0, .pointer (some ⟨80, 0, none⟩), .int .i64 342, .pointer (some ⟨1301, 0, none⟩), .int .i64 0, .tuple #[], .tuple #[], .tuple #[], .tuple #[], .tuple #[], .tuple #[], .tuple #[], .tuple #[], .tuple #[.agg #[.string ⟨#[97]⟩, .int .i64 1, .int .i64 0, .int .i64 (-1), .int .i64 0, .slice none 0 0, .slice none 0 0], .int .i64 0], .tuple #[.agg #[.string ⟨#[97]⟩, .int .i64 1, .int .i64 0, .int .i64 (-1), .int .i64 0, .slice none 0 0, .slice none 0 0], .int .i64 0], .agg #[.string ⟨#[97]⟩, .int .i64 1, .int .i64 0, .int .i64 (-1), .int .i64 0, .slice none 0 0, .slice none 0 0], .int .i64 0, .tuple #[.agg #[.string ⟨#[97]⟩, .int .i64 1, .int .i64 0, .int .i64 2, .int .i64 0, .slice (some ⟨26, 0, none⟩) 0 0, .slice (some ⟨47, 0, some 0⟩) 3 3], .int .i64 0], .agg #[.string ⟨#[97]⟩, .int .i64 1, .int .i64 0, .int .i64 (-1), .int .i64 0, .slice none 0 0, .slice none 0 0], .agg #[.int .i64 0, .int .i64 5], .agg #[.int .i64 1, .int .i64 6], .agg #[.int .i64 2, .int .i64 9], .slice (some ⟨6, 0, none⟩) 3 3, .tuple #[.agg #[.string ⟨#[97]⟩, .int .i64 1, .int .i64 0, .int .i64 2, .int .i64 0, .slice (some ⟨26, 0, none⟩) 0 0, .slice (some ⟨47, 0, some 0⟩) 3 3], .int .i64 0], .agg #[.string ⟨#[97]⟩, .int .i64 1, .int .i64 0, .int .i64 2, .int .i64 0, .slice (some ⟨26, 0, none⟩) 0 0, .slice (some ⟨47, 0, some 0⟩) 3 3], .int .i64 0, .tuple #[.agg #[.string ⟨#[]⟩, .int .i64 0, .int .i64 0, .int .i64 0, .int .i64 0, .slice none 0 0, .slice none 0 0], .int .i64 342], .agg #[.string ⟨#[97]⟩, .int .i64 1, .int .i64 0, .int .i64 2, .int .i64 0, .slice (some ⟨26, 0, none⟩) 0 0, .slice (some ⟨47, 0, some 0⟩) 3 3], .agg #[.int .i64 2, .int .i64 7], .slice (some ⟨48, 0, none⟩) 1 1, .tuple #[.agg #[.string ⟨#[]⟩, .int .i64 0, .int .i64 0, .int .i64 0, .int .i64 0, .slice none 0 0, .slice none 0 0], .int .i64 342], .agg #[.string ⟨#[]⟩, .int .i64 0, .int .i64 0, .int .i64 0, .int .i64 0, .slice none 0 0, .slice none 0 0], .int .i64 342, .tuple #[.agg #[.string ⟨#[97]⟩, .int .i64 1, .int .i64 0, .int .i64 2, .int .i64 0, .slice (some ⟨1300, 0, some 0⟩) 1 1, .slice none 0 0], .int .i64 0], .agg #[.string ⟨#[97]⟩, .int .i64 1, .int .i64 0, .int .i64 2, .int .i64 0, .slice (some ⟨26, 0, none⟩) 0 0, .slice (some ⟨47, 0, some 0⟩) 3 3], .tuple #[.agg #[.string ⟨#[97]⟩, .int .i64 1, .int .i64 0, .int .i64 2, .int .i64 0, .slice (some ⟨1300, 0, some 0⟩) 1 1, .slice none 0 0], .int .i64 0], .agg #[.string ⟨#[97]⟩, .int .i64 1, .int .i64 0, .int .i64 2, .int .i64 0, .slice (some ⟨1300, 0, some 0⟩) 1 1, .slice none 0 0], .int .i64 0, .tuple #[], .tuple #[], .tuple #[], .tuple #[], .tuple #[], .tuple #[], .tuple #[], .tuple #[], .tuple #[], .tuple #[], .tuple #[], .tuple #[], .tuple #[], .tuple #[], .tuple #[], .tuple #[], .tuple #[], .tuple #[], .tuple #[], .tuple #[], .tuple #[], .tuple #[], .tuple #[], .tuple #[], .tuple #[], .tuple #[], .tuple #[], .tuple #[], .tuple #[], .tuple #[], .tuple #[], .tuple #[], .tuple #[], .tuple #[], .tuple #[], .tuple #[], .tuple #[], .tuple #[], .tuple #[], .tuple #[], .tuple #[], .tuple #[], .tuple #[], .tuple #[], .tuple #[], .tuple #[], .tuple #[], .tuple #[], .tuple #[], .tuple #[], .tuple #[], .tuple #[], .tuple #[], .tuple #[], .tuple #[], .tuple #[], .tuple #[], .tuple #[], .tuple #[], .tuple #[], .tuple #[], .tuple #[], .tuple #[], .tuple #[], .tuple #[], .tuple #[], .tuple #[], .tuple #[], .tuple #[], .tuple #[], .tuple #[], .tuple #[], .tuple #[], .tuple #[], .tuple #[], .tuple #[], .tuple #[], .tuple #[], .tuple #[], .tuple #[], .tuple #[], .tuple #[], .tuple #[], .tuple #[], .tuple #[], .tuple #[], .tuple #[], .tuple #[], .tuple #[], .tuple #[], .tuple #[], .tuple #[], .tuple #[], .tuple #[], .tuple #[], .tuple #[], .tuple #[], .tuple #[], .tuple #[], .tuple #[], .tuple #[], .tuple #[], .tuple #[], .tuple #[]]
def wk24m2 : Mem := [(5, [.string ⟨#[97]⟩, .int .i64 1, .int .i64 0, .int .i64 2, .int .i64 0, .slice (some ⟨26, 0, none⟩) 0 0, .slice (some ⟨47, 0, some 0⟩) 3 3], 26, false), (26, [], 49, false), (47, [.int .i64 0, .int .i64 5, .int .i64 1, .int .i64 6, .int .i64 2, .int .i64 9], 53, true), (80, [.string ⟨#[]⟩, .int .i64 0, .int .i64 0, .int .i64 0, .int .i64 0, .slice none 0 0, .slice none 0 0], 26, false), (1301, [.string ⟨#[97]⟩, .int .i64 1, .int .i64 0, .int .i64 2, .int .i64 0, .slice (some ⟨1300, 0, some 0⟩) 1 1, .slice none 0 0], 26, false), (1300, [.int .i64 2, .slice (some ⟨721, 0, some 0⟩) 1 1, .int .i64 5, .int .i64 0, .int .i64 3, .int .i64 2, .slice none 0 0, .int .i64 1], 49, true), (721, [.int .i64 0, .int .i64 1, .int .i64 3], 69, true), (6, [.int .i64 0, .int .i64 5, .int .i64 1, .int .i64 6, .int .i64 2, .int .i64 9], 53, false), (48, [.int .i64 2, .int .i64 7], 53, false)]
def wk24v3 : List Value := [.bool false, .pointer (some ⟨5, 0, none⟩), .int .i64 0, .int .i64 0, .pointer (some ⟨80, 0, none⟩), .int .i64 342, .pointer (some ⟨1301, 0, none⟩), .int .i64 0, .pointer (some ⟨1390, 0, none⟩), .int .i64 0, .pointer (some ⟨1460, 0, none⟩), .int .i64 0, .tuple #[], .tuple #[], .tuple #[], .tuple #[], .tuple #[.agg #[.string ⟨#[97]⟩, .int .i64 1, .int .i64 0, .int .i64 (-1), .int .i64 0, .slice none 0 0, .slice none 0 0], .int .i64 0], .tuple #[.agg #[.string ⟨#[97]⟩, .int .i64 1, .int .i64 0, .int .i64 (-1), .int .i64 0, .slice none 0 0, .slice none 0 0], .int .i64 0], .agg #[.string ⟨#[97]⟩, .int .i64 1, .int .i64 0, .int .i64 (-1), .int .i64 0, .slice none 0 0, .slice none 0 0], .int .i64 0, .tuple #[.agg #[.string ⟨#[97]⟩, .int .i64 1, .int .i64 0, .int .i64 2, .int .i64 0, .slice (some ⟨26, 0, none⟩) 0 0, .slice (some ⟨47, 0, some 0⟩) 3 3], .int .i64 0], .agg #[.string ⟨#[97]⟩, .int .i64 1, .int .i64 0, .int .i64 (-1), .int .i64 0, .slice none 0 0, .slice none 0 0], .agg #[.int .i64 0, .int .i64 5], .agg #[.int .i64 1, .int .i64 6], .agg #[.int .i64 2, .int .i64 9], .slice (some ⟨6, 0, none⟩) 3 3, .tuple #[.agg #[.string ⟨#[97]⟩, .int .i64 1, .int .i64 0, .int .i64 2, .int .i64 0, .slice (some ⟨26, 0, none⟩) 0 0, .slice (some ⟨47, 0, some 0⟩) 3 3], .int .i64 0], .agg #[.string ⟨#[97]⟩, .int .i64 1, .int .i64 0, .int .i64 2, .int .i64 0, .slice (some ⟨26, 0, none⟩) 0 0, .slice (some ⟨47, 0, some 0⟩) 3 3], .int .i64 0, .tuple #[.agg #[.string ⟨#[]⟩, .int .i64 0, .int .i64 0, .int .i64 0, .int .i64 0, .slice none 0 0, .slice none 0 0], .int .i64 342], .agg #[.string ⟨#[97]⟩, .int .i64 1, .int .i64 0, .int .i64 2, .int .i64 0, .slice (some ⟨26, 0, none⟩) 0 0, .slice (some ⟨47, 0, some 0⟩) 3 3], .agg #[.int .i64 2, .int .i64 7], .slice (some ⟨48, 0, none⟩) 1 1, .tuple #[.agg #[.string ⟨#[]⟩, .int .i64 0, .int .i64 0, .int .i64 0, .int .i64 0, .slice none 0 0, .slice none 0 0], .int .i64 342], .agg #[.string ⟨#[]⟩, .int .i64 0, .int .i64 0, .int .i64 0, .int .i64 0, .slice none 0 0, .slice none 0 0], .int .i64 342, .tuple #[.agg #[.string ⟨#[97]⟩, .int .i64 1, .int .i64 0, .int .i64 2, .int .i64 0, .slice (some ⟨1300, 0, some 0⟩) 1 1, .slice none 0 0], .int .i64 0], .agg #[.string ⟨#[97]⟩, .int .i64 1, .int .i64 0, .int .i64 2, .int .i64 0, .slice (some ⟨26, 0, none⟩) 0 0, .slice (some ⟨47, 0, some 0⟩) 3 3], .tuple #[.agg #[.string ⟨#[97]⟩, .int .i64 1, .int .i64 0, .int .i64 2, .int .i64 0, .slice (some ⟨1300, 0, some 0⟩) 1 1, .slice none 0 0], .int .i64 0], .agg #[.string ⟨#[97]⟩, .int .i64 1, .int .i64 0, .int .i64 2, .int .i64 0, .slice (some ⟨1300, 0, some 0⟩) 1 1, .slice none 0 0], .int .i64 0, .tuple #[.agg #[.string ⟨#[97]⟩, .int .i64 1, .int .i64 0, .int .i64 2, .int .i64 0, .slice (some ⟨1389, 0, some 0⟩) 1 1, .slice (some ⟨1362, 0, none⟩) 0 0], .int .i64 0], .agg #[.string ⟨#[97]⟩, .int .i64 1, .int .i64 0, .int .i64 2, .int .i64 0, .slice (some ⟨1300, 0, some 0⟩) 1 1, .slice none 0 0], .tuple #[.agg #[.string ⟨#[97]⟩, .int .i64 1, .int .i64 0, .int .i64 2, .int .i64 0, .slice (some ⟨1389, 0, some 0⟩) 1 1, .slice (some ⟨1362, 0, none⟩) 0 0], .int .i64 0], .agg #[.string ⟨#[97]⟩, .int .i64 1, .int .i64 0, .int .i64 2, .int .i64 0, .slice (some ⟨1389, 0, some 0⟩) 1 1, .slice (some ⟨1362, 0, none⟩) 0 0], .int .i64 0, .tuple #[.agg #[.string ⟨#[97]⟩, .int .i64 1, .int .i64 1, .int .i64 2, .int .i64 0, .slice (some ⟨1451, 0, none⟩) 1 1, .slice (some ⟨1452, 0, none⟩) 0 0], .int .i64 0], .agg #[.string ⟨#[97]⟩, .int .i64 1, .int .i64 0, .int .i64 2, .int .i64 0, .slice (some ⟨1389, 0, some 0⟩) 1 1, .slice (some ⟨1362, 0, none⟩) 0 0], .tuple #[.agg #[.string ⟨#[97]⟩, .int .i64 1, .int .i64 1, .int .i64 2, .int .i64 0, .slice (some ⟨1451, 0, none⟩) 1 1, .slice (some ⟨1452, 0, none⟩) 0 0], .int .i64 0], .agg #[.string ⟨#[97]⟩, .int .i64 1, .int .i64 1, .int .i64 2, .int .i64 0, .slice (some ⟨1451, 0, none⟩) 1 1, .slice (some ⟨1452, 0, none⟩) 0 0], .int .i64 0, .tuple #[], .tuple #[], .tuple #[], .tuple #[], .tuple #[], .tuple #[], .tuple #[], .tuple #[], .tuple #[], .tuple #[], .tuple #[], .tuple #[], .tuple #[], .tuple #[], .tuple #[], .tuple #[], .tuple #[], .tuple #[], .tuple #[], .tuple #[], .tuple #[], .tuple #[], .tuple #[], .tuple #[], .tuple #[], .tuple #[], .tuple #[], .tuple #[], .tuple #[], .tuple #[], .tuple #[], .tuple #[], .tuple #[], .tuple #[], .tuple #[], .tuple #[], .tuple #[], .tuple #[], .tuple #[], .tuple #[], .tuple #[], .tuple #[], .tuple #[], .tuple #[], .tuple #[], .tuple #[], .tuple #[], .tuple #[], .tuple #[], .tuple #[], .tuple #[], .tuple #[], .tuple #[], .tuple #[], .tuple #[], .tuple #[], .tuple #[], .tuple #[], .tuple #[], .tuple #[], .tuple #[], .tuple #[], .tuple #[], .tuple #[], .tuple #[], .tuple #[], .tuple #[], .tuple #[], .tuple #[], .tuple #[], .tuple #[], .tuple #[], .tuple #[], .tuple #[], .tuple #[], .tuple #[], .tuple #[], .tuple #[], .tuple #[], .tuple #[], .tuple #[], .tuple #[], .tuple #[], .tuple #[], .tuple #[], .tuple #[], .tuple #[], .tuple #[], .tuple #[], .tuple #[], .tuple #[], .tuple #[], .tuple #[], .tuple #[]]
def wk24m3 : Mem := [(5, [.string ⟨#[97]⟩, .int .i64 1, .int .i64 0, .int .i64 2, .int .i64 0, .slice (some ⟨26, 0, none⟩) 0 0, .slice (some ⟨47, 0, some 0⟩) 3 3], 26, false), (26, [], 49, false), (47, [.int .i64 0, .int .i64 5, .int .i64 1, .int .i64 6, .int .i64 2, .int .i64 9], 53, true), (80, [.string ⟨#[]⟩, .int .i64 0, .int .i64 0, .int .i64 0, .int .i64 0, .slice none 0 0, .slice none 0 0], 26, false), (1301, [.string ⟨#[97]⟩, .int .i64 1, .int .i64 0, .int .i64 2, .int .i64 0, .slice (some ⟨1300, 0, some 0⟩) 1 1, .slice none 0 0], 26, false), (1300, [.int .i64 2, .slice (some ⟨721, 0, some 0⟩) 1 1, .int .i64 5, .int .i64 0, .int .i64 3, .int .i64 2, .slice none 0 0, .int .i64 1], 49, true), (721, [.int .i64 0, .int .i64 1, .int .i64 3], 69, true), (1390, [.string ⟨#[97]⟩, .int .i64 1, .int .i64 0, .int .i64 2, .int .i64 0, .slice (some ⟨1389, 0, some 0⟩) 1 1, .slice (some ⟨1362, 0, none⟩) 0 0], 26, false), (1389, [.int .i64 2, .slice (some ⟨1387, 0, some 0⟩) 1 1, .int .i64 5, .int .i64 0, .int .i64 3, .int .i64 2, .slice none 0 0, .int .i64 1], 49, true), (1387, [.int .i64 0, .int .i64 1, .int .i64 3], 69, true), (1362, [], 53, false), (1460, [.string ⟨#[97]⟩, .int .i64 1, .int .i64 1, .int .i64 2, .int .i64 0, .slice (some ⟨1451, 0, none⟩) 1 1, .slice (some ⟨1452, 0, none⟩) 0 0], 26, false), (1451, [.int .i64 2, .slice (some ⟨1455, 0, some 0⟩) 1 1, .int .i64 5, .int .i64 0, .int .i64 3, .int .i64 2, .slice none 0 0, .int .i64 1], 49, false), (1455, [.int .i64 0, .int .i64 1, .int .i64 3], 69, true), (1452, [], 53, false), (6, [.int .i64 0, .int .i64 5, .int .i64 1, .int .i64 6, .int .i64 2, .int .i64 9], 53, false), (48, [.int .i64 2, .int .i64 7], 53, false)]
theorem wk24_1 (t : TypeId) : pieceB Tryz.prog wk24O (hdC 4 wk24c) ⟨.nil, Tryz.f11.ntmps, [], none⟩ (sDoor t) wk24v1 wk24m1 81 = true := by kernel_rfl
theorem wk24_2 (t : TypeId) : pieceB Tryz.prog wk24O (hdC 1 (tlC 4 wk24c)) (frX wk24v1) (stX (.cells doorV t false) wk24m1 81) wk24v2 wk24m2 1302 = true := by kernel_rfl
theorem wk24_3 (t : TypeId) : pieceB Tryz.prog wk24O (hdC 2 (tlC 1 (tlC 4 wk24c))) (frX wk24v2) (stX (.cells doorV t false) wk24m2 1302) wk24v3 wk24m3 1461 = true := by kernel_rfl
theorem wk24_last (t : TypeId) : lastX Tryz.prog wk24O Tryz.f11 (tlC 2 (tlC 1 (tlC 4 wk24c))) (frX wk24v3) (stX (.cells doorV t false) wk24m3 1461) = true := by kernel_rfl
theorem wk24_goes (t : TypeId) : GoesT Tryz.prog (.cells doorV t false) Tryz.f11 wk24c ⟨.nil, Tryz.f11.ntmps, [], none⟩ (sDoor t) :=
  goes_cut wk24O_ok (by kernel_rfl) 4 rfl (wk24_1 t) (by kernel_rfl) (goes_cut wk24O_ok (by kernel_rfl) 1 rfl (wk24_2 t) (by kernel_rfl) (goes_cut wk24O_ok (by kernel_rfl) 2 rfl (wk24_3 t) (by kernel_rfl) (goes_last wk24O_ok (by kernel_rfl) rfl (wk24_last t))))
theorem wk24_w {w W : World} (h : laidMetH Tryz.prog laidL w) (hb : Below w.heap.size w W) : Calls Tryz.prog 11 #[] W fun e w' => e = .returned (.bool true) ∧ Below W.heap.size W w' := by
  obtain ⟨t, ht⟩ := door_cells h
  exact goes_call Tryz.func11 (c := wk24c) (by kernel_rfl) (by kernel_rfl) (wk24_goes t) (door_inv ((hb.block 0 (Array.getElem?_eq_some_iff.1 ht).1).trans ht))
end Go.Proofs.YtpdhdjlhicceoaaGreatDoor
namespace Go.Proofs.YtpdhdjlhicceoaaGreatDoor
open Go.ChangeShapes Go.WideShapes Go.ChangeAt Go.RowKit Go.Deep
section
variable {H : Type} {enc : TypeId × Value → H} {w : World} {base : Nat} {spare : Nat → Bool} {held : Bool}
theorem Tryz.fieldsSer : fieldsOf Tryz.prog 26 = #[(9, 0), (2, 1), (2, 2), (2, 3), (3, 4), (23, 5), (24, 6)] := by kernel_rfl
theorem Tryz.fieldsPoint : fieldsOf Tryz.prog 53 = #[(2, 0), (2, 1)] := by kernel_rfl
set_option maxRecDepth 100000 in
theorem open_seg_trod {fuel : Nat} {cs : List Value} {x : DataW H × List MemPlace} (hf : DataW.trod enc Tryz.prog w base spare held fuel 49 cs = some x) :
    ∃ r : SegR, cs = (segRA r).toList ∧ Came w r.s r.p r.q r.cap r.vc := by
  have hC : Tryz.prog.cellsOf 49 = 8 := by kernel_rfl
  have hR : Tryz.prog.cellsOf 44 = 1 := by kernel_rfl
  have hV : Tryz.prog.cellsOf 47 = 1 := by kernel_rfl
  have hL : Tryz.prog.cellsOf 46 = 4 := by kernel_rfl
  obtain ⟨hsz, hat⟩ := open_struct Tryz.fieldsSeg (by simp) hf
  rw [hC] at hsz
  match cs, hsz with
  | [c0, c1, c2, c3, c4, c5, c6, c7], _ =>
    obtain ⟨n0, y0, h0⟩ := hat 0 _ _ rfl
    obtain ⟨n1, y1, h1⟩ := hat 1 _ _ rfl
    obtain ⟨n2, y2, h2⟩ := hat 2 _ _ rfl
    obtain ⟨n3, y3, h3⟩ := hat 3 _ _ rfl
    obtain ⟨n4, y4, h4⟩ := hat 4 _ _ rfl
    rw [Tryz.isInt.2] at h0
    rw [hR] at h1
    rw [hL] at h2
    rw [hV] at h3
    rw [Tryz.isInt64.2] at h4
    obtain ⟨K, eK, _, wK⟩ := DataW.trod_int Tryz.isInt.1 h0
    obtain ⟨p, l, cap, e1, r1, r2, r3, r4, r5⟩ := open_run_list h1
    obtain ⟨_, hln⟩ := open_ints_struct Tryz.fieldsLine (by simp) (by rw [hL]; rfl) (fun i hi => by
      match i, hi with
      | 0, _ => exact ⟨_, rfl, Tryz.isInt64⟩
      | 1, _ => exact ⟨_, rfl, Tryz.isInt64⟩
      | 2, _ => exact ⟨_, rfl, Tryz.isInt64⟩
      | 3, _ => exact ⟨_, rfl, Tryz.isInt64⟩) h2
    obtain ⟨A, a1, a2⟩ := hln 0 (by simp)
    obtain ⟨R, b1, b2⟩ := hln 1 (by simp)
    obtain ⟨N, g1, g2⟩ := hln 2 (by simp)
    obtain ⟨D, d1, d2⟩ := hln 3 (by simp)
    obtain ⟨q, v, vc, e3, q1, q2, q3, q4, q5⟩ := open_nums (by kernel_rfl) Tryz.isInt64.1 Tryz.isInt64.2 h3
    obtain ⟨E, eE, _, wE⟩ := DataW.trod_int Tryz.isInt64.1 h4
    simp at eK e1 a1 b1 g1 d1 e3 eE
    subst eK; subst e1; subst a1; subst b1; subst g1; subst d1; subst e3; subst eE
    unfold maxLen at r3 q3
    exact ⟨⟨⟨K, l, A, R, N, D, v, E⟩, p, q, cap, vc⟩, rfl, ⟨r4, q4, r1, q1, r2, q2, by show l.length ≤ _; omega, by show v.length ≤ _; omega⟩⟩
set_option maxRecDepth 100000 in
theorem open_segs {fuel : Nat} {cs : List Value} {x : DataW H × List MemPlace} (h : DataW.trod enc Tryz.prog w base spare held fuel 23 cs = some x) :
    ∃ (p : Option Addr) (rows : List SegR) (cap : Nat), cs = [.slice p rows.length cap] ∧ (p = none → rows.length = 0 ∧ cap = 0) ∧ rows.length ≤ cap ∧ SegsCame w p rows := by
  have hC : Tryz.prog.cellsOf 49 = 8 := by kernel_rfl
  rcases open_slice (e := 49) (by kernel_rfl) h with ⟨rfl, rfl⟩ | ⟨a, len, cap, m, k, D, Pl, rfl, hb, hl, hm, hmm, hx, hi⟩
  · exact ⟨none, [], 0, rfl, fun _ => ⟨rfl, rfl⟩, Nat.le_refl _, fun i r hr => by simp at hr⟩
  · have hlm : len ≤ m := by rw [hmm]; split <;> omega
    have hs : 0 < len → a = ⟨a.block, a.off, none⟩ := fun h0 => by
      obtain ⟨cs', hc, ht'⟩ := hi 0 (by omega)
      rw [hC] at hc
      obtain ⟨_, hcl, hat⟩ := World.cells?_some hc
      have h1 := hat 0 (by omega)
      rw [List.getElem?_eq_getElem (by omega)] at h1
      simp [Addr.add] at h1
      exact spot_none h1
    obtain ⟨rows, rfl, hq⟩ := list_of (Q := fun i (r : SegR) => (∃ b o, a = ⟨b, o, none⟩ ∧ (∀ j v, (segRA r)[j]? = some v → w.cell? ⟨b, o + i * 8 + j, none⟩ = some v)) ∧ Came w r.s r.p r.q r.cap r.vc) len (fun i hilt => by
      obtain ⟨cs', hc, ht'⟩ := hi i (by omega)
      rw [hC] at hc
      obtain ⟨_, hcl, hat⟩ := World.cells?_some hc
      obtain ⟨r, rfl, hcm⟩ := open_seg_trod ht'
      refine ⟨r, ⟨a.block, a.off, hs (by omega), fun j v hv => ?_⟩, hcm⟩
      have hj : j < 8 := by have := (Array.getElem?_eq_some_iff.1 hv).1; rw [show (segRA r).size = 8 from rfl] at this; exact this
      have h1 := hat j hj
      rw [add_add, hs (by omega), add_at, Array.getElem?_toList, hv] at h1
      rw [Nat.add_assoc]
      exact h1)
    exact ⟨some a, rows, cap, rfl, (fun e => by cases e), hl, fun i r hr => by
      obtain ⟨⟨b, o, e, h1⟩, h2⟩ := hq i r hr
      exact ⟨b, o, by rw [e], h1, h2⟩⟩
theorem open_pts {fuel : Nat} {cs : List Value} {x : DataW H × List MemPlace} (h : DataW.trod enc Tryz.prog w base spare held fuel 24 cs = some x) :
    ∃ (p : Option Addr) (l : List (Int × Int)) (cap : Nat), cs = [.slice p l.length cap] ∧ (p = none → l.length = 0 ∧ cap = 0) ∧ l.length ≤ cap ∧ PtsIn w p l := by
  obtain ⟨p, len, cap, rfl, hn, hl, hm, hi⟩ := open_rows (n := 2) (by kernel_rfl) Tryz.fieldsPoint rfl (by omega) (by kernel_rfl) (fun i hi => by
    match i, hi with
    | 0, _ => exact ⟨_, rfl, Tryz.isInt64⟩
    | 1, _ => exact ⟨_, rfl, Tryz.isInt64⟩) h
  obtain ⟨l, rfl, hq⟩ := list_of (Q := fun i (r : Int × Int) => ∃ b o, p = some ⟨b, o, none⟩ ∧ w.cell? ⟨b, o + i * 2, none⟩ = some (.int .i64 r.1) ∧ w.cell? ⟨b, o + i * 2 + 1, none⟩ = some (.int .i64 r.2)) len (fun i hilt => by
    obtain ⟨b, o, e, hj⟩ := hi i hilt
    obtain ⟨f, f1, f2⟩ := hj 0 (by omega)
    obtain ⟨s, s1, s2⟩ := hj 1 (by omega)
    exact ⟨(f, s), b, o, e, by simpa using f1, s1⟩)
  exact ⟨p, l, cap, rfl, hn, hl, ⟨fun i r hr => hq i r hr⟩⟩
set_option maxRecDepth 100000 in
/-- A series that came in. -/
theorem open_ser {r : Reach} {b0 : Nat} {v : Value} {d : DataW H} {ps : List MemPlace} (hv : Value.okWide Tryz.prog w r b0 26 v) (h : DataW.Trod enc Tryz.prog w base spare held 26 v d ps) :
    ∃ nm ep fl la sc p cs rows q co pts, v = .agg #[.string nm, .int .i64 ep, .int .i64 fl, .int .i64 la, .int .i64 sc, .slice p rows.length cs, .slice q pts.length co] ∧ SerCame w p q cs co rows pts := by
  obtain ⟨fs, hfs⟩ : ∃ fs, Tryz.prog.underlying 26 = some (.struct fs) := struct_of Tryz.fieldsSer (by simp)
  obtain ⟨cs, rfl, hsz⟩ := okWide_struct hfs hv
  have hC : Tryz.prog.cellsOf 26 = 7 := by kernel_rfl
  have hR : Tryz.prog.cellsOf 23 = 1 := by kernel_rfl
  have hV : Tryz.prog.cellsOf 24 = 1 := by kernel_rfl
  have hS : Tryz.prog.cellsOf 9 = 1 := by kernel_rfl
  obtain ⟨fuel, hf⟩ := h
  obtain ⟨l⟩ := cs
  obtain ⟨_, hat⟩ := open_struct Tryz.fieldsSer (by simp) hf
  rw [hC] at hsz
  match l, hsz with
  | [c0, c1, c2, c3, c4, c5, c6], _ =>
    obtain ⟨n0, y0, h0⟩ := hat 0 _ _ rfl
    obtain ⟨n1, y1, h1⟩ := hat 1 _ _ rfl
    obtain ⟨n2, y2, h2⟩ := hat 2 _ _ rfl
    obtain ⟨n3, y3, h3⟩ := hat 3 _ _ rfl
    obtain ⟨n4, y4, h4⟩ := hat 4 _ _ rfl
    obtain ⟨n5, y5, h5⟩ := hat 5 _ _ rfl
    obtain ⟨n6, y6, h6⟩ := hat 6 _ _ rfl
    rw [hS] at h0
    rw [Tryz.isInt64.2] at h1 h2 h3
    rw [Tryz.isInt.2] at h4
    rw [hR] at h5
    rw [hV] at h6
    obtain ⟨nm, e0, _⟩ := DataW.trod_string (by kernel_rfl) h0
    obtain ⟨ep, e1, _, _⟩ := DataW.trod_int Tryz.isInt64.1 h1
    obtain ⟨fl, e2, _, _⟩ := DataW.trod_int Tryz.isInt64.1 h2
    obtain ⟨la, e3, _, _⟩ := DataW.trod_int Tryz.isInt64.1 h3
    obtain ⟨sc, e4, _, _⟩ := DataW.trod_int Tryz.isInt.1 h4
    obtain ⟨p, rows, cs, e5, r1, r2, r3⟩ := open_segs h5
    obtain ⟨q, pts, co, e6, s1, s2, s3⟩ := open_pts h6
    simp [Value.cells] at e0 e1 e2 e3 e4 e5 e6
    subst e0; subst e1; subst e2; subst e3; subst e4; subst e5; subst e6
    exact ⟨nm, ep, fl, la, sc, p, cs, rows, q, co, pts, rfl, ⟨r3, s3, r1, s1, r2, s2⟩⟩
end
end Go.Proofs.YtpdhdjlhicceoaaGreatDoor
namespace Go.Proofs.YtpdhdjlhicceoaaGreatDoor
open Go.ChangeShapes Go.WideShapes Go.ChangeAt Go.RowKit Go.Deep
set_option maxRecDepth 100000 in
theorem c_sfloor (nm : ByteArray) (ep fl la sc : Int) (ps po : Option Addr) (cs co : Nat) (rows : List SegR) (pts : List (Int × Int)) (a b : Int) (w : World) (h : SerCame w ps po cs co rows pts)
    (c1 : ∀ W, Below w.heap.size w W → Calls Tryz.prog 11 #[] W fun e w' => e = .returned (.bool true) ∧ Below W.heap.size W w') :
    Calls Tryz.prog 10 #[.agg #[.string nm, .int .i64 ep, .int .i64 fl, .int .i64 la, .int .i64 sc, .slice ps rows.length cs, .slice po pts.length co], .int .i64 a, .int .i64 b] w fun e w' => e = .returned (.bool true) ∧ Below w.heap.size w w' := by
  have c2 : ∀ W, Below w.heap.size w W → Calls Tryz.prog 15 #[.agg #[.string nm, .int .i64 ep, .int .i64 fl, .int .i64 la, .int .i64 sc, .slice ps rows.length cs, .slice po pts.length co]] W fun e w' => ∃ v, e = .returned v ∧ Below W.heap.size W w' ∧ OSer (ownSer26 nm ep fl la sc rows pts) v w' := fun W hb =>
    (c_own24D nm ep fl la sc ps po cs co rows pts W (h.below hb)).mono fun e w' ⟨pS, capS, pP, capP, e1, hB, hS⟩ => ⟨_, e1, hB, pS, pP, capS, capP, rfl, hS⟩
  generalize ownSer26 nm ep fl la sc rows pts = S at c2
  obtain ⟨lo, hi, hsw, hle⟩ : ∃ lo hi : Int, ((¬b < a ∧ a = lo ∧ b = hi) ∨ (b < a ∧ b = lo ∧ a = hi)) ∧ lo ≤ hi := by
    by_cases hab : b < a
    · exact ⟨b, a, .inr ⟨hab, rfl, rfl⟩, by omega⟩
    · exact ⟨a, b, .inl ⟨hab, rfl, rfl⟩, by omega⟩
  have c3 := Lib.hid fun (W : World) (p : Option Addr) (c : Nat) (q : Option Addr) (d : Nat) (hi' : SerIn W S p q) => c_srRetain S p c q d lo W hi'
  have c4 := Lib.hid fun (W : World) (p : Option Addr) (c : Nat) (q : Option Addr) (d : Nat) (hi' : SerIn W (retV S lo) p q) => c_srRetain (retV S lo) p c q d hi W hi'
  have c5 := Lib.hid fun (W : World) (p : Option Addr) (c : Nat) (q : Option Addr) (d : Nat) (hi' : SerIn W S p q) => c_srRetain S p c q d hi W hi'
  have c6 := Lib.hid fun (W : World) (p : Option Addr) (c : Nat) (q : Option Addr) (d : Nat) (hi' : SerIn W (retV S hi) p q) => c_srRetain (retV S hi) p c q d lo W hi'
  have cSm := fun (s t : SerT) (he : s = t) => Lib.hid fun (W : World) (p : Option Addr) (c : Nat) (q : Option Addr) (d : Nat) (p' : Option Addr) (c' : Nat) (q' : Option Addr) (d' : Nat) (h1 : SerIn W s p q) (h2 : SerIn W t p' q') => (show Calls Tryz.prog 35 #[.agg (serA s p c q d), .agg (serA t p' c' q' d')] W fun e w' => e = .returned (.bool true) ∧ Below W.heap.size W w' from by
    have t9 := c_srSame s t p p' c c' q q' d d' W h1 h2
    rw [he, sameS_refl] at t9
    rw [he]
    exact t9)
  unfold serA at cSm
  by_cases hE1 : retE S lo = 0
  · have hF : retV S lo = retS S lo := by unfold retV; rw [if_pos hE1]
    by_cases hE2 : retE (retS S lo) hi = 0
    · obtain ⟨h3, h4, h5⟩ := floor_ok hle hE1 hE2
      have hO : retV S hi = retS S hi := by unfold retV; rw [if_pos h3]
      have hB : retV (retV S lo) hi = retV S hi := by rw [hF, hO]; unfold retV; rw [if_pos hE2, ret_ret hle]
      rcases Int.lt_or_eq_of_le hle with hlt | heq
      · have hE4 : retE (retV S hi) lo = 343 := by rw [hO]; exact h4 hlt
        exact floor_w3 nm ep fl la sc ps po _ cs _ co S (retV S lo) (retV (retV S lo) hi) (retV S hi) (retV (retV S hi) lo) a b lo hi (retE S lo) (retE (retV S lo) hi) (retE S hi) (retE (retV S hi) lo) w hsw hE1 (by rw [hF]; exact hE2) h3 hE4 hlt (beq_eq_false_iff_ne.2 (by omega)) (Lib.hid c1) (Lib.hid c2) c3 c4 c5 c6 (cSm _ _ hB)
      · have hE4 : retE (retV S hi) lo = 0 := by rw [hO]; exact h5 heq
        have hK : retV (retV S hi) lo = retV S hi := by
          have e : retV (retV S hi) lo = retS (retV S hi) lo := by unfold retV at hE4 ⊢; rw [if_pos hE4]
          rw [e, hO, ret_ret (Int.le_of_eq heq.symm), heq]
        exact floor_w4 nm ep fl la sc ps po _ cs _ co S (retV S lo) (retV (retV S lo) hi) (retV S hi) (retV (retV S hi) lo) a b lo hi (retE S lo) (retE (retV S lo) hi) (retE S hi) (retE (retV S hi) lo) w hsw hE1 (by rw [hF]; exact hE2) h3 hE4 (beq_iff_eq.2 heq) (Lib.hid c1) (Lib.hid c2) c3 c4 c5 c6 (cSm _ _ hB) (cSm _ _ hK)
    · obtain ⟨h3, h4⟩ := floor_bad hle hE1 hE2
      exact floor_w2 nm ep fl la sc ps po _ cs _ co S (retV S lo) (retV (retV S lo) hi) (retV S hi) (retV (retV S hi) lo) a b lo hi (retE S lo) (retE (retV S lo) hi) (retE S hi) (retE (retV S hi) lo) w hsw hE1 (by rw [hF]; exact h3) h4 (Lib.hid c1) (Lib.hid c2) c3 c4 c5
  · exact floor_w1 nm ep fl la sc ps po _ cs _ co S (retV S lo) (retV (retV S lo) hi) (retV S hi) (retV (retV S hi) lo) a b lo hi (retE S lo) (retE (retV S lo) hi) (retE S hi) (retE (retV S hi) lo) w hsw (by simpa using hE1) (Lib.hid c1) (Lib.hid c2) c3 c4 c5
set_option maxRecDepth 100000 in
theorem sfloor_lifted (os : Os) (started : os.Started) (H : Type) (enc : TypeId × Value → H) :
    ReturnsInHanded {} Tryz.checked os 10 .any (fun w args => (Rows.seriesFloorSpec.pre enc Tryz.prog Tryz.f10 Rows.seriesFloorRow.domain false w args ∧ laidMetH Tryz.prog laidL w) ∧ sizedMet enc Tryz.prog Tryz.f10 (OpenSpec.ofChange Rows.seriesFloorSpec) false w args)
      (Rows.seriesFloorSpec.post enc Tryz.prog Tryz.f10 false true false false) := by
  refine returnsInHanded_of_change_and (C := Tryz.checked) (X := fun w _ => laidMetH Tryz.prog laidL w) (fun _ _ _ hh h => h.of_heap hh) Tryz.ownKnob started (by kernel_rfl) Tryz.func10
    (ChangeSpec.witness_shaped (enc := enc) (C := Tryz.checked) (os := os) (X := fun w _ => laidMetH Tryz.prog laidL w) false (World.laidAll Tryz.prog os laidL) #[.agg #[.string .empty, .int .i64 0, .int .i64 0, .int .i64 0, .int .i64 0, .slice none 0 0, .slice none 0 0], .int .i64 0, .int .i64 0] 8 (World.laidAll_os _ _ _)
      (World.shaped_of_ZipB (by kernel_rfl) (by kernel_rfl)) (by kernel_rfl) (by kernel_rfl) (by kernel_rfl)
      (by rw [MakeChecks.laidMetH_plain _ _ _ (by kernel_rfl)]; exact laidMet_laidAll _ (by kernel_rfl) (by kernel_rfl))) ?_
  intro W base args ds gs before hval0 hW hcnd _ hL _
  have hval : ∀ (j : Nat) t v, Tryz.f10.params[j]? = some t → args[j]? = some v → Value.okWide Tryz.prog W .any base t v := hval0
  have hW' := hW
  obtain ⟨p, q, hA0, hV, rfl, hfz, hnd⟩ := hW
  have hA : DataW.TrodAll enc Tryz.prog W 0 (fun _ => true) true Tryz.f10.params.toList args.toList ds p := hA0
  rw [Tryz.params10] at hA hval
  obtain ⟨v0, vs0, d0, ds0, p0, q0, hargs, rfl, rfl, h0, hA⟩ := trodAll_cons hA
  obtain ⟨v1, vs1, d1, ds1, p1, q1, rfl, rfl, rfl, h1, hA⟩ := trodAll_cons hA
  obtain ⟨v2, vs2, d2, ds2, p2, q2, rfl, rfl, rfl, h2, hA⟩ := trodAll_cons hA
  obtain ⟨rfl, rfl, rfl⟩ := trodAll_nil hA
  obtain rfl : args = #[v0, v1, v2] := by rw [← Array.toList_inj, hargs]
  obtain ⟨rfl, rfl⟩ := trodVars_none hV
  obtain ⟨nm, ep, fl, la, sc, p', cs, rows, q', co, pts, rfl, hs⟩ := open_ser (hval 0 _ v0 rfl rfl) h0
  obtain ⟨a, rfl, rfl, rfl, wa⟩ := open_int Tryz.isInt64.1 (hval 1 _ v1 rfl rfl) h1
  obtain ⟨b, rfl, rfl, rfl, wb⟩ := open_int Tryz.isInt64.1 (hval 2 _ v2 rfl rfl) h2
  clear hA0 hval0
  refine (c_sfloor nm ep fl la sc p' q' cs co rows pts a b W hs fun W' hb => wk24_w hL hb).mono fun e W' ⟨he, hb⟩ => ?_
  subst he
  exact ⟨_, rfl, law_post Tryz.laidOut (pars_ok (by kernel_rfl)) rfl (by kernel_rfl) rfl hW' hb rfl⟩
theorem fl_in : Tryz.prog.inPlace 10 = Rows.seriesFloorRow.inPlace := by kernel_rfl
theorem fl_unf : Tryz.prog.unfollowed 10 = true := by kernel_rfl
theorem fl_rec : Tryz.prog.recurses 10 = true := by kernel_rfl
theorem fl_named : Tryz.prog.varsNamed 10 = Rows.seriesFloorRow.named := by kernel_rfl
theorem fl_heard : Tryz.prog.stopsHeard = true := by kernel_rfl
theorem fl_may : Tryz.prog.mayEnter = true := by kernel_rfl
theorem fl_lift : (Rows.seriesFloorRow.lifted == Tryz.prog.liftsFinal) = true := by kernel_rfl
theorem fl_make : (Tryz.prog.make == some Rows.seriesFloorRow.make) = true := by kernel_rfl
theorem fl_keys : (Rows.seriesFloorRow.plainKeys == Tryz.prog.plainKeys) = true := by kernel_rfl
theorem fl_looks : false = Tryz.prog.looks [] := by kernel_rfl
theorem fl_goes : false = Rows.seriesFloorRow.goesBy Tryz.prog := by kernel_rfl
theorem fl_main : Tryz.prog.mainIs = some (Rows.seriesFloorCard.stood.harness.1, Rows.seriesFloorCard.stood.harness.2.toList) := by kernel_rfl
theorem fl_stand : ([26, 2].all fun u => !Tryz.prog.wantsStandIn u) = true := by kernel_rfl
theorem fl_closed : joinedFacts Tryz.prog 10 Tryz.f10 Rows.seriesFloorSpec Rows.seriesFloorRow = true := by
  unfold joinedFacts
  rw [fl_in, fl_unf, fl_rec, fl_named, fl_heard, fl_may, fl_lift, fl_make, fl_keys, Tryz.laidOut]
  kernel_rfl
theorem sfloor_row : Rows.SeriesFloorSaid :=
  OpenClaim.holds_of_wide 10 Tryz.f10 rfl rfl rfl rfl rfl rfl rfl ⟨rfl, rfl, rfl, rfl, rfl⟩ rfl rfl rfl rfl rfl (by kernel_rfl) Tryz.func10 fl_closed
    (of_decide_eq_true (by kernel_rfl)) (by unfold Func.isWrapper; first | (rw [if_pos (by decide +kernel)]; kernel_rfl) | (rw [if_neg (by decide +kernel)]; exact ⟨rfl, rfl⟩))
    (fun os started H enc _ => sfloor_lifted os started H enc)
theorem seriesFloor_holds : Rows.SeriesFloorCardSaid :=
  Claim7.holds_tied_plain_at .later [] [.data] true Rows.seriesFloorCard.stood.harness false sfloor_row (fun _ h => by cases h) (by kernel_rfl) (fun _ h => by cases h) seriesFloor_row_tie rfl ⟨rfl, rfl⟩ fl_main rfl
    (fun f fn hf hfn => by
      obtain rfl : f = 10 := Option.some.inj ((show Tryz.prog.funcNamed "yearbook/yearbooklaw24.SeriesFloor" = some 10 by kernel_rfl).symm.trans hf) |>.symm
      obtain rfl : fn = Tryz.f10 := (Option.some.inj (Tryz.func10.symm.trans hfn)).symm
      exact ⟨fl_looks, fun j t ht => by
        rw [Tryz.params10] at ht
        have hm : t ∈ [26, 2] := by
          have h2 := Array.mem_of_getElem? ht
          simp at h2
          simp [h2]
        exact (show Tryz.prog.wantsStandIn t = false by simpa using List.all_eq_true.1 fl_stand t hm)⟩)
    fl_goes
#print axioms seriesFloor_holds
end Go.Proofs.YtpdhdjlhicceoaaGreatDoor
