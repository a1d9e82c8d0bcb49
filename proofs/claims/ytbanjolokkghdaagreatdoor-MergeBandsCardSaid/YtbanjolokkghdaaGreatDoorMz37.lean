/- For every row of segments that comes in, and any bound: MergeBands returns true; the arguments read as before. Condition of the row: slide's numbers are laid as the program's text lays them; the card ties that to the text. -/
import Derived.Test.YtbanjolokkghdaaGreatDoorCards
import Derived.Test.YtbanjolokkghdaaGreatDoorTie
import Derived.SevenTiedAt
import Derived.Test.YtbanjolokkghdaaGreatDoorMz36
set_option maxRecDepth 100000
set_option maxHeartbeats 8000000
set_option linter.unusedSimpArgs false
set_option linter.unusedVariables false
namespace Go.Proofs.YtbanjolokkghdaaGreatDoor
open Go.RowKit
set_option maxRecDepth 1000000
noncomputable def wk14O : Orc := cxO
theorem wk14O_ok : OrcOk Tryz.prog wk14O := cxO_ok
noncomputable def wk14c : Code := match Tryz.f10.body with | some c => c | none => .skip
def wk14v1 : List Value := [.bool false, .pointer (some ⟨7, 0, none⟩), .pointer (some ⟨8, 0, none⟩), .tuple #[], .tuple #[], .tuple #[], .tuple #[], .tuple #[], .tuple #[], .tuple #[], .tuple #[], .tuple #[], .tuple #[], .tuple #[], .tuple #[], .tuple #[], .agg #[.int .i64 1, .slice (some ⟨4, 0, none⟩) 1 1, .int .i64 5, .int .i64 0, .int .i64 0, .int .i64 1, .slice none 0 0, .int .i64 1], .agg #[.int .i64 1, .slice (some ⟨6, 0, none⟩) 1 1, .int .i64 7, .int .i64 0, .int .i64 0, .int .i64 1, .slice none 0 0, .int .i64 0], .tuple #[], .tuple #[], .tuple #[], .tuple #[], .tuple #[], .tuple #[], .tuple #[], .tuple #[], .tuple #[], .tuple #[], .tuple #[], .tuple #[], .tuple #[], .tuple #[], .tuple #[], .tuple #[], .tuple #[], .tuple #[], .tuple #[], .tuple #[], .tuple #[], .tuple #[], .tuple #[], .tuple #[], .tuple #[], .tuple #[], .tuple #[], .tuple #[], .tuple #[], .tuple #[], .tuple #[], .tuple #[], .tuple #[], .tuple #[], .tuple #[], .tuple #[], .tuple #[], .tuple #[], .tuple #[], .tuple #[], .tuple #[], .tuple #[], .tuple #[], .tuple #[], .tuple #[], .tuple #[], .tuple #[], .tuple #[], .tuple #[], .tuple #[], .tuple #[], .tuple #[], .tuple #[], .tuple #[], .tuple #[], .tuple #[], .tuple #[], .tuple #[], .tuple #[], .tuple #[], .tuple #[], .tuple #[], .tuple #[], .tuple #[], .tuple #[], .tuple #[], .tuple #[], .tuple #[], .tuple #[], .tuple #[], .tuple #[], .tuple #[], .tuple #[], .tuple #[], .tuple #[], .tuple #[], .tuple #[], .tuple #[], .tuple #[], .tuple #[], .tuple #[], .tuple #[], .tuple #[], .tuple #[], .tuple #[], .tuple #[], .tuple #[], .tuple #[], .tuple #[], .tuple #[], .tuple #[], .tuple #[], .tuple #[], .tuple #[], .tuple #[], .tuple #[], .tuple #[], .tuple #[], .tuple #[], .tuple #[], .tuple #[], .tuple #[]]
def wk14m1 : Mem := [(7, [.int .i64 1, .slice (some ⟨4, 0, none⟩) 1 1, .int .i64 5, .int .i64 0, .int .i64 0, .int .i64 1, .slice none 0 0, .int .i64 1], 29, false), (4, [.int .i64 0, .int .i64 1, .int .i64 3], 94, false), (8, [.int .i64 1, .slice (some ⟨6, 0, none⟩) 1 1, .int .i64 7, .int .i64 0, .int .i64 0, .int .i64 1, .slice none 0 0, .int .i64 0], 29, false), (6, [.int .i64 3, .int .i64 1, .int .i64 2], 94, false)]
def wk14v2 : List Value := [.bool false, .pointer (some ⟨7, 0, none⟩), .pointer (some ⟨8, 0, none⟩), .pointer (some ⟨1538, 0, none⟩), .bool true, .int .i64 0, .tuple #[], .tuple #[], .tuple #[], .tuple #[], .tuple #[], .tuple #[], .tuple #[], .tuple #[], .tuple #[], .tuple #[], .agg #[.int .i64 1, .slice (some ⟨4, 0, none⟩) 1 1, .int .i64 5, .int .i64 0, .int .i64 0, .int .i64 1, .slice none 0 0, .int .i64 1], .agg #[.int .i64 1, .slice (some ⟨6, 0, none⟩) 1 1, .int .i64 7, .int .i64 0, .int .i64 0, .int .i64 1, .slice none 0 0, .int .i64 0], .tuple #[.agg #[.int .i64 1, .slice (some ⟨400, 0, some 0⟩) 1 1, .int .i64 5, .int .i64 0, .int .i64 0, .int .i64 1, .slice none 0 0, .int .i64 2], .bool true, .int .i64 0], .agg #[.int .i64 1, .slice (some ⟨4, 0, none⟩) 1 1, .int .i64 5, .int .i64 0, .int .i64 0, .int .i64 1, .slice none 0 0, .int .i64 1], .agg #[.int .i64 1, .slice (some ⟨6, 0, none⟩) 1 1, .int .i64 7, .int .i64 0, .int .i64 0, .int .i64 1, .slice none 0 0, .int .i64 0], .tuple #[.agg #[.int .i64 1, .slice (some ⟨400, 0, some 0⟩) 1 1, .int .i64 5, .int .i64 0, .int .i64 0, .int .i64 1, .slice none 0 0, .int .i64 2], .bool true, .int .i64 0], .agg #[.int .i64 1, .slice (some ⟨400, 0, some 0⟩) 1 1, .int .i64 5, .int .i64 0, .int .i64 0, .int .i64 1, .slice none 0 0, .int .i64 2], .bool true, .int .i64 0, .tuple #[], .tuple #[], .tuple #[], .tuple #[], .tuple #[], .tuple #[], .tuple #[], .tuple #[], .tuple #[], .tuple #[], .tuple #[], .tuple #[], .tuple #[], .tuple #[], .tuple #[], .tuple #[], .tuple #[], .tuple #[], .tuple #[], .tuple #[], .tuple #[], .tuple #[], .tuple #[], .tuple #[], .tuple #[], .tuple #[], .tuple #[], .tuple #[], .tuple #[], .tuple #[], .tuple #[], .tuple #[], .tuple #[], .tuple #[], .tuple #[], .tuple #[], .tuple #[], .tuple #[], .tuple #[], .tuple #[], .tuple #[], .tuple #[], .tuple #[], .tuple #[], .tuple #[], .tuple #[], .tuple #[], .tuple #[], .tuple #[], .tuple #[], .tuple #[], .tuple #[], .tuple #[], .tuple #[], .tuple #[], .tuple #[], .tuple #[], .tuple #[], .tuple #[], .tuple #[], .tuple #[], .tuple #[], .tuple #[], .tuple #[], .tuple #[], .tuple #[], .tuple #[], .tuple #[], .tuple #[], .tuple #[], .tuple #[], .tuple #[], .tuple #[], .tuple #[], .tuple #[], .tuple #[], .tuple #[], .tuple #[], .tuple #[], .tuple #[], .tuple #[], .tuple #[], .tuple #[], .tuple #[], .tuple #[], .tuple #[], .tuple #[], .tuple #[], .tuple #[], .tuple #[], .tuple #[], .tuple #[], .tuple #[], .tuple #[], .tuple #[]]
def wk14m2 : Mem := [(7, [.int .i64 1, .slice (some ⟨4, 0, none⟩) 1 1, .int .i64 5, .int .i64 0, .int .i64 0, .int .i64 1, .slice none 0 0, .int .i64 1], 29, false), (4, [.int .i64 0, .int .i64 1, .int .i64 3], 94, false), (8, [.int .i64 1, .slice (some ⟨6, 0, none⟩) 1 1, .int .i64 7, .int .i64 0, .int .i64 0, .int .i64 1, .slice none 0 0, .int .i64 0], 29, false), (6, [.int .i64 3, .int .i64 1, .int .i64 2], 94, false), (1538, [.int .i64 1, .slice (some ⟨400, 0, some 0⟩) 1 1, .int .i64 5, .int .i64 0, .int .i64 0, .int .i64 1, .slice none 0 0, .int .i64 2], 29, false), (400, [.int .i64 0, .int .i64 1, .int .i64 5], 94, true)]
def wk14v3 : List Value := [.bool false, .pointer (some ⟨7, 0, none⟩), .pointer (some ⟨8, 0, none⟩), .pointer (some ⟨1538, 0, none⟩), .bool true, .int .i64 0, .pointer (some ⟨2300, 0, none⟩), .bool true, .int .i64 0, .tuple #[], .tuple #[], .tuple #[], .tuple #[], .tuple #[], .tuple #[], .tuple #[], .agg #[.int .i64 1, .slice (some ⟨4, 0, none⟩) 1 1, .int .i64 5, .int .i64 0, .int .i64 0, .int .i64 1, .slice none 0 0, .int .i64 1], .agg #[.int .i64 1, .slice (some ⟨6, 0, none⟩) 1 1, .int .i64 7, .int .i64 0, .int .i64 0, .int .i64 1, .slice none 0 0, .int .i64 0], .tuple #[.agg #[.int .i64 1, .slice (some ⟨400, 0, some 0⟩) 1 1, .int .i64 5, .int .i64 0, .int .i64 0, .int .i64 1, .slice none 0 0, .int .i64 2], .bool true, .int .i64 0], .agg #[.int .i64 1, .slice (some ⟨4, 0, none⟩) 1 1, .int .i64 5, .int .i64 0, .int .i64 0, .int .i64 1, .slice none 0 0, .int .i64 1], .agg #[.int .i64 1, .slice (some ⟨6, 0, none⟩) 1 1, .int .i64 7, .int .i64 0, .int .i64 0, .int .i64 1, .slice none 0 0, .int .i64 0], .tuple #[.agg #[.int .i64 1, .slice (some ⟨400, 0, some 0⟩) 1 1, .int .i64 5, .int .i64 0, .int .i64 0, .int .i64 1, .slice none 0 0, .int .i64 2], .bool true, .int .i64 0], .agg #[.int .i64 1, .slice (some ⟨400, 0, some 0⟩) 1 1, .int .i64 5, .int .i64 0, .int .i64 0, .int .i64 1, .slice none 0 0, .int .i64 2], .bool true, .int .i64 0, .tuple #[.agg #[.int .i64 4, .slice (some ⟨2030, 0, some 0⟩) 1 1, .int .i64 0, .int .i64 0, .int .i64 0, .int .i64 0, .slice (some ⟨2032, 0, some 0⟩) 5 5, .int .i64 1], .bool true, .int .i64 0], .agg #[.int .i64 1, .slice (some ⟨4, 0, none⟩) 1 1, .int .i64 5, .int .i64 0, .int .i64 0, .int .i64 1, .slice none 0 0, .int .i64 1], .agg #[.int .i64 1, .slice (some ⟨6, 0, none⟩) 1 1, .int .i64 7, .int .i64 0, .int .i64 0, .int .i64 1, .slice none 0 0, .int .i64 0], .tuple #[.agg #[.int .i64 4, .slice (some ⟨2030, 0, some 0⟩) 1 1, .int .i64 0, .int .i64 0, .int .i64 0, .int .i64 0, .slice (some ⟨2032, 0, some 0⟩) 5 5, .int .i64 1], .bool true, .int .i64 0], .agg #[.int .i64 4, .slice (some ⟨2030, 0, some 0⟩) 1 1, .int .i64 0, .int .i64 0, .int .i64 0, .int .i64 0, .slice (some ⟨2032, 0, some 0⟩) 5 5, .int .i64 1], .bool true, .int .i64 0, .tuple #[], .tuple #[], .tuple #[], .tuple #[], .tuple #[], .tuple #[], .tuple #[], .tuple #[], .tuple #[], .tuple #[], .tuple #[], .tuple #[], .tuple #[], .tuple #[], .tuple #[], .tuple #[], .tuple #[], .tuple #[], .tuple #[], .tuple #[], .tuple #[], .tuple #[], .tuple #[], .tuple #[], .tuple #[], .tuple #[], .tuple #[], .tuple #[], .tuple #[], .tuple #[], .tuple #[], .tuple #[], .tuple #[], .tuple #[], .tuple #[], .tuple #[], .tuple #[], .tuple #[], .tuple #[], .tuple #[], .tuple #[], .tuple #[], .tuple #[], .tuple #[], .tuple #[], .tuple #[], .tuple #[], .tuple #[], .tuple #[], .tuple #[], .tuple #[], .tuple #[], .tuple #[], .tuple #[], .tuple #[], .tuple #[], .tuple #[], .tuple #[], .tuple #[], .tuple #[], .tuple #[], .tuple #[], .tuple #[], .tuple #[], .tuple #[], .tuple #[], .tuple #[], .tuple #[], .tuple #[], .tuple #[], .tuple #[], .tuple #[], .tuple #[], .tuple #[], .tuple #[], .tuple #[], .tuple #[], .tuple #[], .tuple #[], .tuple #[], .tuple #[], .tuple #[], .tuple #[], .tuple #[], .tuple #[], .tuple #[], .tuple #[], .tuple #[]]
def wk14m3 : Mem := [(7, [.int .i64 1, .slice (some ⟨4, 0, none⟩) 1 1, .int .i64 5, .int .i64 0, .int .i64 0, .int .i64 1, .slice none 0 0, .int .i64 1], 29, false), (4, [.int .i64 0, .int .i64 1, .int .i64 3], 94, false), (8, [.int .i64 1, .slice (some ⟨6, 0, none⟩) 1 1, .int .i64 7, .int .i64 0, .int .i64 0, .int .i64 1, .slice none 0 0, .int .i64 0], 29, false), (6, [.int .i64 3, .int .i64 1, .int .i64 2], 94, false), (1538, [.int .i64 1, .slice (some ⟨400, 0, some 0⟩) 1 1, .int .i64 5, .int .i64 0, .int .i64 0, .int .i64 1, .slice none 0 0, .int .i64 2], 29, false), (400, [.int .i64 0, .int .i64 1, .int .i64 5], 94, true), (2300, [.int .i64 4, .slice (some ⟨2030, 0, some 0⟩) 1 1, .int .i64 0, .int .i64 0, .int .i64 0, .int .i64 0, .slice (some ⟨2032, 0, some 0⟩) 5 5, .int .i64 1], 29, false), (2030, [.int .i64 0, .int .i64 1, .int .i64 5], 94, true), (2032, [.int .i64 5, .int .i64 5, .int .i64 5, .int .i64 7, .int .i64 7], 2, true)]
def wk14v4 : List Value := [.bool false, .pointer (some ⟨7, 0, none⟩), .pointer (some ⟨8, 0, none⟩), .pointer (some ⟨1538, 0, none⟩), .bool true, .int .i64 0, .pointer (some ⟨2300, 0, none⟩), .bool true, .int .i64 0, .slice (some ⟨2339, 0, some 0⟩) 1 1, .int .i64 0, .tuple #[], .tuple #[], .tuple #[], .tuple #[], .tuple #[], .agg #[.int .i64 1, .slice (some ⟨4, 0, none⟩) 1 1, .int .i64 5, .int .i64 0, .int .i64 0, .int .i64 1, .slice none 0 0, .int .i64 1], .agg #[.int .i64 1, .slice (some ⟨6, 0, none⟩) 1 1, .int .i64 7, .int .i64 0, .int .i64 0, .int .i64 1, .slice none 0 0, .int .i64 0], .tuple #[.agg #[.int .i64 1, .slice (some ⟨400, 0, some 0⟩) 1 1, .int .i64 5, .int .i64 0, .int .i64 0, .int .i64 1, .slice none 0 0, .int .i64 2], .bool true, .int .i64 0], .agg #[.int .i64 1, .slice (some ⟨4, 0, none⟩) 1 1, .int .i64 5, .int .i64 0, .int .i64 0, .int .i64 1, .slice none 0 0, .int .i64 1], .agg #[.int .i64 1, .slice (some ⟨6, 0, none⟩) 1 1, .int .i64 7, .int .i64 0, .int .i64 0, .int .i64 1, .slice none 0 0, .int .i64 0], .tuple #[.agg #[.int .i64 1, .slice (some ⟨400, 0, some 0⟩) 1 1, .int .i64 5, .int .i64 0, .int .i64 0, .int .i64 1, .slice none 0 0, .int .i64 2], .bool true, .int .i64 0], .agg #[.int .i64 1, .slice (some ⟨400, 0, some 0⟩) 1 1, .int .i64 5, .int .i64 0, .int .i64 0, .int .i64 1, .slice none 0 0, .int .i64 2], .bool true, .int .i64 0, .tuple #[.agg #[.int .i64 4, .slice (some ⟨2030, 0, some 0⟩) 1 1, .int .i64 0, .int .i64 0, .int .i64 0, .int .i64 0, .slice (some ⟨2032, 0, some 0⟩) 5 5, .int .i64 1], .bool true, .int .i64 0], .agg #[.int .i64 1, .slice (some ⟨4, 0, none⟩) 1 1, .int .i64 5, .int .i64 0, .int .i64 0, .int .i64 1, .slice none 0 0, .int .i64 1], .agg #[.int .i64 1, .slice (some ⟨6, 0, none⟩) 1 1, .int .i64 7, .int .i64 0, .int .i64 0, .int .i64 1, .slice none 0 0, .int .i64 0], .tuple #[.agg #[.int .i64 4, .slice (some ⟨2030, 0, some 0⟩) 1 1, .int .i64 0, .int .i64 0, .int .i64 0, .int .i64 0, .slice (some ⟨2032, 0, some 0⟩) 5 5, .int .i64 1], .bool true, .int .i64 0], .agg #[.int .i64 4, .slice (some ⟨2030, 0, some 0⟩) 1 1, .int .i64 0, .int .i64 0, .int .i64 0, .int .i64 0, .slice (some ⟨2032, 0, some 0⟩) 5 5, .int .i64 1], .bool true, .int .i64 0, .tuple #[.slice (some ⟨2339, 0, some 0⟩) 1 1, .int .i64 0], .agg #[.int .i64 1, .slice (some ⟨4, 0, none⟩) 1 1, .int .i64 5, .int .i64 0, .int .i64 0, .int .i64 1, .slice none 0 0, .int .i64 1], .agg #[.int .i64 1, .slice (some ⟨6, 0, none⟩) 1 1, .int .i64 7, .int .i64 0, .int .i64 0, .int .i64 1, .slice none 0 0, .int .i64 0], .slice (some ⟨2301, 0, none⟩) 2 2, .tuple #[.slice (some ⟨2339, 0, some 0⟩) 1 1, .int .i64 0], .slice (some ⟨2339, 0, some 0⟩) 1 1, .int .i64 0, .tuple #[], .tuple #[], .tuple #[], .tuple #[], .tuple #[], .tuple #[], .tuple #[], .tuple #[], .tuple #[], .tuple #[], .tuple #[], .tuple #[], .tuple #[], .tuple #[], .tuple #[], .tuple #[], .tuple #[], .tuple #[], .tuple #[], .tuple #[], .tuple #[], .tuple #[], .tuple #[], .tuple #[], .tuple #[], .tuple #[], .tuple #[], .tuple #[], .tuple #[], .tuple #[], .tuple #[], .tuple #[], .tuple #[], .tuple #[], .tuple #[], .tuple #[], .tuple #[], .tuple #[], .tuple #[], .tuple #[], .tuple #[], .tuple #[], .tuple #[], .tuple #[], .tuple #[], .tuple #[], .tuple #[], .tuple #[], .tuple #[], .tuple #[], .tuple #[], .tuple #[], .tuple #[], .tuple #[], .tuple #[], .tuple #[], .tuple #[], .tuple #[], .tuple #[], .tuple #[], .tuple #[], .tuple #[], .tuple #[], .tuple #[], .tuple #[], .tuple #[], .tuple #[], .tuple #[], .tuple #[], .tuple #[], .tuple #[], .tuple #[], .tuple #[], .tuple #[], .tuple #[], .tuple #[], .tuple #[], .tuple #[], .tuple #[], .tuple #[], .tuple #[]]
def wk14m4 : Mem := [(7, [.int .i64 1, .slice (some ⟨4, 0, none⟩) 1 1, .int .i64 5, .int .i64 0, .int .i64 0, .int .i64 1, .slice none 0 0, .int .i64 1], 29, false), (4, [.int .i64 0, .int .i64 1, .int .i64 3], 94, false), (8, [.int .i64 1, .slice (some ⟨6, 0, none⟩) 1 1, .int .i64 7, .int .i64 0, .int .i64 0, .int .i64 1, .slice none 0 0, .int .i64 0], 29, false), (6, [.int .i64 3, .int .i64 1, .int .i64 2], 94, false), (1538, [.int .i64 1, .slice (some ⟨400, 0, some 0⟩) 1 1, .int .i64 5, .int .i64 0, .int .i64 0, .int .i64 1, .slice none 0 0, .int .i64 2], 29, false), (400, [.int .i64 0, .int .i64 1, .int .i64 5], 94, true), (2300, [.int .i64 4, .slice (some ⟨2030, 0, some 0⟩) 1 1, .int .i64 0, .int .i64 0, .int .i64 0, .int .i64 0, .slice (some ⟨2032, 0, some 0⟩) 5 5, .int .i64 1], 29, false), (2030, [.int .i64 0, .int .i64 1, .int .i64 5], 94, true), (2032, [.int .i64 5, .int .i64 5, .int .i64 5, .int .i64 7, .int .i64 7], 2, true), (2339, [.int .i64 1, .slice (some ⟨2678, 0, some 0⟩) 1 1, .int .i64 5, .int .i64 0, .int .i64 0, .int .i64 1, .slice none 0 0, .int .i64 2], 29, true), (2678, [.int .i64 0, .int .i64 1, .int .i64 5], 94, true), (2301, [.int .i64 1, .slice (some ⟨4, 0, none⟩) 1 1, .int .i64 5, .int .i64 0, .int .i64 0, .int .i64 1, .slice none 0 0, .int .i64 1, .int .i64 1, .slice (some ⟨6, 0, none⟩) 1 1, .int .i64 7, .int .i64 0, .int .i64 0, .int .i64 1, .slice none 0 0, .int .i64 0], 29, false)]
def wk14v5 : List Value := [.bool false, .pointer (some ⟨7, 0, none⟩), .pointer (some ⟨8, 0, none⟩), .pointer (some ⟨1538, 0, none⟩), .bool true, .int .i64 0, .pointer (some ⟨2300, 0, none⟩), .bool true, .int .i64 0, .slice (some ⟨2339, 0, some 0⟩) 1 1, .int .i64 0, .slice (some ⟨3902, 0, some 0⟩) 3 3, .int .i64 0, .tuple #[], .tuple #[], .tuple #[], .agg #[.int .i64 1, .slice (some ⟨4, 0, none⟩) 1 1, .int .i64 5, .int .i64 0, .int .i64 0, .int .i64 1, .slice none 0 0, .int .i64 1], .agg #[.int .i64 1, .slice (some ⟨6, 0, none⟩) 1 1, .int .i64 7, .int .i64 0, .int .i64 0, .int .i64 1, .slice none 0 0, .int .i64 0], .tuple #[.agg #[.int .i64 1, .slice (some ⟨400, 0, some 0⟩) 1 1, .int .i64 5, .int .i64 0, .int .i64 0, .int .i64 1, .slice none 0 0, .int .i64 2], .bool true, .int .i64 0], .agg #[.int .i64 1, .slice (some ⟨4, 0, none⟩) 1 1, .int .i64 5, .int .i64 0, .int .i64 0, .int .i64 1, .slice none 0 0, .int .i64 1], .agg #[.int .i64 1, .slice (some ⟨6, 0, none⟩) 1 1, .int .i64 7, .int .i64 0, .int .i64 0, .int .i64 1, .slice none 0 0, .int .i64 0], .tuple #[.agg #[.int .i64 1, .slice (some ⟨400, 0, some 0⟩) 1 1, .int .i64 5, .int .i64 0, .int .i64 0, .int .i64 1, .slice none 0 0, .int .i64 2], .bool true, .int .i64 0], .agg #[.int .i64 1, .slice (some ⟨400, 0, some 0⟩) 1 1, .int .i64 5, .int .i64 0, .int .i64 0, .int .i64 1, .slice none 0 0, .int .i64 2], .bool true, .int .i64 0, .tuple #[.agg #[.int .i64 4, .slice (some ⟨2030, 0, some 0⟩) 1 1, .int .i64 0, .int .i64 0, .int .i64 0, .int .i64 0, .slice (some ⟨2032, 0, some 0⟩) 5 5, .int .i64 1], .bool true, .int .i64 0], .agg #[.int .i64 1, .slice (some ⟨4, 0, none⟩) 1 1, .int .i64 5, .int .i64 0, .int .i64 0, .int .i64 1, .slice none 0 0, .int .i64 1], .agg #[.int .i64 1, .slice (some ⟨6, 0, none⟩) 1 1, .int .i64 7, .int .i64 0, .int .i64 0, .int .i64 1, .slice none 0 0, .int .i64 0], .tuple #[.agg #[.int .i64 4, .slice (some ⟨2030, 0, some 0⟩) 1 1, .int .i64 0, .int .i64 0, .int .i64 0, .int .i64 0, .slice (some ⟨2032, 0, some 0⟩) 5 5, .int .i64 1], .bool true, .int .i64 0], .agg #[.int .i64 4, .slice (some ⟨2030, 0, some 0⟩) 1 1, .int .i64 0, .int .i64 0, .int .i64 0, .int .i64 0, .slice (some ⟨2032, 0, some 0⟩) 5 5, .int .i64 1], .bool true, .int .i64 0, .tuple #[.slice (some ⟨2339, 0, some 0⟩) 1 1, .int .i64 0], .agg #[.int .i64 1, .slice (some ⟨4, 0, none⟩) 1 1, .int .i64 5, .int .i64 0, .int .i64 0, .int .i64 1, .slice none 0 0, .int .i64 1], .agg #[.int .i64 1, .slice (some ⟨6, 0, none⟩) 1 1, .int .i64 7, .int .i64 0, .int .i64 0, .int .i64 1, .slice none 0 0, .int .i64 0], .slice (some ⟨2301, 0, none⟩) 2 2, .tuple #[.slice (some ⟨2339, 0, some 0⟩) 1 1, .int .i64 0], .slice (some ⟨2339, 0, some 0⟩) 1 1, .int .i64 0, .tuple #[.slice (some ⟨3902, 0, some 0⟩) 3 3, .int .i64 0], .agg #[.int .i64 1, .slice (some ⟨4, 0, none⟩) 1 1, .int .i64 5, .int .i64 0, .int .i64 0, .int .i64 1, .slice none 0 0, .int .i64 1], .tuple #[.slice (some ⟨3902, 0, some 0⟩) 3 3, .int .i64 0], .slice (some ⟨3902, 0, some 0⟩) 3 3, .int .i64 0, .tuple #[], .tuple #[], .tuple #[], .tuple #[], .tuple #[], .tuple #[], .tuple #[], .tuple #[], .tuple #[], .tuple #[], .tuple #[], .tuple #[], .tuple #[], .tuple #[], .tuple #[], .tuple #[], .tuple #[], .tuple #[], .tuple #[], .tuple #[], .tuple #[], .tuple #[], .tuple #[], .tuple #[], .tuple #[], .tuple #[], .tuple #[], .tuple #[], .tuple #[], .tuple #[], .tuple #[], .tuple #[], .tuple #[], .tuple #[], .tuple #[], .tuple #[], .tuple #[], .tuple #[], .tuple #[], .tuple #[], .tuple #[], .tuple #[], .tuple #[], .tuple #[], .tuple #[], .tuple #[], .tuple #[], .tuple #[], .tuple #[], .tuple #[], .tuple #[], .tuple #[], .tuple #[], .tuple #[], .tuple #[], .tuple #[], .tuple #[], .tuple #[], .tuple #[], .tuple #[], .tuple #[], .tuple #[], .tuple #[], .tuple #[], .tuple #[], .tuple #[], .tuple #[], .tuple #[], .tuple #[], .tuple #[], .tuple #[], .tuple #[], .tuple #[], .tuple #[], .tuple #[], .tuple #[]]
def wk14m5 : Mem := [(7, [.int .i64 1, .slice (some ⟨4, 0, none⟩) 1 1, .int .i64 5, .int .i64 0, .int .i64 0, .int .i64 1, .slice none 0 0, .int .i64 1], 29, false), (4, [.int .i64 0, .int .i64 1, .int .i64 3], 94, false), (8, [.int .i64 1, .slice (some ⟨6, 0, none⟩) 1 1, .int .i64 7, .int .i64 0, .int .i64 0, .int .i64 1, .slice none 0 0, .int .i64 0], 29, false), (6, [.int .i64 3, .int .i64 1, .int .i64 2], 94, false), (1538, [.int .i64 1, .slice (some ⟨400, 0, some 0⟩) 1 1, .int .i64 5, .int .i64 0, .int .i64 0, .int .i64 1, .slice none 0 0, .int .i64 2], 29, false), (400, [.int .i64 0, .int .i64 1, .int .i64 5], 94, true), (2300, [.int .i64 4, .slice (some ⟨2030, 0, some 0⟩) 1 1, .int .i64 0, .int .i64 0, .int .i64 0, .int .i64 0, .slice (some ⟨2032, 0, some 0⟩) 5 5, .int .i64 1], 29, false), (2030, [.int .i64 0, .int .i64 1, .int .i64 5], 94, true), (2032, [.int .i64 5, .int .i64 5, .int .i64 5, .int .i64 7, .int .i64 7], 2, true), (2339, [.int .i64 1, .slice (some ⟨2678, 0, some 0⟩) 1 1, .int .i64 5, .int .i64 0, .int .i64 0, .int .i64 1, .slice none 0 0, .int .i64 2], 29, true), (2678, [.int .i64 0, .int .i64 1, .int .i64 5], 94, true), (3902, [.int .i64 0, .int .i64 4, .int .i64 6, .int .i64 1, .int .i64 4, .int .i64 6, .int .i64 2, .int .i64 4, .int .i64 6], 44, true), (2301, [.int .i64 1, .slice (some ⟨4, 0, none⟩) 1 1, .int .i64 5, .int .i64 0, .int .i64 0, .int .i64 1, .slice none 0 0, .int .i64 1, .int .i64 1, .slice (some ⟨6, 0, none⟩) 1 1, .int .i64 7, .int .i64 0, .int .i64 0, .int .i64 1, .slice none 0 0, .int .i64 0], 29, false)]
def wk14v6 : List Value := [.bool false, .pointer (some ⟨7, 0, none⟩), .pointer (some ⟨8, 0, none⟩), .pointer (some ⟨1538, 0, none⟩), .bool true, .int .i64 0, .pointer (some ⟨2300, 0, none⟩), .bool true, .int .i64 0, .slice (some ⟨2339, 0, some 0⟩) 1 1, .int .i64 0, .slice (some ⟨3902, 0, some 0⟩) 3 3, .int .i64 0, .pointer (some ⟨3957, 0, none⟩), .bool false, .int .i64 2, .agg #[.int .i64 1, .slice (some ⟨4, 0, none⟩) 1 1, .int .i64 5, .int .i64 0, .int .i64 0, .int .i64 1, .slice none 0 0, .int .i64 1], .agg #[.int .i64 1, .slice (some ⟨6, 0, none⟩) 1 1, .int .i64 7, .int .i64 0, .int .i64 0, .int .i64 1, .slice none 0 0, .int .i64 0], .tuple #[.agg #[.int .i64 1, .slice (some ⟨400, 0, some 0⟩) 1 1, .int .i64 5, .int .i64 0, .int .i64 0, .int .i64 1, .slice none 0 0, .int .i64 2], .bool true, .int .i64 0], .agg #[.int .i64 1, .slice (some ⟨4, 0, none⟩) 1 1, .int .i64 5, .int .i64 0, .int .i64 0, .int .i64 1, .slice none 0 0, .int .i64 1], .agg #[.int .i64 1, .slice (some ⟨6, 0, none⟩) 1 1, .int .i64 7, .int .i64 0, .int .i64 0, .int .i64 1, .slice none 0 0, .int .i64 0], .tuple #[.agg #[.int .i64 1, .slice (some ⟨400, 0, some 0⟩) 1 1, .int .i64 5, .int .i64 0, .int .i64 0, .int .i64 1, .slice none 0 0, .int .i64 2], .bool true, .int .i64 0], .agg #[.int .i64 1, .slice (some ⟨400, 0, some 0⟩) 1 1, .int .i64 5, .int .i64 0, .int .i64 0, .int .i64 1, .slice none 0 0, .int .i64 2], .bool true, .int .i64 0, .tuple #[.agg #[.int .i64 4, .slice (some ⟨2030, 0, some 0⟩) 1 1, .int .i64 0, .int .i64 0, .int .i64 0, .int .i64 0, .slice (some ⟨2032, 0, some 0⟩) 5 5, .int .i64 1], .bool true, .int .i64 0], .agg #[.int .i64 1, .slice (some ⟨4, 0, none⟩) 1 1, .int .i64 5, .int .i64 0, .int .i64 0, .int .i64 1, .slice none 0 0, .int .i64 1], .agg #[.int .i64 1, .slice (some ⟨6, 0, none⟩) 1 1, .int .i64 7, .int .i64 0, .int .i64 0, .int .i64 1, .slice none 0 0, .int .i64 0], .tuple #[.agg #[.int .i64 4, .slice (some ⟨2030, 0, some 0⟩) 1 1, .int .i64 0, .int .i64 0, .int .i64 0, .int .i64 0, .slice (some ⟨2032, 0, some 0⟩) 5 5, .int .i64 1], .bool true, .int .i64 0], .agg #[.int .i64 4, .slice (some ⟨2030, 0, some 0⟩) 1 1, .int .i64 0, .int .i64 0, .int .i64 0, .int .i64 0, .slice (some ⟨2032, 0, some 0⟩) 5 5, .int .i64 1], .bool true, .int .i64 0, .tuple #[.slice (some ⟨2339, 0, some 0⟩) 1 1, .int .i64 0], .agg #[.int .i64 1, .slice (some ⟨4, 0, none⟩) 1 1, .int .i64 5, .int .i64 0, .int .i64 0, .int .i64 1, .slice none 0 0, .int .i64 1], .agg #[.int .i64 1, .slice (some ⟨6, 0, none⟩) 1 1, .int .i64 7, .int .i64 0, .int .i64 0, .int .i64 1, .slice none 0 0, .int .i64 0], .slice (some ⟨2301, 0, none⟩) 2 2, .tuple #[.slice (some ⟨2339, 0, some 0⟩) 1 1, .int .i64 0], .slice (some ⟨2339, 0, some 0⟩) 1 1, .int .i64 0, .tuple #[.slice (some ⟨3902, 0, some 0⟩) 3 3, .int .i64 0], .agg #[.int .i64 1, .slice (some ⟨4, 0, none⟩) 1 1, .int .i64 5, .int .i64 0, .int .i64 0, .int .i64 1, .slice none 0 0, .int .i64 1], .tuple #[.slice (some ⟨3902, 0, some 0⟩) 3 3, .int .i64 0], .slice (some ⟨3902, 0, some 0⟩) 3 3, .int .i64 0, .tuple #[.agg #[.int .i64 0, .slice none 0 0, .int .i64 0, .int .i64 0, .int .i64 0, .int .i64 0, .slice none 0 0, .int .i64 0], .bool false, .int .i64 2], .agg #[.int .i64 1, .slice (some ⟨6, 0, none⟩) 1 1, .int .i64 7, .int .i64 0, .int .i64 0, .int .i64 1, .slice none 0 0, .int .i64 0], .agg #[.int .i64 1, .slice (some ⟨4, 0, none⟩) 1 1, .int .i64 5, .int .i64 0, .int .i64 0, .int .i64 1, .slice none 0 0, .int .i64 1], .tuple #[.agg #[.int .i64 0, .slice none 0 0, .int .i64 0, .int .i64 0, .int .i64 0, .int .i64 0, .slice none 0 0, .int .i64 0], .bool false, .int .i64 2], .agg #[.int .i64 0, .slice none 0 0, .int .i64 0, .int .i64 0, .int .i64 0, .int .i64 0, .slice none 0 0, .int .i64 0], .bool false, .int .i64 2, .tuple #[], .tuple #[], .tuple #[], .tuple #[], .tuple #[], .tuple #[], .tuple #[], .tuple #[], .tuple #[], .tuple #[], .tuple #[], .tuple #[], .tuple #[], .tuple #[], .tuple #[], .tuple #[], .tuple #[], .tuple #[], .tuple #[], .tuple #[], .tuple #[], .tuple #[], .tuple #[], .tuple #[], .tuple #[], .tuple #[], .tuple #[], .tuple #[], .tuple #[], .tuple #[], .tuple #[], .tuple #[], .tuple #[], .tuple #[], .tuple #[], .tuple #[], .tuple #[], .tuple #[], .tuple #[], .tuple #[], .tuple #[], .tuple #[], .tuple #[], .tuple #[], .tuple #[], .tuple #[], .tuple #[], .tuple #[], .tuple #[], .tuple #[], .tuple #[], .tuple #[], .tuple #[], .tuple #[], .tuple #[], .tuple #[], .tuple #[], .tuple #[], .tuple #[], .tuple #[], .tuple #[], .tuple #[], .tuple #[], .tuple #[], .tuple #[], .tuple #[], .tuple #[], .tuple #[], .tuple #[]]
def wk14m6 : Mem := [(7, [.int .i64 1, .slice (some ⟨4, 0, none⟩) 1 1, .int .i64 5, .int .i64 0, .int .i64 0, .int .i64 1, .slice none 0 0, .int .i64 1], 29, false), (4, [.int .i64 0, .int .i64 1, .int .i64 3], 94, false), (8, [.int .i64 1, .slice (some ⟨6, 0, none⟩) 1 1, .int .i64 7, .int .i64 0, .int .i64 0, .int .i64 1, .slice none 0 0, .int .i64 0], 29, false), (6, [.int .i64 3, .int .i64 1, .int .i64 2], 94, false), (1538, [.int .i64 1, .slice (some ⟨400, 0, some 0⟩) 1 1, .int .i64 5, .int .i64 0, .int .i64 0, .int .i64 1, .slice none 0 0, .int .i64 2], 29, false), (400, [.int .i64 0, .int .i64 1, .int .i64 5], 94, true), (2300, [.int .i64 4, .slice (some ⟨2030, 0, some 0⟩) 1 1, .int .i64 0, .int .i64 0, .int .i64 0, .int .i64 0, .slice (some ⟨2032, 0, some 0⟩) 5 5, .int .i64 1], 29, false), (2030, [.int .i64 0, .int .i64 1, .int .i64 5], 94, true), (2032, [.int .i64 5, .int .i64 5, .int .i64 5, .int .i64 7, .int .i64 7], 2, true), (2339, [.int .i64 1, .slice (some ⟨2678, 0, some 0⟩) 1 1, .int .i64 5, .int .i64 0, .int .i64 0, .int .i64 1, .slice none 0 0, .int .i64 2], 29, true), (2678, [.int .i64 0, .int .i64 1, .int .i64 5], 94, true), (3902, [.int .i64 0, .int .i64 4, .int .i64 6, .int .i64 1, .int .i64 4, .int .i64 6, .int .i64 2, .int .i64 4, .int .i64 6], 44, true), (3957, [.int .i64 0, .slice none 0 0, .int .i64 0, .int .i64 0, .int .i64 0, .int .i64 0, .slice none 0 0, .int .i64 0], 29, false), (2301, [.int .i64 1, .slice (some ⟨4, 0, none⟩) 1 1, .int .i64 5, .int .i64 0, .int .i64 0, .int .i64 1, .slice none 0 0, .int .i64 1, .int .i64 1, .slice (some ⟨6, 0, none⟩) 1 1, .int .i64 7, .int .i64 0, .int .i64 0, .int .i64 1, .slice none 0 0, .int .i64 0], 29, false)]
theorem wk14_1 (t : TypeId) : pieceB Tryz.prog wk14O (hdC 2 wk14c) ⟨.nil, Tryz.f10.ntmps, [], none⟩ (sDoor t) wk14v1 wk14m1 9 = true := by kernel_rfl
theorem wk14_2 (t : TypeId) : pieceB Tryz.prog wk14O (hdC 1 (tlC 2 wk14c)) (frX wk14v1) (stX (.cells doorV t false) wk14m1 9) wk14v2 wk14m2 1539 = true := by kernel_rfl
theorem wk14_3 (t : TypeId) : pieceB Tryz.prog wk14O (hdC 1 (tlC 1 (tlC 2 wk14c))) (frX wk14v2) (stX (.cells doorV t false) wk14m2 1539) wk14v3 wk14m3 2301 = true := by kernel_rfl
theorem wk14_4 (t : TypeId) : pieceB Tryz.prog wk14O (hdC 1 (tlC 1 (tlC 1 (tlC 2 wk14c)))) (frX wk14v3) (stX (.cells doorV t false) wk14m3 2301) wk14v4 wk14m4 3816 = true := by kernel_rfl
theorem wk14_5 (t : TypeId) : pieceB Tryz.prog wk14O (hdC 1 (tlC 1 (tlC 1 (tlC 1 (tlC 2 wk14c))))) (frX wk14v4) (stX (.cells doorV t false) wk14m4 3816) wk14v5 wk14m5 3903 = true := by kernel_rfl
theorem wk14_6 (t : TypeId) : pieceB Tryz.prog wk14O (hdC 1 (tlC 1 (tlC 1 (tlC 1 (tlC 1 (tlC 2 wk14c)))))) (frX wk14v5) (stX (.cells doorV t false) wk14m5 3903) wk14v6 wk14m6 3958 = true := by kernel_rfl
theorem wk14_last (t : TypeId) : lastX Tryz.prog wk14O Tryz.f10 (tlC 1 (tlC 1 (tlC 1 (tlC 1 (tlC 1 (tlC 2 wk14c)))))) (frX wk14v6) (stX (.cells doorV t false) wk14m6 3958) = true := by kernel_rfl
theorem wk14_goes (t : TypeId) : GoesT Tryz.prog (.cells doorV t false) Tryz.f10 wk14c ⟨.nil, Tryz.f10.ntmps, [], none⟩ (sDoor t) :=
  goes_cut wk14O_ok (by kernel_rfl) 2 rfl (wk14_1 t) (by kernel_rfl) (goes_cut wk14O_ok (by kernel_rfl) 1 rfl (wk14_2 t) (by kernel_rfl) (goes_cut wk14O_ok (by kernel_rfl) 1 rfl (wk14_3 t) (by kernel_rfl) (goes_cut wk14O_ok (by kernel_rfl) 1 rfl (wk14_4 t) (by kernel_rfl) (goes_cut wk14O_ok (by kernel_rfl) 1 rfl (wk14_5 t) (by kernel_rfl) (goes_cut wk14O_ok (by kernel_rfl) 1 rfl (wk14_6 t) (by kernel_rfl) (goes_last wk14O_ok (by kernel_rfl) rfl (wk14_last t)))))))
theorem wk14_w {w W : World} (h : laidMetH Tryz.prog laidL w) (hb : Below w.heap.size w W) : Calls Tryz.prog 10 #[] W fun e w' => e = .returned (.bool true) ∧ Below W.heap.size W w' := by
  obtain ⟨t, ht⟩ := door_cells h
  exact goes_call Tryz.func10 (c := wk14c) (by kernel_rfl) (by kernel_rfl) (wk14_goes t) (door_inv ((hb.block 0 (Array.getElem?_eq_some_iff.1 ht).1).trans ht))

def ownSer (nm : ByteArray) (ep fl la sc : Int) (rows : List SegR) (pts : List (Int × Int)) : SerT := ⟨nm, ep, fl, la, sc, (rows.take (min rows.length 60)).map fun r => ownG r.s, pts.take (min pts.length 60)⟩
structure SerCame (w : World) (ps po : Option Addr) (cs co : Nat) (rows : List SegR) (pts : List (Int × Int)) : Prop where
 segs : SegsCame w ps rows
 opn : PtsIn w po pts
 nilS : ps = none -> rows.length = 0 /\ cs = 0
 nilO : po = none -> pts.length = 0 /\ co = 0
 capS : rows.length <= cs
 capO : pts.length <= co
theorem SerCame.below {w w' : World} {ps po : Option Addr} {cs co : Nat} {rows : List SegR} {pts : List (Int × Int)} (h : SerCame w ps po cs co rows pts) (hb : Below w.heap.size w w') : SerCame w' ps po cs co rows pts := ⟨h.segs.below hb, h.opn.below hb, h.nilS, h.nilO, h.capS, h.capO⟩
end Go.Proofs.YtbanjolokkghdaaGreatDoor
namespace Go.Proofs.YtbanjolokkghdaaGreatDoor
open Go.ChangeShapes Go.WideShapes Go.ChangeAt Go.RowKit Go.Deep
section
variable {H : Type} {enc : TypeId × Value → H} {w : World} {base : Nat} {spare : Nat → Bool} {held : Bool}
set_option maxRecDepth 100000 in
theorem open_seg_trod {fuel : Nat} {cs : List Value} {x : DataW H × List MemPlace} (hf : DataW.trod enc Tryz.prog w base spare held fuel 29 cs = some x) :
    ∃ r : SegR, cs = (segRA r).toList ∧ Came w r.s r.p r.q r.cap r.vc := by
  have hC : Tryz.prog.cellsOf 29 = 8 := by kernel_rfl
  have hR : Tryz.prog.cellsOf 24 = 1 := by kernel_rfl
  have hV : Tryz.prog.cellsOf 27 = 1 := by kernel_rfl
  have hL : Tryz.prog.cellsOf 26 = 4 := by kernel_rfl
  obtain ⟨hsz, hat⟩ := open_struct Tryz.fieldsSeg (by simp) hf
  rw [hC] at hsz
  match cs, hsz with
  | [c0, c1, c2, c3, c4, c5, c6, c7], _ =>
    obtain ⟨n0, y0, h0⟩ := hat 0 _ _ rfl
    obtain ⟨n1, y1, h1⟩ := hat 1 _ _ rfl
    obtain ⟨n2, y2, h2⟩ := hat 2 _ _ rfl
    obtain ⟨n3, y3, h3⟩ := hat 3 _ _ rfl
    obtain ⟨n4, y4, h4⟩ := hat 4 _ _ rfl
    rw [Tryz.isInt.2] at h0
    rw [hR] at h1
    rw [hL] at h2
    rw [hV] at h3
    rw [Tryz.isInt64.2] at h4
    obtain ⟨K, eK, _, wK⟩ := DataW.trod_int Tryz.isInt.1 h0
    obtain ⟨p, l, cap, e1, r1, r2, r3, r4, r5⟩ := open_run_list h1
    obtain ⟨_, hln⟩ := open_ints_struct Tryz.fieldsLine (by simp) (by rw [hL]; rfl) (fun i hi => by
      match i, hi with
      | 0, _ => exact ⟨_, rfl, Tryz.isInt64⟩
      | 1, _ => exact ⟨_, rfl, Tryz.isInt64⟩
      | 2, _ => exact ⟨_, rfl, Tryz.isInt64⟩
      | 3, _ => exact ⟨_, rfl, Tryz.isInt64⟩) h2
    obtain ⟨A, a1, a2⟩ := hln 0 (by simp)
    obtain ⟨R, b1, b2⟩ := hln 1 (by simp)
    obtain ⟨N, g1, g2⟩ := hln 2 (by simp)
    obtain ⟨D, d1, d2⟩ := hln 3 (by simp)
    obtain ⟨q, v, vc, e3, q1, q2, q3, q4, q5⟩ := open_nums (by kernel_rfl) Tryz.isInt64.1 Tryz.isInt64.2 h3
    obtain ⟨E, eE, _, wE⟩ := DataW.trod_int Tryz.isInt64.1 h4
    simp at eK e1 a1 b1 g1 d1 e3 eE
    subst eK; subst e1; subst a1; subst b1; subst g1; subst d1; subst e3; subst eE
    unfold maxLen at r3 q3
    exact ⟨⟨⟨K, l, A, R, N, D, v, E⟩, p, q, cap, vc⟩, rfl, ⟨r4, q4, r1, q1, r2, q2, by show l.length ≤ _; omega, by show v.length ≤ _; omega⟩⟩
set_option maxRecDepth 100000 in
theorem open_segs {fuel : Nat} {cs : List Value} {x : DataW H × List MemPlace} (h : DataW.trod enc Tryz.prog w base spare held fuel 22 cs = some x) :
    ∃ (p : Option Addr) (rows : List SegR) (cap : Nat), cs = [.slice p rows.length cap] ∧ (p = none → rows.length = 0 ∧ cap = 0) ∧ rows.length ≤ cap ∧ SegsCame w p rows := by
  have hC : Tryz.prog.cellsOf 29 = 8 := by kernel_rfl
  rcases open_slice (e := 29) (by kernel_rfl) h with ⟨rfl, rfl⟩ | ⟨a, len, cap, m, k, D, Pl, rfl, hb, hl, hm, hmm, hx, hi⟩
  · exact ⟨none, [], 0, rfl, fun _ => ⟨rfl, rfl⟩, Nat.le_refl _, fun i r hr => by simp at hr⟩
  · have hlm : len ≤ m := by rw [hmm]; split <;> omega
    have hs : 0 < len → a = ⟨a.block, a.off, none⟩ := fun h0 => by
      obtain ⟨cs', hc, ht'⟩ := hi 0 (by omega)
      rw [hC] at hc
      obtain ⟨_, hcl, hat⟩ := World.cells?_some hc
      have h1 := hat 0 (by omega)
      rw [List.getElem?_eq_getElem (by omega)] at h1
      simp [Addr.add] at h1
      exact spot_none h1
    obtain ⟨rows, rfl, hq⟩ := list_of (Q := fun i (r : SegR) => (∃ b o, a = ⟨b, o, none⟩ ∧ (∀ j v, (segRA r)[j]? = some v → w.cell? ⟨b, o + i * 8 + j, none⟩ = some v)) ∧ Came w r.s r.p r.q r.cap r.vc) len (fun i hilt => by
      obtain ⟨cs', hc, ht'⟩ := hi i (by omega)
      rw [hC] at hc
      obtain ⟨_, hcl, hat⟩ := World.cells?_some hc
      obtain ⟨r, rfl, hcm⟩ := open_seg_trod ht'
      refine ⟨r, ⟨a.block, a.off, hs (by omega), fun j v hv => ?_⟩, hcm⟩
      have hj : j < 8 := by have := (Array.getElem?_eq_some_iff.1 hv).1; rw [show (segRA r).size = 8 from rfl] at this; exact this
      have h1 := hat j hj
      rw [add_add, hs (by omega), add_at, Array.getElem?_toList, hv] at h1
      rw [Nat.add_assoc]
      exact h1)
    exact ⟨some a, rows, cap, rfl, (fun e => by cases e), hl, fun i r hr => by
      obtain ⟨⟨b, o, e, h1⟩, h2⟩ := hq i r hr
      exact ⟨b, o, by rw [e], h1, h2⟩⟩
end
section
variable {H : Type} {enc : TypeId × Value → H} {w : World} {base : Nat} {spare : Nat → Bool} {held : Bool}
set_option maxRecDepth 100000 in
theorem open_segs14 {r : Reach} {b0 : Nat} {v : Value} {d : DataW H} {ps : List MemPlace} (hv : Value.okWide Tryz.prog w r b0 22 v) (h : DataW.Trod enc Tryz.prog w base spare held 22 v d ps) :
    ∃ (p : Option Addr) (rows : List SegR) (cap : Nat), v = .slice p rows.length cap ∧ SegsCame w p rows ∧ rows.length ≤ 9223372036854775807 := by
  have hu : Tryz.prog.underlying 22 = some (.slice 29) := by kernel_rfl
  obtain ⟨a, len, cap, rfl⟩ := okWide_slice hu hv
  obtain ⟨fuel, hf⟩ := h
  obtain ⟨q, rows, co, e, s1, s2, s3⟩ := open_segs hf
  have e' : Value.slice a len cap = .slice q rows.length co := by simpa [Value.cells] using e
  refine ⟨q, rows, co, e', s3, ?_⟩
  rcases open_slice hu hf with ⟨e2, -⟩ | ⟨a2, len2, cap2, m, k, D, Pl, e2, hb, hl, hm, -⟩
  · rw [e] at e2
    injection e2 with e2
    injection e2 with _ e3 _
    omega
  · rw [e] at e2
    injection e2 with e2
    injection e2 with _ e3 e4
    simp [maxLen] at hm
    omega
end
set_option maxRecDepth 100000 in
theorem c_mbands (p : Option Addr) (cap : Nat) (rows : List SegR) (eps : Int) (w : World) (hin : SegsCame w p rows) (hmx : rows.length ≤ 9223372036854775807)
    (c1 : ∀ W, Below w.heap.size w W → Calls Tryz.prog 10 #[] W fun e w' => e = .returned (.bool true) ∧ Below W.heap.size W w') :
    Calls Tryz.prog 4 #[.slice p rows.length cap, .int .i64 eps] w fun e w' => e = .returned (.bool true) ∧ Below w.heap.size w w' := by
  have c2 := fun W (hW : Below w.heap.size w W) => c_few14 p cap rows W (hin.below hW) hmx
  obtain ⟨L, hL⟩ : ∃ L, (rows.take 12).map (fun r => ownK r.s) = L := ⟨_, rfl⟩
  have h12 : L.length ≤ 12 := by rw [← hL, List.length_map, List.length_take]; omega
  rw [hL] at c2
  have c3 := fun W p c (h : SegsIn W p L) => c_mgCheck p c L W (by omega) h
  have c4 := fun W p c (h : SegsIn W p L) => c_r14Right L p c W h (by omega)
  have c5 := fun W p c p' c' (h : SegsIn W p L) (h' : SegsIn W p' L) => c_r13SameG L L p p' c c' W h h' (by omega)
  simp only [sameL_refl] at c5
  have c1' : ∀ W, Below w.heap.size w W → Calls Tryz.prog 10 #[] W fun e w' => e = .returned (.bool true) ∧ Below w.heap.size w w' := fun W hW => (c1 W hW).mono fun e w' ⟨h1, h2⟩ => ⟨h1, hW.trans (h2.mono hW.size)⟩
  cases hb : rowB (-1) L with
  | true =>
    simp only [hb, if_true] at c3 c4
    exact mbands_row p rows.length cap L eps w h12 (Lib.hid c1') (Lib.hid c2) (Lib.hid c3) (Lib.hid c4) (Lib.hid c5)
  | false =>
    simp only [hb, Bool.false_eq_true, if_false] at c3 c4
    exact mbands_no p rows.length cap L eps w h12 (Lib.hid c1') (Lib.hid c2) (Lib.hid c3) (Lib.hid c4) (Lib.hid c5)
set_option maxRecDepth 100000 in
theorem mbands_lifted (os : Os) (started : os.Started) (H : Type) (enc : TypeId × Value → H) :
    ReturnsInHanded {} Tryz.checked os 4 .any (fun w args => (Rows.mergeBandsSpec.pre enc Tryz.prog Tryz.f4 Rows.mergeBandsRow.domain false w args ∧ laidMetH Tryz.prog laidL w) ∧ sizedMet enc Tryz.prog Tryz.f4 (OpenSpec.ofChange Rows.mergeBandsSpec) false w args)
      (Rows.mergeBandsSpec.post enc Tryz.prog Tryz.f4 false true false false) := by
  refine returnsInHanded_of_change_and (C := Tryz.checked) (X := fun w _ => laidMetH Tryz.prog laidL w) (fun _ _ _ hh h => h.of_heap hh) Tryz.ownKnob started (by kernel_rfl) Tryz.func4
    (ChangeSpec.witness_shaped (enc := enc) (C := Tryz.checked) (os := os) (X := fun w _ => laidMetH Tryz.prog laidL w) false (World.laidAll Tryz.prog os laidL) #[.slice none 0 0, .int .i64 0] 8 (World.laidAll_os _ _ _)
      (World.shaped_of_ZipB (by kernel_rfl) (by kernel_rfl)) (by kernel_rfl) (by kernel_rfl) (by kernel_rfl)
      (by rw [MakeChecks.laidMetH_plain _ _ _ (by kernel_rfl)]; exact laidMet_laidAll _ (by kernel_rfl) (by kernel_rfl))) ?_
  intro W base args ds gs before hval0 hW hcnd _ hL _
  have hval : ∀ (j : Nat) t v, Tryz.f4.params[j]? = some t → args[j]? = some v → Value.okWide Tryz.prog W .any base t v := hval0
  have hW' := hW
  obtain ⟨p, q, hA0, hV, rfl, hfz, hnd⟩ := hW
  have hA : DataW.TrodAll enc Tryz.prog W 0 (fun _ => true) true Tryz.f4.params.toList args.toList ds p := hA0
  rw [Tryz.params4] at hA hval
  obtain ⟨v0, vs0, d0, ds0, p0, q0, hargs, rfl, rfl, h0, hA⟩ := trodAll_cons hA
  obtain ⟨v1, vs1, d1, ds1, p1, q1, rfl, rfl, rfl, h1, hA⟩ := trodAll_cons hA
  obtain ⟨rfl, rfl, rfl⟩ := trodAll_nil hA
  obtain rfl : args = #[v0, v1] := by rw [← Array.toList_inj, hargs]
  obtain ⟨rfl, rfl⟩ := trodVars_none hV
  obtain ⟨p', rows, co, rfl, s3, s4⟩ := open_segs14 (hval 0 _ v0 rfl rfl) h0
  obtain ⟨a, rfl, rfl, rfl, wa⟩ := open_int Tryz.isInt64.1 (hval 1 _ v1 rfl rfl) h1
  clear hA0 hval0
  refine (c_mbands p' co rows a W s3 s4 fun W' hb => wk14_w hL hb).mono fun e W' ⟨he, hb⟩ => ?_
  subst he
  exact ⟨_, rfl, law_post Tryz.laidOut (pars_ok (by kernel_rfl)) rfl (by kernel_rfl) rfl hW' hb rfl⟩
theorem mb_in : Tryz.prog.inPlace 4 = Rows.mergeBandsRow.inPlace := by kernel_rfl
theorem mb_unf : Tryz.prog.unfollowed 4 = true := by kernel_rfl
theorem mb_rec : Tryz.prog.recurses 4 = true := by kernel_rfl
theorem mb_named : Tryz.prog.varsNamed 4 = Rows.mergeBandsRow.named := by kernel_rfl
theorem mb_heard : Tryz.prog.stopsHeard = true := by kernel_rfl
theorem mb_may : Tryz.prog.mayEnter = true := by kernel_rfl
theorem mb_lift : (Rows.mergeBandsRow.lifted == Tryz.prog.liftsFinal) = true := by kernel_rfl
theorem mb_make : (Tryz.prog.make == some Rows.mergeBandsRow.make) = true := by kernel_rfl
theorem mb_keys : (Rows.mergeBandsRow.plainKeys == Tryz.prog.plainKeys) = true := by kernel_rfl
theorem mb_looks : false = Tryz.prog.looks [] := by kernel_rfl
theorem mb_goes : false = Rows.mergeBandsRow.goesBy Tryz.prog := by kernel_rfl
theorem mb_main : Tryz.prog.mainIs = some (Rows.mergeBandsCard.stood.harness.1, Rows.mergeBandsCard.stood.harness.2.toList) := by kernel_rfl
theorem mb_stand : ([22, 2].all fun u => !Tryz.prog.wantsStandIn u) = true := by kernel_rfl
theorem mb_closed : joinedFacts Tryz.prog 4 Tryz.f4 Rows.mergeBandsSpec Rows.mergeBandsRow = true := by
  unfold joinedFacts
  rw [mb_in, mb_unf, mb_rec, mb_named, mb_heard, mb_may, mb_lift, mb_make, mb_keys, Tryz.laidOut]
  kernel_rfl
theorem mb_row_said : Rows.MergeBandsSaid :=
  OpenClaim.holds_of_wide 4 Tryz.f4 rfl rfl rfl rfl rfl rfl rfl ⟨rfl, rfl, rfl, rfl, rfl⟩ rfl rfl rfl rfl rfl (by kernel_rfl) Tryz.func4 mb_closed
    (of_decide_eq_true (by kernel_rfl)) (by unfold Func.isWrapper; first | (rw [if_pos (by decide +kernel)]; kernel_rfl) | (rw [if_neg (by decide +kernel)]; exact ⟨rfl, rfl⟩))
    (fun os started H enc _ => mbands_lifted os started H enc)
theorem mergeBands_holds : Rows.MergeBandsCardSaid :=
  Claim7.holds_tied_plain_at .later [] [.data] true Rows.mergeBandsCard.stood.harness false mb_row_said (fun _ h => by cases h) (by kernel_rfl) (fun _ h => by cases h) mergeBands_row_tie rfl ⟨rfl, rfl⟩ mb_main rfl
    (fun f fn hf hfn => by
      obtain rfl : f = 4 := Option.some.inj ((show Tryz.prog.funcNamed "yearbook/yearbooklaw14.MergeBands" = some 4 by kernel_rfl).symm.trans hf) |>.symm
      obtain rfl : fn = Tryz.f4 := (Option.some.inj (Tryz.func4.symm.trans hfn)).symm
      exact ⟨mb_looks, fun j t ht => by
        rw [Tryz.params4] at ht
        have hm : t ∈ [22, 2] := by
          have h2 := Array.mem_of_getElem? ht
          simp at h2
          simp [h2]
        exact (show Tryz.prog.wantsStandIn t = false by simpa using List.all_eq_true.1 mb_stand t hm)⟩)
    mb_goes
#print axioms mergeBands_holds
end Go.Proofs.YtbanjolokkghdaaGreatDoor
