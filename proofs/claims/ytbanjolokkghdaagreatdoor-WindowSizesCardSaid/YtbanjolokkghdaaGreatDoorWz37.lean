/- For every row of segments that comes in: WindowSizes returns true; the arguments read as before. Condition of the row: slide's numbers are laid as the program's text lays them; the card ties that to the text. -/
import Derived.Test.YtbanjolokkghdaaGreatDoorCards
import Derived.Test.YtbanjolokkghdaaGreatDoorTie
import Derived.SevenTiedAt
import Derived.Test.YtbanjolokkghdaaGreatDoorWz36
set_option linter.unusedSimpArgs false
set_option linter.unusedVariables false
namespace Go.Proofs.YtbanjolokkghdaaGreatDoor
open Go.RowKit
set_option maxRecDepth 1000000
noncomputable def cwT : Orc := orcT (mkT tw) (orcR Tryz.prog 128)
theorem cwT_ok : OrcOk Tryz.prog cwT := orc_mkT orc_rises (by kernel_rfl) (by kernel_rfl) tw_ok
def cwc0 : MCall := ⟨53, [.slice (some ⟨3, 0, none⟩) 4 4, .int .i64 0, .int .i64 1], 8, [(3, [.int .i64 0, .int .i64 0, .int .i64 1, .int .i64 1, .int .i64 2, .int .i64 2, .int .i64 3, .int .i64 3], 56, false)], .slice (some ⟨527, 0, some 0⟩) 4 4, [(527, [.int .i64 1, .slice (some ⟨224, 0, some 0⟩) 1 1, .int .i64 0, .int .i64 0, .int .i64 0, .int .i64 1, .slice none 0 0, .int .i64 0, .int .i64 1, .slice (some ⟨312, 0, some 0⟩) 1 1, .int .i64 1, .int .i64 0, .int .i64 0, .int .i64 1, .slice none 0 0, .int .i64 0, .int .i64 1, .slice (some ⟨400, 0, some 0⟩) 1 1, .int .i64 2, .int .i64 0, .int .i64 0, .int .i64 1, .slice none 0 0, .int .i64 0, .int .i64 1, .slice (some ⟨488, 0, some 0⟩) 1 1, .int .i64 3, .int .i64 0, .int .i64 0, .int .i64 1, .slice none 0 0, .int .i64 0], 29, true), (224, [.int .i64 0, .int .i64 0, .int .i64 1], 94, true), (312, [.int .i64 1, .int .i64 0, .int .i64 1], 94, true), (400, [.int .i64 2, .int .i64 0, .int .i64 1], 94, true), (488, [.int .i64 3, .int .i64 0, .int .i64 1], 94, true)], 528⟩
theorem cwc0_ok (t : TypeId) : subB Tryz.prog cwT doorV t cwc0 = true := by kernel_rfl
def cwc1 : MCall := ⟨8, [.slice (some ⟨527, 0, some 0⟩) 4 4], 528, [(527, [.int .i64 1, .slice (some ⟨224, 0, some 0⟩) 1 1, .int .i64 0, .int .i64 0, .int .i64 0, .int .i64 1, .slice none 0 0, .int .i64 0, .int .i64 1, .slice (some ⟨312, 0, some 0⟩) 1 1, .int .i64 1, .int .i64 0, .int .i64 0, .int .i64 1, .slice none 0 0, .int .i64 0, .int .i64 1, .slice (some ⟨400, 0, some 0⟩) 1 1, .int .i64 2, .int .i64 0, .int .i64 0, .int .i64 1, .slice none 0 0, .int .i64 0, .int .i64 1, .slice (some ⟨488, 0, some 0⟩) 1 1, .int .i64 3, .int .i64 0, .int .i64 0, .int .i64 1, .slice none 0 0, .int .i64 0], 29, true), (224, [.int .i64 0, .int .i64 0, .int .i64 1], 94, true), (312, [.int .i64 1, .int .i64 0, .int .i64 1], 94, true), (400, [.int .i64 2, .int .i64 0, .int .i64 1], 94, true), (488, [.int .i64 3, .int .i64 0, .int .i64 1], 94, true)], .tuple #[.int .i64 24, .int .i64 0], [], 740⟩
theorem cwc1_ok (t : TypeId) : subB Tryz.prog cwT doorV t cwc1 = true := by kernel_rfl
def cwc2 : MCall := ⟨53, [.slice (some ⟨3, 0, none⟩) 4 4, .int .i64 0, .int .i64 2], 740, [(3, [.int .i64 0, .int .i64 0, .int .i64 1, .int .i64 1, .int .i64 2, .int .i64 2, .int .i64 3, .int .i64 3], 56, false)], .slice (some ⟨999, 0, some 0⟩) 1 1, [(999, [.int .i64 2, .slice (some ⟨930, 0, some 0⟩) 1 1, .int .i64 0, .int .i64 0, .int .i64 1, .int .i64 1, .slice none 0 0, .int .i64 0], 29, true), (930, [.int .i64 0, .int .i64 1, .int .i64 4], 94, true)], 1000⟩
theorem cwc2_ok (t : TypeId) : subB Tryz.prog cwT doorV t cwc2 = true := by kernel_rfl
def cwc3 : MCall := ⟨8, [.slice (some ⟨999, 0, some 0⟩) 1 1], 1000, [(999, [.int .i64 2, .slice (some ⟨930, 0, some 0⟩) 1 1, .int .i64 0, .int .i64 0, .int .i64 1, .int .i64 1, .slice none 0 0, .int .i64 0], 29, true), (930, [.int .i64 0, .int .i64 1, .int .i64 4], 94, true)], .tuple #[.int .i64 9, .int .i64 0], [], 1074⟩
theorem cwc3_ok (t : TypeId) : subB Tryz.prog cwT doorV t cwc3 = true := by kernel_rfl
def cwc4 : MCall := ⟨53, [.slice (some ⟨3, 0, none⟩) 4 4, .int .i64 0, .int .i64 3], 1074, [(3, [.int .i64 0, .int .i64 0, .int .i64 1, .int .i64 1, .int .i64 2, .int .i64 2, .int .i64 3, .int .i64 3], 56, false)], .slice (some ⟨1365, 0, some 0⟩) 1 1, [(1365, [.int .i64 2, .slice (some ⟨1296, 0, some 0⟩) 1 1, .int .i64 0, .int .i64 0, .int .i64 1, .int .i64 1, .slice none 0 0, .int .i64 0], 29, true), (1296, [.int .i64 0, .int .i64 1, .int .i64 4], 94, true)], 1366⟩
theorem cwc4_ok (t : TypeId) : subB Tryz.prog cwT doorV t cwc4 = true := by kernel_rfl
def cwc5 : MCall := ⟨8, [.slice (some ⟨1365, 0, some 0⟩) 1 1], 1366, [(1365, [.int .i64 2, .slice (some ⟨1296, 0, some 0⟩) 1 1, .int .i64 0, .int .i64 0, .int .i64 1, .int .i64 1, .slice none 0 0, .int .i64 0], 29, true), (1296, [.int .i64 0, .int .i64 1, .int .i64 4], 94, true)], .tuple #[.int .i64 9, .int .i64 0], [], 1440⟩
theorem cwc5_ok (t : TypeId) : subB Tryz.prog cwT doorV t cwc5 = true := by kernel_rfl
def cwc6 : MCall := ⟨53, [.slice (some ⟨3, 0, none⟩) 4 4, .int .i64 0, .int .i64 4], 1440, [(3, [.int .i64 0, .int .i64 0, .int .i64 1, .int .i64 1, .int .i64 2, .int .i64 2, .int .i64 3, .int .i64 3], 56, false)], .slice (some ⟨1520, 0, some 0⟩) 1 1, [(1520, [.int .i64 4, .slice (some ⟨1515, 0, some 0⟩) 1 1, .int .i64 0, .int .i64 0, .int .i64 0, .int .i64 0, .slice (some ⟨1517, 0, some 0⟩) 4 4, .int .i64 0], 29, true), (1515, [.int .i64 0, .int .i64 1, .int .i64 4], 94, true), (1517, [.int .i64 0, .int .i64 1, .int .i64 2, .int .i64 3], 2, true)], 1521⟩
theorem cwc6_ok (t : TypeId) : subB Tryz.prog cwT doorV t cwc6 = true := by kernel_rfl
def cwc7 : MCall := ⟨8, [.slice (some ⟨1520, 0, some 0⟩) 1 1], 1521, [(1520, [.int .i64 4, .slice (some ⟨1515, 0, some 0⟩) 1 1, .int .i64 0, .int .i64 0, .int .i64 0, .int .i64 0, .slice (some ⟨1517, 0, some 0⟩) 4 4, .int .i64 0], 29, true), (1515, [.int .i64 0, .int .i64 1, .int .i64 4], 94, true), (1517, [.int .i64 0, .int .i64 1, .int .i64 2, .int .i64 3], 2, true)], .tuple #[.int .i64 10, .int .i64 0], [], 1597⟩
theorem cwc7_ok (t : TypeId) : subB Tryz.prog cwT doorV t cwc7 = true := by kernel_rfl
def cwc8 : MCall := ⟨53, [.slice (some ⟨3, 0, none⟩) 4 4, .int .i64 0, .int .i64 1], 1601, [(3, [.int .i64 0, .int .i64 0, .int .i64 1, .int .i64 1, .int .i64 2, .int .i64 2, .int .i64 3, .int .i64 3], 56, false)], .slice (some ⟨2120, 0, some 0⟩) 4 4, [(2120, [.int .i64 1, .slice (some ⟨1817, 0, some 0⟩) 1 1, .int .i64 0, .int .i64 0, .int .i64 0, .int .i64 1, .slice none 0 0, .int .i64 0, .int .i64 1, .slice (some ⟨1905, 0, some 0⟩) 1 1, .int .i64 1, .int .i64 0, .int .i64 0, .int .i64 1, .slice none 0 0, .int .i64 0, .int .i64 1, .slice (some ⟨1993, 0, some 0⟩) 1 1, .int .i64 2, .int .i64 0, .int .i64 0, .int .i64 1, .slice none 0 0, .int .i64 0, .int .i64 1, .slice (some ⟨2081, 0, some 0⟩) 1 1, .int .i64 3, .int .i64 0, .int .i64 0, .int .i64 1, .slice none 0 0, .int .i64 0], 29, true), (1817, [.int .i64 0, .int .i64 0, .int .i64 1], 94, true), (1905, [.int .i64 1, .int .i64 0, .int .i64 1], 94, true), (1993, [.int .i64 2, .int .i64 0, .int .i64 1], 94, true), (2081, [.int .i64 3, .int .i64 0, .int .i64 1], 94, true)], 2121⟩
theorem cwc8_ok (t : TypeId) : subB Tryz.prog cwT doorV t cwc8 = true := by kernel_rfl
def cwc9 : MCall := ⟨53, [.slice (some ⟨3, 0, none⟩) 4 4, .int .i64 0, .int .i64 1], 2125, [(3, [.int .i64 0, .int .i64 0, .int .i64 1, .int .i64 1, .int .i64 2, .int .i64 2, .int .i64 3, .int .i64 3], 56, false)], .slice (some ⟨2644, 0, some 0⟩) 4 4, [(2644, [.int .i64 1, .slice (some ⟨2341, 0, some 0⟩) 1 1, .int .i64 0, .int .i64 0, .int .i64 0, .int .i64 1, .slice none 0 0, .int .i64 0, .int .i64 1, .slice (some ⟨2429, 0, some 0⟩) 1 1, .int .i64 1, .int .i64 0, .int .i64 0, .int .i64 1, .slice none 0 0, .int .i64 0, .int .i64 1, .slice (some ⟨2517, 0, some 0⟩) 1 1, .int .i64 2, .int .i64 0, .int .i64 0, .int .i64 1, .slice none 0 0, .int .i64 0, .int .i64 1, .slice (some ⟨2605, 0, some 0⟩) 1 1, .int .i64 3, .int .i64 0, .int .i64 0, .int .i64 1, .slice none 0 0, .int .i64 0], 29, true), (2341, [.int .i64 0, .int .i64 0, .int .i64 1], 94, true), (2429, [.int .i64 1, .int .i64 0, .int .i64 1], 94, true), (2517, [.int .i64 2, .int .i64 0, .int .i64 1], 94, true), (2605, [.int .i64 3, .int .i64 0, .int .i64 1], 94, true)], 2645⟩
theorem cwc9_ok (t : TypeId) : subB Tryz.prog cwT doorV t cwc9 = true := by kernel_rfl
def cwc10 : MCall := ⟨8, [.slice (some ⟨2644, 0, some 0⟩) 4 4], 2645, [(2644, [.int .i64 1, .slice (some ⟨2341, 0, some 0⟩) 1 1, .int .i64 0, .int .i64 0, .int .i64 0, .int .i64 1, .slice none 0 0, .int .i64 0, .int .i64 1, .slice (some ⟨2429, 0, some 0⟩) 1 1, .int .i64 1, .int .i64 0, .int .i64 0, .int .i64 1, .slice none 0 0, .int .i64 0, .int .i64 1, .slice (some ⟨2517, 0, some 0⟩) 1 1, .int .i64 2, .int .i64 0, .int .i64 0, .int .i64 1, .slice none 0 0, .int .i64 0, .int .i64 1, .slice (some ⟨2605, 0, some 0⟩) 1 1, .int .i64 3, .int .i64 0, .int .i64 0, .int .i64 1, .slice none 0 0, .int .i64 0], 29, true), (2341, [.int .i64 0, .int .i64 0, .int .i64 1], 94, true), (2429, [.int .i64 1, .int .i64 0, .int .i64 1], 94, true), (2517, [.int .i64 2, .int .i64 0, .int .i64 1], 94, true), (2605, [.int .i64 3, .int .i64 0, .int .i64 1], 94, true)], .tuple #[.int .i64 24, .int .i64 0], [], 2857⟩
theorem cwc10_ok (t : TypeId) : subB Tryz.prog cwT doorV t cwc10 = true := by kernel_rfl
def cwc11 : MCall := ⟨53, [.slice (some ⟨3, 0, none⟩) 4 4, .int .i64 0, .int .i64 2], 2857, [(3, [.int .i64 0, .int .i64 0, .int .i64 1, .int .i64 1, .int .i64 2, .int .i64 2, .int .i64 3, .int .i64 3], 56, false)], .slice (some ⟨3116, 0, some 0⟩) 1 1, [(3116, [.int .i64 2, .slice (some ⟨3047, 0, some 0⟩) 1 1, .int .i64 0, .int .i64 0, .int .i64 1, .int .i64 1, .slice none 0 0, .int .i64 0], 29, true), (3047, [.int .i64 0, .int .i64 1, .int .i64 4], 94, true)], 3117⟩
theorem cwc11_ok (t : TypeId) : subB Tryz.prog cwT doorV t cwc11 = true := by kernel_rfl
def cwc12 : MCall := ⟨8, [.slice (some ⟨3116, 0, some 0⟩) 1 1], 3117, [(3116, [.int .i64 2, .slice (some ⟨3047, 0, some 0⟩) 1 1, .int .i64 0, .int .i64 0, .int .i64 1, .int .i64 1, .slice none 0 0, .int .i64 0], 29, true), (3047, [.int .i64 0, .int .i64 1, .int .i64 4], 94, true)], .tuple #[.int .i64 9, .int .i64 0], [], 3191⟩
theorem cwc12_ok (t : TypeId) : subB Tryz.prog cwT doorV t cwc12 = true := by kernel_rfl
def cwc13 : MCall := ⟨53, [.slice (some ⟨3, 0, none⟩) 4 4, .int .i64 0, .int .i64 3], 3191, [(3, [.int .i64 0, .int .i64 0, .int .i64 1, .int .i64 1, .int .i64 2, .int .i64 2, .int .i64 3, .int .i64 3], 56, false)], .slice (some ⟨3482, 0, some 0⟩) 1 1, [(3482, [.int .i64 2, .slice (some ⟨3413, 0, some 0⟩) 1 1, .int .i64 0, .int .i64 0, .int .i64 1, .int .i64 1, .slice none 0 0, .int .i64 0], 29, true), (3413, [.int .i64 0, .int .i64 1, .int .i64 4], 94, true)], 3483⟩
theorem cwc13_ok (t : TypeId) : subB Tryz.prog cwT doorV t cwc13 = true := by kernel_rfl
def cwc14 : MCall := ⟨8, [.slice (some ⟨3482, 0, some 0⟩) 1 1], 3483, [(3482, [.int .i64 2, .slice (some ⟨3413, 0, some 0⟩) 1 1, .int .i64 0, .int .i64 0, .int .i64 1, .int .i64 1, .slice none 0 0, .int .i64 0], 29, true), (3413, [.int .i64 0, .int .i64 1, .int .i64 4], 94, true)], .tuple #[.int .i64 9, .int .i64 0], [], 3557⟩
theorem cwc14_ok (t : TypeId) : subB Tryz.prog cwT doorV t cwc14 = true := by kernel_rfl
def cwc15 : MCall := ⟨53, [.slice (some ⟨3, 0, none⟩) 4 4, .int .i64 0, .int .i64 4], 3557, [(3, [.int .i64 0, .int .i64 0, .int .i64 1, .int .i64 1, .int .i64 2, .int .i64 2, .int .i64 3, .int .i64 3], 56, false)], .slice (some ⟨3637, 0, some 0⟩) 1 1, [(3637, [.int .i64 4, .slice (some ⟨3632, 0, some 0⟩) 1 1, .int .i64 0, .int .i64 0, .int .i64 0, .int .i64 0, .slice (some ⟨3634, 0, some 0⟩) 4 4, .int .i64 0], 29, true), (3632, [.int .i64 0, .int .i64 1, .int .i64 4], 94, true), (3634, [.int .i64 0, .int .i64 1, .int .i64 2, .int .i64 3], 2, true)], 3638⟩
theorem cwc15_ok (t : TypeId) : subB Tryz.prog cwT doorV t cwc15 = true := by kernel_rfl
def cwc16 : MCall := ⟨8, [.slice (some ⟨3637, 0, some 0⟩) 1 1], 3638, [(3637, [.int .i64 4, .slice (some ⟨3632, 0, some 0⟩) 1 1, .int .i64 0, .int .i64 0, .int .i64 0, .int .i64 0, .slice (some ⟨3634, 0, some 0⟩) 4 4, .int .i64 0], 29, true), (3632, [.int .i64 0, .int .i64 1, .int .i64 4], 94, true), (3634, [.int .i64 0, .int .i64 1, .int .i64 2, .int .i64 3], 2, true)], .tuple #[.int .i64 10, .int .i64 0], [], 3714⟩
theorem cwc16_ok (t : TypeId) : subB Tryz.prog cwT doorV t cwc16 = true := by kernel_rfl
def cwL : List MCall := [cwc0, cwc1, cwc2, cwc3, cwc4, cwc5, cwc6, cwc7, cwc8, cwc9, cwc10, cwc11, cwc12, cwc13, cwc14, cwc15, cwc16]
noncomputable def cwO : Orc := orcM doorV cwT cwL
theorem cwO_ok : OrcOk Tryz.prog cwO := orc_mem cwT_ok (by kernel_rfl) fun c hc => by
  refine ⟨cwT, cwT_ok, ?_⟩
  simp only [cwL, List.mem_cons, List.not_mem_nil, or_false] at hc
  rcases hc with rfl | rfl | rfl | rfl | rfl | rfl | rfl | rfl | rfl | rfl | rfl | rfl | rfl | rfl | rfl | rfl | rfl
  · exact cwc0_ok
  · exact cwc1_ok
  · exact cwc2_ok
  · exact cwc3_ok
  · exact cwc4_ok
  · exact cwc5_ok
  · exact cwc6_ok
  · exact cwc7_ok
  · exact cwc8_ok
  · exact cwc9_ok
  · exact cwc10_ok
  · exact cwc11_ok
  · exact cwc12_ok
  · exact cwc13_ok
  · exact cwc14_ok
  · exact cwc15_ok
  · exact cwc16_ok
end Go.Proofs.YtbanjolokkghdaaGreatDoor
namespace Go.Proofs.YtbanjolokkghdaaGreatDoor
open Go.RowKit
set_option maxRecDepth 1000000
noncomputable def wk13O : Orc := cwO
theorem wk13O_ok : OrcOk Tryz.prog wk13O := cwO_ok
noncomputable def wk13c : Code := match Tryz.f6.body with | some c => c | none => .skip
def wk13v1 : List Value := [.bool false, .slice (some ⟨3, 0, none⟩) 4 4, .tuple #[], .tuple #[], .tuple #[], .tuple #[], .tuple #[], .tuple #[], .agg #[.int .i64 0, .int .i64 0], .agg #[.int .i64 1, .int .i64 1], .agg #[.int .i64 2, .int .i64 2], .agg #[.int .i64 3, .int .i64 3], .slice (some ⟨3, 0, none⟩) 4 4, .tuple #[], .tuple #[], .tuple #[], .tuple #[], .tuple #[], .tuple #[], .tuple #[], .tuple #[], .tuple #[], .tuple #[], .tuple #[], .tuple #[], .tuple #[], .tuple #[], .tuple #[], .tuple #[], .tuple #[], .tuple #[], .tuple #[], .tuple #[], .tuple #[], .tuple #[], .tuple #[], .tuple #[], .tuple #[], .tuple #[], .tuple #[], .tuple #[], .tuple #[], .tuple #[], .tuple #[], .tuple #[], .tuple #[], .tuple #[], .tuple #[], .tuple #[], .tuple #[], .tuple #[], .tuple #[], .tuple #[], .tuple #[], .tuple #[], .tuple #[], .tuple #[], .tuple #[], .tuple #[], .tuple #[]]
def wk13m1 : Mem := [(3, [.int .i64 0, .int .i64 0, .int .i64 1, .int .i64 1, .int .i64 2, .int .i64 2, .int .i64 3, .int .i64 3], 56, false)]
def wk13v2 : List Value := [.bool false, .slice (some ⟨3, 0, none⟩) 4 4, .int .i64 2, .int .i64 0, .tuple #[], .tuple #[], .tuple #[], .tuple #[], .agg #[.int .i64 0, .int .i64 0], .agg #[.int .i64 1, .int .i64 1], .agg #[.int .i64 2, .int .i64 2], .agg #[.int .i64 3, .int .i64 3], .slice (some ⟨3, 0, none⟩) 4 4, .tuple #[.int .i64 2, .int .i64 0], .slice (some ⟨3, 0, none⟩) 4 4, .tuple #[.int .i64 2, .int .i64 0], .int .i64 2, .int .i64 0, .tuple #[], .tuple #[], .tuple #[], .tuple #[], .tuple #[], .tuple #[], .tuple #[], .tuple #[], .tuple #[], .tuple #[], .tuple #[], .tuple #[], .tuple #[], .tuple #[], .tuple #[], .tuple #[], .tuple #[], .tuple #[], .tuple #[], .tuple #[], .tuple #[], .tuple #[], .tuple #[], .tuple #[], .tuple #[], .tuple #[], .tuple #[], .tuple #[], .tuple #[], .tuple #[], .tuple #[], .tuple #[], .tuple #[], .tuple #[], .tuple #[], .tuple #[], .tuple #[], .tuple #[], .tuple #[], .tuple #[], .tuple #[], .tuple #[]]
def wk13m2 : Mem := [(3, [.int .i64 0, .int .i64 0, .int .i64 1, .int .i64 1, .int .i64 2, .int .i64 2, .int .i64 3, .int .i64 3], 56, false)]
def wk13v3 : List Value := [.bool false, .slice (some ⟨3, 0, none⟩) 4 4, .int .i64 2, .int .i64 0, .slice (some ⟨2120, 0, some 0⟩) 4 4, .int .i64 0, .tuple #[], .tuple #[], .agg #[.int .i64 0, .int .i64 0], .agg #[.int .i64 1, .int .i64 1], .agg #[.int .i64 2, .int .i64 2], .agg #[.int .i64 3, .int .i64 3], .slice (some ⟨3, 0, none⟩) 4 4, .tuple #[.int .i64 2, .int .i64 0], .slice (some ⟨3, 0, none⟩) 4 4, .tuple #[.int .i64 2, .int .i64 0], .int .i64 2, .int .i64 0, .tuple #[.slice (some ⟨2120, 0, some 0⟩) 4 4, .int .i64 0], .slice (some ⟨3, 0, none⟩) 4 4, .tuple #[.slice (some ⟨2120, 0, some 0⟩) 4 4, .int .i64 0], .slice (some ⟨2120, 0, some 0⟩) 4 4, .int .i64 0, .tuple #[], .tuple #[], .tuple #[], .tuple #[], .tuple #[], .tuple #[], .tuple #[], .tuple #[], .tuple #[], .tuple #[], .tuple #[], .tuple #[], .tuple #[], .tuple #[], .tuple #[], .tuple #[], .tuple #[], .tuple #[], .tuple #[], .tuple #[], .tuple #[], .tuple #[], .tuple #[], .tuple #[], .tuple #[], .tuple #[], .tuple #[], .tuple #[], .tuple #[], .tuple #[], .tuple #[], .tuple #[], .tuple #[], .tuple #[], .tuple #[], .tuple #[], .tuple #[]]
def wk13m3 : Mem := [(3, [.int .i64 0, .int .i64 0, .int .i64 1, .int .i64 1, .int .i64 2, .int .i64 2, .int .i64 3, .int .i64 3], 56, false), (2120, [.int .i64 1, .slice (some ⟨1817, 0, some 0⟩) 1 1, .int .i64 0, .int .i64 0, .int .i64 0, .int .i64 1, .slice none 0 0, .int .i64 0, .int .i64 1, .slice (some ⟨1905, 0, some 0⟩) 1 1, .int .i64 1, .int .i64 0, .int .i64 0, .int .i64 1, .slice none 0 0, .int .i64 0, .int .i64 1, .slice (some ⟨1993, 0, some 0⟩) 1 1, .int .i64 2, .int .i64 0, .int .i64 0, .int .i64 1, .slice none 0 0, .int .i64 0, .int .i64 1, .slice (some ⟨2081, 0, some 0⟩) 1 1, .int .i64 3, .int .i64 0, .int .i64 0, .int .i64 1, .slice none 0 0, .int .i64 0], 29, true), (1817, [.int .i64 0, .int .i64 0, .int .i64 1], 94, true), (1905, [.int .i64 1, .int .i64 0, .int .i64 1], 94, true), (1993, [.int .i64 2, .int .i64 0, .int .i64 1], 94, true), (2081, [.int .i64 3, .int .i64 0, .int .i64 1], 94, true)]
theorem wk13_1 (t : TypeId) : pieceB Tryz.prog wk13O (hdC 2 wk13c) ⟨.nil, Tryz.f6.ntmps, [], none⟩ (sDoor t) wk13v1 wk13m1 4 = true := by kernel_rfl
theorem wk13_2 (t : TypeId) : pieceB Tryz.prog wk13O (hdC 1 (tlC 2 wk13c)) (frX wk13v1) (stX (.cells doorV t false) wk13m1 4) wk13v2 wk13m2 1597 = true := by kernel_rfl
theorem wk13_3 (t : TypeId) : pieceB Tryz.prog wk13O (hdC 1 (tlC 1 (tlC 2 wk13c))) (frX wk13v2) (stX (.cells doorV t false) wk13m2 1597) wk13v3 wk13m3 2121 = true := by kernel_rfl
theorem wk13_last (t : TypeId) : lastX Tryz.prog wk13O Tryz.f6 (tlC 1 (tlC 1 (tlC 2 wk13c))) (frX wk13v3) (stX (.cells doorV t false) wk13m3 2121) = true := by kernel_rfl
theorem wk13_goes (t : TypeId) : GoesT Tryz.prog (.cells doorV t false) Tryz.f6 wk13c ⟨.nil, Tryz.f6.ntmps, [], none⟩ (sDoor t) :=
  goes_cut wk13O_ok (by kernel_rfl) 2 rfl (wk13_1 t) (by kernel_rfl) (goes_cut wk13O_ok (by kernel_rfl) 1 rfl (wk13_2 t) (by kernel_rfl) (goes_cut wk13O_ok (by kernel_rfl) 1 rfl (wk13_3 t) (by kernel_rfl) (goes_last wk13O_ok (by kernel_rfl) rfl (wk13_last t))))
theorem wk13_w {w W : World} (h : laidMetH Tryz.prog laidL w) (hb : Below w.heap.size w W) : Calls Tryz.prog 6 #[] W fun e w' => e = .returned (.bool true) ∧ Below W.heap.size W w' := by
  obtain ⟨t, ht⟩ := door_cells h
  exact goes_call Tryz.func6 (c := wk13c) (by kernel_rfl) (by kernel_rfl) (wk13_goes t) (door_inv ((hb.block 0 (Array.getElem?_eq_some_iff.1 ht).1).trans ht))
end Go.Proofs.YtbanjolokkghdaaGreatDoor
namespace Go.Proofs.YtbanjolokkghdaaGreatDoor
open Go.RowKit
end Go.Proofs.YtbanjolokkghdaaGreatDoor
namespace Go.Proofs.YtbanjolokkghdaaGreatDoor
open Go.RowKit
/-- What own leaves of a series. -/
def ownSer (nm : ByteArray) (ep fl la sc : Int) (rows : List SegR) (pts : List (Int × Int)) : SerT := ⟨nm, ep, fl, la, sc, (rows.take (min rows.length 60)).map fun r => ownG r.s, pts.take (min pts.length 60)⟩
/-- A series that came in. -/
structure SerCame (w : World) (ps po : Option Addr) (cs co : Nat) (rows : List SegR) (pts : List (Int × Int)) : Prop where
  segs : SegsCame w ps rows
  opn : PtsIn w po pts
  nilS : ps = none → rows.length = 0 ∧ cs = 0
  nilO : po = none → pts.length = 0 ∧ co = 0
  capS : rows.length ≤ cs
  capO : pts.length ≤ co
theorem SerCame.below {w w' : World} {ps po : Option Addr} {cs co : Nat} {rows : List SegR} {pts : List (Int × Int)} (h : SerCame w ps po cs co rows pts) (hb : Below w.heap.size w w') : SerCame w' ps po cs co rows pts := ⟨h.segs.below hb, h.opn.below hb, h.nilS, h.nilO, h.capS, h.capO⟩
end Go.Proofs.YtbanjolokkghdaaGreatDoor
namespace Go.Proofs.YtbanjolokkghdaaGreatDoor
open Go.ChangeShapes Go.WideShapes Go.ChangeAt Go.RowKit Go.Deep
section
variable {H : Type} {enc : TypeId × Value → H} {w : World} {base : Nat} {spare : Nat → Bool} {held : Bool}
set_option maxRecDepth 100000 in
theorem open_seg_trod {fuel : Nat} {cs : List Value} {x : DataW H × List MemPlace} (hf : DataW.trod enc Tryz.prog w base spare held fuel 29 cs = some x) :
    ∃ r : SegR, cs = (segRA r).toList ∧ Came w r.s r.p r.q r.cap r.vc := by
  have hC : Tryz.prog.cellsOf 29 = 8 := by kernel_rfl
  have hR : Tryz.prog.cellsOf 24 = 1 := by kernel_rfl
  have hV : Tryz.prog.cellsOf 27 = 1 := by kernel_rfl
  have hL : Tryz.prog.cellsOf 26 = 4 := by kernel_rfl
  obtain ⟨hsz, hat⟩ := open_struct Tryz.fieldsSeg (by simp) hf
  rw [hC] at hsz
  match cs, hsz with
  | [c0, c1, c2, c3, c4, c5, c6, c7], _ =>
    obtain ⟨n0, y0, h0⟩ := hat 0 _ _ rfl
    obtain ⟨n1, y1, h1⟩ := hat 1 _ _ rfl
    obtain ⟨n2, y2, h2⟩ := hat 2 _ _ rfl
    obtain ⟨n3, y3, h3⟩ := hat 3 _ _ rfl
    obtain ⟨n4, y4, h4⟩ := hat 4 _ _ rfl
    rw [Tryz.isInt.2] at h0
    rw [hR] at h1
    rw [hL] at h2
    rw [hV] at h3
    rw [Tryz.isInt64.2] at h4
    obtain ⟨K, eK, _, wK⟩ := DataW.trod_int Tryz.isInt.1 h0
    obtain ⟨p, l, cap, e1, r1, r2, r3, r4, r5⟩ := open_run_list h1
    obtain ⟨_, hln⟩ := open_ints_struct Tryz.fieldsLine (by simp) (by rw [hL]; rfl) (fun i hi => by
      match i, hi with
      | 0, _ => exact ⟨_, rfl, Tryz.isInt64⟩
      | 1, _ => exact ⟨_, rfl, Tryz.isInt64⟩
      | 2, _ => exact ⟨_, rfl, Tryz.isInt64⟩
      | 3, _ => exact ⟨_, rfl, Tryz.isInt64⟩) h2
    obtain ⟨A, a1, a2⟩ := hln 0 (by simp)
    obtain ⟨R, b1, b2⟩ := hln 1 (by simp)
    obtain ⟨N, g1, g2⟩ := hln 2 (by simp)
    obtain ⟨D, d1, d2⟩ := hln 3 (by simp)
    obtain ⟨q, v, vc, e3, q1, q2, q3, q4, q5⟩ := open_nums (by kernel_rfl) Tryz.isInt64.1 Tryz.isInt64.2 h3
    obtain ⟨E, eE, _, wE⟩ := DataW.trod_int Tryz.isInt64.1 h4
    simp at eK e1 a1 b1 g1 d1 e3 eE
    subst eK; subst e1; subst a1; subst b1; subst g1; subst d1; subst e3; subst eE
    unfold maxLen at r3 q3
    exact ⟨⟨⟨K, l, A, R, N, D, v, E⟩, p, q, cap, vc⟩, rfl, ⟨r4, q4, r1, q1, r2, q2, by show l.length ≤ _; omega, by show v.length ≤ _; omega⟩⟩
set_option maxRecDepth 100000 in
theorem open_segs {fuel : Nat} {cs : List Value} {x : DataW H × List MemPlace} (h : DataW.trod enc Tryz.prog w base spare held fuel 22 cs = some x) :
    ∃ (p : Option Addr) (rows : List SegR) (cap : Nat), cs = [.slice p rows.length cap] ∧ (p = none → rows.length = 0 ∧ cap = 0) ∧ rows.length ≤ cap ∧ SegsCame w p rows := by
  have hC : Tryz.prog.cellsOf 29 = 8 := by kernel_rfl
  rcases open_slice (e := 29) (by kernel_rfl) h with ⟨rfl, rfl⟩ | ⟨a, len, cap, m, k, D, Pl, rfl, hb, hl, hm, hmm, hx, hi⟩
  · exact ⟨none, [], 0, rfl, fun _ => ⟨rfl, rfl⟩, Nat.le_refl _, fun i r hr => by simp at hr⟩
  · have hlm : len ≤ m := by rw [hmm]; split <;> omega
    have hs : 0 < len → a = ⟨a.block, a.off, none⟩ := fun h0 => by
      obtain ⟨cs', hc, ht'⟩ := hi 0 (by omega)
      rw [hC] at hc
      obtain ⟨_, hcl, hat⟩ := World.cells?_some hc
      have h1 := hat 0 (by omega)
      rw [List.getElem?_eq_getElem (by omega)] at h1
      simp [Addr.add] at h1
      exact spot_none h1
    obtain ⟨rows, rfl, hq⟩ := list_of (Q := fun i (r : SegR) => (∃ b o, a = ⟨b, o, none⟩ ∧ (∀ j v, (segRA r)[j]? = some v → w.cell? ⟨b, o + i * 8 + j, none⟩ = some v)) ∧ Came w r.s r.p r.q r.cap r.vc) len (fun i hilt => by
      obtain ⟨cs', hc, ht'⟩ := hi i (by omega)
      rw [hC] at hc
      obtain ⟨_, hcl, hat⟩ := World.cells?_some hc
      obtain ⟨r, rfl, hcm⟩ := open_seg_trod ht'
      refine ⟨r, ⟨a.block, a.off, hs (by omega), fun j v hv => ?_⟩, hcm⟩
      have hj : j < 8 := by have := (Array.getElem?_eq_some_iff.1 hv).1; rw [show (segRA r).size = 8 from rfl] at this; exact this
      have h1 := hat j hj
      rw [add_add, hs (by omega), add_at, Array.getElem?_toList, hv] at h1
      rw [Nat.add_assoc]
      exact h1)
    exact ⟨some a, rows, cap, rfl, (fun e => by cases e), hl, fun i r hr => by
      obtain ⟨⟨b, o, e, h1⟩, h2⟩ := hq i r hr
      exact ⟨b, o, by rw [e], h1, h2⟩⟩
end
end Go.Proofs.YtbanjolokkghdaaGreatDoor
namespace Go.Proofs.YtbanjolokkghdaaGreatDoor
open Go.ChangeShapes Go.WideShapes Go.ChangeAt Go.RowKit Go.Deep
section
variable {H : Type} {enc : TypeId × Value → H} {w : World} {base : Nat} {spare : Nat → Bool} {held : Bool}
set_option maxRecDepth 100000 in
theorem open_segs13 {r : Reach} {b0 : Nat} {v : Value} {d : DataW H} {ps : List MemPlace} (hv : Value.okWide Tryz.prog w r b0 22 v) (h : DataW.Trod enc Tryz.prog w base spare held 22 v d ps) :
    ∃ (p : Option Addr) (rows : List SegR) (cap : Nat), v = .slice p rows.length cap ∧ SegsCame w p rows ∧ rows.length ≤ 9223372036854775807 := by
  have hu : Tryz.prog.underlying 22 = some (.slice 29) := by kernel_rfl
  obtain ⟨a, len, cap, rfl⟩ := okWide_slice hu hv
  obtain ⟨fuel, hf⟩ := h
  obtain ⟨q, rows, co, e, s1, s2, s3⟩ := open_segs hf
  have e' : Value.slice a len cap = .slice q rows.length co := by simpa [Value.cells] using e
  refine ⟨q, rows, co, e', s3, ?_⟩
  rcases open_slice hu hf with ⟨e2, -⟩ | ⟨a2, len2, cap2, m, k, D, Pl, e2, hb, hl, hm, -⟩
  · rw [e] at e2
    injection e2 with e2
    injection e2 with _ e3 _
    omega
  · rw [e] at e2
    injection e2 with e2
    injection e2 with _ e3 e4
    simp [maxLen] at hm
    omega
end
set_option maxRecDepth 100000 in
theorem wsizes_lifted (os : Os) (started : os.Started) (H : Type) (enc : TypeId × Value → H) :
    ReturnsInHanded {} Tryz.checked os 3 .any (fun w args => (Rows.windowSizesSpec.pre enc Tryz.prog Tryz.f3 Rows.windowSizesRow.domain false w args ∧ laidMetH Tryz.prog laidL w) ∧ sizedMet enc Tryz.prog Tryz.f3 (OpenSpec.ofChange Rows.windowSizesSpec) false w args)
      (Rows.windowSizesSpec.post enc Tryz.prog Tryz.f3 false true false false) := by
  refine returnsInHanded_of_change_and (C := Tryz.checked) (X := fun w _ => laidMetH Tryz.prog laidL w) (fun _ _ _ hh h => h.of_heap hh) Tryz.ownKnob started (by kernel_rfl) Tryz.func3
    (ChangeSpec.witness_shaped (enc := enc) (C := Tryz.checked) (os := os) (X := fun w _ => laidMetH Tryz.prog laidL w) false (World.laidAll Tryz.prog os laidL) #[.slice none 0 0] 8 (World.laidAll_os _ _ _)
      (World.shaped_of_ZipB (by kernel_rfl) (by kernel_rfl)) (by kernel_rfl) (by kernel_rfl) (by kernel_rfl)
      (by rw [MakeChecks.laidMetH_plain _ _ _ (by kernel_rfl)]; exact laidMet_laidAll _ (by kernel_rfl) (by kernel_rfl))) ?_
  intro W base args ds gs before hval0 hW hcnd _ hL _
  have hval : ∀ (j : Nat) t v, Tryz.f3.params[j]? = some t → args[j]? = some v → Value.okWide Tryz.prog W .any base t v := hval0
  have hW' := hW
  obtain ⟨p, q, hA0, hV, rfl, hfz, hnd⟩ := hW
  have hA : DataW.TrodAll enc Tryz.prog W 0 (fun _ => true) true Tryz.f3.params.toList args.toList ds p := hA0
  rw [Tryz.params3] at hA hval
  obtain ⟨v0, vs0, d0, ds0, p0, q0, hargs, rfl, rfl, h0, hA⟩ := trodAll_cons hA
  obtain ⟨rfl, rfl, rfl⟩ := trodAll_nil hA
  obtain rfl : args = #[v0] := by rw [← Array.toList_inj, hargs]
  obtain ⟨rfl, rfl⟩ := trodVars_none hV
  obtain ⟨p', rows, co, rfl, s3, s4⟩ := open_segs13 (hval 0 _ v0 rfl rfl) h0
  clear hA0 hval0
  refine (wsizes_w p' co rows W s3 s4 (Lib.hid fun W' hb => (wk13_w hL hb).mono fun e W2 ⟨e1, e2⟩ => ⟨e1, hb.trans (e2.mono hb.size)⟩)).mono fun e W' ⟨he, hb⟩ => ?_
  subst he
  exact ⟨_, rfl, law_post Tryz.laidOut (pars_ok (by kernel_rfl)) rfl (by kernel_rfl) rfl hW' hb rfl⟩
theorem ws_in : Tryz.prog.inPlace 3 = Rows.windowSizesRow.inPlace := by kernel_rfl
theorem ws_unf : Tryz.prog.unfollowed 3 = true := by kernel_rfl
theorem ws_rec : Tryz.prog.recurses 3 = true := by kernel_rfl
theorem ws_named : Tryz.prog.varsNamed 3 = Rows.windowSizesRow.named := by kernel_rfl
theorem ws_heard : Tryz.prog.stopsHeard = true := by kernel_rfl
theorem ws_may : Tryz.prog.mayEnter = true := by kernel_rfl
theorem ws_lift : (Rows.windowSizesRow.lifted == Tryz.prog.liftsFinal) = true := by kernel_rfl
theorem ws_make : (Tryz.prog.make == some Rows.windowSizesRow.make) = true := by kernel_rfl
theorem ws_keys : (Rows.windowSizesRow.plainKeys == Tryz.prog.plainKeys) = true := by kernel_rfl
theorem ws_looks : false = Tryz.prog.looks [] := by kernel_rfl
theorem ws_goes : false = Rows.windowSizesRow.goesBy Tryz.prog := by kernel_rfl
theorem ws_main : Tryz.prog.mainIs = some (Rows.windowSizesCard.stood.harness.1, Rows.windowSizesCard.stood.harness.2.toList) := by kernel_rfl
theorem ws_stand : ([22].all fun u => !Tryz.prog.wantsStandIn u) = true := by kernel_rfl
theorem ws_closed : joinedFacts Tryz.prog 3 Tryz.f3 Rows.windowSizesSpec Rows.windowSizesRow = true := by
  unfold joinedFacts
  rw [ws_in, ws_unf, ws_rec, ws_named, ws_heard, ws_may, ws_lift, ws_make, ws_keys, Tryz.laidOut]
  kernel_rfl
theorem ws_row_said : Rows.WindowSizesSaid :=
  OpenClaim.holds_of_wide 3 Tryz.f3 rfl rfl rfl rfl rfl rfl rfl ⟨rfl, rfl, rfl, rfl, rfl⟩ rfl rfl rfl rfl rfl (by kernel_rfl) Tryz.func3 ws_closed
    (of_decide_eq_true (by kernel_rfl)) (by unfold Func.isWrapper; first | (rw [if_pos (by decide +kernel)]; kernel_rfl) | (rw [if_neg (by decide +kernel)]; exact ⟨rfl, rfl⟩))
    (fun os started H enc _ => wsizes_lifted os started H enc)
theorem windowSizes_holds : Rows.WindowSizesCardSaid :=
  Claim7.holds_tied_plain_at .later [] [.data] true Rows.windowSizesCard.stood.harness false ws_row_said (fun _ h => by cases h) (by kernel_rfl) (fun _ h => by cases h) windowSizes_row_tie rfl ⟨rfl, rfl⟩ ws_main rfl
    (fun f fn hf hfn => by
      obtain rfl : f = 3 := Option.some.inj ((show Tryz.prog.funcNamed "yearbook/yearbooklaw13.WindowSizes" = some 3 by kernel_rfl).symm.trans hf) |>.symm
      obtain rfl : fn = Tryz.f3 := (Option.some.inj (Tryz.func3.symm.trans hfn)).symm
      exact ⟨ws_looks, fun j t ht => by
        rw [Tryz.params3] at ht
        have hm : t ∈ [22] := by
          have h2 := Array.mem_of_getElem? ht
          simp at h2
          simp [h2]
        exact (show Tryz.prog.wantsStandIn t = false by simpa using List.all_eq_true.1 ws_stand t hm)⟩)
    ws_goes
#print axioms windowSizes_holds
end Go.Proofs.YtbanjolokkghdaaGreatDoor
