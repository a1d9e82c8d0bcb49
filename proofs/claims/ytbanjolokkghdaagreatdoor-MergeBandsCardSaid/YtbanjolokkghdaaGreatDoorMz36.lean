/- Parts of the proof that follows: Calls that read and make memory, of the chapter's closed code, each known by a run. No condition. -/
import Derived.Test.YtbanjolokkghdaaGreatDoorMz35
set_option maxRecDepth 100000
set_option maxHeartbeats 8000000
set_option linter.unusedSimpArgs false
set_option linter.unusedVariables false
namespace Go.Proofs.YtbanjolokkghdaaGreatDoor
open Go.RowKit
set_option maxRecDepth 1000000
noncomputable def cxT : Orc := orcT (mkT tx) (orcR Tryz.prog 128)
theorem cxT_ok : OrcOk Tryz.prog cxT := orc_mkT orc_rises (by kernel_rfl) (by kernel_rfl) tx_ok
def cxc0 : MCall := ⟨42, [.agg #[.int .i64 1, .slice (some ⟨4, 0, none⟩) 1 1, .int .i64 5, .int .i64 0, .int .i64 0, .int .i64 1, .slice none 0 0, .int .i64 1]], 12, [(4, [.int .i64 0, .int .i64 1, .int .i64 3], 94, false)], .int .i64 0, [], 22⟩
theorem cxc0_ok (t : TypeId) : subB Tryz.prog cxT doorV t cxc0 = true := by kernel_rfl
def cxc1 : MCall := ⟨42, [.agg #[.int .i64 1, .slice (some ⟨6, 0, none⟩) 1 1, .int .i64 7, .int .i64 0, .int .i64 0, .int .i64 1, .slice none 0 0, .int .i64 0]], 22, [(6, [.int .i64 3, .int .i64 1, .int .i64 2], 94, false)], .int .i64 0, [], 32⟩
theorem cxc1_ok (t : TypeId) : subB Tryz.prog cxT doorV t cxc1 = true := by kernel_rfl
def cxc2 : MCall := ⟨42, [.agg #[.int .i64 1, .slice (some ⟨4, 0, none⟩) 1 1, .int .i64 5, .int .i64 0, .int .i64 0, .int .i64 1, .slice none 0 0, .int .i64 1]], 38, [(4, [.int .i64 0, .int .i64 1, .int .i64 3], 94, false)], .int .i64 0, [], 48⟩
theorem cxc2_ok (t : TypeId) : subB Tryz.prog cxT doorV t cxc2 = true := by kernel_rfl
def cxc3 : MCall := ⟨42, [.agg #[.int .i64 1, .slice (some ⟨6, 0, none⟩) 1 1, .int .i64 7, .int .i64 0, .int .i64 0, .int .i64 1, .slice none 0 0, .int .i64 0]], 51, [(6, [.int .i64 3, .int .i64 1, .int .i64 2], 94, false)], .int .i64 0, [], 61⟩
theorem cxc3_ok (t : TypeId) : subB Tryz.prog cxT doorV t cxc3 = true := by kernel_rfl
def cxc4 : MCall := ⟨90, [.slice (some ⟨4, 0, none⟩) 1 1, .slice (some ⟨6, 0, none⟩) 1 1], 66, [(4, [.int .i64 0, .int .i64 1, .int .i64 3], 94, false), (6, [.int .i64 3, .int .i64 1, .int .i64 2], 94, false)], .tuple #[.slice (some ⟨92, 0, some 0⟩) 1 1, .int .i64 0], [(92, [.int .i64 0, .int .i64 1, .int .i64 5], 94, true)], 93⟩
theorem cxc4_ok (t : TypeId) : subB Tryz.prog cxT doorV t cxc4 = true := by kernel_rfl
def cxc5 : MCall := ⟨74, [.agg #[.int .i64 1, .slice (some ⟨4, 0, none⟩) 1 1, .int .i64 5, .int .i64 0, .int .i64 0, .int .i64 1, .slice none 0 0, .int .i64 1]], 94, [(4, [.int .i64 0, .int .i64 1, .int .i64 3], 94, false)], .tuple #[.slice (some ⟨147, 0, some 0⟩) 3 3, .int .i64 0], [(147, [.int .i64 0, .int .i64 5, .int .i64 1, .int .i64 5, .int .i64 2, .int .i64 5], 56, true)], 148⟩
theorem cxc5_ok (t : TypeId) : subB Tryz.prog cxT doorV t cxc5 = true := by kernel_rfl
def cxc6 : MCall := ⟨74, [.agg #[.int .i64 1, .slice (some ⟨6, 0, none⟩) 1 1, .int .i64 7, .int .i64 0, .int .i64 0, .int .i64 1, .slice none 0 0, .int .i64 0]], 158, [(6, [.int .i64 3, .int .i64 1, .int .i64 2], 94, false)], .tuple #[.slice (some ⟨200, 0, some 0⟩) 2 2, .int .i64 0], [(200, [.int .i64 3, .int .i64 7, .int .i64 4, .int .i64 7], 56, true)], 201⟩
theorem cxc6_ok (t : TypeId) : subB Tryz.prog cxT doorV t cxc6 = true := by kernel_rfl
def cxc7 : MCall := ⟨151, [.slice (some ⟨230, 0, some 0⟩) 5 5], 232, [(230, [.int .i64 0, .int .i64 4, .int .i64 6, .int .i64 1, .int .i64 4, .int .i64 6, .int .i64 2, .int .i64 4, .int .i64 6, .int .i64 3, .int .i64 5, .int .i64 9, .int .i64 4, .int .i64 5, .int .i64 9], 44, true)], .tuple #[.int .i64 5, .int .i64 0], [], 380⟩
theorem cxc7_ok (t : TypeId) : subB Tryz.prog cxT doorV t cxc7 = true := by kernel_rfl
def cxc8 : MCall := ⟨112, [.slice (some ⟨92, 0, some 0⟩) 1 1, .agg #[.int .i64 5, .int .i64 0, .int .i64 0, .int .i64 1], .int .i64 0], 381, [(92, [.int .i64 0, .int .i64 1, .int .i64 5], 94, true)], .tuple #[.agg #[.int .i64 1, .slice (some ⟨400, 0, some 0⟩) 1 1, .int .i64 5, .int .i64 0, .int .i64 0, .int .i64 1, .slice none 0 0, .int .i64 0], .int .i64 0], [(400, [.int .i64 0, .int .i64 1, .int .i64 5], 94, true)], 401⟩
theorem cxc8_ok (t : TypeId) : subB Tryz.prog cxT doorV t cxc8 = true := by kernel_rfl
def cxc9 : MCall := ⟨74, [.agg #[.int .i64 1, .slice (some ⟨400, 0, some 0⟩) 1 1, .int .i64 5, .int .i64 0, .int .i64 0, .int .i64 1, .slice none 0 0, .int .i64 0]], 405, [(400, [.int .i64 0, .int .i64 1, .int .i64 5], 94, true)], .tuple #[.slice (some ⟨480, 0, some 0⟩) 5 5, .int .i64 0], [(480, [.int .i64 0, .int .i64 5, .int .i64 1, .int .i64 5, .int .i64 2, .int .i64 5, .int .i64 3, .int .i64 5, .int .i64 4, .int .i64 5], 56, true)], 481⟩
theorem cxc9_ok (t : TypeId) : subB Tryz.prog cxT doorV t cxc9 = true := by kernel_rfl
def cxc10 : MCall := ⟨104, [.slice (some ⟨230, 0, some 0⟩) 5 5], 488, [(230, [.int .i64 0, .int .i64 4, .int .i64 6, .int .i64 1, .int .i64 4, .int .i64 6, .int .i64 2, .int .i64 4, .int .i64 6, .int .i64 3, .int .i64 5, .int .i64 9, .int .i64 4, .int .i64 5, .int .i64 9], 44, true)], .tuple #[.agg #[.int .i64 5, .int .i64 0, .int .i64 0, .int .i64 1], .int .i64 0], [], 553⟩
theorem cxc10_ok (t : TypeId) : subB Tryz.prog cxT doorV t cxc10 = true := by kernel_rfl
def cxc11 : MCall := ⟨112, [.slice (some ⟨92, 0, some 0⟩) 1 1, .agg #[.int .i64 5, .int .i64 0, .int .i64 0, .int .i64 1], .int .i64 0], 554, [(92, [.int .i64 0, .int .i64 1, .int .i64 5], 94, true)], .tuple #[.agg #[.int .i64 1, .slice (some ⟨573, 0, some 0⟩) 1 1, .int .i64 5, .int .i64 0, .int .i64 0, .int .i64 1, .slice none 0 0, .int .i64 0], .int .i64 0], [(573, [.int .i64 0, .int .i64 1, .int .i64 5], 94, true)], 574⟩
theorem cxc11_ok (t : TypeId) : subB Tryz.prog cxT doorV t cxc11 = true := by kernel_rfl
def cxc12 : MCall := ⟨74, [.agg #[.int .i64 1, .slice (some ⟨573, 0, some 0⟩) 1 1, .int .i64 5, .int .i64 0, .int .i64 0, .int .i64 1, .slice none 0 0, .int .i64 0]], 578, [(573, [.int .i64 0, .int .i64 1, .int .i64 5], 94, true)], .tuple #[.slice (some ⟨653, 0, some 0⟩) 5 5, .int .i64 0], [(653, [.int .i64 0, .int .i64 5, .int .i64 1, .int .i64 5, .int .i64 2, .int .i64 5, .int .i64 3, .int .i64 5, .int .i64 4, .int .i64 5], 56, true)], 654⟩
theorem cxc12_ok (t : TypeId) : subB Tryz.prog cxT doorV t cxc12 = true := by kernel_rfl
def cxc13 : MCall := ⟨106, [.slice (some ⟨230, 0, some 0⟩) 5 5], 661, [(230, [.int .i64 0, .int .i64 4, .int .i64 6, .int .i64 1, .int .i64 4, .int .i64 6, .int .i64 2, .int .i64 4, .int .i64 6, .int .i64 3, .int .i64 5, .int .i64 9, .int .i64 4, .int .i64 5, .int .i64 9], 44, true)], .tuple #[.agg #[.int .i64 5, .int .i64 0, .int .i64 0, .int .i64 1], .int .i64 0], [], 760⟩
theorem cxc13_ok (t : TypeId) : subB Tryz.prog cxT doorV t cxc13 = true := by kernel_rfl
def cxc14 : MCall := ⟨112, [.slice (some ⟨92, 0, some 0⟩) 1 1, .agg #[.int .i64 5, .int .i64 0, .int .i64 0, .int .i64 1], .int .i64 0], 761, [(92, [.int .i64 0, .int .i64 1, .int .i64 5], 94, true)], .tuple #[.agg #[.int .i64 1, .slice (some ⟨780, 0, some 0⟩) 1 1, .int .i64 5, .int .i64 0, .int .i64 0, .int .i64 1, .slice none 0 0, .int .i64 0], .int .i64 0], [(780, [.int .i64 0, .int .i64 1, .int .i64 5], 94, true)], 781⟩
theorem cxc14_ok (t : TypeId) : subB Tryz.prog cxT doorV t cxc14 = true := by kernel_rfl
def cxc15 : MCall := ⟨74, [.agg #[.int .i64 1, .slice (some ⟨780, 0, some 0⟩) 1 1, .int .i64 5, .int .i64 0, .int .i64 0, .int .i64 1, .slice none 0 0, .int .i64 0]], 785, [(780, [.int .i64 0, .int .i64 1, .int .i64 5], 94, true)], .tuple #[.slice (some ⟨860, 0, some 0⟩) 5 5, .int .i64 0], [(860, [.int .i64 0, .int .i64 5, .int .i64 1, .int .i64 5, .int .i64 2, .int .i64 5, .int .i64 3, .int .i64 5, .int .i64 4, .int .i64 5], 56, true)], 861⟩
theorem cxc15_ok (t : TypeId) : subB Tryz.prog cxT doorV t cxc15 = true := by kernel_rfl
def cxc16 : MCall := ⟨110, [.slice (some ⟨92, 0, some 0⟩) 1 1, .slice (some ⟨882, 0, some 0⟩) 5 5, .int .i64 0], 883, [(92, [.int .i64 0, .int .i64 1, .int .i64 5], 94, true), (882, [.int .i64 5, .int .i64 5, .int .i64 5, .int .i64 7, .int .i64 7], 2, true)], .tuple #[.agg #[.int .i64 4, .slice (some ⟨896, 0, some 0⟩) 1 1, .int .i64 0, .int .i64 0, .int .i64 0, .int .i64 0, .slice (some ⟨898, 0, some 0⟩) 5 5, .int .i64 0], .int .i64 0], [(896, [.int .i64 0, .int .i64 1, .int .i64 5], 94, true), (898, [.int .i64 5, .int .i64 5, .int .i64 5, .int .i64 7, .int .i64 7], 2, true)], 899⟩
theorem cxc16_ok (t : TypeId) : subB Tryz.prog cxT doorV t cxc16 = true := by kernel_rfl
def cxc17 : MCall := ⟨74, [.agg #[.int .i64 4, .slice (some ⟨896, 0, some 0⟩) 1 1, .int .i64 0, .int .i64 0, .int .i64 0, .int .i64 0, .slice (some ⟨898, 0, some 0⟩) 5 5, .int .i64 0]], 903, [(896, [.int .i64 0, .int .i64 1, .int .i64 5], 94, true), (898, [.int .i64 5, .int .i64 5, .int .i64 5, .int .i64 7, .int .i64 7], 2, true)], .tuple #[.slice (some ⟨948, 0, some 0⟩) 5 5, .int .i64 0], [(948, [.int .i64 0, .int .i64 5, .int .i64 1, .int .i64 5, .int .i64 2, .int .i64 5, .int .i64 3, .int .i64 7, .int .i64 4, .int .i64 7], 56, true)], 949⟩
theorem cxc17_ok (t : TypeId) : subB Tryz.prog cxT doorV t cxc17 = true := by kernel_rfl
def cxc18 : MCall := ⟨92, [.slice (some ⟨961, 0, none⟩) 1 1], 962, [(961, [.int .i64 1, .slice (some ⟨573, 0, some 0⟩) 1 1, .int .i64 5, .int .i64 0, .int .i64 0, .int .i64 1, .slice none 0 0, .int .i64 2], 29, false), (573, [.int .i64 0, .int .i64 1, .int .i64 5], 94, true)], .int .i64 7, [], 1022⟩
theorem cxc18_ok (t : TypeId) : subB Tryz.prog cxT doorV t cxc18 = true := by kernel_rfl
def cxc19 : MCall := ⟨92, [.slice (some ⟨1022, 0, none⟩) 1 1], 1023, [(1022, [.int .i64 1, .slice (some ⟨400, 0, some 0⟩) 1 1, .int .i64 5, .int .i64 0, .int .i64 0, .int .i64 1, .slice none 0 0, .int .i64 2], 29, false), (400, [.int .i64 0, .int .i64 1, .int .i64 5], 94, true)], .int .i64 7, [], 1083⟩
theorem cxc19_ok (t : TypeId) : subB Tryz.prog cxT doorV t cxc19 = true := by kernel_rfl
def cxc20 : MCall := ⟨92, [.slice (some ⟨1085, 0, none⟩) 1 1], 1086, [(1085, [.int .i64 1, .slice (some ⟨780, 0, some 0⟩) 1 1, .int .i64 5, .int .i64 0, .int .i64 0, .int .i64 1, .slice none 0 0, .int .i64 2], 29, false), (780, [.int .i64 0, .int .i64 1, .int .i64 5], 94, true)], .int .i64 7, [], 1146⟩
theorem cxc20_ok (t : TypeId) : subB Tryz.prog cxT doorV t cxc20 = true := by kernel_rfl
def cxc21 : MCall := ⟨92, [.slice (some ⟨1146, 0, none⟩) 1 1], 1147, [(1146, [.int .i64 1, .slice (some ⟨400, 0, some 0⟩) 1 1, .int .i64 5, .int .i64 0, .int .i64 0, .int .i64 1, .slice none 0 0, .int .i64 2], 29, false), (400, [.int .i64 0, .int .i64 1, .int .i64 5], 94, true)], .int .i64 7, [], 1207⟩
theorem cxc21_ok (t : TypeId) : subB Tryz.prog cxT doorV t cxc21 = true := by kernel_rfl
def cxc22 : MCall := ⟨92, [.slice (some ⟨1209, 0, none⟩) 1 1], 1210, [(1209, [.int .i64 4, .slice (some ⟨896, 0, some 0⟩) 1 1, .int .i64 0, .int .i64 0, .int .i64 0, .int .i64 0, .slice (some ⟨898, 0, some 0⟩) 5 5, .int .i64 1], 29, false), (896, [.int .i64 0, .int .i64 1, .int .i64 5], 94, true), (898, [.int .i64 5, .int .i64 5, .int .i64 5, .int .i64 7, .int .i64 7], 2, true)], .int .i64 11, [], 1293⟩
theorem cxc22_ok (t : TypeId) : subB Tryz.prog cxT doorV t cxc22 = true := by kernel_rfl
def cxc23 : MCall := ⟨92, [.slice (some ⟨1293, 0, none⟩) 1 1], 1294, [(1293, [.int .i64 1, .slice (some ⟨400, 0, some 0⟩) 1 1, .int .i64 5, .int .i64 0, .int .i64 0, .int .i64 1, .slice none 0 0, .int .i64 2], 29, false), (400, [.int .i64 0, .int .i64 1, .int .i64 5], 94, true)], .int .i64 7, [], 1354⟩
theorem cxc23_ok (t : TypeId) : subB Tryz.prog cxT doorV t cxc23 = true := by kernel_rfl
def cxc24 : MCall := ⟨92, [.slice (some ⟨1355, 0, none⟩) 1 1], 1356, [(1355, [.int .i64 1, .slice (some ⟨400, 0, some 0⟩) 1 1, .int .i64 5, .int .i64 0, .int .i64 0, .int .i64 1, .slice none 0 0, .int .i64 2], 29, false), (400, [.int .i64 0, .int .i64 1, .int .i64 5], 94, true)], .int .i64 7, [], 1416⟩
theorem cxc24_ok (t : TypeId) : subB Tryz.prog cxT doorV t cxc24 = true := by kernel_rfl
def cxc25 : MCall := ⟨92, [.slice (some ⟨1416, 0, none⟩) 2 2], 1417, [(1416, [.int .i64 1, .slice (some ⟨4, 0, none⟩) 1 1, .int .i64 5, .int .i64 0, .int .i64 0, .int .i64 1, .slice none 0 0, .int .i64 1, .int .i64 1, .slice (some ⟨6, 0, none⟩) 1 1, .int .i64 7, .int .i64 0, .int .i64 0, .int .i64 1, .slice none 0 0, .int .i64 0], 29, false), (4, [.int .i64 0, .int .i64 1, .int .i64 3], 94, false), (6, [.int .i64 3, .int .i64 1, .int .i64 2], 94, false)], .int .i64 14, [], 1537⟩
theorem cxc25_ok (t : TypeId) : subB Tryz.prog cxT doorV t cxc25 = true := by kernel_rfl
def cxc26 : MCall := ⟨42, [.agg #[.int .i64 1, .slice (some ⟨4, 0, none⟩) 1 1, .int .i64 5, .int .i64 0, .int .i64 0, .int .i64 1, .slice none 0 0, .int .i64 1]], 1542, [(4, [.int .i64 0, .int .i64 1, .int .i64 3], 94, false)], .int .i64 0, [], 1552⟩
theorem cxc26_ok (t : TypeId) : subB Tryz.prog cxT doorV t cxc26 = true := by kernel_rfl
def cxc27 : MCall := ⟨42, [.agg #[.int .i64 1, .slice (some ⟨6, 0, none⟩) 1 1, .int .i64 7, .int .i64 0, .int .i64 0, .int .i64 1, .slice none 0 0, .int .i64 0]], 1552, [(6, [.int .i64 3, .int .i64 1, .int .i64 2], 94, false)], .int .i64 0, [], 1562⟩
theorem cxc27_ok (t : TypeId) : subB Tryz.prog cxT doorV t cxc27 = true := by kernel_rfl
def cxc28 : MCall := ⟨42, [.agg #[.int .i64 1, .slice (some ⟨4, 0, none⟩) 1 1, .int .i64 5, .int .i64 0, .int .i64 0, .int .i64 1, .slice none 0 0, .int .i64 1]], 1568, [(4, [.int .i64 0, .int .i64 1, .int .i64 3], 94, false)], .int .i64 0, [], 1578⟩
theorem cxc28_ok (t : TypeId) : subB Tryz.prog cxT doorV t cxc28 = true := by kernel_rfl
def cxc29 : MCall := ⟨42, [.agg #[.int .i64 1, .slice (some ⟨6, 0, none⟩) 1 1, .int .i64 7, .int .i64 0, .int .i64 0, .int .i64 1, .slice none 0 0, .int .i64 0]], 1581, [(6, [.int .i64 3, .int .i64 1, .int .i64 2], 94, false)], .int .i64 0, [], 1591⟩
theorem cxc29_ok (t : TypeId) : subB Tryz.prog cxT doorV t cxc29 = true := by kernel_rfl
def cxc30 : MCall := ⟨90, [.slice (some ⟨4, 0, none⟩) 1 1, .slice (some ⟨6, 0, none⟩) 1 1], 1596, [(4, [.int .i64 0, .int .i64 1, .int .i64 3], 94, false), (6, [.int .i64 3, .int .i64 1, .int .i64 2], 94, false)], .tuple #[.slice (some ⟨1622, 0, some 0⟩) 1 1, .int .i64 0], [(1622, [.int .i64 0, .int .i64 1, .int .i64 5], 94, true)], 1623⟩
theorem cxc30_ok (t : TypeId) : subB Tryz.prog cxT doorV t cxc30 = true := by kernel_rfl
def cxc31 : MCall := ⟨74, [.agg #[.int .i64 1, .slice (some ⟨4, 0, none⟩) 1 1, .int .i64 5, .int .i64 0, .int .i64 0, .int .i64 1, .slice none 0 0, .int .i64 1]], 1624, [(4, [.int .i64 0, .int .i64 1, .int .i64 3], 94, false)], .tuple #[.slice (some ⟨1677, 0, some 0⟩) 3 3, .int .i64 0], [(1677, [.int .i64 0, .int .i64 5, .int .i64 1, .int .i64 5, .int .i64 2, .int .i64 5], 56, true)], 1678⟩
theorem cxc31_ok (t : TypeId) : subB Tryz.prog cxT doorV t cxc31 = true := by kernel_rfl
def cxc32 : MCall := ⟨74, [.agg #[.int .i64 1, .slice (some ⟨6, 0, none⟩) 1 1, .int .i64 7, .int .i64 0, .int .i64 0, .int .i64 1, .slice none 0 0, .int .i64 0]], 1688, [(6, [.int .i64 3, .int .i64 1, .int .i64 2], 94, false)], .tuple #[.slice (some ⟨1730, 0, some 0⟩) 2 2, .int .i64 0], [(1730, [.int .i64 3, .int .i64 7, .int .i64 4, .int .i64 7], 56, true)], 1731⟩
theorem cxc32_ok (t : TypeId) : subB Tryz.prog cxT doorV t cxc32 = true := by kernel_rfl
def cxc33 : MCall := ⟨151, [.slice (some ⟨1760, 0, some 0⟩) 5 5], 1762, [(1760, [.int .i64 0, .int .i64 5, .int .i64 5, .int .i64 1, .int .i64 5, .int .i64 5, .int .i64 2, .int .i64 5, .int .i64 5, .int .i64 3, .int .i64 6, .int .i64 8, .int .i64 4, .int .i64 6, .int .i64 8], 44, true)], .tuple #[.int .i64 0, .int .i64 181], [], 1877⟩
theorem cxc33_ok (t : TypeId) : subB Tryz.prog cxT doorV t cxc33 = true := by kernel_rfl
def cxc34 : MCall := ⟨104, [.slice (some ⟨1760, 0, some 0⟩) 5 5], 1878, [(1760, [.int .i64 0, .int .i64 5, .int .i64 5, .int .i64 1, .int .i64 5, .int .i64 5, .int .i64 2, .int .i64 5, .int .i64 5, .int .i64 3, .int .i64 6, .int .i64 8, .int .i64 4, .int .i64 6, .int .i64 8], 44, true)], .tuple #[.agg #[.int .i64 0, .int .i64 0, .int .i64 0, .int .i64 0], .int .i64 4], [], 1940⟩
theorem cxc34_ok (t : TypeId) : subB Tryz.prog cxT doorV t cxc34 = true := by kernel_rfl
def cxc35 : MCall := ⟨106, [.slice (some ⟨1760, 0, some 0⟩) 5 5], 1941, [(1760, [.int .i64 0, .int .i64 5, .int .i64 5, .int .i64 1, .int .i64 5, .int .i64 5, .int .i64 2, .int .i64 5, .int .i64 5, .int .i64 3, .int .i64 6, .int .i64 8, .int .i64 4, .int .i64 6, .int .i64 8], 44, true)], .tuple #[.agg #[.int .i64 0, .int .i64 0, .int .i64 0, .int .i64 0], .int .i64 181], [], 2001⟩
theorem cxc35_ok (t : TypeId) : subB Tryz.prog cxT doorV t cxc35 = true := by kernel_rfl
def cxc36 : MCall := ⟨110, [.slice (some ⟨1622, 0, some 0⟩) 1 1, .slice (some ⟨2016, 0, some 0⟩) 5 5, .int .i64 0], 2017, [(1622, [.int .i64 0, .int .i64 1, .int .i64 5], 94, true), (2016, [.int .i64 5, .int .i64 5, .int .i64 5, .int .i64 7, .int .i64 7], 2, true)], .tuple #[.agg #[.int .i64 4, .slice (some ⟨2030, 0, some 0⟩) 1 1, .int .i64 0, .int .i64 0, .int .i64 0, .int .i64 0, .slice (some ⟨2032, 0, some 0⟩) 5 5, .int .i64 0], .int .i64 0], [(2030, [.int .i64 0, .int .i64 1, .int .i64 5], 94, true), (2032, [.int .i64 5, .int .i64 5, .int .i64 5, .int .i64 7, .int .i64 7], 2, true)], 2033⟩
theorem cxc36_ok (t : TypeId) : subB Tryz.prog cxT doorV t cxc36 = true := by kernel_rfl
def cxc37 : MCall := ⟨74, [.agg #[.int .i64 4, .slice (some ⟨2030, 0, some 0⟩) 1 1, .int .i64 0, .int .i64 0, .int .i64 0, .int .i64 0, .slice (some ⟨2032, 0, some 0⟩) 5 5, .int .i64 0]], 2037, [(2030, [.int .i64 0, .int .i64 1, .int .i64 5], 94, true), (2032, [.int .i64 5, .int .i64 5, .int .i64 5, .int .i64 7, .int .i64 7], 2, true)], .tuple #[.slice (some ⟨2082, 0, some 0⟩) 5 5, .int .i64 0], [(2082, [.int .i64 0, .int .i64 5, .int .i64 1, .int .i64 5, .int .i64 2, .int .i64 5, .int .i64 3, .int .i64 7, .int .i64 4, .int .i64 7], 56, true)], 2083⟩
theorem cxc37_ok (t : TypeId) : subB Tryz.prog cxT doorV t cxc37 = true := by kernel_rfl
def cxc38 : MCall := ⟨92, [.slice (some ⟨2094, 0, none⟩) 1 1], 2095, [(2094, [.int .i64 4, .slice (some ⟨2030, 0, some 0⟩) 1 1, .int .i64 0, .int .i64 0, .int .i64 0, .int .i64 0, .slice (some ⟨2032, 0, some 0⟩) 5 5, .int .i64 1], 29, false), (2030, [.int .i64 0, .int .i64 1, .int .i64 5], 94, true), (2032, [.int .i64 5, .int .i64 5, .int .i64 5, .int .i64 7, .int .i64 7], 2, true)], .int .i64 11, [], 2178⟩
theorem cxc38_ok (t : TypeId) : subB Tryz.prog cxT doorV t cxc38 = true := by kernel_rfl
def cxc39 : MCall := ⟨92, [.slice (some ⟨2178, 0, none⟩) 2 2], 2179, [(2178, [.int .i64 1, .slice (some ⟨4, 0, none⟩) 1 1, .int .i64 5, .int .i64 0, .int .i64 0, .int .i64 1, .slice none 0 0, .int .i64 1, .int .i64 1, .slice (some ⟨6, 0, none⟩) 1 1, .int .i64 7, .int .i64 0, .int .i64 0, .int .i64 1, .slice none 0 0, .int .i64 0], 29, false), (4, [.int .i64 0, .int .i64 1, .int .i64 3], 94, false), (6, [.int .i64 3, .int .i64 1, .int .i64 2], 94, false)], .int .i64 14, [], 2299⟩
theorem cxc39_ok (t : TypeId) : subB Tryz.prog cxT doorV t cxc39 = true := by kernel_rfl
def cxc40 : MCall := ⟨42, [.agg #[.int .i64 1, .slice (some ⟨4, 0, none⟩) 1 1, .int .i64 5, .int .i64 0, .int .i64 0, .int .i64 1, .slice none 0 0, .int .i64 1]], 2303, [(4, [.int .i64 0, .int .i64 1, .int .i64 3], 94, false)], .int .i64 0, [], 2313⟩
theorem cxc40_ok (t : TypeId) : subB Tryz.prog cxT doorV t cxc40 = true := by kernel_rfl
def cxc41 : MCall := ⟨42, [.agg #[.int .i64 1, .slice (some ⟨6, 0, none⟩) 1 1, .int .i64 7, .int .i64 0, .int .i64 0, .int .i64 1, .slice none 0 0, .int .i64 0]], 2316, [(6, [.int .i64 3, .int .i64 1, .int .i64 2], 94, false)], .int .i64 0, [], 2326⟩
theorem cxc41_ok (t : TypeId) : subB Tryz.prog cxT doorV t cxc41 = true := by kernel_rfl
def cxc42 : MCall := ⟨90, [.slice (some ⟨2337, 0, some 0⟩) 1 1, .slice (some ⟨6, 0, none⟩) 1 1], 2344, [(2337, [.int .i64 0, .int .i64 1, .int .i64 3], 94, true), (6, [.int .i64 3, .int .i64 1, .int .i64 2], 94, false)], .tuple #[.slice (some ⟨2370, 0, some 0⟩) 1 1, .int .i64 0], [(2370, [.int .i64 0, .int .i64 1, .int .i64 5], 94, true)], 2371⟩
theorem cxc42_ok (t : TypeId) : subB Tryz.prog cxT doorV t cxc42 = true := by kernel_rfl
def cxc43 : MCall := ⟨74, [.agg #[.int .i64 1, .slice (some ⟨2337, 0, some 0⟩) 1 1, .int .i64 5, .int .i64 0, .int .i64 0, .int .i64 1, .slice none 0 0, .int .i64 1]], 2372, [(2337, [.int .i64 0, .int .i64 1, .int .i64 3], 94, true)], .tuple #[.slice (some ⟨2425, 0, some 0⟩) 3 3, .int .i64 0], [(2425, [.int .i64 0, .int .i64 5, .int .i64 1, .int .i64 5, .int .i64 2, .int .i64 5], 56, true)], 2426⟩
theorem cxc43_ok (t : TypeId) : subB Tryz.prog cxT doorV t cxc43 = true := by kernel_rfl
def cxc44 : MCall := ⟨74, [.agg #[.int .i64 1, .slice (some ⟨6, 0, none⟩) 1 1, .int .i64 7, .int .i64 0, .int .i64 0, .int .i64 1, .slice none 0 0, .int .i64 0]], 2436, [(6, [.int .i64 3, .int .i64 1, .int .i64 2], 94, false)], .tuple #[.slice (some ⟨2478, 0, some 0⟩) 2 2, .int .i64 0], [(2478, [.int .i64 3, .int .i64 7, .int .i64 4, .int .i64 7], 56, true)], 2479⟩
theorem cxc44_ok (t : TypeId) : subB Tryz.prog cxT doorV t cxc44 = true := by kernel_rfl
def cxc45 : MCall := ⟨151, [.slice (some ⟨2508, 0, some 0⟩) 5 5], 2510, [(2508, [.int .i64 0, .int .i64 4, .int .i64 6, .int .i64 1, .int .i64 4, .int .i64 6, .int .i64 2, .int .i64 4, .int .i64 6, .int .i64 3, .int .i64 5, .int .i64 9, .int .i64 4, .int .i64 5, .int .i64 9], 44, true)], .tuple #[.int .i64 5, .int .i64 0], [], 2658⟩
theorem cxc45_ok (t : TypeId) : subB Tryz.prog cxT doorV t cxc45 = true := by kernel_rfl
def cxc46 : MCall := ⟨112, [.slice (some ⟨2370, 0, some 0⟩) 1 1, .agg #[.int .i64 5, .int .i64 0, .int .i64 0, .int .i64 1], .int .i64 0], 2659, [(2370, [.int .i64 0, .int .i64 1, .int .i64 5], 94, true)], .tuple #[.agg #[.int .i64 1, .slice (some ⟨2678, 0, some 0⟩) 1 1, .int .i64 5, .int .i64 0, .int .i64 0, .int .i64 1, .slice none 0 0, .int .i64 0], .int .i64 0], [(2678, [.int .i64 0, .int .i64 1, .int .i64 5], 94, true)], 2679⟩
theorem cxc46_ok (t : TypeId) : subB Tryz.prog cxT doorV t cxc46 = true := by kernel_rfl
def cxc47 : MCall := ⟨74, [.agg #[.int .i64 1, .slice (some ⟨2678, 0, some 0⟩) 1 1, .int .i64 5, .int .i64 0, .int .i64 0, .int .i64 1, .slice none 0 0, .int .i64 0]], 2683, [(2678, [.int .i64 0, .int .i64 1, .int .i64 5], 94, true)], .tuple #[.slice (some ⟨2758, 0, some 0⟩) 5 5, .int .i64 0], [(2758, [.int .i64 0, .int .i64 5, .int .i64 1, .int .i64 5, .int .i64 2, .int .i64 5, .int .i64 3, .int .i64 5, .int .i64 4, .int .i64 5], 56, true)], 2759⟩
theorem cxc47_ok (t : TypeId) : subB Tryz.prog cxT doorV t cxc47 = true := by kernel_rfl
def cxc48 : MCall := ⟨104, [.slice (some ⟨2508, 0, some 0⟩) 5 5], 2766, [(2508, [.int .i64 0, .int .i64 4, .int .i64 6, .int .i64 1, .int .i64 4, .int .i64 6, .int .i64 2, .int .i64 4, .int .i64 6, .int .i64 3, .int .i64 5, .int .i64 9, .int .i64 4, .int .i64 5, .int .i64 9], 44, true)], .tuple #[.agg #[.int .i64 5, .int .i64 0, .int .i64 0, .int .i64 1], .int .i64 0], [], 2831⟩
theorem cxc48_ok (t : TypeId) : subB Tryz.prog cxT doorV t cxc48 = true := by kernel_rfl
def cxc49 : MCall := ⟨112, [.slice (some ⟨2370, 0, some 0⟩) 1 1, .agg #[.int .i64 5, .int .i64 0, .int .i64 0, .int .i64 1], .int .i64 0], 2832, [(2370, [.int .i64 0, .int .i64 1, .int .i64 5], 94, true)], .tuple #[.agg #[.int .i64 1, .slice (some ⟨2851, 0, some 0⟩) 1 1, .int .i64 5, .int .i64 0, .int .i64 0, .int .i64 1, .slice none 0 0, .int .i64 0], .int .i64 0], [(2851, [.int .i64 0, .int .i64 1, .int .i64 5], 94, true)], 2852⟩
theorem cxc49_ok (t : TypeId) : subB Tryz.prog cxT doorV t cxc49 = true := by kernel_rfl
def cxc50 : MCall := ⟨74, [.agg #[.int .i64 1, .slice (some ⟨2851, 0, some 0⟩) 1 1, .int .i64 5, .int .i64 0, .int .i64 0, .int .i64 1, .slice none 0 0, .int .i64 0]], 2856, [(2851, [.int .i64 0, .int .i64 1, .int .i64 5], 94, true)], .tuple #[.slice (some ⟨2931, 0, some 0⟩) 5 5, .int .i64 0], [(2931, [.int .i64 0, .int .i64 5, .int .i64 1, .int .i64 5, .int .i64 2, .int .i64 5, .int .i64 3, .int .i64 5, .int .i64 4, .int .i64 5], 56, true)], 2932⟩
theorem cxc50_ok (t : TypeId) : subB Tryz.prog cxT doorV t cxc50 = true := by kernel_rfl
def cxc51 : MCall := ⟨106, [.slice (some ⟨2508, 0, some 0⟩) 5 5], 2939, [(2508, [.int .i64 0, .int .i64 4, .int .i64 6, .int .i64 1, .int .i64 4, .int .i64 6, .int .i64 2, .int .i64 4, .int .i64 6, .int .i64 3, .int .i64 5, .int .i64 9, .int .i64 4, .int .i64 5, .int .i64 9], 44, true)], .tuple #[.agg #[.int .i64 5, .int .i64 0, .int .i64 0, .int .i64 1], .int .i64 0], [], 3038⟩
theorem cxc51_ok (t : TypeId) : subB Tryz.prog cxT doorV t cxc51 = true := by kernel_rfl
def cxc52 : MCall := ⟨112, [.slice (some ⟨2370, 0, some 0⟩) 1 1, .agg #[.int .i64 5, .int .i64 0, .int .i64 0, .int .i64 1], .int .i64 0], 3039, [(2370, [.int .i64 0, .int .i64 1, .int .i64 5], 94, true)], .tuple #[.agg #[.int .i64 1, .slice (some ⟨3058, 0, some 0⟩) 1 1, .int .i64 5, .int .i64 0, .int .i64 0, .int .i64 1, .slice none 0 0, .int .i64 0], .int .i64 0], [(3058, [.int .i64 0, .int .i64 1, .int .i64 5], 94, true)], 3059⟩
theorem cxc52_ok (t : TypeId) : subB Tryz.prog cxT doorV t cxc52 = true := by kernel_rfl
def cxc53 : MCall := ⟨74, [.agg #[.int .i64 1, .slice (some ⟨3058, 0, some 0⟩) 1 1, .int .i64 5, .int .i64 0, .int .i64 0, .int .i64 1, .slice none 0 0, .int .i64 0]], 3063, [(3058, [.int .i64 0, .int .i64 1, .int .i64 5], 94, true)], .tuple #[.slice (some ⟨3138, 0, some 0⟩) 5 5, .int .i64 0], [(3138, [.int .i64 0, .int .i64 5, .int .i64 1, .int .i64 5, .int .i64 2, .int .i64 5, .int .i64 3, .int .i64 5, .int .i64 4, .int .i64 5], 56, true)], 3139⟩
theorem cxc53_ok (t : TypeId) : subB Tryz.prog cxT doorV t cxc53 = true := by kernel_rfl
def cxc54 : MCall := ⟨110, [.slice (some ⟨2370, 0, some 0⟩) 1 1, .slice (some ⟨3160, 0, some 0⟩) 5 5, .int .i64 0], 3161, [(2370, [.int .i64 0, .int .i64 1, .int .i64 5], 94, true), (3160, [.int .i64 5, .int .i64 5, .int .i64 5, .int .i64 7, .int .i64 7], 2, true)], .tuple #[.agg #[.int .i64 4, .slice (some ⟨3174, 0, some 0⟩) 1 1, .int .i64 0, .int .i64 0, .int .i64 0, .int .i64 0, .slice (some ⟨3176, 0, some 0⟩) 5 5, .int .i64 0], .int .i64 0], [(3174, [.int .i64 0, .int .i64 1, .int .i64 5], 94, true), (3176, [.int .i64 5, .int .i64 5, .int .i64 5, .int .i64 7, .int .i64 7], 2, true)], 3177⟩
theorem cxc54_ok (t : TypeId) : subB Tryz.prog cxT doorV t cxc54 = true := by kernel_rfl
def cxc55 : MCall := ⟨74, [.agg #[.int .i64 4, .slice (some ⟨3174, 0, some 0⟩) 1 1, .int .i64 0, .int .i64 0, .int .i64 0, .int .i64 0, .slice (some ⟨3176, 0, some 0⟩) 5 5, .int .i64 0]], 3181, [(3174, [.int .i64 0, .int .i64 1, .int .i64 5], 94, true), (3176, [.int .i64 5, .int .i64 5, .int .i64 5, .int .i64 7, .int .i64 7], 2, true)], .tuple #[.slice (some ⟨3226, 0, some 0⟩) 5 5, .int .i64 0], [(3226, [.int .i64 0, .int .i64 5, .int .i64 1, .int .i64 5, .int .i64 2, .int .i64 5, .int .i64 3, .int .i64 7, .int .i64 4, .int .i64 7], 56, true)], 3227⟩
theorem cxc55_ok (t : TypeId) : subB Tryz.prog cxT doorV t cxc55 = true := by kernel_rfl
def cxc56 : MCall := ⟨92, [.slice (some ⟨3239, 0, none⟩) 1 1], 3240, [(3239, [.int .i64 1, .slice (some ⟨2851, 0, some 0⟩) 1 1, .int .i64 5, .int .i64 0, .int .i64 0, .int .i64 1, .slice none 0 0, .int .i64 2], 29, false), (2851, [.int .i64 0, .int .i64 1, .int .i64 5], 94, true)], .int .i64 7, [], 3300⟩
theorem cxc56_ok (t : TypeId) : subB Tryz.prog cxT doorV t cxc56 = true := by kernel_rfl
def cxc57 : MCall := ⟨92, [.slice (some ⟨3300, 0, none⟩) 1 1], 3301, [(3300, [.int .i64 1, .slice (some ⟨2678, 0, some 0⟩) 1 1, .int .i64 5, .int .i64 0, .int .i64 0, .int .i64 1, .slice none 0 0, .int .i64 2], 29, false), (2678, [.int .i64 0, .int .i64 1, .int .i64 5], 94, true)], .int .i64 7, [], 3361⟩
theorem cxc57_ok (t : TypeId) : subB Tryz.prog cxT doorV t cxc57 = true := by kernel_rfl
def cxc58 : MCall := ⟨92, [.slice (some ⟨3363, 0, none⟩) 1 1], 3364, [(3363, [.int .i64 1, .slice (some ⟨3058, 0, some 0⟩) 1 1, .int .i64 5, .int .i64 0, .int .i64 0, .int .i64 1, .slice none 0 0, .int .i64 2], 29, false), (3058, [.int .i64 0, .int .i64 1, .int .i64 5], 94, true)], .int .i64 7, [], 3424⟩
theorem cxc58_ok (t : TypeId) : subB Tryz.prog cxT doorV t cxc58 = true := by kernel_rfl
def cxc59 : MCall := ⟨92, [.slice (some ⟨3424, 0, none⟩) 1 1], 3425, [(3424, [.int .i64 1, .slice (some ⟨2678, 0, some 0⟩) 1 1, .int .i64 5, .int .i64 0, .int .i64 0, .int .i64 1, .slice none 0 0, .int .i64 2], 29, false), (2678, [.int .i64 0, .int .i64 1, .int .i64 5], 94, true)], .int .i64 7, [], 3485⟩
theorem cxc59_ok (t : TypeId) : subB Tryz.prog cxT doorV t cxc59 = true := by kernel_rfl
def cxc60 : MCall := ⟨92, [.slice (some ⟨3487, 0, none⟩) 1 1], 3488, [(3487, [.int .i64 4, .slice (some ⟨3174, 0, some 0⟩) 1 1, .int .i64 0, .int .i64 0, .int .i64 0, .int .i64 0, .slice (some ⟨3176, 0, some 0⟩) 5 5, .int .i64 1], 29, false), (3174, [.int .i64 0, .int .i64 1, .int .i64 5], 94, true), (3176, [.int .i64 5, .int .i64 5, .int .i64 5, .int .i64 7, .int .i64 7], 2, true)], .int .i64 11, [], 3571⟩
theorem cxc60_ok (t : TypeId) : subB Tryz.prog cxT doorV t cxc60 = true := by kernel_rfl
def cxc61 : MCall := ⟨92, [.slice (some ⟨3571, 0, none⟩) 1 1], 3572, [(3571, [.int .i64 1, .slice (some ⟨2678, 0, some 0⟩) 1 1, .int .i64 5, .int .i64 0, .int .i64 0, .int .i64 1, .slice none 0 0, .int .i64 2], 29, false), (2678, [.int .i64 0, .int .i64 1, .int .i64 5], 94, true)], .int .i64 7, [], 3632⟩
theorem cxc61_ok (t : TypeId) : subB Tryz.prog cxT doorV t cxc61 = true := by kernel_rfl
def cxc62 : MCall := ⟨92, [.slice (some ⟨3633, 0, none⟩) 1 1], 3634, [(3633, [.int .i64 1, .slice (some ⟨2678, 0, some 0⟩) 1 1, .int .i64 5, .int .i64 0, .int .i64 0, .int .i64 1, .slice none 0 0, .int .i64 2], 29, false), (2678, [.int .i64 0, .int .i64 1, .int .i64 5], 94, true)], .int .i64 7, [], 3694⟩
theorem cxc62_ok (t : TypeId) : subB Tryz.prog cxT doorV t cxc62 = true := by kernel_rfl
def cxc63 : MCall := ⟨92, [.slice (some ⟨3694, 0, none⟩) 2 2], 3695, [(3694, [.int .i64 1, .slice (some ⟨2337, 0, some 0⟩) 1 1, .int .i64 5, .int .i64 0, .int .i64 0, .int .i64 1, .slice none 0 0, .int .i64 1, .int .i64 1, .slice (some ⟨6, 0, none⟩) 1 1, .int .i64 7, .int .i64 0, .int .i64 0, .int .i64 1, .slice none 0 0, .int .i64 0], 29, false), (2337, [.int .i64 0, .int .i64 1, .int .i64 3], 94, true), (6, [.int .i64 3, .int .i64 1, .int .i64 2], 94, false)], .int .i64 14, [], 3815⟩
theorem cxc63_ok (t : TypeId) : subB Tryz.prog cxT doorV t cxc63 = true := by kernel_rfl
def cxc64 : MCall := ⟨42, [.agg #[.int .i64 1, .slice (some ⟨4, 0, none⟩) 1 1, .int .i64 5, .int .i64 0, .int .i64 0, .int .i64 1, .slice none 0 0, .int .i64 1]], 3817, [(4, [.int .i64 0, .int .i64 1, .int .i64 3], 94, false)], .int .i64 0, [], 3827⟩
theorem cxc64_ok (t : TypeId) : subB Tryz.prog cxT doorV t cxc64 = true := by kernel_rfl
def cxc65 : MCall := ⟨74, [.agg #[.int .i64 1, .slice (some ⟨4, 0, none⟩) 1 1, .int .i64 5, .int .i64 0, .int .i64 0, .int .i64 1, .slice none 0 0, .int .i64 1]], 3831, [(4, [.int .i64 0, .int .i64 1, .int .i64 3], 94, false)], .tuple #[.slice (some ⟨3884, 0, some 0⟩) 3 3, .int .i64 0], [(3884, [.int .i64 0, .int .i64 5, .int .i64 1, .int .i64 5, .int .i64 2, .int .i64 5], 56, true)], 3885⟩
theorem cxc65_ok (t : TypeId) : subB Tryz.prog cxT doorV t cxc65 = true := by kernel_rfl
def cxc66 : MCall := ⟨42, [.agg #[.int .i64 1, .slice (some ⟨6, 0, none⟩) 1 1, .int .i64 7, .int .i64 0, .int .i64 0, .int .i64 1, .slice none 0 0, .int .i64 0]], 3906, [(6, [.int .i64 3, .int .i64 1, .int .i64 2], 94, false)], .int .i64 0, [], 3916⟩
theorem cxc66_ok (t : TypeId) : subB Tryz.prog cxT doorV t cxc66 = true := by kernel_rfl
def cxc67 : MCall := ⟨42, [.agg #[.int .i64 1, .slice (some ⟨4, 0, none⟩) 1 1, .int .i64 5, .int .i64 0, .int .i64 0, .int .i64 1, .slice none 0 0, .int .i64 1]], 3916, [(4, [.int .i64 0, .int .i64 1, .int .i64 3], 94, false)], .int .i64 0, [], 3926⟩
theorem cxc67_ok (t : TypeId) : subB Tryz.prog cxT doorV t cxc67 = true := by kernel_rfl
def cxc68 : MCall := ⟨42, [.agg #[.int .i64 1, .slice (some ⟨6, 0, none⟩) 1 1, .int .i64 7, .int .i64 0, .int .i64 0, .int .i64 1, .slice none 0 0, .int .i64 0]], 3932, [(6, [.int .i64 3, .int .i64 1, .int .i64 2], 94, false)], .int .i64 0, [], 3942⟩
theorem cxc68_ok (t : TypeId) : subB Tryz.prog cxT doorV t cxc68 = true := by kernel_rfl
def cxc69 : MCall := ⟨42, [.agg #[.int .i64 1, .slice (some ⟨4, 0, none⟩) 1 1, .int .i64 5, .int .i64 0, .int .i64 0, .int .i64 1, .slice none 0 0, .int .i64 1]], 3945, [(4, [.int .i64 0, .int .i64 1, .int .i64 3], 94, false)], .int .i64 0, [], 3955⟩
theorem cxc69_ok (t : TypeId) : subB Tryz.prog cxT doorV t cxc69 = true := by kernel_rfl
def cxc70 : MCall := ⟨42, [.agg #[.int .i64 1, .slice (some ⟨6, 0, none⟩) 1 1, .int .i64 7, .int .i64 0, .int .i64 0, .int .i64 1, .slice none 0 0, .int .i64 0]], 3965, [(6, [.int .i64 3, .int .i64 1, .int .i64 2], 94, false)], .int .i64 0, [], 3975⟩
theorem cxc70_ok (t : TypeId) : subB Tryz.prog cxT doorV t cxc70 = true := by kernel_rfl
def cxc71 : MCall := ⟨42, [.agg #[.int .i64 1, .slice (some ⟨4, 0, none⟩) 1 1, .int .i64 5, .int .i64 0, .int .i64 0, .int .i64 1, .slice none 0 0, .int .i64 1]], 3978, [(4, [.int .i64 0, .int .i64 1, .int .i64 3], 94, false)], .int .i64 0, [], 3988⟩
theorem cxc71_ok (t : TypeId) : subB Tryz.prog cxT doorV t cxc71 = true := by kernel_rfl
def cxL : List MCall := [cxc0, cxc1, cxc2, cxc3, cxc4, cxc5, cxc6, cxc7, cxc8, cxc9, cxc10, cxc11, cxc12, cxc13, cxc14, cxc15, cxc16, cxc17, cxc18, cxc19, cxc20, cxc21, cxc22, cxc23, cxc24, cxc25, cxc26, cxc27, cxc28, cxc29, cxc30, cxc31, cxc32, cxc33, cxc34, cxc35, cxc36, cxc37, cxc38, cxc39, cxc40, cxc41, cxc42, cxc43, cxc44, cxc45, cxc46, cxc47, cxc48, cxc49, cxc50, cxc51, cxc52, cxc53, cxc54, cxc55, cxc56, cxc57, cxc58, cxc59, cxc60, cxc61, cxc62, cxc63, cxc64, cxc65, cxc66, cxc67, cxc68, cxc69, cxc70, cxc71]
noncomputable def cxO : Orc := orcM doorV cxT cxL
theorem cxO_ok : OrcOk Tryz.prog cxO := orc_mem cxT_ok (by kernel_rfl) fun c hc => by
  refine ⟨cxT, cxT_ok, ?_⟩
  simp only [cxL, List.mem_cons, List.not_mem_nil, or_false] at hc
  rcases hc with rfl | rfl | rfl | rfl | rfl | rfl | rfl | rfl | rfl | rfl | rfl | rfl | rfl | rfl | rfl | rfl | rfl | rfl | rfl | rfl | rfl | rfl | rfl | rfl | rfl | rfl | rfl | rfl | rfl | rfl | rfl | rfl | rfl | rfl | rfl | rfl | rfl | rfl | rfl | rfl | rfl | rfl | rfl | rfl | rfl | rfl | rfl | rfl | rfl | rfl | rfl | rfl | rfl | rfl | rfl | rfl | rfl | rfl | rfl | rfl | rfl | rfl | rfl | rfl | rfl | rfl | rfl | rfl | rfl | rfl | rfl | rfl
  · exact cxc0_ok
  · exact cxc1_ok
  · exact cxc2_ok
  · exact cxc3_ok
  · exact cxc4_ok
  · exact cxc5_ok
  · exact cxc6_ok
  · exact cxc7_ok
  · exact cxc8_ok
  · exact cxc9_ok
  · exact cxc10_ok
  · exact cxc11_ok
  · exact cxc12_ok
  · exact cxc13_ok
  · exact cxc14_ok
  · exact cxc15_ok
  · exact cxc16_ok
  · exact cxc17_ok
  · exact cxc18_ok
  · exact cxc19_ok
  · exact cxc20_ok
  · exact cxc21_ok
  · exact cxc22_ok
  · exact cxc23_ok
  · exact cxc24_ok
  · exact cxc25_ok
  · exact cxc26_ok
  · exact cxc27_ok
  · exact cxc28_ok
  · exact cxc29_ok
  · exact cxc30_ok
  · exact cxc31_ok
  · exact cxc32_ok
  · exact cxc33_ok
  · exact cxc34_ok
  · exact cxc35_ok
  · exact cxc36_ok
  · exact cxc37_ok
  · exact cxc38_ok
  · exact cxc39_ok
  · exact cxc40_ok
  · exact cxc41_ok
  · exact cxc42_ok
  · exact cxc43_ok
  · exact cxc44_ok
  · exact cxc45_ok
  · exact cxc46_ok
  · exact cxc47_ok
  · exact cxc48_ok
  · exact cxc49_ok
  · exact cxc50_ok
  · exact cxc51_ok
  · exact cxc52_ok
  · exact cxc53_ok
  · exact cxc54_ok
  · exact cxc55_ok
  · exact cxc56_ok
  · exact cxc57_ok
  · exact cxc58_ok
  · exact cxc59_ok
  · exact cxc60_ok
  · exact cxc61_ok
  · exact cxc62_ok
  · exact cxc63_ok
  · exact cxc64_ok
  · exact cxc65_ok
  · exact cxc66_ok
  · exact cxc67_ok
  · exact cxc68_ok
  · exact cxc69_ok
  · exact cxc70_ok
  · exact cxc71_ok
end Go.Proofs.YtbanjolokkghdaaGreatDoor
