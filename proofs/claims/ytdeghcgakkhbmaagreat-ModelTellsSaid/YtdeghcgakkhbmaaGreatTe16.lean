/- Parts of the proof that follows: Layer model: Get. | Layer model: Get, whatever the model. | The references' numbers: Neg, Sub, Less; a guarded step that has a spec. | The laws of chapter 28: ModelTells' walk. No condition. (Begun.) | The laws of chapter 28: ModelTells, of models that came in. | Layer model: one point more is told (told$1). No condition but the numbers' bounds. | Layer model: the points of some times (some), one behind the other. No condition. -/
import Derived.Test.YtdeghcgakkhbmaaGreatTe15
set_option linter.unusedSimpArgs false
set_option linter.unusedVariables false
namespace Go.Proofs.YtdeghcgakkhbmaaGreat
open Go.RowKit
/-- no raw series -/
def zeroR : RawT := ⟨.empty, 0, 0, 0, 0, []⟩
/-- What the layer gives for a name. -/
def getR (rows : List RawT) (nm : ByteArray) : RawT × Int :=
  if modelB rows = true then
    if foundB rows nm (posN rows nm) = true then (rows.getD (posN rows nm) zeroR, 0) else (zeroR, 372)
  else (zeroR, 380)
set_option maxRecDepth 100000 in
set_option maxHeartbeats 2000000 in
theorem get_bad (p : Option Addr) (cap : Nat) (rows : List RawT) (nm : ByteArray) (w : World) (h : RawsIn w p rows) (hfw : FewP rows) (hmx : rows.length ≤ 100) (hb : modelB rows = false) :
    Calls Tryz.prog 33 #[.agg #[.slice p rows.length cap], .string nm] w fun e w' => ∃ (r : RawT) (p' : Option Addr) (c' : Nat), e = .returned (.tuple #[.agg (rawA r p' c'), .int .i64 (380 : Int)]) ∧ Below w.heap.size w w' ∧ PtsIn w' p' r.pts ∧ r = zeroR := by
  have c1 := fun W (hW : Below w.heap.size w W) => c_mdCheck p cap rows W (h.below hW) hfw hmx
  rw [hb, if_neg (by decide)] at c1
  clear hb
  have H_c1 := Lib.hid c1
  clear c1
  go_enter Tryz.func33, Tryz.ntmps33
  go_upto_region 1 with (fail)
  refine wp_cutB w (Bc w.heap.size #[.slice p rows.length cap] 27 <| Bc (w.heap.size + 1) #[.string .empty, .int .i64 0, .int .i64 0, .int .i64 0, .int .i64 0, .slice none 0 0] 35 <| Bz) ?_
  rintro W1 hW z2 ⟨⟨b1, yb1, k1, f1⟩, ⟨b2, yb2, k2, f2⟩, -⟩
  go_wp2_with fail
  refine (H_c1.out _ belowAny).mono ?_
  rintro e w3 ⟨rfl, hb3⟩
  have z4 := hb3.size
  try simp at z4
  clear k1 f1 k2 f2
  refine haveB w w3 (Bc w.heap.size #[.slice p rows.length cap] 27 <| Bc (w.heap.size + 1) #[.string .empty, .int .i64 0, .int .i64 0, .int .i64 0, .int .i64 0, .slice none 0 0] 35 <| Bz) ?_
  clear b1 b2 hW
  rintro hW z5 ⟨⟨b1, yb1, k1, f1⟩, ⟨b2, yb2, k2, f2⟩, -⟩
  clear hb3
  go_wp2
  have d2 : Blk ((((((w3.setCell ⟨w.heap.size + 1, 0, none⟩ (.string { data := #[] })).setCell ⟨w.heap.size + 1, 1, none⟩ (.int .i64 0)).setCell ⟨w.heap.size + 1, 2, none⟩ (.int .i64 0)).setCell ⟨w.heap.size + 1, 3, none⟩ (.int .i64 0)).setCell ⟨w.heap.size + 1, 4, none⟩ (.int .i64 0)).setCell ⟨w.heap.size + 1, 5, none⟩ (.slice none 0 0)) (w.heap.size + 1) #[.string { data := #[] }, .int .i64 0, .int .i64 0, .int .i64 0, .int .i64 0, .slice none 0 0] 35 := blkAny2
  have hB9 : Below w.heap.size w ((((((w3.setCell ⟨w.heap.size + 1, 0, none⟩ (.string { data := #[] })).setCell ⟨w.heap.size + 1, 1, none⟩ (.int .i64 0)).setCell ⟨w.heap.size + 1, 2, none⟩ (.int .i64 0)).setCell ⟨w.heap.size + 1, 3, none⟩ (.int .i64 0)).setCell ⟨w.heap.size + 1, 4, none⟩ (.int .i64 0)).setCell ⟨w.heap.size + 1, 5, none⟩ (.slice none 0 0)) := belowAny
  have hP9 : PtsIn ((((((w3.setCell ⟨w.heap.size + 1, 0, none⟩ (.string { data := #[] })).setCell ⟨w.heap.size + 1, 1, none⟩ (.int .i64 0)).setCell ⟨w.heap.size + 1, 2, none⟩ (.int .i64 0)).setCell ⟨w.heap.size + 1, 3, none⟩ (.int .i64 0)).setCell ⟨w.heap.size + 1, 4, none⟩ (.int .i64 0)).setCell ⟨w.heap.size + 1, 5, none⟩ (.slice none 0 0)) none zeroR.pts := ⟨fun i r hr => by simp [zeroR] at hr⟩
  obtain ⟨W9, hW9⟩ : ∃ W9, W9 = ((((((w3.setCell ⟨w.heap.size + 1, 0, none⟩ (.string { data := #[] })).setCell ⟨w.heap.size + 1, 1, none⟩ (.int .i64 0)).setCell ⟨w.heap.size + 1, 2, none⟩ (.int .i64 0)).setCell ⟨w.heap.size + 1, 3, none⟩ (.int .i64 0)).setCell ⟨w.heap.size + 1, 4, none⟩ (.int .i64 0)).setCell ⟨w.heap.size + 1, 5, none⟩ (.slice none 0 0)) := ⟨_, rfl⟩
  rw [← hW9] at d2 hB9 hP9 ⊢
  clear hW9
  have k2 := d2.cell
  have f2 := d2.frozen
  have y_2 := d2.lt
  refine bodyPost_ret (v := .tuple #[.agg #[.string { data := #[] }, .int .i64 0, .int .i64 0, .int .i64 0, .int .i64 0, .slice none 0 0], .int .i64 (380)]) (by simp [results, Tryz.results33, go_sem, k2, f2, y_2]) rfl ⟨_, _, _, rfl, hB9, hP9, rfl⟩
theorem PtRows.mono {w : World} {B B' : Nat} {l : List RawR} (h : PtRows w B l) (hB : B' ≤ B) : PtRows w B' l := ⟨fun x hx => ⟨(h.at' x hx).1.mono hB, (h.at' x hx).2⟩⟩
theorem cells3 {W : World} {g : Nat} {a b c d e f u : Value} {t : TypeId} (h : Blk W g #[a, b, c, d, e, f, u] t) : CellsP W g 0 #[a, b, c] := ⟨fun j v hv => by
  rw [h.cell, Nat.zero_add]
  rcases j with _ | _ | _ | j
  · exact hv
  · exact hv
  · exact hv
  · simp at hv⟩
set_option maxRecDepth 100000 in
set_option maxHeartbeats 2000000 in
theorem get_none (p : Option Addr) (cap : Nat) (rows : List RawT) (nm : ByteArray) (w : World) (h : RawsIn w p rows) (hfw : FewP rows) (hmx : rows.length ≤ 100) (hcap : p = none → cap = 0) (hb : modelB rows = true) (hF : foundB rows nm (posN rows nm) = false) :
    Calls Tryz.prog 33 #[.agg #[.slice p rows.length cap], .string nm] w fun e w' => ∃ (r : RawT) (p' : Option Addr) (c' : Nat), e = .returned (.tuple #[.agg (rawA r p' c'), .int .i64 (372 : Int)]) ∧ Below w.heap.size w w' ∧ PtsIn w' p' r.pts ∧ r = zeroR := by
  have c1 := fun W (hW : Below w.heap.size w W) => c_mdCheck p cap rows W (h.below hW) hfw hmx
  rw [hb, if_pos rfl] at c1
  have c2 := fun W (hW : Below w.heap.size w W) => mdOwn_w p cap rows W (h.below hW) hfw hmx hcap
  have hs : SortedN rows := okN_sorted (by unfold modelB at hb; exact (Bool.and_eq_true _ _ ▸ hb).1)
  have c3 := fun (g G : Nat) (W : World) (hc : CellsP W g 0 #[.slice (some ⟨G, 0, none⟩) rows.length rows.length, .int .i64 0, .string nm]) (hr : RawsIn W (some ⟨G, 0, none⟩) rows) => c_mdPlace g 0 (some ⟨G, 0, none⟩) rows.length rows nm W hc hr hmx hs
  obtain ⟨N, hN⟩ : ∃ N, posN rows nm = N := ⟨_, rfl⟩
  rw [hN] at hF c3
  rw [hF] at c3
  clear hb hF hN hs
  have H_c1 := Lib.hid c1
  clear c1
  have H_c2 := Lib.hid c2
  clear c2
  have H_c3 := Lib.hid c3
  clear c3
  go_enter Tryz.func33, Tryz.ntmps33
  go_upto_region 1 with (fail)
  refine wp_cutB w (Bc w.heap.size #[.slice p rows.length cap] 27 <| Bc (w.heap.size + 1) #[.string .empty, .int .i64 0, .int .i64 0, .int .i64 0, .int .i64 0, .slice none 0 0] 35 <| Bz) ?_
  rintro W1 hW z2 ⟨⟨b1, yb1, k1, f1⟩, ⟨b2, yb2, k2, f2⟩, -⟩
  go_wp2_with fail
  refine (H_c1.out _ belowAny).mono ?_
  rintro e w3 ⟨rfl, hb3⟩
  have z4 := hb3.size
  try simp at z4
  clear k1 f1 k2 f2
  refine haveB w w3 (Bc w.heap.size #[.slice p rows.length cap] 27 <| Bc (w.heap.size + 1) #[.string .empty, .int .i64 0, .int .i64 0, .int .i64 0, .int .i64 0, .slice none 0 0] 35 <| Bz) ?_
  clear b1 b2 hW
  rintro hW z5 ⟨⟨b1, yb1, k1, f1⟩, ⟨b2, yb2, k2, f2⟩, -⟩
  clear hb3
  go_wp2_with fail
  refine (H_c2.out _ belowAny).mono ?_
  rintro e w6 ⟨G, RL, rfl, hb6, hGl, hGb, hRL, hP0⟩
  have z7 := hb6.size
  try simp at z7
  clear k1 f1 k2 f2
  refine haveB w w6 (Bc w.heap.size #[.slice p rows.length cap] 27 <| Bc (w.heap.size + 1) #[.string .empty, .int .i64 0, .int .i64 0, .int .i64 0, .int .i64 0, .slice none 0 0] 35 <| Bz) ?_
  clear b1 b2 hW
  rintro hW z8 ⟨⟨b1, yb1, k1, f1⟩, ⟨b2, yb2, k2, f2⟩, -⟩
  have hP1 := hP0.mono (B' := w.heap.size + 1 + 1) (by omega)
  clear hP0
  go_upto_region 5 with (fail)
  clear k1 f1 k2 f2
  refine wp_cutB w (Bc w.heap.size #[.slice p rows.length cap] 27 <| Bc (w.heap.size + 1) #[.string .empty, .int .i64 0, .int .i64 0, .int .i64 0, .int .i64 0, .slice none 0 0] 35 <| Bc w6.heap.size #[.slice (some ⟨G, 0, none⟩) rows.length rows.length, .int .i64 0, .string nm, .int .i64 0, .int .i64 0, .int .i64 0, .slice none 0 0] 98 <| Rc (fun W' => Blk W' G (flatRaws RL).toArray 35) <| Rc (fun W' => PtRows W' (w.heap.size + 1 + 1) RL) <| Bz) ?_ (hI := by exact belowAny) (hR := (Bc.mk (by exact blkAny2) <| Bc.mk (by exact blkAny2) <| Bc.mk (by exact blkAny2) <| Rc.mk (by exact hGb.below (by exact belowAny)) <| Rc.mk (by exact hP1.below (by exact belowAny)) <| trivial))
  clear b1 b2 hW
  rintro W9 hW z10 ⟨⟨b1, yb1, k1, f1⟩, ⟨b2, yb2, k2, f2⟩, ⟨b3, yb3, k3, f3⟩, b4, b5, -⟩
  go_wp2_with fail
  refine (H_c3.out _ G _ (cells3 b3) (hRL ▸ raws_blk b4 b5)).mono ?_
  rintro e w11 ⟨rfl, hb11⟩
  have z12 := hb11.size
  try simp at z12
  clear k1 f1 k2 f2 k3 f3
  refine haveB w w11 (Bc w.heap.size #[.slice p rows.length cap] 27 <| Bc (w.heap.size + 1) #[.string .empty, .int .i64 0, .int .i64 0, .int .i64 0, .int .i64 0, .slice none 0 0] 35 <| Bc w6.heap.size #[.slice (some ⟨G, 0, none⟩) rows.length rows.length, .int .i64 0, .string nm, .int .i64 0, .int .i64 0, .int .i64 0, .slice none 0 0] 98 <| Rc (fun W' => Blk W' G (flatRaws RL).toArray 35) <| Rc (fun W' => PtRows W' (w.heap.size + 1 + 1) RL) <| Bz) ?_ (hR := (Bc.mk (by exact blkAny2) <| Bc.mk (by exact blkAny2) <| Bc.mk (by exact blkAny2) <| Rc.mk (by exact b4.below hb11) <| Rc.mk (by exact b5.below hb11) <| trivial))
  clear b1 b2 b3 b4 b5 hW
  rintro hW z13 ⟨⟨b1, yb1, k1, f1⟩, ⟨b2, yb2, k2, f2⟩, ⟨b3, yb3, k3, f3⟩, b4, b5, -⟩
  clear hb11
  go_wp2
  have d2 : Blk ((((((w11.setCell ⟨w.heap.size + 1, 0, none⟩ (.string { data := #[] })).setCell ⟨w.heap.size + 1, 1, none⟩ (.int .i64 0)).setCell ⟨w.heap.size + 1, 2, none⟩ (.int .i64 0)).setCell ⟨w.heap.size + 1, 3, none⟩ (.int .i64 0)).setCell ⟨w.heap.size + 1, 4, none⟩ (.int .i64 0)).setCell ⟨w.heap.size + 1, 5, none⟩ (.slice none 0 0)) (w.heap.size + 1) #[.string { data := #[] }, .int .i64 0, .int .i64 0, .int .i64 0, .int .i64 0, .slice none 0 0] 35 := blkAny2
  have hB9 : Below w.heap.size w ((((((w11.setCell ⟨w.heap.size + 1, 0, none⟩ (.string { data := #[] })).setCell ⟨w.heap.size + 1, 1, none⟩ (.int .i64 0)).setCell ⟨w.heap.size + 1, 2, none⟩ (.int .i64 0)).setCell ⟨w.heap.size + 1, 3, none⟩ (.int .i64 0)).setCell ⟨w.heap.size + 1, 4, none⟩ (.int .i64 0)).setCell ⟨w.heap.size + 1, 5, none⟩ (.slice none 0 0)) := belowAny
  have hP9 : PtsIn ((((((w11.setCell ⟨w.heap.size + 1, 0, none⟩ (.string { data := #[] })).setCell ⟨w.heap.size + 1, 1, none⟩ (.int .i64 0)).setCell ⟨w.heap.size + 1, 2, none⟩ (.int .i64 0)).setCell ⟨w.heap.size + 1, 3, none⟩ (.int .i64 0)).setCell ⟨w.heap.size + 1, 4, none⟩ (.int .i64 0)).setCell ⟨w.heap.size + 1, 5, none⟩ (.slice none 0 0)) none zeroR.pts := ⟨fun i r hr => by simp [zeroR] at hr⟩
  obtain ⟨W9, hW9⟩ : ∃ W9, W9 = ((((((w11.setCell ⟨w.heap.size + 1, 0, none⟩ (.string { data := #[] })).setCell ⟨w.heap.size + 1, 1, none⟩ (.int .i64 0)).setCell ⟨w.heap.size + 1, 2, none⟩ (.int .i64 0)).setCell ⟨w.heap.size + 1, 3, none⟩ (.int .i64 0)).setCell ⟨w.heap.size + 1, 4, none⟩ (.int .i64 0)).setCell ⟨w.heap.size + 1, 5, none⟩ (.slice none 0 0)) := ⟨_, rfl⟩
  rw [← hW9] at d2 hB9 hP9 ⊢
  clear hW9
  have k2 := d2.cell
  have f2 := d2.frozen
  have y_2 := d2.lt
  refine bodyPost_ret (v := .tuple #[.agg #[.string { data := #[] }, .int .i64 0, .int .i64 0, .int .i64 0, .int .i64 0, .slice none 0 0], .int .i64 (372)]) (by simp [results, Tryz.results33, go_sem, k2, f2, y_2]) rfl ⟨_, _, _, rfl, hB9, hP9, rfl⟩
set_option maxRecDepth 100000 in
set_option maxHeartbeats 2000000 in
theorem get_found (p : Option Addr) (cap : Nat) (rows : List RawT) (nm : ByteArray) (w : World) (h : RawsIn w p rows) (hfw : FewP rows) (hmx : rows.length ≤ 100) (hcap : p = none → cap = 0) (hb : modelB rows = true) (hF : foundB rows nm (posN rows nm) = true) (r0 : RawT) (tr : rows[posN rows nm]? = some r0) :
    Calls Tryz.prog 33 #[.agg #[.slice p rows.length cap], .string nm] w fun e w' => ∃ (r : RawT) (p' : Option Addr) (c' : Nat), e = .returned (.tuple #[.agg (rawA r p' c'), .int .i64 (0 : Int)]) ∧ Below w.heap.size w w' ∧ PtsIn w' p' r.pts ∧ r = r0 := by
  have c1 := fun W (hW : Below w.heap.size w W) => c_mdCheck p cap rows W (h.below hW) hfw hmx
  rw [hb, if_pos rfl] at c1
  have c2 := fun W (hW : Below w.heap.size w W) => mdOwn_w p cap rows W (h.below hW) hfw hmx hcap
  have hs : SortedN rows := okN_sorted (by unfold modelB at hb; exact (Bool.and_eq_true _ _ ▸ hb).1)
  have c3 := fun (g G : Nat) (W : World) (hc : CellsP W g 0 #[.slice (some ⟨G, 0, none⟩) rows.length rows.length, .int .i64 0, .string nm]) (hr : RawsIn W (some ⟨G, 0, none⟩) rows) => c_mdPlace g 0 (some ⟨G, 0, none⟩) rows.length rows nm W hc hr hmx hs
  obtain ⟨N, hN⟩ : ∃ N, posN rows nm = N := ⟨_, rfl⟩
  rw [hN] at hF c3 tr
  rw [hF] at c3
  have hN9 := (List.getElem?_eq_some_iff.1 tr).1
  clear hb hF hN hs
  have H_c1 := Lib.hid c1
  clear c1
  have H_c2 := Lib.hid c2
  clear c2
  have H_c3 := Lib.hid c3
  clear c3
  go_enter Tryz.func33, Tryz.ntmps33
  go_upto_region 1 with (fail)
  refine wp_cutB w (Bc w.heap.size #[.slice p rows.length cap] 27 <| Bc (w.heap.size + 1) #[.string .empty, .int .i64 0, .int .i64 0, .int .i64 0, .int .i64 0, .slice none 0 0] 35 <| Bz) ?_
  rintro W1 hW z2 ⟨⟨b1, yb1, k1, f1⟩, ⟨b2, yb2, k2, f2⟩, -⟩
  go_wp2_with fail
  refine (H_c1.out _ belowAny).mono ?_
  rintro e w3 ⟨rfl, hb3⟩
  have z4 := hb3.size
  try simp at z4
  clear k1 f1 k2 f2
  refine haveB w w3 (Bc w.heap.size #[.slice p rows.length cap] 27 <| Bc (w.heap.size + 1) #[.string .empty, .int .i64 0, .int .i64 0, .int .i64 0, .int .i64 0, .slice none 0 0] 35 <| Bz) ?_
  clear b1 b2 hW
  rintro hW z5 ⟨⟨b1, yb1, k1, f1⟩, ⟨b2, yb2, k2, f2⟩, -⟩
  clear hb3
  go_wp2_with fail
  refine (H_c2.out _ belowAny).mono ?_
  rintro e w6 ⟨G, RL, rfl, hb6, hGl, hGb, hRL, hP0⟩
  have z7 := hb6.size
  try simp at z7
  clear k1 f1 k2 f2
  refine haveB w w6 (Bc w.heap.size #[.slice p rows.length cap] 27 <| Bc (w.heap.size + 1) #[.string .empty, .int .i64 0, .int .i64 0, .int .i64 0, .int .i64 0, .slice none 0 0] 35 <| Bz) ?_
  clear b1 b2 hW
  rintro hW z8 ⟨⟨b1, yb1, k1, f1⟩, ⟨b2, yb2, k2, f2⟩, -⟩
  have hP1 := hP0.mono (B' := w.heap.size + 1 + 1) (by omega)
  clear hP0
  go_upto_region 5 with (fail)
  clear k1 f1 k2 f2
  refine wp_cutB w (Bc w.heap.size #[.slice p rows.length cap] 27 <| Bc (w.heap.size + 1) #[.string .empty, .int .i64 0, .int .i64 0, .int .i64 0, .int .i64 0, .slice none 0 0] 35 <| Bc w6.heap.size #[.slice (some ⟨G, 0, none⟩) rows.length rows.length, .int .i64 0, .string nm, .int .i64 0, .int .i64 0, .int .i64 0, .slice none 0 0] 98 <| Rc (fun W' => Blk W' G (flatRaws RL).toArray 35) <| Rc (fun W' => PtRows W' (w.heap.size + 1 + 1) RL) <| Bz) ?_ (hI := by exact belowAny) (hR := (Bc.mk (by exact blkAny2) <| Bc.mk (by exact blkAny2) <| Bc.mk (by exact blkAny2) <| Rc.mk (by exact hGb.below (by exact belowAny)) <| Rc.mk (by exact hP1.below (by exact belowAny)) <| trivial))
  clear b1 b2 hW
  rintro W9 hW z10 ⟨⟨b1, yb1, k1, f1⟩, ⟨b2, yb2, k2, f2⟩, ⟨b3, yb3, k3, f3⟩, b4, b5, -⟩
  go_wp2_with fail
  refine (H_c3.out _ G _ (cells3 b3) (hRL ▸ raws_blk b4 b5)).mono ?_
  rintro e w11 ⟨rfl, hb11⟩
  have z12 := hb11.size
  try simp at z12
  clear k1 f1 k2 f2 k3 f3
  refine haveB w w11 (Bc w.heap.size #[.slice p rows.length cap] 27 <| Bc (w.heap.size + 1) #[.string .empty, .int .i64 0, .int .i64 0, .int .i64 0, .int .i64 0, .slice none 0 0] 35 <| Bc w6.heap.size #[.slice (some ⟨G, 0, none⟩) rows.length rows.length, .int .i64 0, .string nm, .int .i64 0, .int .i64 0, .int .i64 0, .slice none 0 0] 98 <| Rc (fun W' => Blk W' G (flatRaws RL).toArray 35) <| Rc (fun W' => PtRows W' (w.heap.size + 1 + 1) RL) <| Bz) ?_ (hR := (Bc.mk (by exact blkAny2) <| Bc.mk (by exact blkAny2) <| Bc.mk (by exact blkAny2) <| Rc.mk (by exact b4.below hb11) <| Rc.mk (by exact b5.below hb11) <| trivial))
  clear b1 b2 b3 b4 b5 hW
  rintro hW z13 ⟨⟨b1, yb1, k1, f1⟩, ⟨b2, yb2, k2, f2⟩, ⟨b3, yb3, k3, f3⟩, b4, b5, -⟩
  clear hb11
  obtain ⟨⟨r9, p0, c0⟩, tx, hr9⟩ : ∃ x : RawR, RL[N]? = some x ∧ x.r = r0 := by
    rw [← hRL, List.getElem?_map] at tr
    exact Option.map_eq_some_iff.1 tr
  obtain rfl : r9 = r0 := hr9
  have hPx := (b5.at' _ (List.mem_of_getElem? tx)).1
  have hcl : ∀ (k : Nat) (v : Value), (rawRA ⟨r9, p0, c0⟩)[k]? = some v → w11.cell? ⟨G, N * 6 + k, none⟩ = some v := fun k v hv => (b4.cell (N * 6 + k)).trans (by rw [List.getElem?_toArray]; exact flatRaws_get RL N _ k v tx hv)
  have q0 : w11.cell? ⟨G, N * 6, none⟩ = some (.string r9.name) := hcl 0 _ rfl
  have q1 : w11.cell? ⟨G, N * 6 + 1, none⟩ = some (.int .i64 r9.eps) := hcl 1 _ rfl
  have q2 : w11.cell? ⟨G, N * 6 + 2, none⟩ = some (.int .i64 r9.floor) := hcl 2 _ rfl
  have q3 : w11.cell? ⟨G, N * 6 + 3, none⟩ = some (.int .i64 r9.last) := hcl 3 _ rfl
  have q4 : w11.cell? ⟨G, N * 6 + 4, none⟩ = some (.int .i64 r9.scale) := hcl 4 _ rfl
  have q5 : w11.cell? ⟨G, N * 6 + 5, none⟩ = some (.slice p0 r9.pts.length c0) := hcl 5 _ rfl
  have hNl : N < rows.length := hN9
  clear hcl hRL tr tx
  go_wp2
  have d2 : Blk ((((((w11.setCell ⟨w.heap.size + 1, 0, none⟩ (.string r9.name)).setCell ⟨w.heap.size + 1, 1, none⟩ (.int .i64 r9.eps)).setCell ⟨w.heap.size + 1, 2, none⟩ (.int .i64 r9.floor)).setCell ⟨w.heap.size + 1, 3, none⟩ (.int .i64 r9.last)).setCell ⟨w.heap.size + 1, 4, none⟩ (.int .i64 r9.scale)).setCell ⟨w.heap.size + 1, 5, none⟩ (.slice p0 r9.pts.length c0)) (w.heap.size + 1) #[.string r9.name, .int .i64 r9.eps, .int .i64 r9.floor, .int .i64 r9.last, .int .i64 r9.scale, .slice p0 r9.pts.length c0] 35 := blkAny2
  have hB9 : Below w.heap.size w ((((((w11.setCell ⟨w.heap.size + 1, 0, none⟩ (.string r9.name)).setCell ⟨w.heap.size + 1, 1, none⟩ (.int .i64 r9.eps)).setCell ⟨w.heap.size + 1, 2, none⟩ (.int .i64 r9.floor)).setCell ⟨w.heap.size + 1, 3, none⟩ (.int .i64 r9.last)).setCell ⟨w.heap.size + 1, 4, none⟩ (.int .i64 r9.scale)).setCell ⟨w.heap.size + 1, 5, none⟩ (.slice p0 r9.pts.length c0)) := belowAny
  have hP9 : PtsIn ((((((w11.setCell ⟨w.heap.size + 1, 0, none⟩ (.string r9.name)).setCell ⟨w.heap.size + 1, 1, none⟩ (.int .i64 r9.eps)).setCell ⟨w.heap.size + 1, 2, none⟩ (.int .i64 r9.floor)).setCell ⟨w.heap.size + 1, 3, none⟩ (.int .i64 r9.last)).setCell ⟨w.heap.size + 1, 4, none⟩ (.int .i64 r9.scale)).setCell ⟨w.heap.size + 1, 5, none⟩ (.slice p0 r9.pts.length c0)) p0 r9.pts := ((((((hPx.setO (by omega) 0 _).setO (by omega) 1 _).setO (by omega) 2 _).setO (by omega) 3 _).setO (by omega) 4 _).setO (by omega) 5 _).pts
  obtain ⟨W9, hW9⟩ : ∃ W9, W9 = ((((((w11.setCell ⟨w.heap.size + 1, 0, none⟩ (.string r9.name)).setCell ⟨w.heap.size + 1, 1, none⟩ (.int .i64 r9.eps)).setCell ⟨w.heap.size + 1, 2, none⟩ (.int .i64 r9.floor)).setCell ⟨w.heap.size + 1, 3, none⟩ (.int .i64 r9.last)).setCell ⟨w.heap.size + 1, 4, none⟩ (.int .i64 r9.scale)).setCell ⟨w.heap.size + 1, 5, none⟩ (.slice p0 r9.pts.length c0)) := ⟨_, rfl⟩
  rw [← hW9] at d2 hB9 hP9 ⊢
  clear hW9
  have k2 := d2.cell
  have f2 := d2.frozen
  have y_2 := d2.lt
  refine bodyPost_ret (v := .tuple #[.agg #[.string r9.name, .int .i64 r9.eps, .int .i64 r9.floor, .int .i64 r9.last, .int .i64 r9.scale, .slice p0 r9.pts.length c0], .int .i64 (0)]) (by simp [results, Tryz.results33, go_sem, k2, f2, y_2]) rfl ⟨_, _, _, rfl, hB9, hP9, rfl⟩
end Go.Proofs.YtdeghcgakkhbmaaGreat
namespace Go.Proofs.YtdeghcgakkhbmaaGreat
open Go.RowKit
theorem c_mdGet (p : Option Addr) (cap : Nat) (rows : List RawT) (nm : ByteArray) (w : World) (h : RawsIn w p rows) (hfw : FewP rows) (hmx : rows.length ≤ 100) (hcap : p = none → cap = 0) :
    Calls Tryz.prog 33 #[.agg #[.slice p rows.length cap], .string nm] w fun e w' => ∃ (p' : Option Addr) (c' : Nat), e = .returned (.tuple #[.agg (rawA (getR rows nm).1 p' c'), .int .i64 (getR rows nm).2]) ∧ Below w.heap.size w w' ∧ PtsIn w' p' (getR rows nm).1.pts := by
  unfold getR
  cases hb : modelB rows with
  | false =>
    refine (get_bad p cap rows nm w h hfw hmx hb).mono ?_
    rintro e w' ⟨r, p', c', rfl, hB, hP, rfl⟩
    exact ⟨p', c', rfl, hB, hP⟩
  | true =>
    cases hF : foundB rows nm (posN rows nm) with
    | false =>
      refine (get_none p cap rows nm w h hfw hmx hcap hb hF).mono ?_
      rintro e w' ⟨r, p', c', rfl, hB, hP, rfl⟩
      exact ⟨p', c', rfl, hB, hP⟩
    | true =>
      obtain ⟨r0, tr⟩ : ∃ r0, rows[posN rows nm]? = some r0 := by
        unfold foundB at hF
        cases hr : rows[posN rows nm]? with
        | none => rw [hr] at hF; cases hF
        | some r => exact ⟨r, rfl⟩
      refine (get_found p cap rows nm w h hfw hmx hcap hb hF r0 tr).mono ?_
      rintro e w' ⟨r, p', c', rfl, hB, hP, rfl⟩
      have e1 : rows.getD (posN rows nm) zeroR = r := by rw [List.getD_eq_getElem?_getD, tr]; rfl
      simp only [if_true, e1]
      exact ⟨p', c', rfl, hB, hP⟩
/-- What the document says of it: the name's place, or none. -/
theorem getR_at {rows : List RawT} {nm : ByteArray} (hb : modelB rows = true) : (atR rows nm = -1 ∧ getR rows nm = (zeroR, 372)) ∨ ∃ (i : Nat) (r : RawT), atR rows nm = (i : Int) ∧ rows[i]? = some r ∧ getR rows nm = (r, 0) := by
  have hs : SortedN rows := okN_sorted (by unfold modelB at hb; exact (Bool.and_eq_true _ _ ▸ hb).1)
  have hp := posN_at hs (nm := nm)
  unfold getR
  rw [if_pos hb]
  cases hF : foundB rows nm (posN rows nm) with
  | false => exact .inl ⟨pos_none hs hp hF, by rw [if_neg (by decide)]⟩
  | true =>
    refine .inr ⟨posN rows nm, rows.getD (posN rows nm) zeroR, pos_found hs hp hF, ?_, by rw [if_pos rfl]⟩
    unfold foundB at hF
    cases hr : rows[posN rows nm]? with
    | none => rw [hr] at hF; cases hF
    | some r => rw [List.getD_eq_getElem?_getD, hr]; rfl
end Go.Proofs.YtdeghcgakkhbmaaGreat
namespace Go.Proofs.YtdeghcgakkhbmaaGreat
open Go.RowKit
/-- What a guarded step has, if it is carried out. -/
def GS (g : Bool) (Φ : Spec) : Spec := fun v w => if g = true then Φ v w else v = undef
theorem GS.closed {L : List Nat} {Φ : Spec} (g : Bool) (h : Closed L Φ) : Closed L (GS g Φ) := fun v w w' hr hs => by
  unfold GS at *
  split at hs <;> rename_i hg
  · rw [if_pos hg]; exact h _ _ _ hr hs
  · rw [if_neg hg]; exact hs
section
variable {P : Program} {ops : Array Oper} {C : World → Prop} {X : List (Nat × Nat)} {a0 : Act} {Fin : List (Option Tmp × Spec) → Prop} {i : Nat} {o : Oper} {rest : List Oper} {acc : List (Option Tmp × Spec)}
theorem nd_gs (Φ : Spec) (p x want : Bool) (k : Nat) (d : Tmp) (hcl : Closed (others X i) Φ) (hg : o.guard = some (k, want)) (hd : wrOf ops k = some d)
    (hx : ∀ v w, envOf a0 acc d v w → if p = true then v = .bool x else v = undef)
    (h : p = true → x = want → ∀ (a : Act) (w : World), C w → (∀ s ∈ o.looksAt ops, envOf a0 acc s (a.tmps.getD s undef) w) → runND P o (priv X i) Φ w ((execOp a.eval o).run P w))
    (hr : ndWalk P ops C X a0 Fin (i + 1) rest ((o.dst, GS (p && (x == want)) Φ) :: acc)) : ndWalk P ops C X a0 Fin i (o :: rest) acc := by
  refine ⟨GS (p && (x == want)) Φ, GS.closed _ hcl, fun a w hC hE => ?_, hr⟩
  have hin : d ∈ o.looksAt ops := by
    unfold wrOf at hd
    simp [Oper.looksAt, hg, hd]
  have hv := hx _ _ (hE d hin)
  cases p with
  | true =>
    have hw := wanted_some (o := o) hg hd (by simpa using hv)
    refine ⟨fun e => ?_, fun e => ?_⟩
    · rw [hw] at e
      have hxw : x = want := by simpa using e
      have := h rfl hxw a w hC hE
      have eg : GS (true && (x == want)) Φ = Φ := by funext v w; simp [GS, hxw]
      rw [eg]
      exact this
    · rw [hw] at e
      simp [GS, e]
  | false =>
    have hw := wanted_undef (o := o) hg hd (by simpa using hv)
    exact ⟨fun e => (by rw [hw] at e; cases e), fun _ => (by simp [GS])⟩
theorem nd_gcall (Φ : Spec) (p x want : Bool) (k : Nat) (d : Tmp) (hcl : Closed (others X i) Φ) (hg : o.guard = some (k, want)) (hd : wrOf ops k = some d) (hal : isAlloc o = false)
    (hx : ∀ v w, envOf a0 acc d v w → if p = true then v = .bool x else v = undef)
    (h : p = true → x = want → ∀ (a : Act) (w : World), C w → (∀ s ∈ o.looksAt ops, envOf a0 acc s (a.tmps.getD s undef) w) → ∃ f args, (execOp a.eval o).run P w = .ok (.enter f args) w ∧ Calls P f args w fun e w' => ∃ u, e = .returned u ∧ Below w.heap.size w w' ∧ Φ u w')
    (hr : ndWalk P ops C X a0 Fin (i + 1) rest ((o.dst, GS (p && (x == want)) Φ) :: acc)) : ndWalk P ops C X a0 Fin i (o :: rest) acc :=
  nd_gs Φ p x want k d hcl hg hd hx (fun e1 e2 a w hC hE => by
    obtain ⟨f, args, h1, h2⟩ := h e1 e2 a w hC hE
    rw [h1]
    exact ⟨rfl, hal, h2.mono fun e w' ⟨u, he, hb, hΦ⟩ => ⟨u, he, Rex.of_below hb, hΦ⟩⟩) hr
end
end Go.Proofs.YtdeghcgakkhbmaaGreat
namespace Go.Proofs.YtdeghcgakkhbmaaGreat
open Go.RowKit
def mtRel (w : World) (px py : Option Addr) (nx cx ny cy : Nat) (nm9 : ByteArray) (A B : List RawT) (RB : Bool) (CV : Int) (pa pb : Option Addr) (ca cb o7 o8 : Nat) (a' : Act) (W : World) : Prop :=
  Below w.heap.size w W ∧ Blk W w.heap.size #[.slice px nx cx] 27 ∧ Blk W (w.heap.size + 1) #[.slice py ny cy] 27 ∧ Blk W o7 #[.slice pa A.length ca] 27 ∧ Blk W o8 #[.slice pb B.length cb] 27 ∧ OwnM 0 A (.agg #[.slice pa A.length ca]) W ∧ OwnM 0 B (.agg #[.slice pb B.length cb]) W ∧ ∃ i : Nat, (∃ u : Nat → Value, a' = { tmps := #[u 0, u 1, .string nm9, .pointer (some ⟨w.heap.size, 0, none⟩), .pointer (some ⟨(w.heap.size + 1), 0, none⟩), u 5, .bool false, .pointer (some ⟨o7, 0, none⟩), .pointer (some ⟨o8, 0, none⟩), .bool RB, .int .i64 CV, u 11, u 12, u 13, u 14, u 15, u 16, u 17, u 18, u 19, u 20, u 21, u 22, u 23, u 24, u 25, u 26, u 27, u 28, u 29, u 30, u 31, u 32, u 33, u 34, u 35, u 36, u 37, u 38, u 39, u 40, u 41, u 42, u 43, u 44, u 45, u 46, u 47, u 48, u 49, u 50, u 51, u 52, u 53, u 54, u 55, u 56, u 57, u 58, u 59, u 60, .slice pa A.length ca, .int .i64 (A.length : Int), .int .i64 (i : Int), u 64, u 65, u 66, u 67, u 68, u 69, u 70, u 71, u 72, u 73, u 74, u 75, u 76, u 77, u 78, u 79, u 80, u 81, u 82, u 83, u 84, u 85, u 86, u 87, u 88, u 89, u 90, u 91, u 92, u 93, u 94, u 95, u 96, u 97, u 98, u 99, u 100, u 101, u 102, u 103, u 104, u 105, u 106, u 107, u 108, u 109, u 110, u 111, u 112, u 113, u 114, u 115, u 116, u 117, u 118, u 119, u 120, u 121, u 122, u 123, u 124, u 125, u 126, u 127, u 128], defers := [] }) ∧ i ≤ A.length
set_option maxRecDepth 100000 in
set_option maxHeartbeats 2000000 in
theorem mtells_w (px py : Option Addr) (nx cx ny cy : Nat) (nm nm9 : ByteArray) (A B : List RawT) (sm RB : Bool) (CV EG AT : Int) (gr : RawT) (w : World) (hres : Hid ((RB = false ∧ EG = 380 ∧ gr = zeroR) ∨ (RB = true ∧ AT = -1 ∧ EG = 372 ∧ gr = zeroR) ∨ ∃ n : Nat, RB = true ∧ AT = (n : Int) ∧ EG = 0 ∧ A[n]? = some gr)) (hfw : FewP A) (hfn : FewN A) (hA9 : A.length ≤ 100) (hcv : Hid ((!(CV == 0) == RB || !RB && CV != 380 || false) = false)) (hnm : Hid (nm.extract 0 (mn (nm.size : Int) 20).toNat = nm9))
    (c1 : ∀ W, Below w.heap.size w W → Calls Tryz.prog 8 #[] W fun e w' => e = .returned (.bool true) ∧ Below W.heap.size W w')
    (c2 : ∀ W, Below w.heap.size w W → Calls Tryz.prog 9 #[.agg #[.slice px nx cx]] W fun e w' => ∃ v, e = .returned v ∧ Below W.heap.size W w' ∧ OwnM 0 A v w')
    (c3 : ∀ W, Below w.heap.size w W → Calls Tryz.prog 9 #[.agg #[.slice py ny cy]] W fun e w' => ∃ v, e = .returned v ∧ Below W.heap.size W w' ∧ OwnM 0 B v w')
    (c4 : ∀ W p c, OwnM 0 A (.agg #[.slice p A.length c]) W → Calls Tryz.prog 18 #[.agg #[.slice p A.length c]] W fun e w' => e = .returned (.bool RB) ∧ Below W.heap.size W w')
    (c5 : ∀ W p c, OwnM 0 A (.agg #[.slice p A.length c]) W → Calls Tryz.prog 30 #[.agg #[.slice p A.length c]] W fun e w' => e = .returned (.int .i64 CV) ∧ Below W.heap.size W w')
    (c6 : ∀ W p c p' c', OwnM 0 A (.agg #[.slice p A.length c]) W → OwnM 0 B (.agg #[.slice p' B.length c']) W → Calls Tryz.prog 31 #[.agg #[.slice p A.length c], .agg #[.slice p' B.length c']] W fun e w' => e = .returned (.bool sm) ∧ Below W.heap.size W w')
    (c7 : ∀ W p c p' c', OwnM 0 A (.agg #[.slice p A.length c]) W → OwnM 0 B (.agg #[.slice p' B.length c']) W → Calls Tryz.prog 13 #[.agg #[.slice p A.length c], .agg #[.slice p' B.length c']] W fun e w' => e = .returned (.bool sm) ∧ Below W.heap.size W w')
    (c10 : ∀ W p c p' c', OwnM 0 A (.agg #[.slice p A.length c]) W → OwnM 0 A (.agg #[.slice p' A.length c']) W → Calls Tryz.prog 31 #[.agg #[.slice p A.length c], .agg #[.slice p' A.length c']] W fun e w' => e = .returned (.bool true) ∧ Below W.heap.size W w')
    (c11 : ∀ W p c p' c', OwnM 0 A (.agg #[.slice p A.length c]) W → OwnM 0 A (.agg #[.slice p' A.length c']) W → Calls Tryz.prog 13 #[.agg #[.slice p A.length c], .agg #[.slice p' A.length c']] W fun e w' => e = .returned (.bool true) ∧ Below W.heap.size W w')
    (c12 : ∀ W p c, OwnM 0 A (.agg #[.slice p A.length c]) W → Calls Tryz.prog 33 #[.agg #[.slice p A.length c], .string nm9] W fun e w' => ∃ p' c', e = .returned (.tuple #[.agg #[.string gr.name, .int .i64 gr.eps, .int .i64 gr.floor, .int .i64 gr.last, .int .i64 gr.scale, .slice p' gr.pts.length c'], .int .i64 EG]) ∧ Below W.heap.size W w' ∧ PtsIn w' p' gr.pts)
    (c13 : ∀ W p c, OwnM 0 A (.agg #[.slice p A.length c]) W → Calls Tryz.prog 34 #[.agg #[.slice p A.length c], .string nm9] W fun e w' => e = .returned (.int .i64 AT) ∧ Below W.heap.size W w') :
    Calls Tryz.prog 7 #[.agg #[.slice px nx cx], .agg #[.slice py ny cy], .string nm] w fun e w' => e = .returned (.bool true) ∧ Below w.heap.size w w' := by
  replace c6 := Lib.hid c6
  replace c7 := Lib.hid c7
  replace c10 := Lib.hid c10
  replace c11 := Lib.hid c11
  replace c12 := Lib.hid c12
  replace c13 := Lib.hid c13
  have H_c1 := Lib.hid c1
  clear c1
  have H_c2 := Lib.hid c2
  clear c2
  have H_c3 := Lib.hid c3
  clear c3
  have H_c4 := Lib.hid c4
  clear c4
  have H_c5 := Lib.hid c5
  clear c5
  go_enter Tryz.func7, Tryz.ntmps7
  go_upto_region 1 with (fail)
  refine wp_cutB w (Bc w.heap.size #[.slice px nx cx] 27 <| Bc (w.heap.size + 1) #[.slice py ny cy] 27 <| Bz) ?_
  rintro W1 hW z2 ⟨⟨b1, yb1, k1, f1⟩, ⟨b2, yb2, k2, f2⟩, -⟩
  go_wp2_with fail
  refine (H_c1.out _ (belowAny)).mono ?_
  rintro e w3 ⟨rfl, hb3⟩
  have z4 := hb3.size
  try simp at z4
  clear k1 f1 k2 f2
  refine haveB w w3 (Bc w.heap.size #[.slice px nx cx] 27 <| Bc (w.heap.size + 1) #[.slice py ny cy] 27 <| Bz) ?_
  clear b1 b2 hW
  rintro hW z5 ⟨⟨b1, yb1, k1, f1⟩, ⟨b2, yb2, k2, f2⟩, -⟩
  clear hb3
  go_upto_region 3 with (fail)
  clear k1 f1 k2 f2
  refine wp_cutB w (Bc w.heap.size #[.slice px nx cx] 27 <| Bc (w.heap.size + 1) #[.slice py ny cy] 27 <| Bz) ?_
  clear b1 b2 hW
  rintro W6 hW z7 ⟨⟨b1, yb1, k1, f1⟩, ⟨b2, yb2, k2, f2⟩, -⟩
  have c2 := H_c2.out
  have c3 := H_c3.out
  refine wp_region_ndA 6 129 [] (fun W' => Rex [] W6 W' ∧ Blk W' w.heap.size #[.slice px nx cx] 27 ∧ Blk W' (w.heap.size + 1) #[.slice py ny cy] 27) mixed (by kernel_rfl) rfl ⟨(Rex.refl _ _).drew, b1, b2⟩ (fun w w' ⟨h0, h1, h2⟩ hr => ⟨h0.trans hr, h1.rex hr (by simp <;> omega), h2.rex hr (by simp <;> omega)⟩) (fun c a d v w h => by cases d <;> exact h) ?_
  iterate 1
    apply nd_det (hg := rfl) (hal := rfl)
    · intro a W' hC hE
      obtain ⟨_, k1, k2⟩ := hC
      have k1 := k1.cell
      have k2 := k2.cell
      first
        | (simp [Oper.looksAt, Op.operands, Call.operands, envOf, Det] at hE; simp [go_sem, Act.eval, IntWalk.i64_left, hE, k1, k2]; try rfl)
        | (clear hE; simp [go_sem, Act.eval, IntWalk.i64_left, k1, k2]; try rfl)
  apply nd_call (OwnM 0 A) (hg := rfl) (hal := rfl)
  · exact OwnM.closed _ _
  · intro a' W' hC hE
    obtain ⟨hR9, k1, k2⟩ := hC
    have k1 := k1.cell
    have k2 := k2.cell
    simp [Oper.looksAt, Op.operands, Call.operands, envOf, Det] at hE
    refine ⟨_, _, ?_, (c2 W' (hW.trans (hR9.of_priv hW.size))).mono ?_⟩
    · simp [go_sem, Act.eval, hE]
      try rfl
    · rintro e w' ⟨v, rfl, hB, hO⟩
      exact ⟨_, rfl, hB, hO⟩
  iterate 1
    apply nd_det (hg := rfl) (hal := rfl)
    · intro a W' hC hE
      obtain ⟨_, k1, k2⟩ := hC
      have k1 := k1.cell
      have k2 := k2.cell
      first
        | (simp [Oper.looksAt, Op.operands, Call.operands, envOf, Det] at hE; simp [go_sem, Act.eval, IntWalk.i64_left, hE, k1, k2]; try rfl)
        | (clear hE; simp [go_sem, Act.eval, IntWalk.i64_left, k1, k2]; try rfl)
  apply nd_call (OwnM 0 B) (hg := rfl) (hal := rfl)
  · exact OwnM.closed _ _
  · intro a' W' hC hE
    obtain ⟨hR9, k1, k2⟩ := hC
    have k1 := k1.cell
    have k2 := k2.cell
    simp [Oper.looksAt, Op.operands, Call.operands, envOf, Det] at hE
    refine ⟨_, _, ?_, (c3 W' (hW.trans (hR9.of_priv hW.size))).mono ?_⟩
    · simp [go_sem, Act.eval, hE]
      try rfl
    · rintro e w' ⟨v, rfl, hB, hO⟩
      exact ⟨_, rfl, hB, hO⟩
  apply nd_alloc W6.heap.size #[.slice none 0 0] 27 rfl rfl
  · exact fun W' hC => hC.1.size
  · simp [others] <;> omega
  · intro w; kernel_rfl
  apply nd_alloc W6.heap.size #[.slice none 0 0] 27 rfl rfl
  · exact fun W' hC => hC.1.size
  · simp [others] <;> omega
  · intro w; kernel_rfl
  rintro W12 ⟨hR, d1, d2⟩
  simp only [ndFinR, Det, forall_eq]
  intros
  repeat (rename GDet _ _ _ _ => hgd; clear hgd)
  simp only [Act.put, List.setIfInBounds_toArray, List.set_cons_zero, List.set_cons_succ, List.drop_succ_cons, List.drop_zero]
  clear c2
  clear c3
  clear b1 b2
  have b1 := d1
  have b2 := d2
  clear d1 d2
  replace hW := hW.trans (hR.of_priv hW.size)
  clear hR
  rename AllocApart _ _ => hap
  rename OwnM 0 A _ _ => sa
  rename OwnM 0 B _ _ => sb
  obtain ⟨pa, ca, rfl, -, -⟩ := sa.form
  obtain ⟨pb, cb, rfl, -, -⟩ := sb.form
  rename NewVar _ _ _ _ _ => hn8
  obtain ⟨o8, rfl, hg8, b4⟩ := hn8
  rename NewVar _ _ _ _ _ => hn7
  obtain ⟨o7, rfl, hg7, b3⟩ := hn7
  have hne : o7 ≠ o8 := fun e => hap 7 8 (by simp [allocDsts, isAlloc]) (by simp [allocDsts, isAlloc]) (by decide) ⟨o7, 0, none⟩ (by simp [Act.put]) (by simp [Act.put, e])
  clear hap
  have z91 := hW.size
  have z92 := b1.lt
  have z93 := b2.lt
  have z94 := b3.lt
  have z95 := b4.lt
  clear k1 f1 k2 f2
  have k1 := b1.cell
  have f1 := b1.frozen
  have k2 := b2.cell
  have f2 := b2.frozen
  have k3 := b3.cell
  have f3 := b3.frozen
  have k4 := b4.cell
  have f4 := b4.frozen
  go_upto_region 4 with (fail)
  clear k1 f1 k2 f2 k3 f3 k4 f4
  refine wp_cutB w (Bc w.heap.size #[.slice px nx cx] 27 <| Bc (w.heap.size + 1) #[.slice py ny cy] 27 <| Bc o7 #[.slice pa A.length ca] 27 <| Bc o8 #[.slice pb B.length cb] 27 <| Rc (fun W' => OwnM 0 A (.agg #[.slice pa A.length ca]) W') <| Rc (fun W' => OwnM 0 B (.agg #[.slice pb B.length cb]) W') <| Bz) ?_ (hI := by exact belowAny) (hR := (Bc.mk (by exact blkAny2) <| Bc.mk (by exact blkAny2) <| Bc.mk (by exact blkAny2) <| Bc.mk (by exact blkAny2) <| Rc.mk (by exact (sa.store b3 (by decide) (by decide)).store (Blk.setO b4 (Ne.symm hne) _ _) (by decide) (by decide)) <| Rc.mk (by exact (sb.store b3 (by decide) (by decide)).store (Blk.setO b4 (Ne.symm hne) _ _) (by decide) (by decide)) <| trivial))
  clear b1 b2 b3 b4 hW
  rintro W61 hW z62 ⟨⟨b1, yb1, k1, f1⟩, ⟨b2, yb2, k2, f2⟩, ⟨b3, yb3, k3, f3⟩, ⟨b4, yb4, k4, f4⟩, b5, b6, -⟩
  clear sa sb
  have hmin : ∀ ts t x y w, (Builtin.min_ ts t #[.int .i64 x, .int .i64 y]).run Tryz.prog w = .ok (.int .i64 (mn x y)) w := fun ts t x y w => by simp [Builtin.min_, Builtin.min2, mn]
  have hm0 := mn_spec (nm.size : Int) 20
  have hm1 : 0 ≤ mn (nm.size : Int) 20 := by omega
  have hm2 : mn (nm.size : Int) 20 ≤ (nm.size : Int) := hm0.1
  clear hm0
  go_upto_region 5 with (fail)
  clear k1 f1 k2 f2 k3 f3 k4 f4
  refine wp_cutB w (Bc w.heap.size #[.slice px nx cx] 27 <| Bc (w.heap.size + 1) #[.slice py ny cy] 27 <| Bc o7 #[.slice pa A.length ca] 27 <| Bc o8 #[.slice pb B.length cb] 27 <| Rc (fun W' => OwnM 0 A (.agg #[.slice pa A.length ca]) W') <| Rc (fun W' => OwnM 0 B (.agg #[.slice pb B.length cb]) W') <| Bz) ?_ (hI := by exact belowAny) (hR := (Bc.mk (by exact blkAny2) <| Bc.mk (by exact blkAny2) <| Bc.mk (by exact blkAny2) <| Bc.mk (by exact blkAny2) <| Rc.mk (by exact b5.below (by first | assumption | exact belowAny)) <| Rc.mk (by exact b6.below (by first | assumption | exact belowAny)) <| trivial))
  clear b1 b2 b3 b4 b5 b6 hW
  rintro W63 hW z64 ⟨⟨b1, yb1, k1, f1⟩, ⟨b2, yb2, k2, f2⟩, ⟨b3, yb3, k3, f3⟩, ⟨b4, yb4, k4, f4⟩, b5, b6, -⟩
  clear hmin hm1 hm2
  rw [hnm.out]
  go_wp2_with fail
  refine (H_c4.out _ pa ca b5).mono ?_
  rintro e w65 ⟨rfl, hb65⟩
  have z66 := hb65.size
  try simp at z66
  clear k1 f1 k2 f2 k3 f3 k4 f4
  refine haveB w w65 (Bc w.heap.size #[.slice px nx cx] 27 <| Bc (w.heap.size + 1) #[.slice py ny cy] 27 <| Bc o7 #[.slice pa A.length ca] 27 <| Bc o8 #[.slice pb B.length cb] 27 <| Rc (fun W' => OwnM 0 A (.agg #[.slice pa A.length ca]) W') <| Rc (fun W' => OwnM 0 B (.agg #[.slice pb B.length cb]) W') <| Bz) ?_ (hR := (Bc.mk (by exact blkAny2) <| Bc.mk (by exact blkAny2) <| Bc.mk (by exact blkAny2) <| Bc.mk (by exact blkAny2) <| Rc.mk (by exact b5.below (by first | assumption | exact belowAny)) <| Rc.mk (by exact b6.below (by first | assumption | exact belowAny)) <| trivial))
  clear b1 b2 b3 b4 b5 b6 hW
  rintro hW z67 ⟨⟨b1, yb1, k1, f1⟩, ⟨b2, yb2, k2, f2⟩, ⟨b3, yb3, k3, f3⟩, ⟨b4, yb4, k4, f4⟩, b5, b6, -⟩
  clear hb65
  go_wp2_with fail
  refine (H_c5.out _ pa ca b5).mono ?_
  rintro e w68 ⟨rfl, hb68⟩
  have z69 := hb68.size
  try simp at z69
  clear k1 f1 k2 f2 k3 f3 k4 f4
  refine haveB w w68 (Bc w.heap.size #[.slice px nx cx] 27 <| Bc (w.heap.size + 1) #[.slice py ny cy] 27 <| Bc o7 #[.slice pa A.length ca] 27 <| Bc o8 #[.slice pb B.length cb] 27 <| Rc (fun W' => OwnM 0 A (.agg #[.slice pa A.length ca]) W') <| Rc (fun W' => OwnM 0 B (.agg #[.slice pb B.length cb]) W') <| Bz) ?_ (hR := (Bc.mk (by exact blkAny2) <| Bc.mk (by exact blkAny2) <| Bc.mk (by exact blkAny2) <| Bc.mk (by exact blkAny2) <| Rc.mk (by exact b5.below (by first | assumption | exact belowAny)) <| Rc.mk (by exact b6.below (by first | assumption | exact belowAny)) <| trivial))
  clear b1 b2 b3 b4 b5 b6 hW
  rintro hW z70 ⟨⟨b1, yb1, k1, f1⟩, ⟨b2, yb2, k2, f2⟩, ⟨b3, yb3, k3, f3⟩, ⟨b4, yb4, k4, f4⟩, b5, b6, -⟩
  clear hb68
  have c2 := H_c2.out
  go_upto_region 7 with (fail)
  clear k1 f1 k2 f2 k3 f3 k4 f4
  refine wp_cutB w (Bc w.heap.size #[.slice px nx cx] 27 <| Bc (w.heap.size + 1) #[.slice py ny cy] 27 <| Bc o7 #[.slice pa A.length ca] 27 <| Bc o8 #[.slice pb B.length cb] 27 <| Rc (fun W' => OwnM 0 A (.agg #[.slice pa A.length ca]) W') <| Rc (fun W' => OwnM 0 B (.agg #[.slice pb B.length cb]) W') <| Bz) ?_ (hI := by exact belowAny) (hR := (Bc.mk (by exact blkAny2) <| Bc.mk (by exact blkAny2) <| Bc.mk (by exact blkAny2) <| Bc.mk (by exact blkAny2) <| Rc.mk (by exact b5.below (by first | assumption | exact belowAny)) <| Rc.mk (by exact b6.below (by first | assumption | exact belowAny)) <| trivial))
  clear b1 b2 b3 b4 b5 b6 hW
  rintro W71 hW z72 hL
  obtain ⟨⟨b1, yb1, k1, f1⟩, ⟨b2, yb2, k2, f2⟩, ⟨b3, yb3, k3, f3⟩, ⟨b4, yb4, k4, f4⟩, b5, b6, -⟩ := id hL
  clear k1 f1 k2 f2 k3 f3 k4 f4
  refine wp_regD 28 129 hW hL ?_
  iterate 5 refine dA ?_
  iterate 3 refine gA ?_
  iterate 2 refine gB ?_
  refine pgA ?_
  refine pO ?_
  refine dA ?_
  iterate 2 refine gA ?_
  apply nd_callvg (p := true) (c := .bool sm) (hg := rfl) (hd := rfl) (hal := rfl)
  · intro v W' h
    simp [envOf, Det] at h
    simp
    exact h
  · intro hp hx a' W' hC hE
    obtain ⟨_, ⟨-, -, k1, -⟩, ⟨-, -, k2, -⟩, ⟨-, -, k3, -⟩, ⟨-, -, k4, -⟩, k5, k6, -⟩ := hC
    simp [Oper.looksAt, Op.operands, Call.operands, envOf, Det, GDet, GS, hx] at hE
    refine ⟨_, _, ?_, (c6.out W' pa ca pb cb k5 k6)⟩
    simp [go_sem, Act.eval, hE]
    try rfl
  iterate 2 refine gA ?_
  apply nd_callvg (p := true) (c := .bool sm) (hg := rfl) (hd := rfl) (hal := rfl)
  · intro v W' h
    simp [envOf, Det] at h
    simp
    exact h
  · intro hp hx a' W' hC hE
    obtain ⟨_, ⟨-, -, k1, -⟩, ⟨-, -, k2, -⟩, ⟨-, -, k3, -⟩, ⟨-, -, k4, -⟩, k5, k6, -⟩ := hC
    simp [Oper.looksAt, Op.operands, Call.operands, envOf, Det, GDet, GS, hx] at hE
    refine ⟨_, _, ?_, (c7.out W' pa ca pb cb k5 k6)⟩
    simp [go_sem, Act.eval, hE]
    try rfl
  refine gA ?_
  refine pO ?_
  refine dA ?_
  iterate 2 refine gA ?_
  apply nd_gcall (OwnM 0 A) (p := true) (hg := rfl) (hd := rfl) (hal := rfl)
  · exact OwnM.closed _ _
  · intro v W' h
    simp [envOf, Det] at h
    simp
    exact h
  · intro hp hx a' W' hC hE
    have h9 := (hW.trans (hC.1.of_priv hW.size))
    obtain ⟨_, ⟨-, -, k1, -⟩, ⟨-, -, k2, -⟩, ⟨-, -, k3, -⟩, ⟨-, -, k4, -⟩, k5, k6, -⟩ := hC
    simp [Oper.looksAt, Op.operands, Call.operands, envOf, Det, GDet, GS, hx] at hE
    refine ⟨_, _, ?_, (H_c2.out W' h9).mono ?_⟩
    · simp [go_sem, Act.eval, hE]
      try rfl
    · rintro e w' ⟨v, rfl, hB, hv⟩
      exact ⟨_, rfl, hB, hv⟩
  apply nd_callvg (p := true) (c := .bool true) (hg := rfl) (hd := rfl) (hal := rfl)
  · intro v W' h
    simp [envOf, Det] at h
    simp
    exact h
  · intro hp hx a' W' hC hE
    obtain ⟨_, ⟨-, -, k1, -⟩, ⟨-, -, k2, -⟩, ⟨-, -, k3, -⟩, ⟨-, -, k4, -⟩, k5, k6, -⟩ := hC
    simp [Oper.looksAt, Op.operands, Call.operands, envOf, Det, GDet, GS, hx] at hE
    have h9 := hE.2.1
    obtain ⟨p9, c9, e9, -, -⟩ := h9.form
    rw [e9] at h9
    refine ⟨_, _, ?_, (c10.out W' pa ca p9 c9 k5 h9)⟩
    simp [go_sem, Act.eval, hE.1, e9]
    try rfl
  refine gA ?_
  refine pO ?_
  clear hW hL b1 b2 b3 b4 b5 b6
  rintro W73 hW z74 hL
  simp only [ndR]
  intros
  repeat (rename GDet _ _ _ _ => hgd; clear hgd)
  simp only [ndS]
  refine wpList_nil ?_
  obtain ⟨⟨b1, yb1, k1, f1⟩, ⟨b2, yb2, k2, f2⟩, ⟨b3, yb3, k3, f3⟩, ⟨b4, yb4, k4, f4⟩, b5, b6, -⟩ := hL
  clear c2
  rw [hcv.out]
  go_wp2
  refine wp_loop (mtRel w px py nx cx ny cy nm9 A B RB CV pa pb ca cb o7 o8) (fun a' _ => A.length - (intAt (a'.tmps.getD 63 undef)).toNat) ?_ ?_
  · unfold mtRel
    exact ⟨hW, b1, b2, b3, b4, b5, b6, 0, frame_ex rfl, Nat.zero_le _⟩
  clear b1 b2 b3 b4 b5 b6 hW
  rintro a' W ⟨hW, b1, b2, b3, b4, b5, b6, i, ⟨u, rfl⟩, hi'⟩
  have hz := hW.size
  have yb1 := b1.lt
  have yb2 := b2.lt
  have yb3 := b3.lt
  have yb4 := b4.lt
  rcases Nat.lt_or_ge i A.length with hlt | hge
  · obtain ⟨r0, tr⟩ : ∃ x, A[i]? = some x := ⟨A[i]'(by omega), List.getElem?_eq_getElem (by omega)⟩
    obtain ⟨p9, c9, e9, hR, -⟩ := b5.form
    simp only [Value.agg.injEq, Array.mk.injEq, List.cons.injEq, Value.slice.injEq, and_true, true_and] at e9
    obtain ⟨rfl, rfl⟩ := e9
    obtain ⟨b0, o0, p0, c0, rfl, h1, hps, hpc⟩ := hR.at' i _ tr
    have hf1 := hfw i _ tr
    have hf2 := hfn i _ tr
    have c8 := fun W' (hp : PtsIn W' p0 r0.pts) => c_mdCheckRaw r0 p0 c0 W' hp hf1
    have c9 := fun W' (hp : PtsIn W' p0 r0.pts) => c_ref28Raw r0 p0 c0 W' hp hf1 hf2
    unfold rawA at c8 c9 h1
    obtain ⟨PB, hPB⟩ : ∃ B, rawB r0 = B := ⟨_, rfl⟩
    rw [hPB] at c8 c9
    have s0 := h1 0 _ rfl
    have s1 := h1 1 _ rfl
    have s2 := h1 2 _ rfl
    have s3 := h1 3 _ rfl
    have s4 := h1 4 _ rfl
    have s5 := h1 5 _ rfl
    simp only [Nat.add_zero] at s0
    clear h1 hR tr hPB hpc
    cases PB with
    | true =>
      simp only [if_true] at c8
      replace c8 := Lib.hid c8
      replace c9 := Lib.hid c9
      have k1 := b1.cell
      have f1 := b1.frozen
      have k2 := b2.cell
      have f2 := b2.frozen
      have k3 := b3.cell
      have f3 := b3.frozen
      have k4 := b4.cell
      have f4 := b4.frozen
      go_upto_region 12 with (fail)
      clear k1 f1 k2 f2 k3 f3 k4 f4
      refine wp_cutB w (Bc w.heap.size #[.slice px nx cx] 27 <| Bc (w.heap.size + 1) #[.slice py ny cy] 27 <| Bc o7 #[.slice (some ⟨b0, o0, none⟩) A.length ca] 27 <| Bc o8 #[.slice pb B.length cb] 27 <| Rc (fun W' => OwnM 0 A (.agg #[.slice (some ⟨b0, o0, none⟩) A.length ca]) W') <| Rc (fun W' => OwnM 0 B (.agg #[.slice pb B.length cb]) W') <| Bc W.heap.size #[.string r0.name, .int .i64 r0.eps, .int .i64 r0.floor, .int .i64 r0.last, .int .i64 r0.scale, .slice p0 r0.pts.length c0] 35 <| Rc (fun W' => PtsIn W' p0 r0.pts) <| Bz) ?_ (hI := by exact belowAny) (hR := (Bc.mk (by exact blkAny2) <| Bc.mk (by exact blkAny2) <| Bc.mk (by exact blkAny2) <| Bc.mk (by exact blkAny2) <| Rc.mk (by exact b5.below (by first | assumption | exact belowAny)) <| Rc.mk (by exact b6.below (by first | assumption | exact belowAny)) <| Bc.mk (by exact blkAny2) <| Rc.mk (by exact hps.below (by exact belowAny)) <| trivial))
      clear b1 b2 b3 b4 hW
      rintro W121 hW z122 ⟨⟨b1, yb1, k1, f1⟩, ⟨b2, yb2, k2, f2⟩, ⟨b3, yb3, k3, f3⟩, ⟨b4, yb4, k4, f4⟩, b5, b6, ⟨b7, yb7, k7, f7⟩, b8, -⟩
      clear s0 s1 s2 s3 s4 s5
      go_wp2_with fail
      refine (c8.out _ b8).mono ?_
      rintro e w123 ⟨rfl, hb123⟩
      have z124 := hb123.size
      try simp at z124
      clear k1 f1 k2 f2 k3 f3 k4 f4 k7 f7
      refine haveB w w123 (Bc w.heap.size #[.slice px nx cx] 27 <| Bc (w.heap.size + 1) #[.slice py ny cy] 27 <| Bc o7 #[.slice (some ⟨b0, o0, none⟩) A.length ca] 27 <| Bc o8 #[.slice pb B.length cb] 27 <| Rc (fun W' => OwnM 0 A (.agg #[.slice (some ⟨b0, o0, none⟩) A.length ca]) W') <| Rc (fun W' => OwnM 0 B (.agg #[.slice pb B.length cb]) W') <| Bc W.heap.size #[.string r0.name, .int .i64 r0.eps, .int .i64 r0.floor, .int .i64 r0.last, .int .i64 r0.scale, .slice p0 r0.pts.length c0] 35 <| Rc (fun W' => PtsIn W' p0 r0.pts) <| Bz) ?_ (hR := (Bc.mk (by exact blkAny2) <| Bc.mk (by exact blkAny2) <| Bc.mk (by exact blkAny2) <| Bc.mk (by exact blkAny2) <| Rc.mk (by exact b5.below (by first | assumption | exact belowAny)) <| Rc.mk (by exact b6.below (by first | assumption | exact belowAny)) <| Bc.mk (by exact blkAny2) <| Rc.mk (by exact PtsIn.below b8 (by first | assumption | exact belowAny)) <| trivial))
      clear b1 b2 b3 b4 b5 b6 b7 b8 hW
      rintro hW z125 ⟨⟨b1, yb1, k1, f1⟩, ⟨b2, yb2, k2, f2⟩, ⟨b3, yb3, k3, f3⟩, ⟨b4, yb4, k4, f4⟩, b5, b6, ⟨b7, yb7, k7, f7⟩, b8, -⟩
      clear hb123
      go_wp2_with fail
      refine (c9.out _ b8).mono ?_
      rintro e w126 ⟨rfl, hb126⟩
      have z127 := hb126.size
      try simp at z127
      clear k1 f1 k2 f2 k3 f3 k4 f4 k7 f7
      refine haveB w w126 (Bc w.heap.size #[.slice px nx cx] 27 <| Bc (w.heap.size + 1) #[.slice py ny cy] 27 <| Bc o7 #[.slice (some ⟨b0, o0, none⟩) A.length ca] 27 <| Bc o8 #[.slice pb B.length cb] 27 <| Rc (fun W' => OwnM 0 A (.agg #[.slice (some ⟨b0, o0, none⟩) A.length ca]) W') <| Rc (fun W' => OwnM 0 B (.agg #[.slice pb B.length cb]) W') <| Bc W.heap.size #[.string r0.name, .int .i64 r0.eps, .int .i64 r0.floor, .int .i64 r0.last, .int .i64 r0.scale, .slice p0 r0.pts.length c0] 35 <| Rc (fun W' => PtsIn W' p0 r0.pts) <| Bz) ?_ (hR := (Bc.mk (by exact blkAny2) <| Bc.mk (by exact blkAny2) <| Bc.mk (by exact blkAny2) <| Bc.mk (by exact blkAny2) <| Rc.mk (by exact b5.below (by first | assumption | exact belowAny)) <| Rc.mk (by exact b6.below (by first | assumption | exact belowAny)) <| Bc.mk (by exact blkAny2) <| Rc.mk (by exact PtsIn.below b8 (by first | assumption | exact belowAny)) <| trivial))
      clear b1 b2 b3 b4 b5 b6 b7 b8 hW
      rintro hW z128 ⟨⟨b1, yb1, k1, f1⟩, ⟨b2, yb2, k2, f2⟩, ⟨b3, yb3, k3, f3⟩, ⟨b4, yb4, k4, f4⟩, b5, b6, ⟨b7, yb7, k7, f7⟩, b8, -⟩
      clear hb126
      go_wp2
      have hw1 : wrap64 ((i : Int) + 1) = (i : Int) + 1 := by simp only [wrap64_eq]; omega
      try simp only [hw1]
      clear hw1
      refine ⟨?_, by simp [intAt]; omega⟩
      unfold mtRel
      exact ⟨hW, b1, b2, b3, b4, b5, b6, i + 1, frame_ex rfl, hlt⟩
    | false =>
      simp only [Bool.false_eq_true, if_false] at c8
      replace c8 := Lib.hid c8
      replace c9 := Lib.hid c9
      have k1 := b1.cell
      have f1 := b1.frozen
      have k2 := b2.cell
      have f2 := b2.frozen
      have k3 := b3.cell
      have f3 := b3.frozen
      have k4 := b4.cell
      have f4 := b4.frozen
      go_upto_region 12 with (fail)
      clear k1 f1 k2 f2 k3 f3 k4 f4
      refine wp_cutB w (Bc w.heap.size #[.slice px nx cx] 27 <| Bc (w.heap.size + 1) #[.slice py ny cy] 27 <| Bc o7 #[.slice (some ⟨b0, o0, none⟩) A.length ca] 27 <| Bc o8 #[.slice pb B.length cb] 27 <| Rc (fun W' => OwnM 0 A (.agg #[.slice (some ⟨b0, o0, none⟩) A.length ca]) W') <| Rc (fun W' => OwnM 0 B (.agg #[.slice pb B.length cb]) W') <| Bc W.heap.size #[.string r0.name, .int .i64 r0.eps, .int .i64 r0.floor, .int .i64 r0.last, .int .i64 r0.scale, .slice p0 r0.pts.length c0] 35 <| Rc (fun W' => PtsIn W' p0 r0.pts) <| Bz) ?_ (hI := by exact belowAny) (hR := (Bc.mk (by exact blkAny2) <| Bc.mk (by exact blkAny2) <| Bc.mk (by exact blkAny2) <| Bc.mk (by exact blkAny2) <| Rc.mk (by exact b5.below (by first | assumption | exact belowAny)) <| Rc.mk (by exact b6.below (by first | assumption | exact belowAny)) <| Bc.mk (by exact blkAny2) <| Rc.mk (by exact hps.below (by exact belowAny)) <| trivial))
      clear b1 b2 b3 b4 hW
      rintro W121 hW z122 ⟨⟨b1, yb1, k1, f1⟩, ⟨b2, yb2, k2, f2⟩, ⟨b3, yb3, k3, f3⟩, ⟨b4, yb4, k4, f4⟩, b5, b6, ⟨b7, yb7, k7, f7⟩, b8, -⟩
      clear s0 s1 s2 s3 s4 s5
      go_wp2_with fail
      refine (c8.out _ b8).mono ?_
      rintro e w123 ⟨rfl, hb123⟩
      have z124 := hb123.size
      try simp at z124
      clear k1 f1 k2 f2 k3 f3 k4 f4 k7 f7
      refine haveB w w123 (Bc w.heap.size #[.slice px nx cx] 27 <| Bc (w.heap.size + 1) #[.slice py ny cy] 27 <| Bc o7 #[.slice (some ⟨b0, o0, none⟩) A.length ca] 27 <| Bc o8 #[.slice pb B.length cb] 27 <| Rc (fun W' => OwnM 0 A (.agg #[.slice (some ⟨b0, o0, none⟩) A.length ca]) W') <| Rc (fun W' => OwnM 0 B (.agg #[.slice pb B.length cb]) W') <| Bc W.heap.size #[.string r0.name, .int .i64 r0.eps, .int .i64 r0.floor, .int .i64 r0.last, .int .i64 r0.scale, .slice p0 r0.pts.length c0] 35 <| Rc (fun W' => PtsIn W' p0 r0.pts) <| Bz) ?_ (hR := (Bc.mk (by exact blkAny2) <| Bc.mk (by exact blkAny2) <| Bc.mk (by exact blkAny2) <| Bc.mk (by exact blkAny2) <| Rc.mk (by exact b5.below (by first | assumption | exact belowAny)) <| Rc.mk (by exact b6.below (by first | assumption | exact belowAny)) <| Bc.mk (by exact blkAny2) <| Rc.mk (by exact PtsIn.below b8 (by first | assumption | exact belowAny)) <| trivial))
      clear b1 b2 b3 b4 b5 b6 b7 b8 hW
      rintro hW z125 ⟨⟨b1, yb1, k1, f1⟩, ⟨b2, yb2, k2, f2⟩, ⟨b3, yb3, k3, f3⟩, ⟨b4, yb4, k4, f4⟩, b5, b6, ⟨b7, yb7, k7, f7⟩, b8, -⟩
      clear hb123
      go_wp2_with fail
      refine (c9.out _ b8).mono ?_
      rintro e w126 ⟨rfl, hb126⟩
      have z127 := hb126.size
      try simp at z127
      clear k1 f1 k2 f2 k3 f3 k4 f4 k7 f7
      refine haveB w w126 (Bc w.heap.size #[.slice px nx cx] 27 <| Bc (w.heap.size + 1) #[.slice py ny cy] 27 <| Bc o7 #[.slice (some ⟨b0, o0, none⟩) A.length ca] 27 <| Bc o8 #[.slice pb B.length cb] 27 <| Rc (fun W' => OwnM 0 A (.agg #[.slice (some ⟨b0, o0, none⟩) A.length ca]) W') <| Rc (fun W' => OwnM 0 B (.agg #[.slice pb B.length cb]) W') <| Bc W.heap.size #[.string r0.name, .int .i64 r0.eps, .int .i64 r0.floor, .int .i64 r0.last, .int .i64 r0.scale, .slice p0 r0.pts.length c0] 35 <| Rc (fun W' => PtsIn W' p0 r0.pts) <| Bz) ?_ (hR := (Bc.mk (by exact blkAny2) <| Bc.mk (by exact blkAny2) <| Bc.mk (by exact blkAny2) <| Bc.mk (by exact blkAny2) <| Rc.mk (by exact b5.below (by first | assumption | exact belowAny)) <| Rc.mk (by exact b6.below (by first | assumption | exact belowAny)) <| Bc.mk (by exact blkAny2) <| Rc.mk (by exact PtsIn.below b8 (by first | assumption | exact belowAny)) <| trivial))
      clear b1 b2 b3 b4 b5 b6 b7 b8 hW
      rintro hW z128 ⟨⟨b1, yb1, k1, f1⟩, ⟨b2, yb2, k2, f2⟩, ⟨b3, yb3, k3, f3⟩, ⟨b4, yb4, k4, f4⟩, b5, b6, ⟨b7, yb7, k7, f7⟩, b8, -⟩
      clear hb126
      go_wp2
      have hw1 : wrap64 ((i : Int) + 1) = (i : Int) + 1 := by simp only [wrap64_eq]; omega
      try simp only [hw1]
      clear hw1
      refine ⟨?_, by simp [intAt]; omega⟩
      unfold mtRel
      exact ⟨hW, b1, b2, b3, b4, b5, b6, i + 1, frame_ex rfl, hlt⟩
  · have hlen : A.length ≤ i := hge
    have k1 := b1.cell
    have f1 := b1.frozen
    have k2 := b2.cell
    have f2 := b2.frozen
    have k3 := b3.cell
    have f3 := b3.frozen
    have k4 := b4.cell
    have f4 := b4.frozen
    go_wp2_with fail
    refine (c12.out _ pa ca b5).mono ?_
    rintro e w221 ⟨p', c', rfl, hb221, hs⟩
    have z222 := hb221.size
    try simp at z222
    clear k1 f1 k2 f2 k3 f3 k4 f4
    refine haveB w w221 (Bc w.heap.size #[.slice px nx cx] 27 <| Bc (w.heap.size + 1) #[.slice py ny cy] 27 <| Bc o7 #[.slice pa A.length ca] 27 <| Bc o8 #[.slice pb B.length cb] 27 <| Rc (fun W' => OwnM 0 A (.agg #[.slice pa A.length ca]) W') <| Rc (fun W' => OwnM 0 B (.agg #[.slice pb B.length cb]) W') <| Bz) ?_ (hR := (Bc.mk (by exact blkAny2) <| Bc.mk (by exact blkAny2) <| Bc.mk (by exact blkAny2) <| Bc.mk (by exact blkAny2) <| Rc.mk (by exact b5.below (by first | assumption | exact belowAny)) <| Rc.mk (by exact b6.below (by first | assumption | exact belowAny)) <| trivial))
    clear b1 b2 b3 b4 b5 b6 hW
    rintro hW z223 ⟨⟨b1, yb1, k1, f1⟩, ⟨b2, yb2, k2, f2⟩, ⟨b3, yb3, k3, f3⟩, ⟨b4, yb4, k4, f4⟩, b5, b6, -⟩
    go_upto_region 17 with (fail)
    clear k1 f1 k2 f2 k3 f3 k4 f4
    refine wp_cutB w (Bc w.heap.size #[.slice px nx cx] 27 <| Bc (w.heap.size + 1) #[.slice py ny cy] 27 <| Bc o7 #[.slice pa A.length ca] 27 <| Bc o8 #[.slice pb B.length cb] 27 <| Rc (fun W' => OwnM 0 A (.agg #[.slice pa A.length ca]) W') <| Rc (fun W' => OwnM 0 B (.agg #[.slice pb B.length cb]) W') <| Bc w221.heap.size #[.string gr.name, .int .i64 gr.eps, .int .i64 gr.floor, .int .i64 gr.last, .int .i64 gr.scale, .slice p' gr.pts.length c'] 35 <| Rc (fun W' => PtsIn W' p' gr.pts) <| Bz) ?_ (hI := by exact belowAny) (hR := (Bc.mk (by exact blkAny2) <| Bc.mk (by exact blkAny2) <| Bc.mk (by exact blkAny2) <| Bc.mk (by exact blkAny2) <| Rc.mk (by exact b5.below (by first | assumption | exact belowAny)) <| Rc.mk (by exact b6.below (by first | assumption | exact belowAny)) <| Bc.mk (by exact blkAny2) <| Rc.mk (by exact PtsIn.below hs (by exact belowAny)) <| trivial))
    clear b1 b2 b3 b4 b5 b6 hW
    rintro W224 hW z225 ⟨⟨b1, yb1, k1, f1⟩, ⟨b2, yb2, k2, f2⟩, ⟨b3, yb3, k3, f3⟩, ⟨b4, yb4, k4, f4⟩, b5, b6, ⟨b7, yb7, k7, f7⟩, b8, -⟩
    clear hs
    go_wp2_with fail
    refine (c13.out _ pa ca b5).mono ?_
    rintro e w226 ⟨rfl, hb226⟩
    have z227 := hb226.size
    try simp at z227
    clear k1 f1 k2 f2 k3 f3 k4 f4 k7 f7
    refine haveB w w226 (Bc w.heap.size #[.slice px nx cx] 27 <| Bc (w.heap.size + 1) #[.slice py ny cy] 27 <| Bc o7 #[.slice pa A.length ca] 27 <| Bc o8 #[.slice pb B.length cb] 27 <| Rc (fun W' => OwnM 0 A (.agg #[.slice pa A.length ca]) W') <| Rc (fun W' => OwnM 0 B (.agg #[.slice pb B.length cb]) W') <| Bc w221.heap.size #[.string gr.name, .int .i64 gr.eps, .int .i64 gr.floor, .int .i64 gr.last, .int .i64 gr.scale, .slice p' gr.pts.length c'] 35 <| Rc (fun W' => PtsIn W' p' gr.pts) <| Bz) ?_ (hR := (Bc.mk (by exact blkAny2) <| Bc.mk (by exact blkAny2) <| Bc.mk (by exact blkAny2) <| Bc.mk (by exact blkAny2) <| Rc.mk (by exact b5.below (by first | assumption | exact belowAny)) <| Rc.mk (by exact b6.below (by first | assumption | exact belowAny)) <| Bc.mk (by exact blkAny2) <| Rc.mk (by exact PtsIn.below b8 (by first | assumption | exact belowAny)) <| trivial))
    clear b1 b2 b3 b4 b5 b6 b7 b8 hW
    rintro hW z228 ⟨⟨b1, yb1, k1, f1⟩, ⟨b2, yb2, k2, f2⟩, ⟨b3, yb3, k3, f3⟩, ⟨b4, yb4, k4, f4⟩, b5, b6, ⟨b7, yb7, k7, f7⟩, b8, -⟩
    clear hb226
    rcases hres.out with ⟨rfl, rfl, hgr⟩ | ⟨rfl, rfl, rfl, hgr⟩ | ⟨n, rfl, rfl, rfl, hgr⟩
    · have c14 : ∀ W', PtsIn W' p' gr.pts → Calls Tryz.prog 28 #[.agg #[.string gr.name, .int .i64 gr.eps, .int .i64 gr.floor, .int .i64 gr.last, .int .i64 gr.scale, .slice p' gr.pts.length c'], .agg #[.string { data := #[] }, .int .i64 0, .int .i64 0, .int .i64 0, .int .i64 0, .slice none 0 0]] W' fun e w' => e = .returned (.bool true) ∧ Below W'.heap.size W' w' := fun W' hp => by
        have h9 := c_ref28SameRaw gr zeroR p' none c' 0 W' hp ⟨fun i r hr => by simp [zeroR] at hr⟩ (by rw [hgr]; decide) (by decide)
        rw [hgr, sameR_refl] at h9
        rw [hgr]
        exact h9
      replace c14 := Lib.hid c14
      clear hgr hres
      go_wp2_with fail
      refine (c14.out _ b8).mono ?_
      rintro e w229 ⟨rfl, hb229⟩
      have z230 := hb229.size
      try simp at z230
      clear k1 f1 k2 f2 k3 f3 k4 f4 k7 f7
      refine haveB w w229 (Bc w.heap.size #[.slice px nx cx] 27 <| Bc (w.heap.size + 1) #[.slice py ny cy] 27 <| Bc o7 #[.slice pa A.length ca] 27 <| Bc o8 #[.slice pb B.length cb] 27 <| Rc (fun W' => OwnM 0 A (.agg #[.slice pa A.length ca]) W') <| Rc (fun W' => OwnM 0 B (.agg #[.slice pb B.length cb]) W') <| Bc w221.heap.size #[.string gr.name, .int .i64 gr.eps, .int .i64 gr.floor, .int .i64 gr.last, .int .i64 gr.scale, .slice p' gr.pts.length c'] 35 <| Rc (fun W' => PtsIn W' p' gr.pts) <| Bz) ?_ (hR := (Bc.mk (by exact blkAny2) <| Bc.mk (by exact blkAny2) <| Bc.mk (by exact blkAny2) <| Bc.mk (by exact blkAny2) <| Rc.mk (by exact b5.below (by first | assumption | exact belowAny)) <| Rc.mk (by exact b6.below (by first | assumption | exact belowAny)) <| Bc.mk (by exact blkAny2) <| Rc.mk (by exact PtsIn.below b8 (by first | assumption | exact belowAny)) <| trivial))
      clear b1 b2 b3 b4 b5 b6 b7 b8 hW
      rintro hW z231 ⟨⟨b1, yb1, k1, f1⟩, ⟨b2, yb2, k2, f2⟩, ⟨b3, yb3, k3, f3⟩, ⟨b4, yb4, k4, f4⟩, b5, b6, ⟨b7, yb7, k7, f7⟩, b8, -⟩
      clear hb229
      go_wp2
      go_ret
      exact ⟨rfl, by exact belowAny⟩
    · have c14 : ∀ W', PtsIn W' p' gr.pts → Calls Tryz.prog 28 #[.agg #[.string gr.name, .int .i64 gr.eps, .int .i64 gr.floor, .int .i64 gr.last, .int .i64 gr.scale, .slice p' gr.pts.length c'], .agg #[.string { data := #[] }, .int .i64 0, .int .i64 0, .int .i64 0, .int .i64 0, .slice none 0 0]] W' fun e w' => e = .returned (.bool true) ∧ Below W'.heap.size W' w' := fun W' hp => by
        have h9 := c_ref28SameRaw gr zeroR p' none c' 0 W' hp ⟨fun i r hr => by simp [zeroR] at hr⟩ (by rw [hgr]; decide) (by decide)
        rw [hgr, sameR_refl] at h9
        rw [hgr]
        exact h9
      replace c14 := Lib.hid c14
      clear hgr hres
      go_wp2_with fail
      refine (c14.out _ b8).mono ?_
      rintro e w229 ⟨rfl, hb229⟩
      have z230 := hb229.size
      try simp at z230
      clear k1 f1 k2 f2 k3 f3 k4 f4 k7 f7
      refine haveB w w229 (Bc w.heap.size #[.slice px nx cx] 27 <| Bc (w.heap.size + 1) #[.slice py ny cy] 27 <| Bc o7 #[.slice pa A.length ca] 27 <| Bc o8 #[.slice pb B.length cb] 27 <| Rc (fun W' => OwnM 0 A (.agg #[.slice pa A.length ca]) W') <| Rc (fun W' => OwnM 0 B (.agg #[.slice pb B.length cb]) W') <| Bc w221.heap.size #[.string gr.name, .int .i64 gr.eps, .int .i64 gr.floor, .int .i64 gr.last, .int .i64 gr.scale, .slice p' gr.pts.length c'] 35 <| Rc (fun W' => PtsIn W' p' gr.pts) <| Bz) ?_ (hR := (Bc.mk (by exact blkAny2) <| Bc.mk (by exact blkAny2) <| Bc.mk (by exact blkAny2) <| Bc.mk (by exact blkAny2) <| Rc.mk (by exact b5.below (by first | assumption | exact belowAny)) <| Rc.mk (by exact b6.below (by first | assumption | exact belowAny)) <| Bc.mk (by exact blkAny2) <| Rc.mk (by exact PtsIn.below b8 (by first | assumption | exact belowAny)) <| trivial))
      clear b1 b2 b3 b4 b5 b6 b7 b8 hW
      rintro hW z231 ⟨⟨b1, yb1, k1, f1⟩, ⟨b2, yb2, k2, f2⟩, ⟨b3, yb3, k3, f3⟩, ⟨b4, yb4, k4, f4⟩, b5, b6, ⟨b7, yb7, k7, f7⟩, b8, -⟩
      clear hb229
      go_wp2
      go_ret
      exact ⟨rfl, by exact belowAny⟩
    · obtain ⟨p9, c9, e9, hR, -⟩ := b5.form
      simp only [Value.agg.injEq, Array.mk.injEq, List.cons.injEq, Value.slice.injEq, and_true, true_and] at e9
      obtain ⟨rfl, rfl⟩ := e9
      obtain ⟨b0, o0, p0, c0, rfl, h1, hps, hpc⟩ := hR.at' n _ hgr
      have hnl := (List.getElem?_eq_some_iff.1 hgr).1
      have hgf := hfw n _ hgr
      have c15 := Lib.hid (fun W' (hp : PtsIn W' p' gr.pts) (hp0 : PtsIn W' p0 gr.pts) => c_ref28SameRaw gr gr p' p0 c' c0 W' hp hp0 hgf hgf)
      rw [sameR_refl] at c15
      unfold rawA at c15 h1
      have nlt := Nat.not_le.2 hnl
      have b9 : CellsP w226 b0 (o0 + n * 6) #[.string gr.name, .int .i64 gr.eps, .int .i64 gr.floor, .int .i64 gr.last, .int .i64 gr.scale, .slice p0 gr.pts.length c0] := ⟨h1⟩
      have b10 : PtsIn w226 p0 gr.pts := hps
      clear hgr hres hR hpc
      have c2 := H_c2.out
      go_upto_region 22 with (fail)
      clear k1 f1 k2 f2 k3 f3 k4 f4 k7 f7
      refine wp_cutB w (Bc w.heap.size #[.slice px nx cx] 27 <| Bc (w.heap.size + 1) #[.slice py ny cy] 27 <| Bc o7 #[.slice (some ⟨b0, o0, none⟩) A.length ca] 27 <| Bc o8 #[.slice pb B.length cb] 27 <| Rc (fun W' => OwnM 0 A (.agg #[.slice (some ⟨b0, o0, none⟩) A.length ca]) W') <| Rc (fun W' => OwnM 0 B (.agg #[.slice pb B.length cb]) W') <| Bc w221.heap.size #[.string gr.name, .int .i64 gr.eps, .int .i64 gr.floor, .int .i64 gr.last, .int .i64 gr.scale, .slice p' gr.pts.length c'] 35 <| Rc (fun W' => PtsIn W' p' gr.pts) <| Rc (fun W' => CellsP W' b0 (o0 + n * 6) #[.string gr.name, .int .i64 gr.eps, .int .i64 gr.floor, .int .i64 gr.last, .int .i64 gr.scale, .slice p0 gr.pts.length c0]) <| Rc (fun W' => PtsIn W' p0 gr.pts) <| Bz) ?_ (hI := by exact belowAny) (hR := (Bc.mk (by exact blkAny2) <| Bc.mk (by exact blkAny2) <| Bc.mk (by exact blkAny2) <| Bc.mk (by exact blkAny2) <| Rc.mk (by exact b5.below (by first | assumption | exact belowAny)) <| Rc.mk (by exact b6.below (by first | assumption | exact belowAny)) <| Bc.mk (by exact blkAny2) <| Rc.mk (by exact PtsIn.below b8 (by first | assumption | exact belowAny)) <| Rc.mk (by first | exact ⟨h1⟩ | exact (CellsP.mk h1).below (by exact belowAny)) <| Rc.mk (by exact hps.below (by exact belowAny)) <| trivial))
      clear b1 b2 b3 b4 b5 b6 b7 b8 b9 b10 hW
      rintro W229 hW z230 hL
      obtain ⟨⟨b1, yb1, k1, f1⟩, ⟨b2, yb2, k2, f2⟩, ⟨b3, yb3, k3, f3⟩, ⟨b4, yb4, k4, f4⟩, b5, b6, ⟨b7, yb7, k7, f7⟩, b8, b9, b10, -⟩ := id hL
      clear k1 f1 k2 f2 k3 f3 k4 f4 k7 f7
      refine wp_regD 18 129 hW hL ?_
      iterate 3 refine dE (fun W' hC => aI hnl (aI nlt (aI (hC.2.2.2.2.2.2.2.2.2.1.at' 0 _ rfl) (aI (hC.2.2.2.2.2.2.2.2.2.1.at' 1 _ rfl) (aI (hC.2.2.2.2.2.2.2.2.2.1.at' 2 _ rfl) (aI (hC.2.2.2.2.2.2.2.2.2.1.at' 3 _ rfl) (aI (hC.2.2.2.2.2.2.2.2.2.1.at' 4 _ rfl) (hC.2.2.2.2.2.2.2.2.2.1.at' 5 _ rfl)))))))) ?_
      iterate 6 refine gE (fun W' hC => aI hnl (aI nlt (aI (hC.2.2.2.2.2.2.2.2.2.1.at' 0 _ rfl) (aI (hC.2.2.2.2.2.2.2.2.2.1.at' 1 _ rfl) (aI (hC.2.2.2.2.2.2.2.2.2.1.at' 2 _ rfl) (aI (hC.2.2.2.2.2.2.2.2.2.1.at' 3 _ rfl) (aI (hC.2.2.2.2.2.2.2.2.2.1.at' 4 _ rfl) (hC.2.2.2.2.2.2.2.2.2.1.at' 5 _ rfl)))))))) ?_
      apply nd_callvg2 (p := true) (hg := rfl) (hd := rfl) (hal := rfl)
      · intro v W' h
        simp [envOf, Det] at h
        simp
        exact h
      · intro hp hx W' hC
        exact c15.out W' hC.2.2.2.2.2.2.2.2.1 hC.2.2.2.2.2.2.2.2.2.2.1
      · intro hp hx a W' hC hE
        obtain ⟨_, ⟨-, -, k1, -⟩, ⟨-, -, k2, -⟩, ⟨-, -, k3, -⟩, ⟨-, -, k4, -⟩, k5, k6, ⟨-, -, k7, -⟩, k8, k9, k10, -⟩ := hC
        have t0 := k9.at' 0 _ rfl; have t1 := k9.at' 1 _ rfl; have t2 := k9.at' 2 _ rfl; have t3 := k9.at' 3 _ rfl; have t4 := k9.at' 4 _ rfl; have t5 := k9.at' 5 _ rfl; simp only [Nat.add_zero] at t0
        first
          | (simp [Oper.looksAt, Op.operands, Call.operands, envOf, Det, GDet, hx] at hE; simp [go_sem, Act.eval, IntWalk.i64_left, hE, k1, k2, k3, k4, k5, k6, k7, k8, k9, k10, hnl, nlt, t0, t1, t2, t3, t4, t5]; try rfl)
          | (clear hE; simp [go_sem, Act.eval, IntWalk.i64_left, k1, k2, k3, k4, k5, k6, k7, k8, k9, k10, hnl, nlt, t0, t1, t2, t3, t4, t5]; try rfl)
      refine pA ?_
      refine dE (fun W' hC => aI hnl (aI nlt (aI (hC.2.2.2.2.2.2.2.2.2.1.at' 0 _ rfl) (aI (hC.2.2.2.2.2.2.2.2.2.1.at' 1 _ rfl) (aI (hC.2.2.2.2.2.2.2.2.2.1.at' 2 _ rfl) (aI (hC.2.2.2.2.2.2.2.2.2.1.at' 3 _ rfl) (aI (hC.2.2.2.2.2.2.2.2.2.1.at' 4 _ rfl) (hC.2.2.2.2.2.2.2.2.2.1.at' 5 _ rfl)))))))) ?_
      iterate 2 refine gE (fun W' hC => aI hnl (aI nlt (aI (hC.2.2.2.2.2.2.2.2.2.1.at' 0 _ rfl) (aI (hC.2.2.2.2.2.2.2.2.2.1.at' 1 _ rfl) (aI (hC.2.2.2.2.2.2.2.2.2.1.at' 2 _ rfl) (aI (hC.2.2.2.2.2.2.2.2.2.1.at' 3 _ rfl) (aI (hC.2.2.2.2.2.2.2.2.2.1.at' 4 _ rfl) (hC.2.2.2.2.2.2.2.2.2.1.at' 5 _ rfl)))))))) ?_
      apply nd_oncall (OwnM 0 A) (hg := rfl) (hd := rfl) (hal := rfl)
      · exact OwnM.closed _ _
      · intro v W' h
        simp [envOf, Det] at h
        exact h
      · intro a' W' hC hE
        obtain ⟨hR9, k1, _⟩ := hC
        simp [Oper.looksAt, Op.operands, Call.operands, envOf, Det, GDet] at hE
        refine ⟨_, _, ?_, (c2 W' (hW.trans (hR9.of_priv hW.size))).mono ?_⟩
        · simp [go_sem, Act.eval, hE]
          try rfl
        · rintro e w' ⟨v, rfl, hB, hO⟩
          exact ⟨_, rfl, hB, hO⟩
      apply nd_oncall (Det (.bool true)) (hg := rfl) (hd := rfl) (hal := rfl)
      · exact closed_det _ _
      · intro v W' h
        simp [envOf, Det] at h
        exact h
      · intro a' W' hC hE
        simp [Oper.looksAt, Op.operands, Call.operands, envOf, Det, GDet] at hE
        have h9 := hE.2.1
        obtain ⟨p9, c9, e9, -, -⟩ := h9.form
        rw [e9] at h9
        refine ⟨_, _, ?_, (c11.out W' (some ⟨b0, o0, none⟩) ca p9 c9 hC.2.2.2.2.2.1 h9).mono ?_⟩
        · simp [go_sem, Act.eval, hE.1, hE.2.2, e9]
          try rfl
        · rintro e w' ⟨rfl, hB⟩
          exact ⟨_, rfl, hB, rfl⟩
      refine pA ?_
      refine dE (fun W' hC => aI hnl (aI nlt (aI (hC.2.2.2.2.2.2.2.2.2.1.at' 0 _ rfl) (aI (hC.2.2.2.2.2.2.2.2.2.1.at' 1 _ rfl) (aI (hC.2.2.2.2.2.2.2.2.2.1.at' 2 _ rfl) (aI (hC.2.2.2.2.2.2.2.2.2.1.at' 3 _ rfl) (aI (hC.2.2.2.2.2.2.2.2.2.1.at' 4 _ rfl) (hC.2.2.2.2.2.2.2.2.2.1.at' 5 _ rfl)))))))) ?_
      clear hW hL b1 b2 b3 b4 b5 b6 b7 b8 b9 b10
      rintro W231 hW z232 hL
      simp only [ndR]
      intros
      repeat (rename GDet _ _ _ _ => hgd; clear hgd)
      simp only [ndS]
      refine wpList_nil ?_
      obtain ⟨⟨b1, yb1, k1, f1⟩, ⟨b2, yb2, k2, f2⟩, ⟨b3, yb3, k3, f3⟩, ⟨b4, yb4, k4, f4⟩, b5, b6, ⟨b7, yb7, k7, f7⟩, b8, b9, b10, -⟩ := hL
      clear c2
      go_wp2
      refine bodyPost_ret (by simp [results, Tryz.results7, go_sem, k1, f1, k2, f2, k3, f3, k4, f4, k7, f7, yb1, yb2, yb3, yb4, yb7]) rfl ⟨rfl, by exact belowAny⟩
end Go.Proofs.YtdeghcgakkhbmaaGreat
namespace Go.Proofs.YtdeghcgakkhbmaaGreat
open Go.RowKit
theorem fewP_own (X : List RawT) : FewP ((X.take 9).map rawOf) := fun i r hr => by
  rw [List.getElem?_map] at hr
  obtain ⟨x, -, rfl⟩ := Option.map_eq_some_iff.1 hr
  have := rawOf_len x
  omega
theorem fewN_own (X : List RawT) : FewN ((X.take 9).map rawOf) := fun i r hr => by
  rw [List.getElem?_map] at hr
  obtain ⟨x, -, rfl⟩ := Option.map_eq_some_iff.1 hr
  have := rawOf_name x
  omega
theorem own_len (X : List RawT) : ((X.take 9).map rawOf).length ≤ 100 := by
  rw [List.length_map, List.length_take]
  omega
theorem OwnM.got {B : Nat} {rows : List RawT} {p : Option Addr} {c : Nat} {w : World} (h : OwnM B rows (.agg #[.slice p rows.length c]) w) : RawsIn w p rows ∧ (p = none → c = 0) := by
  obtain ⟨p9, c9, e9, h1, h2⟩ := h.form
  simp only [Value.agg.injEq, Array.mk.injEq, List.cons.injEq, Value.slice.injEq, and_true, true_and] at e9
  obtain ⟨rfl, rfl⟩ := e9
  exact ⟨h1, h2⟩
theorem c_modelTells (px py : Option Addr) (cx cy : Nat) (X Y : List RawT) (nm : ByteArray) (w : World) (h : RawsCame w px X) (h' : RawsCame w py Y) (hx : X.length ≤ 9223372036854775807) (hy : Y.length ≤ 9223372036854775807)
    (c1 : ∀ W, Below w.heap.size w W → Calls Tryz.prog 8 #[] W fun e w' => e = .returned (.bool true) ∧ Below W.heap.size W w') :
    Calls Tryz.prog 7 #[.agg #[.slice px X.length cx], .agg #[.slice py Y.length cy], .string nm] w fun e w' => e = .returned (.bool true) ∧ Below w.heap.size w w' := by
  obtain ⟨A, hA⟩ : ∃ A, (X.take 9).map rawOf = A := ⟨_, rfl⟩
  obtain ⟨B, hB⟩ : ∃ B, (Y.take 9).map rawOf = B := ⟨_, rfl⟩
  obtain ⟨nm9, hnm⟩ : ∃ n, nm.extract 0 (mn (nm.size : Int) 20).toNat = n := ⟨_, rfl⟩
  have hpA : FewP A := hA ▸ fewP_own X
  have hnA : FewN A := hA ▸ fewN_own X
  have hlA : A.length ≤ 100 := hA ▸ own_len X
  have hpB : FewP B := hB ▸ fewP_own Y
  have c2 := fun W (hW : Below w.heap.size w W) => c_own28M px cx X W (h.below hW) hx
  have c3 := fun W (hW : Below w.heap.size w W) => c_own28M py cy Y W (h'.below hW) hy
  rw [hA] at c2
  rw [hB] at c3
  refine mtells_w px py X.length cx Y.length cy nm nm9 A B (sameM A B) (modelB A) (if modelB A = true then 0 else 380) (getR A nm9).2 (atR A nm9) (getR A nm9).1 w (Lib.hid ?_) hpA hnA hlA (Lib.hid ?_) (Lib.hid hnm) c1
    (fun W hW => (c2 W hW).mono ?_) (fun W hW => (c3 W hW).mono ?_) (fun W p c hm => c_ref28Right p c A W hm.got.1 hpA hnA hlA) (fun W p c hm => c_mdCheck p c A W hm.got.1 hpA hlA)
    (fun W p c p' c' hm hm' => c_mdSame A B p p' c c' W hm.got.1 hm'.got.1 hlA hpA) (fun W p c p' c' hm hm' => c_ref28Same A B p p' c c' W hm.got.1 hm'.got.1 hlA hpA hpB)
    (fun W p c p' c' hm hm' => sameM_refl A ▸ c_mdSame A A p p' c c' W hm.got.1 hm'.got.1 hlA hpA) (fun W p c p' c' hm hm' => sameM_refl A ▸ c_ref28Same A A p p' c c' W hm.got.1 hm'.got.1 hlA hpA hpA)
    (fun W p c hm => c_mdGet p c A nm9 W hm.got.1 hpA hlA hm.got.2) (fun W p c hm => c_ref28At p c A nm9 W hm.got.1 (by omega))
  · cases hb : modelB A with
    | false => exact .inl ⟨rfl, by simp [getR, hb], by simp [getR, hb]⟩
    | true =>
      rcases getR_at (nm := nm9) hb with ⟨h1, h2⟩ | ⟨i, r, h1, h2, h3⟩
      · exact .inr (.inl ⟨rfl, h1, by rw [h2], by rw [h2]⟩)
      · exact .inr (.inr ⟨i, rfl, h1, by rw [h3], by rw [h3]; exact h2⟩)
  · cases modelB A <;> rfl
  · rintro e w' ⟨v, rfl, hB', hv⟩
    exact ⟨v, rfl, hB', hv.mono (Nat.zero_le _)⟩
  · rintro e w' ⟨v, rfl, hB', hv⟩
    exact ⟨v, rfl, hB', hv.mono (Nat.zero_le _)⟩
end Go.Proofs.YtdeghcgakkhbmaaGreat
namespace Go.Proofs.YtdeghcgakkhbmaaGreat
open Go.RowKit
/-- The exact answer so far, and one value more. -/
def gS (x : Int × (Int × Int) × Int) (v : Int) : Int × (Int × Int) × Int := (x.1 + 1, if x.1 = 0 then (mn v v, mx v v) else (mn x.2.1.1 v, mx x.2.1.2 v), x.2.2 + v)
def exA (x : Int × (Int × Int) × Int) : Array Value := #[.int .i64 x.1, .int .i64 x.2.1.1, .int .i64 x.2.1.2, .int .i64 (hiW x.2.2), .int .u64 (loW x.2.2)]
end Go.Proofs.YtdeghcgakkhbmaaGreat
namespace Go.Proofs.YtdeghcgakkhbmaaGreat
open Go.RowKit Go.Shelf
attribute [local go_sem] Oper.semAt_some
/-- The points of some times, as they are told: till the first one that is behind them. -/
def goesG (a b : Int) (p : Int × Int) : Bool := decide (p.1 < a) || decide (p.1 ≤ b)
def tellG (a b : Int) (l : List (Int × Int)) : List (Int × Int) := (l.takeWhile (goesG a b)).filter (fun p => decide (a ≤ p.1))
def soG (a b : Int) (l : List (Int × Int)) (k : Nat) (pre : List (Int × Int)) : Prop := pre = (l.take k).filter (fun p => decide (a ≤ p.1)) ∧ ∀ p, p ∈ l.take k → goesG a b p = true
/-- What a round must keep for the points' sake. -/
structure KeepsR (r : RawT) (p : Option Addr) (cap : Nat) (a b : Int) (Br Ba Bb : Nat) (A B : World) : Prop where
  size : A.heap.size ≤ B.heap.size
  pts : PtsIn A p r.pts → PtsIn B p r.pts
  raw : Blk A Br (rawA r p cap) 35 → Blk B Br (rawA r p cap) 35
  lo : Blk A Ba #[.int .i64 a] 2 → Blk B Ba #[.int .i64 a] 2
  hi : Blk A Bb #[.int .i64 b] 2 → Blk B Bb #[.int .i64 b] 2
end Go.Proofs.YtdeghcgakkhbmaaGreat
