/- Parts of the proof that follows: The document's models: what is below a floor goes. No condition. | The document's models: what with and without come to in a model whose names go up. No condition. | The document's models: what whatever mutation makes of a model that may be. No condition. | Layer model: Get, whatever the model. | The laws of chapter 28: ModelTells' walk. No condition. (Begun.) | The laws of chapter 28: ModelTells, of models that came in. | Layer model: one point more is told (told$1). No condition but the numbers' bounds. | Layer model: the points of some times (some), one behind the other. No condition. | Layer model: the exact answer of some times (told). No condition. | Layer span: Has, Width, of a span that may be. | Layer model: whether a number lies in a span; a mixed number times a count. No condition but the numbers' bounds. | Layer model: a mixed number times a count. No condition but the numbers' bounds. | Layer model: whether a mean holds. No condition but the numbers' bounds. -/
import Derived.Test.YtdeghcgakkhbmaaGreatDo14
set_option linter.unusedSimpArgs false
set_option linter.unusedVariables false
namespace Go.Proofs.YtdeghcgakkhbmaaGreat
open Go.RowKit
def rretRel (w : World) (b0 o0 cap : Nat) (rows : List RawT) (x : MutT) (px : Option Addr) (cx : Nat) (r0 : RawT) (p0 : Option Addr) (c0 X : Nat) (a' : Act) (W : World) : Prop :=
  Below w.heap.size w W ∧ Blk W w.heap.size #[.slice (some ⟨b0, o0, none⟩) rows.length cap] 27 ∧ Blk W (w.heap.size + 1) #[.int .i64 4, .string x.name, .int .i64 x.eps, .int .i64 x.floor, .int .i64 x.scale, .slice px x.pts.length cx] 52 ∧ Blk W (w.heap.size + 1 + 1) #[.slice none 0 0] 27 ∧ ∃ (k : Nat) (vp : Option Addr) (vc : Nat) (L : List (Int × Int)), (∃ u : Nat → Value, a' = { tmps := #[u 0, u 1, .pointer (some ⟨w.heap.size, 0, none⟩), .pointer (some ⟨(w.heap.size + 1), 0, none⟩), .pointer (some ⟨(w.heap.size + 1 + 1), 0, none⟩), u 5, u 6, .pointer (some ⟨X, 0, none⟩), u 8, u 9, u 10, u 11, u 12, u 13, u 14, u 15, u 16, u 17, u 18, u 19, u 20, u 21, u 22, u 23, u 24, u 25, u 26, u 27, u 28, u 29, u 30, u 31, u 32, u 33, u 34, u 35, u 36, u 37, u 38, u 39, u 40, u 41, u 42, u 43, u 44, u 45, u 46, u 47, u 48, u 49, u 50, u 51, u 52, u 53, u 54, u 55, u 56, u 57, u 58, u 59, u 60, u 61, u 62, u 63, u 64, u 65, u 66, u 67, u 68, u 69, u 70, u 71, u 72, u 73, u 74, u 75, u 76, u 77, u 78, u 79, u 80, u 81, u 82, u 83, u 84, u 85, u 86, u 87, u 88, u 89, u 90, u 91, u 92, u 93, u 94, u 95, u 96, u 97, u 98, u 99, u 100, u 101, u 102, u 103, u 104, u 105, u 106, u 107, u 108, u 109, u 110, u 111, u 112, u 113, u 114, u 115, u 116, u 117, u 118, u 119, .slice p0 r0.pts.length c0, .int .i64 (r0.pts.length : Int), .int .i64 (k : Int), u 123, u 124, u 125, u 126, u 127, u 128, u 129, u 130, u 131, u 132, u 133, u 134, u 135, u 136, u 137, u 138, u 139, u 140], defers := [] }) ∧
    Blk W X #[.string r0.name, .int .i64 r0.eps, .int .i64 x.floor, .int .i64 r0.last, .int .i64 r0.scale, .slice vp L.length vc] 35 ∧ OwnR W w.heap.size 58 2 (.slice vp L.length vc) L.length (flatPts L) ∧ L = keepL x.floor (r0.pts.take k) ∧ k ≤ r0.pts.length
theorem keep_next {fl : Int} {l : List (Int × Int)} {k : Nat} {t y : Int} (h : l[k]? = some (t, y)) : keepL fl (l.take (k + 1)) = if t < fl then keepL fl (l.take k) else keepL fl (l.take k) ++ [(t, y)] := by
  rw [List.take_add_one, h]
  exact keepL_snoc fl (l.take k) t y
set_option maxRecDepth 100000 in
set_option maxHeartbeats 2000000 in
theorem rdo_retain (b0 o0 cap : Nat) (rows : List RawT) (x : MutT) (px : Option Addr) (cx : Nat) (w : World) (i : Nat) (r0 : RawT) (p0 : Option Addr) (c0 : Nat) (hrow : Hid (∀ j v, (rawA r0 p0 c0)[j]? = some v → w.cell? ⟨b0, o0 + i * 6 + j, none⟩ = some v)) (hir : i < rows.length) (hmx : rows.length ≤ 100) (R : List RawT) (hpt0 : Hid (PtsIn w p0 r0.pts)) (hr2 : r0.pts.length ≤ 2000) (hlb : ¬x.floor < r0.floor) (c1 : Hid (∀ W, Below w.heap.size w W → Calls Tryz.prog 34 #[.agg #[.slice (some ⟨b0, o0, none⟩) rows.length cap], .string x.name] W fun e w' => e = .returned (.int .i64 (i : Int)) ∧ Below W.heap.size W w'))
    (c2 : Hid (∀ W, Calls Tryz.prog 55 #[.int .i64 x.floor] W fun e w' => e = .returned (.bool true) ∧ Below W.heap.size W w'))
    (c4 : Hid (∀ W py cy, Below w.heap.size w W → PtsIn W py (keepL x.floor r0.pts) → (keepL x.floor r0.pts).length ≤ cy → (py = none → cy = 0) → Calls Tryz.prog 54 #[.agg #[.slice (some ⟨b0, o0, none⟩) rows.length cap], .agg #[.string r0.name, .int .i64 r0.eps, .int .i64 x.floor, .int .i64 r0.last, .int .i64 r0.scale, .slice py (keepL x.floor r0.pts).length cy]] W fun e w' => ∃ p' c', e = .returned (.agg #[.slice p' R.length c']) ∧ Below W.heap.size W w' ∧ RawsIn w' p' R)) :
    Calls Tryz.prog 19 #[.agg #[.slice (some ⟨b0, o0, none⟩) rows.length cap], .agg #[.int .i64 4, .string x.name, .int .i64 x.eps, .int .i64 x.floor, .int .i64 x.scale, .slice px x.pts.length cx]] w fun e w' => ∃ p' c', e = .returned (.tuple #[.agg #[.slice p' R.length c'], .int .i64 (0)]) ∧ Below w.heap.size w w' ∧ RawsIn w' p' R := by
  obtain ⟨ip, hip, hpz0, hpz1, hpz2⟩ := info_parts Tryz.infoPt
  go_enter Tryz.func19, Tryz.ntmps19

  go_upto_region 1 with (fail)
  refine wp_cutB w (Bc w.heap.size #[.slice (some ⟨b0, o0, none⟩) rows.length cap] 27 <| Bc (w.heap.size + 1) #[.int .i64 4, .string x.name, .int .i64 x.eps, .int .i64 x.floor, .int .i64 x.scale, .slice px x.pts.length cx] 52 <| Bc (w.heap.size + 1 + 1) #[.slice none 0 0] 27 <| Bz) ?_
  rintro W1 hW z2 ⟨⟨b1, yb1, k1, f1⟩, ⟨b2, yb2, k2, f2⟩, ⟨b3, yb3, k3, f3⟩, -⟩
  go_wp2_with fail
  refine (c1.out _ hW).mono ?_
  rintro e w3 ⟨rfl, hb3⟩
  have z4 := hb3.size
  try simp at z4
  clear k1 f1 k2 f2 k3 f3
  refine haveB w w3 (Bc w.heap.size #[.slice (some ⟨b0, o0, none⟩) rows.length cap] 27 <| Bc (w.heap.size + 1) #[.int .i64 4, .string x.name, .int .i64 x.eps, .int .i64 x.floor, .int .i64 x.scale, .slice px x.pts.length cx] 52 <| Bc (w.heap.size + 1 + 1) #[.slice none 0 0] 27 <| Bz) ?_
  clear b1 b2 b3 hW
  rintro hW z5 ⟨⟨b1, yb1, k1, f1⟩, ⟨b2, yb2, k2, f2⟩, ⟨b3, yb3, k3, f3⟩, -⟩
  clear hb3
  have hcs : ∀ j v, (rawA r0 p0 c0)[j]? = some v → w3.cell? ⟨b0, o0 + i * 6 + j, none⟩ = some v := fun j v hv => ((bcell hW).1 b0 _ (cell_lt (hrow.out j v hv))).trans (hrow.out j v hv)
  have q0 : w3.cell? ⟨b0, o0 + i * 6, none⟩ = some (.string r0.name) := hcs 0 _ rfl
  have q1 : w3.cell? ⟨b0, o0 + i * 6 + 1, none⟩ = some (.int .i64 r0.eps) := hcs 1 _ rfl
  have q2 : w3.cell? ⟨b0, o0 + i * 6 + 2, none⟩ = some (.int .i64 r0.floor) := hcs 2 _ rfl
  have q3 : w3.cell? ⟨b0, o0 + i * 6 + 3, none⟩ = some (.int .i64 r0.last) := hcs 3 _ rfl
  have q4 : w3.cell? ⟨b0, o0 + i * 6 + 4, none⟩ = some (.int .i64 r0.scale) := hcs 4 _ rfl
  have q5 : w3.cell? ⟨b0, o0 + i * 6 + 5, none⟩ = some (.slice p0 r0.pts.length c0) := hcs 5 _ rfl
  clear hcs
  go_upto_region 9 with (fail)
  clear k1 f1 k2 f2 k3 f3
  refine wp_cutB w (Bc w.heap.size #[.slice (some ⟨b0, o0, none⟩) rows.length cap] 27 <| Bc (w.heap.size + 1) #[.int .i64 4, .string x.name, .int .i64 x.eps, .int .i64 x.floor, .int .i64 x.scale, .slice px x.pts.length cx] 52 <| Bc (w.heap.size + 1 + 1) #[.slice none 0 0] 27 <| Bc w3.heap.size #[.string r0.name, .int .i64 r0.eps, .int .i64 r0.floor, .int .i64 r0.last, .int .i64 r0.scale, .slice p0 r0.pts.length c0] 35 <| Bz) ?_
  clear b1 b2 b3 hW
  rintro W6 hW z7 ⟨⟨b1, yb1, k1, f1⟩, ⟨b2, yb2, k2, f2⟩, ⟨b3, yb3, k3, f3⟩, ⟨b4, yb4, k4, f4⟩, -⟩
  clear q0 q1 q2 q3 q4 q5
  go_wp2_with fail
  refine (c2.out _).mono ?_
  rintro e w8 ⟨rfl, hb8⟩
  have z9 := hb8.size
  try simp at z9
  clear k1 f1 k2 f2 k3 f3 k4 f4
  refine haveB w w8 (Bc w.heap.size #[.slice (some ⟨b0, o0, none⟩) rows.length cap] 27 <| Bc (w.heap.size + 1) #[.int .i64 4, .string x.name, .int .i64 x.eps, .int .i64 x.floor, .int .i64 x.scale, .slice px x.pts.length cx] 52 <| Bc (w.heap.size + 1 + 1) #[.slice none 0 0] 27 <| Bc w3.heap.size #[.string r0.name, .int .i64 r0.eps, .int .i64 r0.floor, .int .i64 r0.last, .int .i64 r0.scale, .slice p0 r0.pts.length c0] 35 <| Bz) ?_
  clear b1 b2 b3 b4 hW
  rintro hW z10 ⟨⟨b1, yb1, k1, f1⟩, ⟨b2, yb2, k2, f2⟩, ⟨b3, yb3, k3, f3⟩, ⟨b4, yb4, k4, f4⟩, -⟩
  clear hb8
  go_upto_region 25 with (fail)
  clear k1 f1 k2 f2 k3 f3 k4 f4
  refine wp_cutB w (Bc w.heap.size #[.slice (some ⟨b0, o0, none⟩) rows.length cap] 27 <| Bc (w.heap.size + 1) #[.int .i64 4, .string x.name, .int .i64 x.eps, .int .i64 x.floor, .int .i64 x.scale, .slice px x.pts.length cx] 52 <| Bc (w.heap.size + 1 + 1) #[.slice none 0 0] 27 <| Bc w3.heap.size #[.string r0.name, .int .i64 r0.eps, .int .i64 x.floor, .int .i64 r0.last, .int .i64 r0.scale, .slice none 0 0] 35 <| Bz) ?_
  clear b1 b2 b3 b4 hW
  rintro W11 hW z12 ⟨⟨b1, yb1, k1, f1⟩, ⟨b2, yb2, k2, f2⟩, ⟨b3, yb3, k3, f3⟩, ⟨b4, yb4, k4, f4⟩, -⟩
  obtain ⟨X, hX⟩ : ∃ X, X = w3.heap.size := ⟨_, rfl⟩
  have hXw : w.heap.size + 1 + 1 < X := by omega
  rw [← hX] at b4 yb4 ⊢
  clear hX
  go_wp2
  clear k1 f1 k2 f2 k3 f3 k4 f4
  refine wp_loop (rretRel w b0 o0 cap rows x px cx r0 p0 c0 X) (fun a' _ => r0.pts.length - (intAt (a'.tmps.getD 122 undef)).toNat) ?_ ?_
  · unfold rretRel
    exact ⟨hW, b1, b2, b3, 0, none, 0, [], frame_ex rfl, b4, OwnR.nil _ _ _ _, rfl, Nat.zero_le _⟩
  clear b1 b2 b3 b4 hW
  rintro a' W ⟨hW, b1, b2, b3, k, vp, vc, L, ⟨u, rfl⟩, b4, hown, hL, hk⟩
  have hz := hW.size
  have yb1 := b1.lt
  have yb2 := b2.lt
  have yb3 := b3.lt
  have yb4 := b4.lt
  have hlL : L.length ≤ 2000 := by
    have h1 := List.length_filter_le (fun q : Int × Int => decide (x.floor ≤ q.1)) (r0.pts.take k)
    rw [List.length_take] at h1
    rw [hL]
    unfold keepL
    omega
  rcases Nat.lt_or_ge k r0.pts.length with hlt | hge
  · obtain ⟨⟨t, y⟩, tr⟩ : ∃ q, r0.pts[k]? = some q := ⟨r0.pts[k]'(by omega), List.getElem?_eq_getElem (by omega)⟩
    obtain ⟨bq, oq, rfl, q0, q1⟩ := (hpt0.out.below hW).at' k _ tr
    have hs := keep_next (fl := x.floor) tr
    rw [← hL] at hs
    have zv := cell_lt q0
    try simp only at zv
    clear hpt0 hrow c1 c2 c4 tr hL
    by_cases h1 : t < x.floor
    · have hL2 := Lib.hid (show L = keepL x.floor (r0.pts.take (k + 1)) by rw [hs, if_pos h1])
      clear hs
      have k1 := b1.cell
      have f1 := b1.frozen
      have k2 := b2.cell
      have f2 := b2.frozen
      have k3 := b3.cell
      have f3 := b3.frozen
      have k4 := b4.cell
      have f4 := b4.frozen
      have hB1 : Below W.heap.size W (W.alloc (.cells #[.int .i64 t, .int .i64 y] 58)) := belowAny
      have e1 := Lib.hid (hW.trans (hB1.mono hz))
      have e2 := Lib.hid (hown.below hB1)
      clear hown hB1
      go_wp2
      rw [show (k : Int) + 1 = ((k + 1 : Nat) : Int) by omega]
      refine ⟨?_, by simp [intAt]; omega⟩
      unfold rretRel
      exact ⟨e1.out, by exact blkAny2, by exact blkAny2, by exact blkAny2, k + 1, vp, vc, L, frame_ex rfl, by exact blkAny2, e2.out, hL2.out, by omega⟩
    · have hL2 := Lib.hid (show L ++ [(t, y)] = keepL x.floor (r0.pts.take (k + 1)) by rw [hs, if_neg h1])
      clear hs
      have k1 := b1.cell
      have f1 := b1.frozen
      have k2 := b2.cell
      have f2 := b2.frozen
      have k3 := b3.cell
      have f3 := b3.frozen
      have k4 := b4.cell
      have f4 := b4.frozen
      go_upto_region 29 with (fail)
      clear k1 f1 k2 f2 k3 f3 k4 f4
      refine wp_cutB w (Bc w.heap.size #[.slice (some ⟨b0, o0, none⟩) rows.length cap] 27 <| Bc (w.heap.size + 1) #[.int .i64 4, .string x.name, .int .i64 x.eps, .int .i64 x.floor, .int .i64 x.scale, .slice px x.pts.length cx] 52 <| Bc (w.heap.size + 1 + 1) #[.slice none 0 0] 27 <| Bc X #[.string r0.name, .int .i64 r0.eps, .int .i64 x.floor, .int .i64 r0.last, .int .i64 r0.scale, .slice vp L.length vc] 35 <| Bc W.heap.size #[.int .i64 t, .int .i64 y] 58 <| Rc (fun W' => OwnR W' w.heap.size 58 2 (.slice vp L.length vc) L.length (flatPts L)) <| Bz) ?_ (hI := by exact belowAny) (hR := (Bc.mk (by exact blkAny2) <| Bc.mk (by exact blkAny2) <| Bc.mk (by exact blkAny2) <| Bc.mk (by exact blkAny2) <| Bc.mk (by exact blkAny2) <| Rc.mk (by exact hown.below (by exact belowAny)) <| trivial))
      clear b1 b2 b3 b4 hW
      rintro W21 hW z22 ⟨⟨b1, yb1, k1, f1⟩, ⟨b2, yb2, k2, f2⟩, ⟨b3, yb3, k3, f3⟩, ⟨b4, yb4, k4, f4⟩, ⟨b5, yb5, k5, f5⟩, b6, -⟩
      have hown9 := b6.own
      clear hown b6
      have hza := hW.size
      clear q0 q1
      go_wp2_with (at_builtin; refine wpList_append_own _ rfl (.tmp 132) (.tmp 134) 33 rfl w.heap.size 58 ip _ 2 16 (by kernel_rfl) hip hpz0 hpz1 hpz2 rfl (by omega) _ L.length (flatPts L) rfl (hown9.alloc _) ⟨W21.heap.size, 0, none⟩ 1 1 [.int .i64 t, .int .i64 y] rfl rfl (cell_two_new _ _ _ _) (by simp [Value.oneCell']) (by simp [maxLen]; omega) (by omega) (by simp; omega) ?_)
      intro v9 w9 hown2 hgr _
      obtain ⟨p9, c9, rfl, -, -, -, -⟩ := (OwnR.mk hown2).form
      have d1 := Blk.grown b1 hown9 (by decide) hgr
      have d2 := Blk.grown b2 hown9 (by decide) hgr
      have d3 := Blk.grown b3 hown9 (by decide) hgr
      have d4 := Blk.grown b4 hown9 (by decide) hgr
      have hB9 : Below w.heap.size w w9 := below_append hW hza hown9 hgr
      have e4 := d4.set2 (i := 5) (v := .slice p9 (L.length + 1) c9) (cs' := #[.string r0.name, .int .i64 r0.eps, .int .i64 x.floor, .int .i64 r0.last, .int .i64 r0.scale, .slice p9 (L.length + 1) c9]) rfl
      have eB : Below w.heap.size w (w9.setCell ⟨X, 5, none⟩ (.slice p9 (L.length + 1) c9)) := hB9.setCell (by simp; omega) _
      have HH := Lib.hid (And.intro (Blk.setO (g := X) d1 (by omega) 5 (.slice p9 (L.length + 1) c9)) (And.intro (Blk.setO (g := X) d2 (by omega) 5 (.slice p9 (L.length + 1) c9)) (And.intro (Blk.setO (g := X) d3 (by omega) 5 (.slice p9 (L.length + 1) c9)) (And.intro e4 (And.intro eB ((OwnR.mk hown2).setX (j := 5) (u := .slice p9 (L.length + 1) c9) (own_apart hown2 d4 (by decide))))))))
      have k9 := d4.cell
      have f9 := d4.frozen
      have yX := d4.lt
      have hsn : (L ++ [(t, y)]).length = L.length + 1 := by rw [List.length_append]; rfl
      replace hsn := Lib.hid hsn
      clear d1 d2 d3 d4 e4 eB hown2 hgr hown9 b1 b2 b3 b4 b5 hW hB9 k1 f1 k2 f2 k3 f3 k4 f4 k5 f5
      go_wp2
      obtain ⟨d1, d2, d3, e4, eB, eO⟩ := HH.out
      rw [show (k : Int) + 1 = ((k + 1 : Nat) : Int) by omega]
      refine ⟨?_, by simp [intAt]; omega⟩
      unfold rretRel
      exact ⟨eB, d1, d2, d3, k + 1, p9, c9, L ++ [(t, y)], frame_ex rfl, by rw [hsn.out]; exact e4, by rw [flatPts_snoc, hsn.out]; exact eO, hL2.out, by omega⟩
  · obtain rfl : k = r0.pts.length := by omega
    rw [List.take_of_length_le (Nat.le_refl _)] at hL
    replace hL := Lib.hid hL
    clear hpt0 hrow c1 c2
    rw [← hL.out] at c4
    have hPO : PtO _ w.heap.size vp vc L := hown
    clear hown
    have hPi := hPO.row.pts
    have hPc := hPO.cap
    have k1 := b1.cell
    have f1 := b1.frozen
    have k2 := b2.cell
    have f2 := b2.frozen
    have k3 := b3.cell
    have f3 := b3.frozen
    have k4 := b4.cell
    have f4 := b4.frozen
    go_wp2_with fail
    refine (c4.out _ vp vc hW hPi hPc.1 hPc.2).mono ?_
    rintro e w21 ⟨p9, c9', rfl, hb21, hR⟩
    have z22 := hb21.size
    try simp at z22
    clear k1 f1 k2 f2 k3 f3 k4 f4
    refine haveB w w21 (Bc w.heap.size #[.slice (some ⟨b0, o0, none⟩) rows.length cap] 27 <| Bc (w.heap.size + 1) #[.int .i64 4, .string x.name, .int .i64 x.eps, .int .i64 x.floor, .int .i64 x.scale, .slice px x.pts.length cx] 52 <| Bc (w.heap.size + 1 + 1) #[.slice none 0 0] 27 <| Bc X #[.string r0.name, .int .i64 r0.eps, .int .i64 x.floor, .int .i64 r0.last, .int .i64 r0.scale, .slice vp L.length vc] 35 <| Bz) ?_
    clear b1 b2 b3 b4 hW
    rintro hW z23 ⟨⟨b1, yb1, k1, f1⟩, ⟨b2, yb2, k2, f2⟩, ⟨b3, yb3, k3, f3⟩, ⟨b4, yb4, k4, f4⟩, -⟩
    clear hPi hPc hPO
    replace hR := Lib.hid hR
    go_wp2
    have d2 := b3.set2 (i := 0) (v := .slice p9 R.length c9') (cs' := #[.slice p9 R.length c9']) rfl
    have d0 := d2.cell 0
    simp only [List.getElem?_toArray, List.getElem?_cons_zero] at d0
    refine bodyPost_ret (v := .tuple #[.agg #[.slice p9 R.length c9'], .int .i64 (0)]) (by simp [results, Tryz.results19, go_sem, d0]) rfl ⟨p9, c9', rfl, hW.setCell (by simp; omega) _, hR.out.store b3⟩
end Go.Proofs.YtdeghcgakkhbmaaGreat
namespace Go.Proofs.YtdeghcgakkhbmaaGreat
open Go.RowKit
theorem leN_lo {y r : RawT} {nm : ByteArray} (hy : y.name.toList = nm.toList) (h : Op.bytesLess r.name.toList nm.toList = true) : leN y.name r.name = false ∧ (r.name.toList == y.name.toList) = false := by
  have h1 : (r.name.toList == nm.toList) = false := by
    cases hc : (r.name.toList == nm.toList) with
    | false => rfl
    | true => rw [beq_iff_eq.1 hc, blt_irrefl] at h; cases h
  have h2 : Op.bytesLess nm.toList r.name.toList = false := by
    cases hc : Op.bytesLess nm.toList r.name.toList with
    | false => rfl
    | true => have := blt_trans h hc; rw [blt_irrefl] at this; cases this
  unfold leN
  rw [hy, h2, h1, BEq.comm, h1]
  exact ⟨rfl, rfl⟩
theorem leN_hi {y r : RawT} {nm : ByteArray} (hy : y.name.toList = nm.toList) (h : Op.bytesLess r.name.toList nm.toList = false) : leN y.name r.name = true := by
  unfold leN
  rw [hy]
  cases hc : (nm.toList == r.name.toList) with
  | true => simp
  | false => rw [blt_or h (by rw [BEq.comm]; exact hc)]; rfl
theorem wi_lo {y : RawT} {nm : ByteArray} (hy : y.name.toList = nm.toList) : ∀ (l a : List RawT), (∀ r ∈ l, Op.bytesLess r.name.toList nm.toList = true) → l.foldl (wiS y) (a, false) = (a ++ l, false)
  | [], a, _ => by simp
  | r :: l, a, h => by
    obtain ⟨h1, h2⟩ := leN_lo hy (h r (List.mem_cons_self ..))
    have e : wiS y (a, false) r = (a ++ [r], false) := by simp [wiS, h1, h2]
    rw [List.foldl_cons, e, wi_lo hy l _ fun q hq => h q (List.mem_cons_of_mem _ hq), List.append_assoc]
    rfl
theorem wi_hi {y : RawT} {nm : ByteArray} (hy : y.name.toList = nm.toList) : ∀ (l a : List RawT), (∀ r ∈ l, (r.name.toList == nm.toList) = false) → l.foldl (wiS y) (a, true) = (a ++ l, true)
  | [], a, _ => by simp
  | r :: l, a, h => by
    have h2 := h r (List.mem_cons_self ..)
    rw [← hy] at h2
    have e : wiS y (a, true) r = (a ++ [r], true) := by simp [wiS, h2]
    rw [List.foldl_cons, e, wi_hi hy l _ fun q hq => h q (List.mem_cons_of_mem _ hq), List.append_assoc]
    rfl
theorem take_lo {rows : List RawT} {nm : ByteArray} {i : Nat} (h : PosAt rows nm i) : ∀ r ∈ rows.take i, Op.bytesLess r.name.toList nm.toList = true := fun r hr => by
  obtain ⟨k, hk, e⟩ := List.mem_iff_getElem.1 hr
  rw [List.length_take] at hk
  rw [List.getElem_take] at e
  exact h.lo k r (by omega) (by rw [List.getElem?_eq_getElem (by omega), e])
theorem drop_hi {rows : List RawT} {nm : ByteArray} {i j : Nat} (hs : SortedN rows) (h : PosAt rows nm i) (hj : i < j) : ∀ r ∈ rows.drop j, (r.name.toList == nm.toList) = false := fun r hr => by
  obtain ⟨k, hk, e⟩ := List.mem_iff_getElem.1 hr
  rw [List.length_drop] at hk
  rw [List.getElem_drop] at e
  have h2 : rows[j + k]? = some r := by rw [List.getElem?_eq_getElem (by omega), e]
  cases hc : (r.name.toList == nm.toList) with
  | false => rfl
  | true =>
    have h3 := hs i (j + k) _ r (by omega) (List.getElem?_eq_getElem (by omega)) h2
    have h4 := h.hi i _ (Nat.le_refl _) (List.getElem?_eq_getElem (by omega))
    rw [beq_iff_eq.1 hc, h4] at h3
    cases h3
theorem wi_take {rows : List RawT} {y : RawT} {nm : ByteArray} {i : Nat} (h : PosAt rows nm i) (hy : y.name.toList = nm.toList) : wiL y rows = (rows.drop i).foldl (wiS y) (rows.take i, false) := by
  have e : wiL y rows = (rows.take i ++ rows.drop i).foldl (wiS y) ([], false) := by rw [List.take_append_drop]; rfl
  rw [e, List.foldl_append, wi_lo hy _ _ (take_lo h), List.nil_append]
/-- In the place of its name. -/
theorem withL_set {rows : List RawT} {y : RawT} {nm : ByteArray} {i : Nat} (hs : SortedN rows) (h : PosAt rows nm i) (hf : foundB rows nm i = true) (hy : y.name.toList = nm.toList) : withL y rows = rows.set i y := by
  unfold foundB at hf
  cases hr : rows[i]? with
  | none => rw [hr] at hf; cases hf
  | some r =>
    rw [hr] at hf
    have hl := (List.getElem?_eq_some_iff.1 hr).1
    have hd : rows.drop i = r :: rows.drop (i + 1) := by
      rw [List.drop_eq_getElem_cons hl, (List.getElem?_eq_some_iff.1 hr).2]
    have hf' : (r.name.toList == y.name.toList) = true := by rw [hy]; exact hf
    have e : wiS y (rows.take i, false) r = (rows.take i ++ [y], true) := by
      simp [wiS, hf', leN_hi hy (h.hi i r (Nat.le_refl _) hr)]
    have e2 : wiL y rows = (rows.take i ++ [y] ++ rows.drop (i + 1), true) := by
      rw [wi_take h hy, hd, List.foldl_cons, e, wi_hi hy _ _ (drop_hi hs h (Nat.lt_succ_self i))]
    unfold withL
    rw [e2]
    simp only [if_true]
    rw [List.set_eq_take_append_cons_drop, if_pos hl, List.append_assoc]
    rfl
/-- In the place where its name would be. -/
theorem withL_ins {rows : List RawT} {y : RawT} {nm : ByteArray} {i : Nat} (hs : SortedN rows) (h : PosAt rows nm i) (hf : foundB rows nm i = false) (hy : y.name.toList = nm.toList) : withL y rows = rows.take i ++ y :: rows.drop i := by
  unfold foundB at hf
  cases hr : rows[i]? with
  | none =>
    have hl := List.getElem?_eq_none_iff.1 hr
    have hd : rows.drop i = [] := List.drop_eq_nil_of_le hl
    have e2 : wiL y rows = (rows.take i, false) := by rw [wi_take h hy, hd]; rfl
    unfold withL
    rw [e2, hd]
    rfl
  | some r =>
    rw [hr] at hf
    have hl := (List.getElem?_eq_some_iff.1 hr).1
    have hd : rows.drop i = r :: rows.drop (i + 1) := by
      rw [List.drop_eq_getElem_cons hl, (List.getElem?_eq_some_iff.1 hr).2]
    have hf' : (r.name.toList == y.name.toList) = false := by rw [hy]; exact hf
    have e : wiS y (rows.take i, false) r = (rows.take i ++ [y] ++ [r], true) := by
      simp [wiS, hf', leN_hi hy (h.hi i r (Nat.le_refl _) hr)]
    have e2 : wiL y rows = (rows.take i ++ [y] ++ [r] ++ rows.drop (i + 1), true) := by
      rw [wi_take h hy, hd, List.foldl_cons, e, wi_hi hy _ _ (drop_hi hs h (Nat.lt_succ_self i))]
    unfold withL
    rw [e2, hd]
    simp
theorem woutL_is {rows : List RawT} {nm : ByteArray} {i : Nat} (hs : SortedN rows) (h : PosAt rows nm i) (hf : foundB rows nm i = true) : woutL nm rows = rows.eraseIdx i := by
  unfold foundB at hf
  cases hr : rows[i]? with
  | none => rw [hr] at hf; cases hf
  | some r =>
    rw [hr] at hf
    have hl := (List.getElem?_eq_some_iff.1 hr).1
    have hd : rows.drop i = r :: rows.drop (i + 1) := by
      rw [List.drop_eq_getElem_cons hl, (List.getElem?_eq_some_iff.1 hr).2]
    have e : woutL nm rows = woutL nm (rows.take i) ++ woutL nm (rows.drop i) := by
      unfold woutL
      rw [← List.filter_append, List.take_append_drop]
    have e1 : woutL nm (rows.take i) = rows.take i := by
      unfold woutL
      refine List.filter_eq_self.2 fun q hq => ?_
      have := take_lo h q hq
      cases hc : (q.name.toList == nm.toList) with
      | false => rfl
      | true => rw [beq_iff_eq.1 hc, blt_irrefl] at this; cases this
    have e2 : woutL nm (rows.drop (i + 1)) = rows.drop (i + 1) := by
      unfold woutL
      refine List.filter_eq_self.2 fun q hq => ?_
      rw [drop_hi hs h (Nat.lt_succ_self i) q hq]
      rfl
    have e3 : woutL nm (rows.drop i) = rows.drop (i + 1) := by
      rw [hd]
      have : woutL nm (r :: rows.drop (i + 1)) = woutL nm (rows.drop (i + 1)) := by
        have hf9 : (r.name.toList == nm.toList) = true := hf
        unfold woutL
        rw [List.filter_cons, hf9]
        rfl
      rw [this, e2]
    rw [e, e1, e3, List.eraseIdx_eq_take_drop_succ]
end Go.Proofs.YtdeghcgakkhbmaaGreat
namespace Go.Proofs.YtdeghcgakkhbmaaGreat
open Go.RowKit
theorem isM_name {rows : List RawT} {x : MutT} (h : isM rows x = true) : (atM rows x).name.toList = x.name.toList := by
  have hr := (isM_at h).1
  unfold isM foundB at h
  rw [hr] at h
  exact beq_iff_eq.1 h
theorem rdo_at (p : Option Addr) (cap : Nat) (rows : List RawT) (x : MutT) (w : World) (h : RawsIn w p rows) (hmx : rows.length ≤ 100) : Hid (∀ W, Below w.heap.size w W → Calls Tryz.prog 34 #[.agg #[.slice p rows.length cap], .string x.name] W fun e w' => e = .returned (.int .i64 (atR rows x.name)) ∧ Below W.heap.size W w') := Lib.hid (fun W hW => c_ref28At p cap rows x.name W (h.below hW) (by omega))
theorem atR_no {rows : List RawT} {x : MutT} (hs : SortedN rows) (hF : isM rows x = false) : atR rows x.name = -1 := pos_none hs (posN_at hs) hF
theorem atR_yes {rows : List RawT} {x : MutT} (hs : SortedN rows) (hF : isM rows x = true) : atR rows x.name = (posN rows x.name : Int) := pos_found hs (posN_at hs) hF
theorem rdo_with (p : Option Addr) (cap : Nat) (rows : List RawT) (w : World) (h : RawsIn w p rows) (hmx : rows.length ≤ 100) (y : RawT) (py : Option Addr) (cy : Nat) (R : List RawT) (hR : withL y rows = R) :
    Hid (∀ W, Below w.heap.size w W → PtsIn W py y.pts ∧ y.pts.length ≤ cy ∧ (py = none → cy = 0) → Calls Tryz.prog 54 #[.agg #[.slice p rows.length cap], .agg #[.string y.name, .int .i64 y.eps, .int .i64 y.floor, .int .i64 y.last, .int .i64 y.scale, .slice py y.pts.length cy]] W fun e w' => ∃ p' c', e = .returned (.agg #[.slice p' R.length c']) ∧ Below W.heap.size W w' ∧ RawsIn w' p' R) := Lib.hid (fun W hW hy => by
  have t := c_ref28With p cap rows y py cy W (h.below hW) hy hmx
  rw [hR] at t
  exact t)
theorem bad9 {w : World} {f : FuncId} {args : Array Value} {er : Int} (h : Calls Tryz.prog f args w fun e w' => e = .returned (.tuple #[.agg #[.slice none 0 0], .int .i64 er]) ∧ Below w.heap.size w w') :
    Calls Tryz.prog f args w fun e w' => ∃ p' c', e = .returned (.tuple #[.agg #[.slice p' (([], er) : List RawT × Int).1.length c'], .int .i64 (([], er) : List RawT × Int).2]) ∧ Below w.heap.size w w' ∧ RawsIn w' p' (([], er) : List RawT × Int).1 := h.mono fun e w' ⟨e1, hB⟩ => ⟨none, 0, e1, hB, .nil _⟩
theorem bad8 {w : World} {f : FuncId} {args : Array Value} {er : Int} (h : Calls Tryz.prog f args w fun e w' => e = .returned (.tuple #[.agg #[.slice none 0 0], .int .i64 er]) ∧ Below w.heap.size w w') :
    Calls Tryz.prog f args w fun e w' => ∃ p' c', e = .returned (.tuple #[.agg #[.slice p' ([] : List RawT).length c'], .int .i64 er]) ∧ Below w.heap.size w w' ∧ RawsIn w' p' [] := h.mono fun e w' ⟨e1, hB⟩ => ⟨none, 0, e1, hB, .nil _⟩
set_option maxRecDepth 100000 in
set_option maxHeartbeats 2000000 in
theorem rdo28_create (p : Option Addr) (cap : Nat) (rows : List RawT) (x : MutT) (px : Option Addr) (cx : Nat) (w : World) (h : RawsIn w p rows) (hfw : FewP rows) (hmx : rows.length ≤ 100) (hpx : PtsIn w px x.pts) (hnm : x.name.size ≤ 1000) (hs : SortedN rows) (hk : x.kind = 1) : Calls Tryz.prog 19 #[.agg #[.slice p rows.length cap], .agg #[.int .i64 1, .string x.name, .int .i64 x.eps, .int .i64 x.floor, .int .i64 x.scale, .slice px x.pts.length cx]] w fun e w' => ∃ p' c', e = .returned (.tuple #[.agg #[.slice p' (createM rows x).1.length c'], .int .i64 (createM rows x).2]) ∧ Below w.heap.size w w' ∧ RawsIn w' p' (createM rows x).1 := by
  have hpa := posN_at (nm := x.name) hs
  have c1 := rdo_at p cap rows x w h hmx
  obtain ⟨s1, e1, l1, sc1, hv, h0⟩ := newV_is x
  have c0 : Hid (∀ W, Calls Tryz.prog 102 #[.string x.name, .int .i64 x.eps, .int .i64 x.scale] W fun e w' => e = .returned (.tuple #[.agg #[.string s1, .int .i64 e1, .int .i64 0, .int .i64 l1, .int .i64 sc1, .slice none 0 0, .slice none 0 0], .int .i64 (newE x)]) ∧ Below W.heap.size W w') := Lib.hid (fun W => by
    have t := c_r24New x.name x.eps x.scale W hnm
    rw [hv] at t
    exact t)
  clear hv
  unfold createM
  by_cases hn : newE x ≠ 0
  · rw [if_pos hn]
    exact rdo_create p cap rows x px cx w [] (newE x) (Lib.hid fun W hW => by
      have t := rcreate_err p cap rows x px cx W s1 e1 l1 sc1 (newE x) (by simpa using hn) (Lib.hid fun W' hW' => c0.out W')
      rw [hk] at t
      exact bad8 t)
  rw [if_neg hn]
  have hn0 : newE x = 0 := Classical.not_not.1 hn
  by_cases hF : isM rows x = true
  · rw [if_pos hF]
    have hat : 0 ≤ atR rows x.name := by rw [atR_yes hs hF]; omega
    exact rdo_create p cap rows x px cx w [] 371 (Lib.hid fun W hW => by
      have t := rcreate_is p cap rows x px cx W s1 e1 l1 sc1 (newE x) (atR rows x.name) hn0 hat (Lib.hid fun W' hW' => c0.out W') (Lib.hid fun W' hW' => c1.out W' (hW.trans (hW'.mono hW.size)))
      rw [hk] at t
      exact bad8 t)
  rw [if_neg hF]
  rw [Bool.not_eq_true] at hF
  have hat : ¬0 ≤ atR rows x.name := by rw [atR_no hs hF]; decide
  by_cases h8 : rows.length = 8
  · rw [if_pos h8]
    exact rdo_create p cap rows x px cx w [] 344 (Lib.hid fun W hW => by
      have t := rcreate_many p cap rows x px cx W s1 e1 l1 sc1 (newE x) (atR rows x.name) hn0 hat (by rw [h8]; rfl) (Lib.hid fun W' hW' => c0.out W') (Lib.hid fun W' hW' => c1.out W' (hW.trans (hW'.mono hW.size)))
      rw [hk] at t
      exact bad8 t)
  · rw [if_neg h8]
    obtain ⟨rfl, rfl, rfl, rfl⟩ := h0 hn0
    have hR := withL_ins (y := ⟨x.name, x.eps, 0, -1, x.scale, []⟩) hs hpa hF rfl
    obtain ⟨R, hRR⟩ : ∃ R, rows.take (posN rows x.name) ++ (⟨x.name, x.eps, 0, -1, x.scale, []⟩ : RawT) :: rows.drop (posN rows x.name) = R := ⟨_, rfl⟩
    rw [hRR] at hR ⊢
    have c2 := rdo_with p cap rows w h hmx ⟨x.name, x.eps, 0, -1, x.scale, []⟩ none 0 R hR
    exact rdo_create p cap rows x px cx w R 0 (Lib.hid fun W hW => by
      have t := rcreate_ok p cap rows x px cx W x.name x.eps (-1) x.scale (newE x) (atR rows x.name) R hn0 hat (by simp; omega) (Lib.hid fun W' hW' => c0.out W') (Lib.hid fun W' hW' => c1.out W' (hW.trans (hW'.mono hW.size))) (Lib.hid fun W' hW' => c2.out W' (hW.trans (hW'.mono hW.size)) ⟨.nil9 _, Nat.le_refl _, fun _ => rfl⟩)
      rw [hk] at t
      exact t)
theorem rdo28_drop (p : Option Addr) (cap : Nat) (rows : List RawT) (x : MutT) (px : Option Addr) (cx : Nat) (w : World) (h : RawsIn w p rows) (hfw : FewP rows) (hmx : rows.length ≤ 100) (hpx : PtsIn w px x.pts) (hnm : x.name.size ≤ 1000) (hs : SortedN rows) : Calls Tryz.prog 19 #[.agg #[.slice p rows.length cap], .agg #[.int .i64 2, .string x.name, .int .i64 x.eps, .int .i64 x.floor, .int .i64 x.scale, .slice px x.pts.length cx]] w fun e w' => ∃ p' c', e = .returned (.tuple #[.agg #[.slice p' (dropM rows x).1.length c'], .int .i64 (dropM rows x).2]) ∧ Below w.heap.size w w' ∧ RawsIn w' p' (dropM rows x).1 := by
  have hpa := posN_at (nm := x.name) hs
  have c1 := rdo_at p cap rows x w h hmx
  unfold dropM
  by_cases hF : isM rows x = true
  · rw [if_pos hF]
    obtain ⟨hr, hlt⟩ := isM_at hF
    obtain ⟨b0, o0, p0, c0, rfl, hrow, hpt0, hcap0, hnil0⟩ := h.at' _ _ hr
    rw [atR_yes hs hF] at c1
    have hR := woutL_is hs hpa hF
    exact rdo_drop b0 o0 cap rows x px cx w (posN rows x.name) (atM rows x) p0 c0 (Lib.hid hrow) hlt hmx (rows.eraseIdx (posN rows x.name)) c1 (Lib.hid fun W hW => by
      have t := c_ref28Without (some ⟨b0, o0, none⟩) cap rows x.name W (h.below hW) hmx
      rw [hR] at t
      exact t)
  · rw [if_neg hF]
    rw [Bool.not_eq_true] at hF
    exact bad9 (rdo_none2 p cap rows x px cx w (atR rows x.name) (by rw [atR_no hs hF]; decide) c1)
theorem rdo28_points (p : Option Addr) (cap : Nat) (rows : List RawT) (x : MutT) (px : Option Addr) (cx : Nat) (w : World) (h : RawsIn w p rows) (hfw : FewP rows) (hmx : rows.length ≤ 100) (hpx : PtsIn w px x.pts) (hnm : x.name.size ≤ 1000) (hs : SortedN rows) : Calls Tryz.prog 19 #[.agg #[.slice p rows.length cap], .agg #[.int .i64 3, .string x.name, .int .i64 x.eps, .int .i64 x.floor, .int .i64 x.scale, .slice px x.pts.length cx]] w fun e w' => ∃ p' c', e = .returned (.tuple #[.agg #[.slice p' (pointsM rows x).1.length c'], .int .i64 (pointsM rows x).2]) ∧ Below w.heap.size w w' ∧ RawsIn w' p' (pointsM rows x).1 := by
  have hpa := posN_at (nm := x.name) hs
  have c1 := rdo_at p cap rows x w h hmx
  unfold pointsM
  by_cases hL : x.pts.length = 0 ∨ 16 < x.pts.length
  · rw [if_pos hL]
    exact bad9 (rdo_len p cap rows x px cx w (Lib.hid hL))
  rw [if_neg hL]
  by_cases hF : isM rows x = false
  · rw [if_pos hF]
    exact bad9 (rdo_none3 p cap rows x px cx w (atR rows x.name) (by rw [atR_no hs hF]; decide) (by omega) (by omega) c1)
  rw [if_neg hF]
  rw [Bool.not_eq_false] at hF
  obtain ⟨hr, hlt⟩ := isM_at hF
  obtain ⟨b0, o0, p0, c0, rfl, hrow, hpt0, hcap0, hnil0⟩ := h.at' _ _ hr
  rw [atR_yes hs hF] at c1
  have hfl := hfw _ _ hr
  obtain ⟨ad, rfl⟩ : ∃ ad, px = some ad := by
    obtain ⟨b9, o9, e9, -⟩ := hpx.at' 0 _ (List.getElem?_eq_getElem (show 0 < x.pts.length by omega))
    exact ⟨_, e9⟩
  obtain ⟨ER, hER⟩ : ∃ e, refE (atM rows x) x.pts = e := ⟨_, rfl⟩
  rw [hER]
  have c2 : Hid (∀ W, Below w.heap.size w W → Calls Tryz.prog 53 #[.slice (some ad) x.pts.length cx, .int .i64 (atM rows x).last, .int .i64 (atM rows x).floor, .int .i64 ((atM rows x).pts.length : Int)] W fun e w' => e = .returned (.int .i64 ER) ∧ Below W.heap.size W w') := Lib.hid fun W hW => by
    have t := c_r24Refused (some ad) cx x.pts (atM rows x).last (atM rows x).floor (atM rows x).pts.length W (hpx.below hW) (by omega) (by omega) hfl
    have e : refL (atM rows x).floor (decide ((atM rows x).pts.length + x.pts.length > 1024)) (atM rows x).last x.pts = ER := hER
    rw [e] at t
    exact t
  by_cases hE : ER ≠ 0
  · rw [if_pos hE]
    exact bad9 (rdo_ref b0 o0 cap rows x (some ad) cx w (posN rows x.name) (atM rows x) p0 c0 (Lib.hid hrow) hlt hmx ER (by simpa using hE) (by omega) (by omega) c1 c2)
  · rw [if_neg hE]
    rw [Classical.not_not.1 hE] at c2
    obtain ⟨y9, hy9⟩ := lastP_at (a := []) (l := x.pts) (by omega)
    rw [List.nil_append] at hy9
    have hR := withL_set (y := ⟨(atM rows x).name, (atM rows x).eps, (atM rows x).floor, lastP x.pts, (atM rows x).scale, (atM rows x).pts ++ x.pts⟩) hs hpa hF (isM_name hF)
    obtain ⟨R, hRR⟩ : ∃ R, rows.set (posN rows x.name) (⟨(atM rows x).name, (atM rows x).eps, (atM rows x).floor, lastP x.pts, (atM rows x).scale, (atM rows x).pts ++ x.pts⟩ : RawT) = R := ⟨_, rfl⟩
    rw [hRR] at hR ⊢
    have hn0 : p0 = none → (atM rows x).pts.length = 0 ∧ c0 = 0 := fun e => by
      have h1 := hnil0 e
      exact ⟨by omega, h1⟩
    have cW := rdo_with (some ⟨b0, o0, none⟩) cap rows w h hmx ⟨(atM rows x).name, (atM rows x).eps, (atM rows x).floor, lastP x.pts, (atM rows x).scale, (atM rows x).pts ++ x.pts⟩
    exact rdo_points b0 o0 cap rows x ad cx w (posN rows x.name) (atM rows x) p0 c0 (Lib.hid hrow) hlt hmx R (lastP x.pts) y9 (Lib.hid hpx) (Lib.hid hpt0) hn0 hfl (by omega) (by omega) (Lib.hid hy9) c1 c2 (Lib.hid fun W py cy hW ha hb' hc => (cW py cy R hR).out W hW ⟨ha, hb', hc⟩)
theorem rdo28_retain (p : Option Addr) (cap : Nat) (rows : List RawT) (x : MutT) (px : Option Addr) (cx : Nat) (w : World) (h : RawsIn w p rows) (hfw : FewP rows) (hmx : rows.length ≤ 100) (hpx : PtsIn w px x.pts) (hnm : x.name.size ≤ 1000) (hs : SortedN rows) : Calls Tryz.prog 19 #[.agg #[.slice p rows.length cap], .agg #[.int .i64 4, .string x.name, .int .i64 x.eps, .int .i64 x.floor, .int .i64 x.scale, .slice px x.pts.length cx]] w fun e w' => ∃ p' c', e = .returned (.tuple #[.agg #[.slice p' (retainM rows x).1.length c'], .int .i64 (retainM rows x).2]) ∧ Below w.heap.size w w' ∧ RawsIn w' p' (retainM rows x).1 := by
  have hpa := posN_at (nm := x.name) hs
  have c1 := rdo_at p cap rows x w h hmx
  unfold retainM
  by_cases hF : isM rows x = false
  · rw [if_pos hF]
    exact bad9 (rdo_none4 p cap rows x px cx w (atR rows x.name) (by rw [atR_no hs hF]; decide) c1)
  rw [if_neg hF]
  rw [Bool.not_eq_false] at hF
  obtain ⟨hr, hlt⟩ := isM_at hF
  obtain ⟨b0, o0, p0, c0, rfl, hrow, hpt0, hcap0, hnil0⟩ := h.at' _ _ hr
  rw [atR_yes hs hF] at c1
  have hfl := hfw _ _ hr
  obtain ⟨BT, hBT⟩ : ∃ b, btw x.floor 0 281474976710656 = b := ⟨_, rfl⟩
  rw [hBT]
  have c2 : Hid (∀ W, Calls Tryz.prog 55 #[.int .i64 x.floor] W fun e w' => e = .returned (.bool BT) ∧ Below W.heap.size W w') := Lib.hid fun W => by
    have t := c_r18Time x.floor W
    rw [hBT] at t
    exact t
  by_cases hT : BT = false
  · rw [if_pos hT]
    rw [hT] at c2
    exact bad9 (rdo_bad b0 o0 cap rows x px cx w (posN rows x.name) (atM rows x) p0 c0 (Lib.hid hrow) hlt hmx c1 c2)
  rw [if_neg hT]
  rw [Bool.not_eq_false] at hT
  rw [hT] at c2
  by_cases hlb : x.floor < (atM rows x).floor
  · rw [if_pos hlb]
    exact bad9 (rdo_below b0 o0 cap rows x px cx w (posN rows x.name) (atM rows x) p0 c0 (Lib.hid hrow) hlt hmx hlb c1 c2)
  · rw [if_neg hlb]
    have hR := withL_set (y := ⟨(atM rows x).name, (atM rows x).eps, x.floor, (atM rows x).last, (atM rows x).scale, keepL x.floor (atM rows x).pts⟩) hs hpa hF (isM_name hF)
    obtain ⟨R, hRR⟩ : ∃ R, rows.set (posN rows x.name) (⟨(atM rows x).name, (atM rows x).eps, x.floor, (atM rows x).last, (atM rows x).scale, keepL x.floor (atM rows x).pts⟩ : RawT) = R := ⟨_, rfl⟩
    rw [hRR] at hR ⊢
    have cW := rdo_with (some ⟨b0, o0, none⟩) cap rows w h hmx ⟨(atM rows x).name, (atM rows x).eps, x.floor, (atM rows x).last, (atM rows x).scale, keepL x.floor (atM rows x).pts⟩
    exact rdo_retain b0 o0 cap rows x px cx w (posN rows x.name) (atM rows x) p0 c0 (Lib.hid hrow) hlt hmx R (Lib.hid hpt0) hfl hlb c1 c2 (Lib.hid fun W py cy hW ha hb' hc => (cW py cy R hR).out W hW ⟨ha, hb', hc⟩)
theorem c_ref28Do (p : Option Addr) (cap : Nat) (rows : List RawT) (x : MutT) (px : Option Addr) (cx : Nat) (w : World) (h : RawsIn w p rows) (hfw : FewP rows) (hmx : rows.length ≤ 100) (hpx : PtsIn w px x.pts) (hnm : x.name.size ≤ 1000) (hb : modelB rows = true) :
    Calls Tryz.prog 19 #[.agg #[.slice p rows.length cap], .agg #[.int .i64 x.kind, .string x.name, .int .i64 x.eps, .int .i64 x.floor, .int .i64 x.scale, .slice px x.pts.length cx]] w fun e w' => ∃ p' c', e = .returned (.tuple #[.agg #[.slice p' (doM rows x).1.length c'], .int .i64 (doM rows x).2]) ∧ Below w.heap.size w w' ∧ RawsIn w' p' (doM rows x).1 := by
  have hs : SortedN rows := okN_sorted (by unfold modelB at hb; exact (Bool.and_eq_true _ _ ▸ hb).1)
  by_cases hk0 : x.kind < 1
  · rw [show doM rows x = ([], 2) by unfold doM; rw [if_neg (by omega), if_neg (by omega), if_neg (by omega), if_neg (by omega)]]
    exact bad9 (rdo_low p cap rows x px cx w hk0)
  by_cases hk9 : 4 < x.kind
  · rw [show doM rows x = ([], 2) by unfold doM; rw [if_neg (by omega), if_neg (by omega), if_neg (by omega), if_neg (by omega)]]
    exact bad9 (rdo_high p cap rows x px cx w hk0 hk9)
  by_cases h1 : x.kind = 1
  · rw [show doM rows x = createM rows x by unfold doM; rw [if_pos h1], h1]
    exact rdo28_create p cap rows x px cx w h hfw hmx hpx hnm hs h1
  by_cases h2 : x.kind = 2
  · rw [show doM rows x = dropM rows x by unfold doM; rw [if_neg h1, if_pos h2], h2]
    exact rdo28_drop p cap rows x px cx w h hfw hmx hpx hnm hs
  by_cases h3 : x.kind = 3
  · rw [show doM rows x = pointsM rows x by unfold doM; rw [if_neg h1, if_neg h2, if_pos h3], h3]
    exact rdo28_points p cap rows x px cx w h hfw hmx hpx hnm hs
  · have h4 : x.kind = 4 := by omega
    rw [show doM rows x = retainM rows x by unfold doM; rw [if_neg h1, if_neg h2, if_neg h3, if_pos h4], h4]
    exact rdo28_retain p cap rows x px cx w h hfw hmx hpx hnm hs
end Go.Proofs.YtdeghcgakkhbmaaGreat
namespace Go.Proofs.YtdeghcgakkhbmaaGreat
open Go.RowKit
end Go.Proofs.YtdeghcgakkhbmaaGreat
namespace Go.Proofs.YtdeghcgakkhbmaaGreat
open Go.RowKit
def mtRel (w : World) (px py : Option Addr) (nx cx ny cy : Nat) (nm9 : ByteArray) (A B : List RawT) (RB : Bool) (CV : Int) (pa pb : Option Addr) (ca cb o7 o8 : Nat) (a' : Act) (W : World) : Prop :=
  Below w.heap.size w W ∧ Blk W w.heap.size #[.slice px nx cx] 27 ∧ Blk W (w.heap.size + 1) #[.slice py ny cy] 27 ∧ Blk W o7 #[.slice pa A.length ca] 27 ∧ Blk W o8 #[.slice pb B.length cb] 27 ∧ OwnM 0 A (.agg #[.slice pa A.length ca]) W ∧ OwnM 0 B (.agg #[.slice pb B.length cb]) W ∧ ∃ i : Nat, (∃ u : Nat → Value, a' = { tmps := #[u 0, u 1, .string nm9, .pointer (some ⟨w.heap.size, 0, none⟩), .pointer (some ⟨(w.heap.size + 1), 0, none⟩), u 5, .bool false, .pointer (some ⟨o7, 0, none⟩), .pointer (some ⟨o8, 0, none⟩), .bool RB, .int .i64 CV, u 11, u 12, u 13, u 14, u 15, u 16, u 17, u 18, u 19, u 20, u 21, u 22, u 23, u 24, u 25, u 26, u 27, u 28, u 29, u 30, u 31, u 32, u 33, u 34, u 35, u 36, u 37, u 38, u 39, u 40, u 41, u 42, u 43, u 44, u 45, u 46, u 47, u 48, u 49, u 50, u 51, u 52, u 53, u 54, u 55, u 56, u 57, u 58, u 59, u 60, .slice pa A.length ca, .int .i64 (A.length : Int), .int .i64 (i : Int), u 64, u 65, u 66, u 67, u 68, u 69, u 70, u 71, u 72, u 73, u 74, u 75, u 76, u 77, u 78, u 79, u 80, u 81, u 82, u 83, u 84, u 85, u 86, u 87, u 88, u 89, u 90, u 91, u 92, u 93, u 94, u 95, u 96, u 97, u 98, u 99, u 100, u 101, u 102, u 103, u 104, u 105, u 106, u 107, u 108, u 109, u 110, u 111, u 112, u 113, u 114, u 115, u 116, u 117, u 118, u 119, u 120, u 121, u 122, u 123, u 124, u 125, u 126, u 127, u 128], defers := [] }) ∧ i ≤ A.length
end Go.Proofs.YtdeghcgakkhbmaaGreat
namespace Go.Proofs.YtdeghcgakkhbmaaGreat
open Go.RowKit
theorem fewP_own (X : List RawT) : FewP ((X.take 9).map rawOf) := fun i r hr => by
  rw [List.getElem?_map] at hr
  obtain ⟨x, -, rfl⟩ := Option.map_eq_some_iff.1 hr
  have := rawOf_len x
  omega
theorem fewN_own (X : List RawT) : FewN ((X.take 9).map rawOf) := fun i r hr => by
  rw [List.getElem?_map] at hr
  obtain ⟨x, -, rfl⟩ := Option.map_eq_some_iff.1 hr
  have := rawOf_name x
  omega
theorem own_len (X : List RawT) : ((X.take 9).map rawOf).length ≤ 100 := by
  rw [List.length_map, List.length_take]
  omega
theorem OwnM.got {B : Nat} {rows : List RawT} {p : Option Addr} {c : Nat} {w : World} (h : OwnM B rows (.agg #[.slice p rows.length c]) w) : RawsIn w p rows ∧ (p = none → c = 0) := by
  obtain ⟨p9, c9, e9, h1, h2⟩ := h.form
  simp only [Value.agg.injEq, Array.mk.injEq, List.cons.injEq, Value.slice.injEq, and_true, true_and] at e9
  obtain ⟨rfl, rfl⟩ := e9
  exact ⟨h1, h2⟩
end Go.Proofs.YtdeghcgakkhbmaaGreat
namespace Go.Proofs.YtdeghcgakkhbmaaGreat
open Go.RowKit
/-- The exact answer so far, and one value more. -/
def gS (x : Int × (Int × Int) × Int) (v : Int) : Int × (Int × Int) × Int := (x.1 + 1, if x.1 = 0 then (mn v v, mx v v) else (mn x.2.1.1 v, mx x.2.1.2 v), x.2.2 + v)
def exA (x : Int × (Int × Int) × Int) : Array Value := #[.int .i64 x.1, .int .i64 x.2.1.1, .int .i64 x.2.1.2, .int .i64 (hiW x.2.2), .int .u64 (loW x.2.2)]
end Go.Proofs.YtdeghcgakkhbmaaGreat
namespace Go.Proofs.YtdeghcgakkhbmaaGreat
open Go.RowKit Go.Shelf
attribute [local go_sem] Oper.semAt_some
/-- The points of some times, as they are told: till the first one that is behind them. -/
def goesG (a b : Int) (p : Int × Int) : Bool := decide (p.1 < a) || decide (p.1 ≤ b)
def tellG (a b : Int) (l : List (Int × Int)) : List (Int × Int) := (l.takeWhile (goesG a b)).filter (fun p => decide (a ≤ p.1))
def soG (a b : Int) (l : List (Int × Int)) (k : Nat) (pre : List (Int × Int)) : Prop := pre = (l.take k).filter (fun p => decide (a ≤ p.1)) ∧ ∀ p, p ∈ l.take k → goesG a b p = true
/-- What a round must keep for the points' sake. -/
structure KeepsR (r : RawT) (p : Option Addr) (cap : Nat) (a b : Int) (Br Ba Bb : Nat) (A B : World) : Prop where
  size : A.heap.size ≤ B.heap.size
  pts : PtsIn A p r.pts → PtsIn B p r.pts
  raw : Blk A Br (rawA r p cap) 35 → Blk B Br (rawA r p cap) 35
  lo : Blk A Ba #[.int .i64 a] 2 → Blk B Ba #[.int .i64 a] 2
  hi : Blk A Bb #[.int .i64 b] 2 → Blk B Bb #[.int .i64 b] 2
end Go.Proofs.YtdeghcgakkhbmaaGreat
namespace Go.Proofs.YtdeghcgakkhbmaaGreat
open Go.RowKit Go.Shelf
attribute [local go_sem] Oper.semAt_some
theorem PtsIn.keep {w A B : World} {p : Option Addr} {l : List (Int × Int)} (h : PtsIn w p l) (hb : Below w.heap.size A B) (ha : PtsIn A p l) : PtsIn B p l := ⟨fun i r hr => by
  obtain ⟨b, o, e, k0, k1⟩ := ha.at' i r hr
  obtain ⟨b', o', e', q0, _⟩ := h.at' i r hr
  rw [e] at e'
  injection e' with e'
  injection e' with e1 e2
  subst e1
  have hlt := cell_lt q0
  exact ⟨b, o, e, (hb.cell (p := ⟨b, _, none⟩) hlt).trans k0, (hb.cell (p := ⟨b, _, none⟩) hlt).trans k1⟩⟩
/-- What the points of a row come to. -/
def toldsL (l : List (Int × Int)) : Int × (Int × Int) × Int := (l.map (·.2)).foldl gS (0, (0, 0), 0)
def ToldOut (r : RawT) (a b : Int) (w : World) (e : Ending) (w' : World) : Prop := e = .returned (.agg (exA (toldsL (tellG a b r.pts)))) ∧ Below w.heap.size w w'
end Go.Proofs.YtdeghcgakkhbmaaGreat
namespace Go.Proofs.YtdeghcgakkhbmaaGreat
open Go.RowKit
end Go.Proofs.YtdeghcgakkhbmaaGreat
namespace Go.Proofs.YtdeghcgakkhbmaaGreat
open Go.RowKit
/-- How wide a span is; 0: it is none. -/
def spW (x y : Int) : Int := if x ≤ y then y - x else 0
def liesB (x y v wd : Int) : Bool := (decide (x ≤ v) && decide (v ≤ y)) && decide (spW x y ≤ wd)
end Go.Proofs.YtdeghcgakkhbmaaGreat
namespace Go.Proofs.YtdeghcgakkhbmaaGreat
open Go.RowKit
end Go.Proofs.YtdeghcgakkhbmaaGreat
namespace Go.Proofs.YtdeghcgakkhbmaaGreat
open Go.RowKit
/-- Does a mean hold, of so many numbers that come to s? -/
def meanB (n s mc lw lr hw hr eps : Int) : Bool :=
  (decide (0 ≤ lr) && decide (lr < n)) && (decide (0 ≤ hr) && decide (hr < n)) && ((0 : Int) == 0) && (mc == n) && decide (cmpI (lw * n + lr) s ≤ 0) && decide (cmpI s (hw * n + hr) ≤ 0) && decide (cmpI (hw * n + hr - (lw * n + lr)) (2 * eps * n) ≤ 0)
end Go.Proofs.YtdeghcgakkhbmaaGreat
