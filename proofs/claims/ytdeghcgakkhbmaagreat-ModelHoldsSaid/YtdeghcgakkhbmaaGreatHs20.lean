/- Parts of the proof that follows: The document's models: whether an answer holds, walked. | The document's models: whether what is told of a time holds. | The document's models: whether a scan holds. | The document's segments: Right, Points told. | References 13, 14, 18, 24: what a name, a bound, a scale, a time, a point may be; a segment's last time; which segment begins behind another. No condition but that the segments may be. -/
import Derived.Test.YtdeghcgakkhbmaaGreatHs19
set_option linter.unusedSimpArgs false
set_option linter.unusedVariables false
namespace Go.Proofs.YtdeghcgakkhbmaaGreat
open Go.RowKit
/-- The lesser, the greater of two. -/
def pickK (k v y : Int) : Int := if k = 2 then (if y < v then y else v) else (if v < y then y else v)
def rhRel (w : World) (r : RawT) (p : Option Addr) (cap : Nat) (er cn lo up mc lw lr hw hr : Int) (L : List (Int × Int)) (q : Option Addr) (c : Nat) (y0 k : Int) (a' : Act) (W : World) : Prop :=
  Below w.heap.size w W ∧ Blk W w.heap.size #[.string r.name, .int .i64 r.eps, .int .i64 r.floor, .int .i64 r.last, .int .i64 r.scale, .slice p r.pts.length cap] 35 ∧ Blk W (w.heap.size + 1) #[.int .i64 er, .int .i64 cn, .int .i64 lo, .int .i64 up, .int .i64 mc, .int .i64 lw, .int .i64 lr, .int .i64 hw, .int .i64 hr] 44 ∧ PtsIn W q L ∧ ∃ (i : Nat) (v : Int), (∃ u : Nat → Value, a' = { tmps := #[u 0, .int .i64 k, u 2, u 3, u 4, .pointer (some ⟨w.heap.size, 0, none⟩), u 6, u 7, u 8, .pointer (some ⟨w.heap.size + 1, 0, none⟩), .bool false, .slice q L.length c, .int .i64 v, u 13, u 14, u 15, u 16, u 17, u 18, u 19, u 20, u 21, u 22, u 23, u 24, u 25, u 26, u 27, u 28, u 29, u 30, u 31, u 32, u 33, u 34, u 35, u 36, u 37, u 38, u 39, u 40, u 41, u 42, u 43, u 44, u 45, u 46, u 47, u 48, u 49, u 50, u 51, u 52, u 53, u 54, u 55, u 56, u 57, .slice q L.length c, .int .i64 (L.length : Int), .int .i64 (i : Int), u 61, u 62, u 63, u 64, u 65, u 66, u 67, u 68, u 69, u 70, u 71, u 72, u 73, u 74, u 75, u 76, u 77, u 78, u 79, u 80, u 81, u 82, u 83, u 84, u 85, u 86, u 87, u 88, u 89, u 90, u 91, u 92, u 93, u 94, u 95, u 96, u 97, u 98, u 99], defers := [] }) ∧ v = ((L.take i).map (·.2)).foldl (pickK k) y0 ∧ i ≤ L.length
set_option maxRecDepth 100000 in
set_option maxHeartbeats 2000000 in
theorem refHolds_count (r : RawT) (p : Option Addr) (cap : Nat) (a b : Int) (L : List (Int × Int)) (er cn lo up mc lw lr hw hr : Int) (B : Bool) (w : World) (hp : PtsIn w p r.pts) (hl : L.length ≤ 2000)
    (cS : ∀ W, PtsIn W p r.pts → Calls Tryz.prog 60 #[.agg #[.string r.name, .int .i64 r.eps, .int .i64 r.floor, .int .i64 r.last, .int .i64 r.scale, .slice p r.pts.length cap], .int .i64 a, .int .i64 b] W fun e w' => ∃ q c, e = .returned (.slice q L.length c) ∧ PtsIn w' q L ∧ Below W.heap.size W w') :
    Calls Tryz.prog 23 #[.agg #[.string r.name, .int .i64 r.eps, .int .i64 r.floor, .int .i64 r.last, .int .i64 r.scale, .slice p r.pts.length cap], .int .i64 1, .int .i64 a, .int .i64 b, .agg #[.int .i64 er, .int .i64 cn, .int .i64 lo, .int .i64 up, .int .i64 mc, .int .i64 lw, .int .i64 lr, .int .i64 hw, .int .i64 hr]] w fun e w' => e = .returned (.bool ((er == 0) && ((cn == (L.length : Int)) && ((lo == 0) && ((up == 0) && ((mc == 0) && ((lw == 0) && ((lr == 0) && ((hw == 0) && ((hr == 0))))))))))) ∧ Below w.heap.size w w' := by
  go_enter Tryz.func23, Tryz.ntmps23
  replace cS := Lib.hid cS
  go_upto_region 1 with (fail)
  refine wp_cutB w (Bc w.heap.size #[.string r.name, .int .i64 r.eps, .int .i64 r.floor, .int .i64 r.last, .int .i64 r.scale, .slice p r.pts.length cap] 35 <| Bc (w.heap.size + 1) #[.int .i64 er, .int .i64 cn, .int .i64 lo, .int .i64 up, .int .i64 mc, .int .i64 lw, .int .i64 lr, .int .i64 hw, .int .i64 hr] 44 <| Bz) ?_
  rintro W1 hW z2 ⟨⟨b1, yb1, k1, f1⟩, ⟨b2, yb2, k2, f2⟩, -⟩
  go_wp2_with fail
  refine (cS.out _ (PtsIn.below hp (by exact belowAny))).mono ?_
  rintro e w3 ⟨q, c, rfl, hq1, hb3⟩
  have z4 := hb3.size
  try simp at z4
  clear k1 f1 k2 f2
  refine haveB w w3 (Bc w.heap.size #[.string r.name, .int .i64 r.eps, .int .i64 r.floor, .int .i64 r.last, .int .i64 r.scale, .slice p r.pts.length cap] 35 <| Bc (w.heap.size + 1) #[.int .i64 er, .int .i64 cn, .int .i64 lo, .int .i64 up, .int .i64 mc, .int .i64 lw, .int .i64 lr, .int .i64 hw, .int .i64 hr] 44 <| Bz) ?_
  clear b1 b2 hW
  rintro hW z5 ⟨⟨b1, yb1, k1, f1⟩, ⟨b2, yb2, k2, f2⟩, -⟩
  have b3 := hq1
  clear hq1
  go_upto_region 3 with (fail)
  clear k1 f1 k2 f2
  refine wp_cutB w (Bc w.heap.size #[.string r.name, .int .i64 r.eps, .int .i64 r.floor, .int .i64 r.last, .int .i64 r.scale, .slice p r.pts.length cap] 35 <| Bc (w.heap.size + 1) #[.int .i64 er, .int .i64 cn, .int .i64 lo, .int .i64 up, .int .i64 mc, .int .i64 lw, .int .i64 lr, .int .i64 hw, .int .i64 hr] 44 <| Rc (fun W' => PtsIn W' q L) <| Bz) ?_ (hI := by exact belowAny) (hR := (Bc.mk (by exact blkAny2) <| Bc.mk (by exact blkAny2) <| Rc.mk (by first | exact b3 | exact PtsIn.below (PtsIn.below b3 (by exact belowAny)) hW | exact PtsIn.below b3 (by exact belowAny)) <| trivial))
  clear b1 b2 b3 hW
  rintro W6 hW z7 hL
  obtain ⟨⟨b1, yb1, k1, f1⟩, ⟨b2, yb2, k2, f2⟩, b3, -⟩ := id hL
  clear k1 f1 k2 f2
  refine wp_regS 6 100 hW hL ?_
  iterate 4 refine dA ?_
  apply nd_det (.bool ((er == 0) && ((cn == L.length) && ((lo == 0) && ((up == 0) && ((mc == 0) && ((lw == 0) && ((lr == 0) && ((hw == 0) && ((hr == 0))))))))))) (hg := rfl) (hal := rfl)
  · intro a' W' hC hE
    simp [Oper.looksAt, Op.operands, Call.operands, envOf, Det] at hE
    simp [go_sem, Act.eval, hE]
    repeat' split
    all_goals simp_all
  refine dA ?_
  clear hW hL b1 b2 b3
  rintro W8 hW z9 hL
  simp only [ndR]
  intros
  simp only [ndS]
  refine wpList_nil ?_
  obtain ⟨⟨b1, yb1, k1, f1⟩, ⟨b2, yb2, k2, f2⟩, b3, -⟩ := hL
  go_wp2
  refine bodyPost_ret (by simp [results, Tryz.results23, go_sem, k1, f1, k2, f2, yb1, yb2]) rfl ⟨rfl, by exact belowAny⟩
set_option maxRecDepth 100000 in
set_option maxHeartbeats 2000000 in
theorem refHolds_empty (r : RawT) (p : Option Addr) (cap : Nat) (a b : Int) (L : List (Int × Int)) (er cn lo up mc lw lr hw hr : Int) (B : Bool) (w : World) (hp : PtsIn w p r.pts) (hl : L.length ≤ 2000) (k : Int) (hk1 : (k == 1) = false) (hn : ((L.length : Int) == 0) = true)
    (cS : ∀ W, PtsIn W p r.pts → Calls Tryz.prog 60 #[.agg #[.string r.name, .int .i64 r.eps, .int .i64 r.floor, .int .i64 r.last, .int .i64 r.scale, .slice p r.pts.length cap], .int .i64 a, .int .i64 b] W fun e w' => ∃ q c, e = .returned (.slice q L.length c) ∧ PtsIn w' q L ∧ Below W.heap.size W w') :
    Calls Tryz.prog 23 #[.agg #[.string r.name, .int .i64 r.eps, .int .i64 r.floor, .int .i64 r.last, .int .i64 r.scale, .slice p r.pts.length cap], .int .i64 k, .int .i64 a, .int .i64 b, .agg #[.int .i64 er, .int .i64 cn, .int .i64 lo, .int .i64 up, .int .i64 mc, .int .i64 lw, .int .i64 lr, .int .i64 hw, .int .i64 hr]] w fun e w' => e = .returned (.bool ((er == 9) && ((cn == 0) && ((lo == 0) && ((up == 0) && ((mc == 0) && ((lw == 0) && ((lr == 0) && ((hw == 0) && ((hr == 0))))))))))) ∧ Below w.heap.size w w' := by
  go_enter Tryz.func23, Tryz.ntmps23
  replace cS := Lib.hid cS
  go_upto_region 1 with (fail)
  refine wp_cutB w (Bc w.heap.size #[.string r.name, .int .i64 r.eps, .int .i64 r.floor, .int .i64 r.last, .int .i64 r.scale, .slice p r.pts.length cap] 35 <| Bc (w.heap.size + 1) #[.int .i64 er, .int .i64 cn, .int .i64 lo, .int .i64 up, .int .i64 mc, .int .i64 lw, .int .i64 lr, .int .i64 hw, .int .i64 hr] 44 <| Bz) ?_
  rintro W1 hW z2 ⟨⟨b1, yb1, k1, f1⟩, ⟨b2, yb2, k2, f2⟩, -⟩
  go_wp2_with fail
  refine (cS.out _ (PtsIn.below hp (by exact belowAny))).mono ?_
  rintro e w3 ⟨q, c, rfl, hq1, hb3⟩
  have z4 := hb3.size
  try simp at z4
  clear k1 f1 k2 f2
  refine haveB w w3 (Bc w.heap.size #[.string r.name, .int .i64 r.eps, .int .i64 r.floor, .int .i64 r.last, .int .i64 r.scale, .slice p r.pts.length cap] 35 <| Bc (w.heap.size + 1) #[.int .i64 er, .int .i64 cn, .int .i64 lo, .int .i64 up, .int .i64 mc, .int .i64 lw, .int .i64 lr, .int .i64 hw, .int .i64 hr] 44 <| Bz) ?_
  clear b1 b2 hW
  rintro hW z5 ⟨⟨b1, yb1, k1, f1⟩, ⟨b2, yb2, k2, f2⟩, -⟩
  have b3 := hq1
  clear hq1
  go_upto_region 5 with (fail)
  clear k1 f1 k2 f2
  refine wp_cutB w (Bc w.heap.size #[.string r.name, .int .i64 r.eps, .int .i64 r.floor, .int .i64 r.last, .int .i64 r.scale, .slice p r.pts.length cap] 35 <| Bc (w.heap.size + 1) #[.int .i64 er, .int .i64 cn, .int .i64 lo, .int .i64 up, .int .i64 mc, .int .i64 lw, .int .i64 lr, .int .i64 hw, .int .i64 hr] 44 <| Rc (fun W' => PtsIn W' q L) <| Bz) ?_ (hI := by exact belowAny) (hR := (Bc.mk (by exact blkAny2) <| Bc.mk (by exact blkAny2) <| Rc.mk (by first | exact b3 | exact PtsIn.below (PtsIn.below b3 (by exact belowAny)) hW | exact PtsIn.below b3 (by exact belowAny)) <| trivial))
  clear b1 b2 b3 hW
  rintro W6 hW z7 hL
  obtain ⟨⟨b1, yb1, k1, f1⟩, ⟨b2, yb2, k2, f2⟩, b3, -⟩ := id hL
  clear k1 f1 k2 f2
  refine wp_regS 4 100 hW hL ?_
  iterate 2 refine dA ?_
  apply nd_det (.bool ((er == 9) && ((cn == 0) && ((lo == 0) && ((up == 0) && ((mc == 0) && ((lw == 0) && ((lr == 0) && ((hw == 0) && ((hr == 0))))))))))) (hg := rfl) (hal := rfl)
  · intro a' W' hC hE
    simp [Oper.looksAt, Op.operands, Call.operands, envOf, Det] at hE
    simp [go_sem, Act.eval, hE]
    repeat' split
    all_goals simp_all
  refine dA ?_
  clear hW hL b1 b2 b3
  rintro W8 hW z9 hL
  simp only [ndR]
  intros
  simp only [ndS]
  refine wpList_nil ?_
  obtain ⟨⟨b1, yb1, k1, f1⟩, ⟨b2, yb2, k2, f2⟩, b3, -⟩ := hL
  go_wp2
  refine bodyPost_ret (by simp [results, Tryz.results23, go_sem, k1, f1, k2, f2, yb1, yb2]) rfl ⟨rfl, by exact belowAny⟩
set_option maxRecDepth 100000 in
set_option maxHeartbeats 2000000 in
theorem refHolds_sum (r : RawT) (p : Option Addr) (cap : Nat) (a b : Int) (L : List (Int × Int)) (er cn lo up mc lw lr hw hr : Int) (B : Bool) (w : World) (hp : PtsIn w p r.pts) (hl : L.length ≤ 2000) (hn : ((L.length : Int) == 0) = false)
    (cS : ∀ W, PtsIn W p r.pts → Calls Tryz.prog 60 #[.agg #[.string r.name, .int .i64 r.eps, .int .i64 r.floor, .int .i64 r.last, .int .i64 r.scale, .slice p r.pts.length cap], .int .i64 a, .int .i64 b] W fun e w' => ∃ q c, e = .returned (.slice q L.length c) ∧ PtsIn w' q L ∧ Below W.heap.size W w')
    (cF : ∀ W q c, PtsIn W q L → Calls Tryz.prog 61 #[.slice q L.length c, .agg #[.int .i64 er, .int .i64 cn, .int .i64 lo, .int .i64 up, .int .i64 mc, .int .i64 lw, .int .i64 lr, .int .i64 hw, .int .i64 hr], .int .i64 r.eps] W fun e w' => e = .returned (.bool B) ∧ Below W.heap.size W w') :
    Calls Tryz.prog 23 #[.agg #[.string r.name, .int .i64 r.eps, .int .i64 r.floor, .int .i64 r.last, .int .i64 r.scale, .slice p r.pts.length cap], .int .i64 4, .int .i64 a, .int .i64 b, .agg #[.int .i64 er, .int .i64 cn, .int .i64 lo, .int .i64 up, .int .i64 mc, .int .i64 lw, .int .i64 lr, .int .i64 hw, .int .i64 hr]] w fun e w' => e = .returned (.bool B) ∧ Below w.heap.size w w' := by
  go_enter Tryz.func23, Tryz.ntmps23
  replace cS := Lib.hid cS
  go_upto_region 1 with (fail)
  refine wp_cutB w (Bc w.heap.size #[.string r.name, .int .i64 r.eps, .int .i64 r.floor, .int .i64 r.last, .int .i64 r.scale, .slice p r.pts.length cap] 35 <| Bc (w.heap.size + 1) #[.int .i64 er, .int .i64 cn, .int .i64 lo, .int .i64 up, .int .i64 mc, .int .i64 lw, .int .i64 lr, .int .i64 hw, .int .i64 hr] 44 <| Bz) ?_
  rintro W1 hW z2 ⟨⟨b1, yb1, k1, f1⟩, ⟨b2, yb2, k2, f2⟩, -⟩
  go_wp2_with fail
  refine (cS.out _ (PtsIn.below hp (by exact belowAny))).mono ?_
  rintro e w3 ⟨q, c, rfl, hq1, hb3⟩
  have z4 := hb3.size
  try simp at z4
  clear k1 f1 k2 f2
  refine haveB w w3 (Bc w.heap.size #[.string r.name, .int .i64 r.eps, .int .i64 r.floor, .int .i64 r.last, .int .i64 r.scale, .slice p r.pts.length cap] 35 <| Bc (w.heap.size + 1) #[.int .i64 er, .int .i64 cn, .int .i64 lo, .int .i64 up, .int .i64 mc, .int .i64 lw, .int .i64 lr, .int .i64 hw, .int .i64 hr] 44 <| Bz) ?_
  clear b1 b2 hW
  rintro hW z5 ⟨⟨b1, yb1, k1, f1⟩, ⟨b2, yb2, k2, f2⟩, -⟩
  have b3 := hq1
  clear hq1
  go_wp2_with fail
  refine (cF _ q c b3).mono ?_
  rintro e w6 ⟨rfl, hb6⟩
  have z7 := hb6.size
  try simp at z7
  clear k1 f1 k2 f2
  refine haveB w w6 (Bc w.heap.size #[.string r.name, .int .i64 r.eps, .int .i64 r.floor, .int .i64 r.last, .int .i64 r.scale, .slice p r.pts.length cap] 35 <| Bc (w.heap.size + 1) #[.int .i64 er, .int .i64 cn, .int .i64 lo, .int .i64 up, .int .i64 mc, .int .i64 lw, .int .i64 lr, .int .i64 hw, .int .i64 hr] 44 <| Rc (fun W' => PtsIn W' q L) <| Bz) ?_ (hR := (Bc.mk (by exact blkAny2) <| Bc.mk (by exact blkAny2) <| Rc.mk (by first | exact b3 | exact PtsIn.below (PtsIn.below b3 (by exact belowAny)) hb6 | exact PtsIn.below b3 (by exact belowAny)) <| trivial))
  clear b1 b2 b3 hW
  rintro hW z8 ⟨⟨b1, yb1, k1, f1⟩, ⟨b2, yb2, k2, f2⟩, b3, -⟩
  clear hb6
  go_wp2
  refine bodyPost_ret (by simp [results, Tryz.results23, go_sem, k1, f1, k2, f2, yb1, yb2]) rfl ⟨rfl, by exact belowAny⟩
set_option maxRecDepth 100000 in
set_option maxHeartbeats 2000000 in
theorem refHolds_mean (r : RawT) (p : Option Addr) (cap : Nat) (a b : Int) (L : List (Int × Int)) (er cn lo up mc lw lr hw hr : Int) (B : Bool) (w : World) (hp : PtsIn w p r.pts) (hl : L.length ≤ 2000) (hn : ((L.length : Int) == 0) = false)
    (cS : ∀ W, PtsIn W p r.pts → Calls Tryz.prog 60 #[.agg #[.string r.name, .int .i64 r.eps, .int .i64 r.floor, .int .i64 r.last, .int .i64 r.scale, .slice p r.pts.length cap], .int .i64 a, .int .i64 b] W fun e w' => ∃ q c, e = .returned (.slice q L.length c) ∧ PtsIn w' q L ∧ Below W.heap.size W w')
    (cF : ∀ W q c, PtsIn W q L → Calls Tryz.prog 62 #[.slice q L.length c, .agg #[.int .i64 mc, .int .i64 lw, .int .i64 lr, .int .i64 hw, .int .i64 hr], .int .i64 r.eps] W fun e w' => e = .returned (.bool B) ∧ Below W.heap.size W w') :
    Calls Tryz.prog 23 #[.agg #[.string r.name, .int .i64 r.eps, .int .i64 r.floor, .int .i64 r.last, .int .i64 r.scale, .slice p r.pts.length cap], .int .i64 5, .int .i64 a, .int .i64 b, .agg #[.int .i64 er, .int .i64 cn, .int .i64 lo, .int .i64 up, .int .i64 mc, .int .i64 lw, .int .i64 lr, .int .i64 hw, .int .i64 hr]] w fun e w' => e = .returned (.bool (((er == 0) && ((cn == 0) && ((lo == 0) && ((up == 0))))) && B)) ∧ Below w.heap.size w w' := by
  go_enter Tryz.func23, Tryz.ntmps23
  replace cS := Lib.hid cS
  go_upto_region 1 with (fail)
  refine wp_cutB w (Bc w.heap.size #[.string r.name, .int .i64 r.eps, .int .i64 r.floor, .int .i64 r.last, .int .i64 r.scale, .slice p r.pts.length cap] 35 <| Bc (w.heap.size + 1) #[.int .i64 er, .int .i64 cn, .int .i64 lo, .int .i64 up, .int .i64 mc, .int .i64 lw, .int .i64 lr, .int .i64 hw, .int .i64 hr] 44 <| Bz) ?_
  rintro W1 hW z2 ⟨⟨b1, yb1, k1, f1⟩, ⟨b2, yb2, k2, f2⟩, -⟩
  go_wp2_with fail
  refine (cS.out _ (PtsIn.below hp (by exact belowAny))).mono ?_
  rintro e w3 ⟨q, c, rfl, hq1, hb3⟩
  have z4 := hb3.size
  try simp at z4
  clear k1 f1 k2 f2
  refine haveB w w3 (Bc w.heap.size #[.string r.name, .int .i64 r.eps, .int .i64 r.floor, .int .i64 r.last, .int .i64 r.scale, .slice p r.pts.length cap] 35 <| Bc (w.heap.size + 1) #[.int .i64 er, .int .i64 cn, .int .i64 lo, .int .i64 up, .int .i64 mc, .int .i64 lw, .int .i64 lr, .int .i64 hw, .int .i64 hr] 44 <| Bz) ?_
  clear b1 b2 hW
  rintro hW z5 ⟨⟨b1, yb1, k1, f1⟩, ⟨b2, yb2, k2, f2⟩, -⟩
  have b3 := hq1
  clear hq1
  go_upto_region 9 with (fail)
  clear k1 f1 k2 f2
  refine wp_cutB w (Bc w.heap.size #[.string r.name, .int .i64 r.eps, .int .i64 r.floor, .int .i64 r.last, .int .i64 r.scale, .slice p r.pts.length cap] 35 <| Bc (w.heap.size + 1) #[.int .i64 er, .int .i64 cn, .int .i64 lo, .int .i64 up, .int .i64 mc, .int .i64 lw, .int .i64 lr, .int .i64 hw, .int .i64 hr] 44 <| Rc (fun W' => PtsIn W' q L) <| Bz) ?_ (hI := by exact belowAny) (hR := (Bc.mk (by exact blkAny2) <| Bc.mk (by exact blkAny2) <| Rc.mk (by first | exact b3 | exact PtsIn.below (PtsIn.below b3 (by exact belowAny)) hW | exact PtsIn.below b3 (by exact belowAny)) <| trivial))
  clear b1 b2 b3 hW
  rintro W6 hW z7 hL
  obtain ⟨⟨b1, yb1, k1, f1⟩, ⟨b2, yb2, k2, f2⟩, b3, -⟩ := id hL
  clear k1 f1 k2 f2
  refine wp_regS 14 100 hW hL ?_
  iterate 4 refine dA ?_
  apply nd_det (.bool ((er == 0) && ((cn == 0) && ((lo == 0) && ((up == 0)))))) (hg := rfl) (hal := rfl)
  · intro a' W' hC hE
    simp [Oper.looksAt, Op.operands, Call.operands, envOf, Det] at hE
    simp [go_sem, Act.eval, hE]
    repeat' split
    all_goals simp_all
  refine dA ?_
  iterate 5 refine gA ?_
  apply nd_callvg (p := true) (c := .bool B) (hg := rfl) (hd := rfl) (hal := rfl)
  · intro v W' h
    simp [envOf, Det] at h
    simp
    exact h
  · intro hp hx a' W' hC hE
    obtain ⟨_, ⟨-, -, k1, -⟩, ⟨-, -, k2, -⟩, k3, -⟩ := hC
    simp [Oper.looksAt, Op.operands, Call.operands, envOf, Det, GDet, GS, hx] at hE
    refine ⟨_, _, ?_, (cF W' q c k3)⟩
    simp [go_sem, Act.eval, hE]
    try rfl
  refine pA ?_
  refine dA ?_
  clear hW hL b1 b2 b3
  rintro W8 hW z9 hL
  simp only [ndR]
  intros
  repeat (rename GDet _ _ _ _ => hgd; clear hgd)
  simp only [ndS]
  refine wpList_nil ?_
  obtain ⟨⟨b1, yb1, k1, f1⟩, ⟨b2, yb2, k2, f2⟩, b3, -⟩ := hL
  go_wp2
  refine bodyPost_ret (by simp [results, Tryz.results23, go_sem, k1, f1, k2, f2, yb1, yb2]) rfl ⟨rfl, by exact belowAny⟩
set_option maxRecDepth 100000 in
set_option maxHeartbeats 2000000 in
theorem refHolds_least (r : RawT) (p : Option Addr) (cap : Nat) (a b : Int) (L : List (Int × Int)) (er cn lo up mc lw lr hw hr : Int) (B : Bool) (w : World) (hp : PtsIn w p r.pts) (hl : L.length ≤ 2000) (t0 y0 : Int) (hL0 : L[0]? = some (t0, y0)) (hn : ((L.length : Int) == 0) = false) (hE2 : I64 (2 * r.eps)) (he0 : 0 ≤ r.eps) (he1 : r.eps ≤ 1099511627776)
    (cS : ∀ W, PtsIn W p r.pts → Calls Tryz.prog 60 #[.agg #[.string r.name, .int .i64 r.eps, .int .i64 r.floor, .int .i64 r.last, .int .i64 r.scale, .slice p r.pts.length cap], .int .i64 a, .int .i64 b] W fun e w' => ∃ q c, e = .returned (.slice q L.length c) ∧ PtsIn w' q L ∧ Below W.heap.size W w')
    (cF : ∀ va W, NumIs W va (2 * r.eps) → Calls Tryz.prog 63 #[.agg #[.int .i64 lo, .int .i64 up], .int .i64 ((L.map (·.2)).foldl (pickK 2) y0), va] W fun e w' => e = .returned (.bool B) ∧ Below W.heap.size W w') :
    Calls Tryz.prog 23 #[.agg #[.string r.name, .int .i64 r.eps, .int .i64 r.floor, .int .i64 r.last, .int .i64 r.scale, .slice p r.pts.length cap], .int .i64 2, .int .i64 a, .int .i64 b, .agg #[.int .i64 er, .int .i64 cn, .int .i64 lo, .int .i64 up, .int .i64 mc, .int .i64 lw, .int .i64 lr, .int .i64 hw, .int .i64 hr]] w fun e w' => e = .returned (.bool (((er == 0) && ((cn == 0) && ((mc == 0) && ((lw == 0) && ((lr == 0) && ((hw == 0) && ((hr == 0)))))))) && B)) ∧ Below w.heap.size w w' := by
  have EQ2 := Lib.hid (show wrap64 (2 * r.eps) = 2 * r.eps by simp only [wrap64_eq]; omega)
  go_enter Tryz.func23, Tryz.ntmps23
  replace cS := Lib.hid cS
  go_upto_region 1 with (fail)
  refine wp_cutB w (Bc w.heap.size #[.string r.name, .int .i64 r.eps, .int .i64 r.floor, .int .i64 r.last, .int .i64 r.scale, .slice p r.pts.length cap] 35 <| Bc (w.heap.size + 1) #[.int .i64 er, .int .i64 cn, .int .i64 lo, .int .i64 up, .int .i64 mc, .int .i64 lw, .int .i64 lr, .int .i64 hw, .int .i64 hr] 44 <| Bz) ?_
  rintro W1 hW z2 ⟨⟨b1, yb1, k1, f1⟩, ⟨b2, yb2, k2, f2⟩, -⟩
  go_wp2_with fail
  refine (cS.out _ (PtsIn.below hp (by exact belowAny))).mono ?_
  rintro e w3 ⟨q, c, rfl, hq1, hb3⟩
  have z4 := hb3.size
  try simp at z4
  clear k1 f1 k2 f2
  refine haveB w w3 (Bc w.heap.size #[.string r.name, .int .i64 r.eps, .int .i64 r.floor, .int .i64 r.last, .int .i64 r.scale, .slice p r.pts.length cap] 35 <| Bc (w.heap.size + 1) #[.int .i64 er, .int .i64 cn, .int .i64 lo, .int .i64 up, .int .i64 mc, .int .i64 lw, .int .i64 lr, .int .i64 hw, .int .i64 hr] 44 <| Bz) ?_
  clear b1 b2 hW
  rintro hW z5 ⟨⟨b1, yb1, k1, f1⟩, ⟨b2, yb2, k2, f2⟩, -⟩
  have b3 := hq1
  clear hq1
  obtain ⟨bq, oq, rfl, q0, q1⟩ := b3.at' 0 _ hL0
  simp only at q0 q1
  try simp only [Nat.zero_mul, Nat.add_zero] at q0 q1
  have zq := cell_lt q0
  try simp only at zq
  have hl7 : 0 < L.length := (List.getElem?_eq_some_iff.1 hL0).1
  have hl8 : (0 : Int) < (L.length : Int) := by omega
  go_wp2
  clear q0 q1 zq
  clear k1 f1 k2 f2
  refine wp_loop (rhRel w r p cap er cn lo up mc lw lr hw hr L (some ⟨bq, oq, none⟩) c y0 2) (fun a' _ => L.length - (intAt (a'.tmps.getD 60 undef)).toNat) ?_ ?_
  · unfold rhRel
    exact ⟨hW, b1, b2, b3, 0, _, frame_ex rfl, by simp, Nat.zero_le _⟩
  clear b1 b2 b3 hW
  rintro a' W ⟨hW, b1, b2, b3, i, v, ⟨u, rfl⟩, hv, hi'⟩
  have hz := hW.size
  have yb1 := b1.lt
  have yb2 := b2.lt
  rcases Nat.lt_or_ge i L.length with hlt | hge
  · obtain ⟨⟨t, y⟩, tr⟩ : ∃ x, L[i]? = some x := ⟨L[i]'(by omega), List.getElem?_eq_getElem (by omega)⟩
    obtain ⟨b9, o9, e9, q0, q1⟩ := b3.at' i _ tr
    injection e9 with e9
    injection e9 with e9 e8
    subst e9; subst e8
    simp only at q0 q1
    have zv := cell_lt q0
    try simp only at zv
    have hv2 := Lib.hid (show pickK 2 v y = ((L.take (i + 1)).map (·.2)).foldl (pickK 2) y0 by rw [List.take_add_one, tr, List.map_append, List.foldl_append, ← hv]; rfl)
    clear hv tr
    by_cases hlt9 : y < v
    · have k1 := b1.cell
      have f1 := b1.frozen
      have k2 := b2.cell
      have f2 := b2.frozen
      have e1 : Below w.heap.size w (W.alloc (.cells #[.int .i64 t, .int .i64 y] 58)) := belowAny
      have e2 := PtsIn.below b3 (w' := W.alloc (.cells #[.int .i64 t, .int .i64 y] 58)) belowAny
      have e3 : Blk (W.alloc (.cells #[.int .i64 t, .int .i64 y] 58)) w.heap.size #[.string r.name, .int .i64 r.eps, .int .i64 r.floor, .int .i64 r.last, .int .i64 r.scale, .slice p r.pts.length cap] 35 := blkAny2
      have e4 : Blk (W.alloc (.cells #[.int .i64 t, .int .i64 y] 58)) (w.heap.size + 1) #[.int .i64 er, .int .i64 cn, .int .i64 lo, .int .i64 up, .int .i64 mc, .int .i64 lw, .int .i64 lr, .int .i64 hw, .int .i64 hr] 44 := blkAny2
      replace e1 := Lib.hid e1
      replace e2 := Lib.hid e2
      replace e3 := Lib.hid e3
      replace e4 := Lib.hid e4
      clear b1 b2 b3 hW
      go_wp2
      rw [show (i : Int) + 1 = ((i + 1 : Nat) : Int) by omega]
      refine ⟨?_, by simp [intAt]; omega⟩
      unfold rhRel
      exact ⟨e1.out, e3.out, e4.out, e2.out, i + 1, y, frame_ex rfl, by rw [← hv2.out]; unfold pickK; rw [if_pos rfl, if_pos (by omega)], by omega⟩
    · have k1 := b1.cell
      have f1 := b1.frozen
      have k2 := b2.cell
      have f2 := b2.frozen
      have e1 : Below w.heap.size w (W.alloc (.cells #[.int .i64 t, .int .i64 y] 58)) := belowAny
      have e2 := PtsIn.below b3 (w' := W.alloc (.cells #[.int .i64 t, .int .i64 y] 58)) belowAny
      have e3 : Blk (W.alloc (.cells #[.int .i64 t, .int .i64 y] 58)) w.heap.size #[.string r.name, .int .i64 r.eps, .int .i64 r.floor, .int .i64 r.last, .int .i64 r.scale, .slice p r.pts.length cap] 35 := blkAny2
      have e4 : Blk (W.alloc (.cells #[.int .i64 t, .int .i64 y] 58)) (w.heap.size + 1) #[.int .i64 er, .int .i64 cn, .int .i64 lo, .int .i64 up, .int .i64 mc, .int .i64 lw, .int .i64 lr, .int .i64 hw, .int .i64 hr] 44 := blkAny2
      replace e1 := Lib.hid e1
      replace e2 := Lib.hid e2
      replace e3 := Lib.hid e3
      replace e4 := Lib.hid e4
      clear b1 b2 b3 hW
      go_wp2
      rw [show (i : Int) + 1 = ((i + 1 : Nat) : Int) by omega]
      refine ⟨?_, by simp [intAt]; omega⟩
      unfold rhRel
      exact ⟨e1.out, e3.out, e4.out, e2.out, i + 1, v, frame_ex rfl, by rw [← hv2.out]; unfold pickK; rw [if_pos rfl, if_neg (by omega)], by omega⟩
  · have k1 := b1.cell
    have f1 := b1.frozen
    have k2 := b2.cell
    have f2 := b2.frozen
    obtain rfl : i = L.length := by omega
    rw [List.take_of_length_le (Nat.le_refl _)] at hv
    rw [← hv] at cF
    replace hv := Lib.hid hv
    clear b3
    go_upto_region 17 with (fail)
    clear k1 f1 k2 f2
    refine wp_cutB w (Bc w.heap.size #[.string r.name, .int .i64 r.eps, .int .i64 r.floor, .int .i64 r.last, .int .i64 r.scale, .slice p r.pts.length cap] 35 <| Bc (w.heap.size + 1) #[.int .i64 er, .int .i64 cn, .int .i64 lo, .int .i64 up, .int .i64 mc, .int .i64 lw, .int .i64 lr, .int .i64 hw, .int .i64 hr] 44 <| Bz) ?_
    clear b1 b2 hW
    rintro W21 hW z22 hL
    obtain ⟨⟨b1, yb1, k1, f1⟩, ⟨b2, yb2, k2, f2⟩, -⟩ := id hL
    clear k1 f1 k2 f2
    refine wp_regD 16 100 hW hL ?_
    iterate 4 refine dE (fun W' hC => EQ2.out) ?_
    apply nd_det (.bool ((er == 0) && ((cn == 0) && ((mc == 0) && ((lw == 0) && ((lr == 0) && ((hw == 0) && ((hr == 0))))))))) (hg := rfl) (hal := rfl)
    · intro a' W' hC hE
      simp [Oper.looksAt, Op.operands, Call.operands, envOf, Det] at hE
      simp [go_sem, Act.eval, hE]
      repeat' split
      all_goals simp_all
    refine dE (fun W' hC => EQ2.out) ?_
    iterate 6 refine gE (fun W' hC => EQ2.out) ?_
    apply nd_gcall (NI (2 * r.eps)) (p := true) (hg := rfl) (hd := rfl) (hal := rfl)
    · exact NI.closed _
    · intro v W' h
      simp [envOf, Det] at h
      simp
      exact h
    · intro hp hx a' W' hC hE
      obtain ⟨_, ⟨-, -, k1, -⟩, ⟨-, -, k2, -⟩, -⟩ := hC
      simp [Oper.looksAt, Op.operands, Call.operands, envOf, Det, GDet, GS, hx] at hE
      refine ⟨_, _, ?_, (c_refInt (2 * r.eps) W' hE2.1 hE2.2).mono ?_⟩
      · simp [go_sem, Act.eval, hE]
        try rfl
      · rintro e w' ⟨v, rfl, hB, hR⟩
        exact ⟨_, rfl, hR, hB⟩
    apply nd_callvg (p := true) (c := .bool B) (hg := rfl) (hd := rfl) (hal := rfl)
    · intro v W' h
      simp [envOf, Det] at h
      simp
      exact h
    · intro hp hx a' W' hC hE
      obtain ⟨_, ⟨-, -, k1, -⟩, ⟨-, -, k2, -⟩, -⟩ := hC
      simp [Oper.looksAt, Op.operands, Call.operands, envOf, Det, GDet, GS, hx] at hE
      refine ⟨_, _, ?_, (cF _ W' hE.2.2.1)⟩
      simp [go_sem, Act.eval, hE.1, hE.2.1]
      try rfl
    refine pA ?_
    refine dE (fun W' hC => EQ2.out) ?_
    clear hW hL b1 b2
    rintro W23 hW z24 hL
    simp only [ndR]
    intros
    repeat (rename GDet _ _ _ _ => hgd; clear hgd)
    simp only [ndS]
    refine wpList_nil ?_
    obtain ⟨⟨b1, yb1, k1, f1⟩, ⟨b2, yb2, k2, f2⟩, -⟩ := hL
    go_wp2
    refine bodyPost_ret (by simp [results, Tryz.results23, go_sem, k1, f1, k2, f2, yb1, yb2]) rfl ⟨rfl, by exact belowAny⟩
set_option maxRecDepth 100000 in
set_option maxHeartbeats 2000000 in
theorem refHolds_most (r : RawT) (p : Option Addr) (cap : Nat) (a b : Int) (L : List (Int × Int)) (er cn lo up mc lw lr hw hr : Int) (B : Bool) (w : World) (hp : PtsIn w p r.pts) (hl : L.length ≤ 2000) (t0 y0 : Int) (hL0 : L[0]? = some (t0, y0)) (hn : ((L.length : Int) == 0) = false) (hE2 : I64 (2 * r.eps)) (he0 : 0 ≤ r.eps) (he1 : r.eps ≤ 1099511627776)
    (cS : ∀ W, PtsIn W p r.pts → Calls Tryz.prog 60 #[.agg #[.string r.name, .int .i64 r.eps, .int .i64 r.floor, .int .i64 r.last, .int .i64 r.scale, .slice p r.pts.length cap], .int .i64 a, .int .i64 b] W fun e w' => ∃ q c, e = .returned (.slice q L.length c) ∧ PtsIn w' q L ∧ Below W.heap.size W w')
    (cF : ∀ va W, NumIs W va (2 * r.eps) → Calls Tryz.prog 63 #[.agg #[.int .i64 lo, .int .i64 up], .int .i64 ((L.map (·.2)).foldl (pickK 3) y0), va] W fun e w' => e = .returned (.bool B) ∧ Below W.heap.size W w') :
    Calls Tryz.prog 23 #[.agg #[.string r.name, .int .i64 r.eps, .int .i64 r.floor, .int .i64 r.last, .int .i64 r.scale, .slice p r.pts.length cap], .int .i64 3, .int .i64 a, .int .i64 b, .agg #[.int .i64 er, .int .i64 cn, .int .i64 lo, .int .i64 up, .int .i64 mc, .int .i64 lw, .int .i64 lr, .int .i64 hw, .int .i64 hr]] w fun e w' => e = .returned (.bool (((er == 0) && ((cn == 0) && ((mc == 0) && ((lw == 0) && ((lr == 0) && ((hw == 0) && ((hr == 0)))))))) && B)) ∧ Below w.heap.size w w' := by
  have EQ2 := Lib.hid (show wrap64 (2 * r.eps) = 2 * r.eps by simp only [wrap64_eq]; omega)
  go_enter Tryz.func23, Tryz.ntmps23
  replace cS := Lib.hid cS
  go_upto_region 1 with (fail)
  refine wp_cutB w (Bc w.heap.size #[.string r.name, .int .i64 r.eps, .int .i64 r.floor, .int .i64 r.last, .int .i64 r.scale, .slice p r.pts.length cap] 35 <| Bc (w.heap.size + 1) #[.int .i64 er, .int .i64 cn, .int .i64 lo, .int .i64 up, .int .i64 mc, .int .i64 lw, .int .i64 lr, .int .i64 hw, .int .i64 hr] 44 <| Bz) ?_
  rintro W1 hW z2 ⟨⟨b1, yb1, k1, f1⟩, ⟨b2, yb2, k2, f2⟩, -⟩
  go_wp2_with fail
  refine (cS.out _ (PtsIn.below hp (by exact belowAny))).mono ?_
  rintro e w3 ⟨q, c, rfl, hq1, hb3⟩
  have z4 := hb3.size
  try simp at z4
  clear k1 f1 k2 f2
  refine haveB w w3 (Bc w.heap.size #[.string r.name, .int .i64 r.eps, .int .i64 r.floor, .int .i64 r.last, .int .i64 r.scale, .slice p r.pts.length cap] 35 <| Bc (w.heap.size + 1) #[.int .i64 er, .int .i64 cn, .int .i64 lo, .int .i64 up, .int .i64 mc, .int .i64 lw, .int .i64 lr, .int .i64 hw, .int .i64 hr] 44 <| Bz) ?_
  clear b1 b2 hW
  rintro hW z5 ⟨⟨b1, yb1, k1, f1⟩, ⟨b2, yb2, k2, f2⟩, -⟩
  have b3 := hq1
  clear hq1
  obtain ⟨bq, oq, rfl, q0, q1⟩ := b3.at' 0 _ hL0
  simp only at q0 q1
  try simp only [Nat.zero_mul, Nat.add_zero] at q0 q1
  have zq := cell_lt q0
  try simp only at zq
  have hl7 : 0 < L.length := (List.getElem?_eq_some_iff.1 hL0).1
  have hl8 : (0 : Int) < (L.length : Int) := by omega
  go_wp2
  clear q0 q1 zq
  clear k1 f1 k2 f2
  refine wp_loop (rhRel w r p cap er cn lo up mc lw lr hw hr L (some ⟨bq, oq, none⟩) c y0 3) (fun a' _ => L.length - (intAt (a'.tmps.getD 60 undef)).toNat) ?_ ?_
  · unfold rhRel
    exact ⟨hW, b1, b2, b3, 0, _, frame_ex rfl, by simp, Nat.zero_le _⟩
  clear b1 b2 b3 hW
  rintro a' W ⟨hW, b1, b2, b3, i, v, ⟨u, rfl⟩, hv, hi'⟩
  have hz := hW.size
  have yb1 := b1.lt
  have yb2 := b2.lt
  rcases Nat.lt_or_ge i L.length with hlt | hge
  · obtain ⟨⟨t, y⟩, tr⟩ : ∃ x, L[i]? = some x := ⟨L[i]'(by omega), List.getElem?_eq_getElem (by omega)⟩
    obtain ⟨b9, o9, e9, q0, q1⟩ := b3.at' i _ tr
    injection e9 with e9
    injection e9 with e9 e8
    subst e9; subst e8
    simp only at q0 q1
    have zv := cell_lt q0
    try simp only at zv
    have hv2 := Lib.hid (show pickK 3 v y = ((L.take (i + 1)).map (·.2)).foldl (pickK 3) y0 by rw [List.take_add_one, tr, List.map_append, List.foldl_append, ← hv]; rfl)
    clear hv tr
    by_cases hlt9 : v < y
    · have k1 := b1.cell
      have f1 := b1.frozen
      have k2 := b2.cell
      have f2 := b2.frozen
      have e1 : Below w.heap.size w (W.alloc (.cells #[.int .i64 t, .int .i64 y] 58)) := belowAny
      have e2 := PtsIn.below b3 (w' := W.alloc (.cells #[.int .i64 t, .int .i64 y] 58)) belowAny
      have e3 : Blk (W.alloc (.cells #[.int .i64 t, .int .i64 y] 58)) w.heap.size #[.string r.name, .int .i64 r.eps, .int .i64 r.floor, .int .i64 r.last, .int .i64 r.scale, .slice p r.pts.length cap] 35 := blkAny2
      have e4 : Blk (W.alloc (.cells #[.int .i64 t, .int .i64 y] 58)) (w.heap.size + 1) #[.int .i64 er, .int .i64 cn, .int .i64 lo, .int .i64 up, .int .i64 mc, .int .i64 lw, .int .i64 lr, .int .i64 hw, .int .i64 hr] 44 := blkAny2
      replace e1 := Lib.hid e1
      replace e2 := Lib.hid e2
      replace e3 := Lib.hid e3
      replace e4 := Lib.hid e4
      clear b1 b2 b3 hW
      go_wp2
      rw [show (i : Int) + 1 = ((i + 1 : Nat) : Int) by omega]
      refine ⟨?_, by simp [intAt]; omega⟩
      unfold rhRel
      exact ⟨e1.out, e3.out, e4.out, e2.out, i + 1, y, frame_ex rfl, by rw [← hv2.out]; unfold pickK; rw [if_neg (by decide), if_pos (by omega)], by omega⟩
    · have k1 := b1.cell
      have f1 := b1.frozen
      have k2 := b2.cell
      have f2 := b2.frozen
      have e1 : Below w.heap.size w (W.alloc (.cells #[.int .i64 t, .int .i64 y] 58)) := belowAny
      have e2 := PtsIn.below b3 (w' := W.alloc (.cells #[.int .i64 t, .int .i64 y] 58)) belowAny
      have e3 : Blk (W.alloc (.cells #[.int .i64 t, .int .i64 y] 58)) w.heap.size #[.string r.name, .int .i64 r.eps, .int .i64 r.floor, .int .i64 r.last, .int .i64 r.scale, .slice p r.pts.length cap] 35 := blkAny2
      have e4 : Blk (W.alloc (.cells #[.int .i64 t, .int .i64 y] 58)) (w.heap.size + 1) #[.int .i64 er, .int .i64 cn, .int .i64 lo, .int .i64 up, .int .i64 mc, .int .i64 lw, .int .i64 lr, .int .i64 hw, .int .i64 hr] 44 := blkAny2
      replace e1 := Lib.hid e1
      replace e2 := Lib.hid e2
      replace e3 := Lib.hid e3
      replace e4 := Lib.hid e4
      clear b1 b2 b3 hW
      go_wp2
      rw [show (i : Int) + 1 = ((i + 1 : Nat) : Int) by omega]
      refine ⟨?_, by simp [intAt]; omega⟩
      unfold rhRel
      exact ⟨e1.out, e3.out, e4.out, e2.out, i + 1, v, frame_ex rfl, by rw [← hv2.out]; unfold pickK; rw [if_neg (by decide), if_neg (by omega)], by omega⟩
  · have k1 := b1.cell
    have f1 := b1.frozen
    have k2 := b2.cell
    have f2 := b2.frozen
    obtain rfl : i = L.length := by omega
    rw [List.take_of_length_le (Nat.le_refl _)] at hv
    rw [← hv] at cF
    replace hv := Lib.hid hv
    clear b3
    go_upto_region 17 with (fail)
    clear k1 f1 k2 f2
    refine wp_cutB w (Bc w.heap.size #[.string r.name, .int .i64 r.eps, .int .i64 r.floor, .int .i64 r.last, .int .i64 r.scale, .slice p r.pts.length cap] 35 <| Bc (w.heap.size + 1) #[.int .i64 er, .int .i64 cn, .int .i64 lo, .int .i64 up, .int .i64 mc, .int .i64 lw, .int .i64 lr, .int .i64 hw, .int .i64 hr] 44 <| Bz) ?_
    clear b1 b2 hW
    rintro W21 hW z22 hL
    obtain ⟨⟨b1, yb1, k1, f1⟩, ⟨b2, yb2, k2, f2⟩, -⟩ := id hL
    clear k1 f1 k2 f2
    refine wp_regD 16 100 hW hL ?_
    iterate 4 refine dE (fun W' hC => EQ2.out) ?_
    apply nd_det (.bool ((er == 0) && ((cn == 0) && ((mc == 0) && ((lw == 0) && ((lr == 0) && ((hw == 0) && ((hr == 0))))))))) (hg := rfl) (hal := rfl)
    · intro a' W' hC hE
      simp [Oper.looksAt, Op.operands, Call.operands, envOf, Det] at hE
      simp [go_sem, Act.eval, hE]
      repeat' split
      all_goals simp_all
    refine dE (fun W' hC => EQ2.out) ?_
    iterate 6 refine gE (fun W' hC => EQ2.out) ?_
    apply nd_gcall (NI (2 * r.eps)) (p := true) (hg := rfl) (hd := rfl) (hal := rfl)
    · exact NI.closed _
    · intro v W' h
      simp [envOf, Det] at h
      simp
      exact h
    · intro hp hx a' W' hC hE
      obtain ⟨_, ⟨-, -, k1, -⟩, ⟨-, -, k2, -⟩, -⟩ := hC
      simp [Oper.looksAt, Op.operands, Call.operands, envOf, Det, GDet, GS, hx] at hE
      refine ⟨_, _, ?_, (c_refInt (2 * r.eps) W' hE2.1 hE2.2).mono ?_⟩
      · simp [go_sem, Act.eval, hE]
        try rfl
      · rintro e w' ⟨v, rfl, hB, hR⟩
        exact ⟨_, rfl, hR, hB⟩
    apply nd_callvg (p := true) (c := .bool B) (hg := rfl) (hd := rfl) (hal := rfl)
    · intro v W' h
      simp [envOf, Det] at h
      simp
      exact h
    · intro hp hx a' W' hC hE
      obtain ⟨_, ⟨-, -, k1, -⟩, ⟨-, -, k2, -⟩, -⟩ := hC
      simp [Oper.looksAt, Op.operands, Call.operands, envOf, Det, GDet, GS, hx] at hE
      refine ⟨_, _, ?_, (cF _ W' hE.2.2.1)⟩
      simp [go_sem, Act.eval, hE.1, hE.2.1]
      try rfl
    refine pA ?_
    refine dE (fun W' hC => EQ2.out) ?_
    clear hW hL b1 b2
    rintro W23 hW z24 hL
    simp only [ndR]
    intros
    repeat (rename GDet _ _ _ _ => hgd; clear hgd)
    simp only [ndS]
    refine wpList_nil ?_
    obtain ⟨⟨b1, yb1, k1, f1⟩, ⟨b2, yb2, k2, f2⟩, -⟩ := hL
    go_wp2
    refine bodyPost_ret (by simp [results, Tryz.results23, go_sem, k1, f1, k2, f2, yb1, yb2]) rfl ⟨rfl, by exact belowAny⟩
end Go.Proofs.YtdeghcgakkhbmaaGreat
namespace Go.Proofs.YtdeghcgakkhbmaaGreat
open Go.RowKit
set_option maxRecDepth 100000 in
set_option maxHeartbeats 2000000 in
theorem refHoldsAt_none (r : RawT) (p : Option Addr) (cap : Nat) (t lo up er : Int) (L : List (Int × Int)) (w : World) (hp : PtsIn w p r.pts) (hn : ((L.length : Int) == 0) = true)
    (cS : ∀ W, PtsIn W p r.pts → Calls Tryz.prog 60 #[.agg #[.string r.name, .int .i64 r.eps, .int .i64 r.floor, .int .i64 r.last, .int .i64 r.scale, .slice p r.pts.length cap], .int .i64 t, .int .i64 t] W fun e w' => ∃ q c, e = .returned (.slice q L.length c) ∧ PtsIn w' q L ∧ Below W.heap.size W w') :
    Calls Tryz.prog 24 #[.agg #[.string r.name, .int .i64 r.eps, .int .i64 r.floor, .int .i64 r.last, .int .i64 r.scale, .slice p r.pts.length cap], .int .i64 t, .agg #[.int .i64 lo, .int .i64 up], .int .i64 er] w fun e w' => e = .returned (.bool ((er == 9) && ((lo == 0) && (up == 0)))) ∧ Below w.heap.size w w' := by
  go_enter Tryz.func24, Tryz.ntmps24
  replace cS := Lib.hid cS
  go_upto_region 1 with (fail)
  refine wp_cutB w (Bc w.heap.size #[.string r.name, .int .i64 r.eps, .int .i64 r.floor, .int .i64 r.last, .int .i64 r.scale, .slice p r.pts.length cap] 35 <| Bc (w.heap.size + 1) #[.int .i64 lo, .int .i64 up] 38 <| Bz) ?_
  rintro W1 hW z2 ⟨⟨b1, yb1, k1, f1⟩, ⟨b2, yb2, k2, f2⟩, -⟩
  go_wp2_with fail
  refine (cS.out _ (PtsIn.below hp (by exact belowAny))).mono ?_
  rintro e w3 ⟨q, c, rfl, hq1, hb3⟩
  have z4 := hb3.size
  try simp at z4
  clear k1 f1 k2 f2
  refine haveB w w3 (Bc w.heap.size #[.string r.name, .int .i64 r.eps, .int .i64 r.floor, .int .i64 r.last, .int .i64 r.scale, .slice p r.pts.length cap] 35 <| Bc (w.heap.size + 1) #[.int .i64 lo, .int .i64 up] 38 <| Bz) ?_
  clear b1 b2 hW
  rintro hW z5 ⟨⟨b1, yb1, k1, f1⟩, ⟨b2, yb2, k2, f2⟩, -⟩
  have b3 := hq1
  clear hq1
  go_upto_region 3 with (fail)
  clear k1 f1 k2 f2
  refine wp_cutB w (Bc w.heap.size #[.string r.name, .int .i64 r.eps, .int .i64 r.floor, .int .i64 r.last, .int .i64 r.scale, .slice p r.pts.length cap] 35 <| Bc (w.heap.size + 1) #[.int .i64 lo, .int .i64 up] 38 <| Rc (fun W' => PtsIn W' q L) <| Bz) ?_ (hI := by exact belowAny) (hR := (Bc.mk (by exact blkAny2) <| Bc.mk (by exact blkAny2) <| Rc.mk (by first | exact b3 | exact PtsIn.below (PtsIn.below b3 (by exact belowAny)) hW | exact PtsIn.below b3 (by exact belowAny)) <| trivial))
  clear b1 b2 b3 hW
  rintro W6 hW z7 hL
  obtain ⟨⟨b1, yb1, k1, f1⟩, ⟨b2, yb2, k2, f2⟩, b3, -⟩ := id hL
  clear k1 f1 k2 f2
  refine wp_regS 8 38 hW hL ?_
  iterate 3 refine dA ?_
  iterate 2 refine gA ?_
  apply nd_detg (p := true) (c := .bool ((lo == 0) && (up == 0))) (hg := rfl) (hd := rfl) (hal := rfl)
  · intro v W' h
    simp [envOf, Det] at h
    simp
    exact h
  · intro hp hx a' W' hC hE
    simp [Oper.looksAt, Op.operands, Call.operands, envOf, Det, GDet, hx] at hE
    simp [go_sem, Act.eval, hE]
    repeat' split
    all_goals simp_all
  refine pA ?_
  refine dA ?_
  clear hW hL b1 b2 b3
  rintro W8 hW z9 hL
  simp only [ndR]
  intros
  repeat (rename GDet _ _ _ _ => hgd; clear hgd)
  simp only [ndS]
  refine wpList_nil ?_
  obtain ⟨⟨b1, yb1, k1, f1⟩, ⟨b2, yb2, k2, f2⟩, b3, -⟩ := hL
  go_wp2
  refine bodyPost_ret (by simp [results, Tryz.results24, go_sem, k1, f1, k2, f2, yb1, yb2]) rfl ⟨rfl, by exact belowAny⟩
set_option maxRecDepth 100000 in
set_option maxHeartbeats 2000000 in
theorem refHoldsAt_some (r : RawT) (p : Option Addr) (cap : Nat) (t lo up er : Int) (L : List (Int × Int)) (w : World) (hp : PtsIn w p r.pts) (t0 y0 : Int) (B : Bool) (hL0 : L[0]? = some (t0, y0)) (hn : ((L.length : Int) == 0) = false) (hE2 : I64 (2 * r.eps)) (he0 : 0 ≤ r.eps) (he1 : r.eps ≤ 1099511627776)
    (cS : ∀ W, PtsIn W p r.pts → Calls Tryz.prog 60 #[.agg #[.string r.name, .int .i64 r.eps, .int .i64 r.floor, .int .i64 r.last, .int .i64 r.scale, .slice p r.pts.length cap], .int .i64 t, .int .i64 t] W fun e w' => ∃ q c, e = .returned (.slice q L.length c) ∧ PtsIn w' q L ∧ Below W.heap.size W w')
    (cF : ∀ va W, NumIs W va (2 * r.eps) → Calls Tryz.prog 63 #[.agg #[.int .i64 lo, .int .i64 up], .int .i64 y0, va] W fun e w' => e = .returned (.bool B) ∧ Below W.heap.size W w') :
    Calls Tryz.prog 24 #[.agg #[.string r.name, .int .i64 r.eps, .int .i64 r.floor, .int .i64 r.last, .int .i64 r.scale, .slice p r.pts.length cap], .int .i64 t, .agg #[.int .i64 lo, .int .i64 up], .int .i64 er] w fun e w' => e = .returned (.bool ((er == 0) && B)) ∧ Below w.heap.size w w' := by
  have EQ2 := Lib.hid (show wrap64 (2 * r.eps) = 2 * r.eps by simp only [wrap64_eq]; omega)
  go_enter Tryz.func24, Tryz.ntmps24
  replace cS := Lib.hid cS
  go_upto_region 1 with (fail)
  refine wp_cutB w (Bc w.heap.size #[.string r.name, .int .i64 r.eps, .int .i64 r.floor, .int .i64 r.last, .int .i64 r.scale, .slice p r.pts.length cap] 35 <| Bc (w.heap.size + 1) #[.int .i64 lo, .int .i64 up] 38 <| Bz) ?_
  rintro W1 hW z2 ⟨⟨b1, yb1, k1, f1⟩, ⟨b2, yb2, k2, f2⟩, -⟩
  go_wp2_with fail
  refine (cS.out _ (PtsIn.below hp (by exact belowAny))).mono ?_
  rintro e w3 ⟨q, c, rfl, hq1, hb3⟩
  have z4 := hb3.size
  try simp at z4
  clear k1 f1 k2 f2
  refine haveB w w3 (Bc w.heap.size #[.string r.name, .int .i64 r.eps, .int .i64 r.floor, .int .i64 r.last, .int .i64 r.scale, .slice p r.pts.length cap] 35 <| Bc (w.heap.size + 1) #[.int .i64 lo, .int .i64 up] 38 <| Bz) ?_
  clear b1 b2 hW
  rintro hW z5 ⟨⟨b1, yb1, k1, f1⟩, ⟨b2, yb2, k2, f2⟩, -⟩
  have b3 := hq1
  clear hq1
  obtain ⟨bq, oq, rfl, -, -⟩ := b3.at' 0 _ hL0
  have hl7 : 0 < L.length := (List.getElem?_eq_some_iff.1 hL0).1
  replace hL0 := Lib.hid hL0
  go_upto_region 4 with (fail)
  clear k1 f1 k2 f2
  refine wp_cutB w (Bc w.heap.size #[.string r.name, .int .i64 r.eps, .int .i64 r.floor, .int .i64 r.last, .int .i64 r.scale, .slice p r.pts.length cap] 35 <| Bc (w.heap.size + 1) #[.int .i64 lo, .int .i64 up] 38 <| Rc (fun W' => PtsP W' bq oq L) <| Bz) ?_ (hI := by exact belowAny) (hR := (Bc.mk (by exact blkAny2) <| Bc.mk (by exact blkAny2) <| Rc.mk (by first | exact ⟨b3⟩ | exact (PtsP.mk b3).below belowAny) <| trivial))
  clear b1 b2 b3 hW
  rintro W6 hW z7 hL
  obtain ⟨⟨b1, yb1, k1, f1⟩, ⟨b2, yb2, k2, f2⟩, b3, -⟩ := id hL
  clear k1 f1 k2 f2
  refine wp_regD 15 38 hW hL ?_
  iterate 3 refine dE (fun W' hC => aI (hC.2.2.2.1.cellAt hL0.out) (aI hl7 EQ2.out)) ?_
  iterate 8 refine gE (fun W' hC => aI (hC.2.2.2.1.cellAt hL0.out) (aI hl7 EQ2.out)) ?_
  apply nd_gcall (NI (2 * r.eps)) (p := true) (hg := rfl) (hd := rfl) (hal := rfl)
  · exact NI.closed _
  · intro v W' h
    simp [envOf, Det] at h
    simp
    exact h
  · intro hp hx a' W' hC hE
    obtain ⟨_, ⟨-, -, k1, -⟩, ⟨-, -, k2, -⟩, k3, -⟩ := hC
    simp [Oper.looksAt, Op.operands, Call.operands, envOf, Det, GDet, GS, hx] at hE
    refine ⟨_, _, ?_, (c_refInt (2 * r.eps) W' hE2.1 hE2.2).mono ?_⟩
    · simp [go_sem, Act.eval, hE]
      try rfl
    · rintro e w' ⟨v, rfl, hB, hR⟩
      exact ⟨_, rfl, hR, hB⟩
  apply nd_callvg (p := true) (c := .bool B) (hg := rfl) (hd := rfl) (hal := rfl)
  · intro v W' h
    simp [envOf, Det] at h
    simp
    exact h
  · intro hp hx a' W' hC hE
    obtain ⟨_, ⟨-, -, k1, -⟩, ⟨-, -, k2, -⟩, k3, -⟩ := hC
    simp [Oper.looksAt, Op.operands, Call.operands, envOf, Det, GDet, GS, hx] at hE
    refine ⟨_, _, ?_, (cF _ W' hE.2.2.1)⟩
    simp [go_sem, Act.eval, hE.1, hE.2.1]
    try rfl
  refine pA ?_
  refine dE (fun W' hC => aI (hC.2.2.2.1.cellAt hL0.out) (aI hl7 EQ2.out)) ?_
  clear hW hL b1 b2 b3
  rintro W8 hW z9 hL
  simp only [ndR]
  intros
  repeat (rename GDet _ _ _ _ => hgd; clear hgd)
  simp only [ndS]
  refine wpList_nil ?_
  obtain ⟨⟨b1, yb1, k1, f1⟩, ⟨b2, yb2, k2, f2⟩, b3, -⟩ := hL
  go_wp2
  refine bodyPost_ret (by simp [results, Tryz.results24, go_sem, k1, f1, k2, f2, yb1, yb2]) rfl ⟨rfl, by exact belowAny⟩
end Go.Proofs.YtdeghcgakkhbmaaGreat
namespace Go.Proofs.YtdeghcgakkhbmaaGreat
open Go.RowKit
/-- What the document asks of a point and what is told of it. -/
def refOK (eps : Int) (p : Int × Int) (x : Int × Int × Int) : Bool := !(((((x.1 != p.1) || decide (x.2.2 < 0)) || decide (eps < x.2.2)) || decide (x.2.1 + x.2.2 < p.2)) || decide (p.2 < x.2.1 - x.2.2))
theorem zip_snoc3 {pre : List (Int × Int)} {l : List (Int × Int × Int)} {x : Int × Int} {y : Int × Int × Int} (hy : l[pre.length]? = some y) : (pre ++ [x]).zip l = pre.zip l ++ [(x, y)] := by
  induction pre generalizing l with
  | nil =>
    cases l with
    | nil => simp at hy
    | cons z l => simp at hy; subst hy; simp
  | cons q pre ih =>
    cases l with
    | nil => simp at hy
    | cons z l => simp only [List.cons_append, List.zip_cons_cons]; rw [ih (by simpa using hy)]
theorem zip_cut3 {L : List (Int × Int)} {l : List (Int × Int × Int)} {k : Nat} {f : (Int × Int) × (Int × Int × Int) → Bool} (h : ((L.take k).zip l).all f = false) : (L.zip l).all f = false := by
  induction L generalizing k l with
  | nil => simp at h
  | cons x L ih =>
    cases k with
    | zero => simp at h
    | succ k =>
      cases l with
      | nil => simp at h
      | cons y l =>
        simp only [List.take_succ_cons, List.zip_cons_cons, List.all_cons] at h ⊢
        cases h1 : f (x, y) with
        | false => rfl
        | true => rw [h1, Bool.true_and] at h; rw [Bool.true_and]; exact ih h
def rsRel (w : World) (r : RawT) (p : Option Addr) (cap : Nat) (a b : Int) (L : List (Int × Int)) (q : Option Addr) (c : Nat) (sp : Option Addr) (scap : Nat) (l : List (Int × Int × Int)) (a' : Act) (W : World) : Prop :=
  Below w.heap.size w W ∧ Blk W w.heap.size #[.string r.name, .int .i64 r.eps, .int .i64 r.floor, .int .i64 r.last, .int .i64 r.scale, .slice p r.pts.length cap] 35 ∧ PtsIn W q L ∧ ∃ i : Nat, (∃ u : Nat → Value, a' = { tmps := #[u 0, .int .i64 a, .int .i64 b, .slice sp l.length scap, .int .i64 0, .pointer (some ⟨w.heap.size, 0, none⟩), u 6, u 7, u 8, u 9, .bool false, .slice q L.length c, u 12, u 13, u 14, u 15, u 16, u 17, u 18, u 19, u 20, u 21, u 22, u 23, u 24, u 25, u 26, u 27, u 28, u 29, u 30, u 31, u 32, u 33, u 34, u 35, u 36, u 37, u 38, u 39, .slice sp l.length scap, .int .i64 (l.length : Int), .int .i64 (i : Int), u 43, u 44, u 45, u 46, u 47, u 48, u 49, u 50, u 51, u 52, u 53, u 54, u 55, u 56, u 57, u 58, u 59, u 60, u 61, u 62, u 63, u 64, u 65, u 66, u 67, u 68, u 69, u 70, u 71, u 72, u 73, u 74, u 75, u 76, u 77, u 78, u 79, u 80, u 81, u 82, u 83, u 84, u 85, u 86, u 87, u 88, u 89, u 90, u 91, u 92, u 93], defers := [] }) ∧ ((L.take i).zip l).all (fun q => refOK r.eps q.1 q.2) = true ∧ i ≤ l.length
set_option maxRecDepth 100000 in
set_option maxHeartbeats 2000000 in
theorem refScan_none (r : RawT) (p : Option Addr) (cap : Nat) (a b : Int) (L : List (Int × Int)) (sp : Option Addr) (l : List (Int × Int × Int)) (scap : Nat) (w : World) (hp : PtsIn w p r.pts) (er : Int) (hn : ((L.length : Int) == 0) = true)
    (cS : ∀ W, PtsIn W p r.pts → Calls Tryz.prog 60 #[.agg #[.string r.name, .int .i64 r.eps, .int .i64 r.floor, .int .i64 r.last, .int .i64 r.scale, .slice p r.pts.length cap], .int .i64 a, .int .i64 b] W fun e w' => ∃ q c, e = .returned (.slice q L.length c) ∧ PtsIn w' q L ∧ Below W.heap.size W w') :
    Calls Tryz.prog 25 #[.agg #[.string r.name, .int .i64 r.eps, .int .i64 r.floor, .int .i64 r.last, .int .i64 r.scale, .slice p r.pts.length cap], .int .i64 a, .int .i64 b, .slice sp l.length scap, .int .i64 er] w fun e w' => e = .returned (.bool ((er == 9) && ((l.length : Int) == 0))) ∧ Below w.heap.size w w' := by
  go_enter Tryz.func25, Tryz.ntmps25
  replace cS := Lib.hid cS
  go_upto_region 1 with (fail)
  refine wp_cutB w (Bc w.heap.size #[.string r.name, .int .i64 r.eps, .int .i64 r.floor, .int .i64 r.last, .int .i64 r.scale, .slice p r.pts.length cap] 35 <| Bz) ?_
  rintro W1 hW z2 ⟨⟨b1, yb1, k1, f1⟩, -⟩
  go_wp2_with fail
  refine (cS.out _ (PtsIn.below hp (by exact belowAny))).mono ?_
  rintro e w3 ⟨q, c, rfl, hq1, hb3⟩
  have z4 := hb3.size
  try simp at z4
  clear k1 f1
  refine haveB w w3 (Bc w.heap.size #[.string r.name, .int .i64 r.eps, .int .i64 r.floor, .int .i64 r.last, .int .i64 r.scale, .slice p r.pts.length cap] 35 <| Bz) ?_
  clear b1 hW
  rintro hW z5 ⟨⟨b1, yb1, k1, f1⟩, -⟩
  have b2 := hq1
  clear hq1
  go_upto_region 3 with (fail)
  clear k1 f1
  refine wp_cutB w (Bc w.heap.size #[.string r.name, .int .i64 r.eps, .int .i64 r.floor, .int .i64 r.last, .int .i64 r.scale, .slice p r.pts.length cap] 35 <| Rc (fun W' => PtsIn W' q L) <| Bz) ?_ (hI := by exact belowAny) (hR := (Bc.mk (by exact blkAny2) <| Rc.mk (by first | exact b2 | exact PtsIn.below (PtsIn.below b2 (by exact belowAny)) hW | exact PtsIn.below b2 (by exact belowAny)) <| trivial))
  clear b1 b2 hW
  rintro W6 hW z7 hL
  obtain ⟨⟨b1, yb1, k1, f1⟩, b2, -⟩ := id hL
  clear k1 f1
  refine wp_regS 8 94 hW hL ?_
  iterate 3 refine dA ?_
  iterate 3 refine gA ?_
  refine pA ?_
  refine dA ?_
  clear hW hL b1 b2
  rintro W8 hW z9 hL
  simp only [ndR]
  intros
  repeat (rename GDet _ _ _ _ => hgd; clear hgd)
  simp only [ndS]
  refine wpList_nil ?_
  obtain ⟨⟨b1, yb1, k1, f1⟩, b2, -⟩ := hL
  go_wp2
  refine bodyPost_ret (by simp [results, Tryz.results25, go_sem, k1, f1, yb1]) rfl ⟨rfl, by exact belowAny⟩
set_option maxRecDepth 100000 in
set_option maxHeartbeats 2000000 in
theorem refScan_er (r : RawT) (p : Option Addr) (cap : Nat) (a b : Int) (L : List (Int × Int)) (sp : Option Addr) (l : List (Int × Int × Int)) (scap : Nat) (w : World) (hp : PtsIn w p r.pts) (er : Int) (hn : ((L.length : Int) == 0) = false) (he : (er != 0) = true)
    (cS : ∀ W, PtsIn W p r.pts → Calls Tryz.prog 60 #[.agg #[.string r.name, .int .i64 r.eps, .int .i64 r.floor, .int .i64 r.last, .int .i64 r.scale, .slice p r.pts.length cap], .int .i64 a, .int .i64 b] W fun e w' => ∃ q c, e = .returned (.slice q L.length c) ∧ PtsIn w' q L ∧ Below W.heap.size W w') :
    Calls Tryz.prog 25 #[.agg #[.string r.name, .int .i64 r.eps, .int .i64 r.floor, .int .i64 r.last, .int .i64 r.scale, .slice p r.pts.length cap], .int .i64 a, .int .i64 b, .slice sp l.length scap, .int .i64 er] w fun e w' => e = .returned (.bool false) ∧ Below w.heap.size w w' := by
  go_enter Tryz.func25, Tryz.ntmps25
  replace cS := Lib.hid cS
  go_upto_region 1 with (fail)
  refine wp_cutB w (Bc w.heap.size #[.string r.name, .int .i64 r.eps, .int .i64 r.floor, .int .i64 r.last, .int .i64 r.scale, .slice p r.pts.length cap] 35 <| Bz) ?_
  rintro W1 hW z2 ⟨⟨b1, yb1, k1, f1⟩, -⟩
  go_wp2_with fail
  refine (cS.out _ (PtsIn.below hp (by exact belowAny))).mono ?_
  rintro e w3 ⟨q, c, rfl, hq1, hb3⟩
  have z4 := hb3.size
  try simp at z4
  clear k1 f1
  refine haveB w w3 (Bc w.heap.size #[.string r.name, .int .i64 r.eps, .int .i64 r.floor, .int .i64 r.last, .int .i64 r.scale, .slice p r.pts.length cap] 35 <| Bz) ?_
  clear b1 hW
  rintro hW z5 ⟨⟨b1, yb1, k1, f1⟩, -⟩
  have b2 := hq1
  clear hq1
  go_wp2
  refine bodyPost_ret (by simp [results, Tryz.results25, go_sem, k1, f1, yb1]) rfl ⟨rfl, by exact belowAny⟩
set_option maxRecDepth 100000 in
set_option maxHeartbeats 2000000 in
theorem refScan_len (r : RawT) (p : Option Addr) (cap : Nat) (a b : Int) (L : List (Int × Int)) (sp : Option Addr) (l : List (Int × Int × Int)) (scap : Nat) (w : World) (hp : PtsIn w p r.pts) (hn : ((L.length : Int) == 0) = false) (he : ((l.length : Int) != (L.length : Int)) = true)
    (cS : ∀ W, PtsIn W p r.pts → Calls Tryz.prog 60 #[.agg #[.string r.name, .int .i64 r.eps, .int .i64 r.floor, .int .i64 r.last, .int .i64 r.scale, .slice p r.pts.length cap], .int .i64 a, .int .i64 b] W fun e w' => ∃ q c, e = .returned (.slice q L.length c) ∧ PtsIn w' q L ∧ Below W.heap.size W w') :
    Calls Tryz.prog 25 #[.agg #[.string r.name, .int .i64 r.eps, .int .i64 r.floor, .int .i64 r.last, .int .i64 r.scale, .slice p r.pts.length cap], .int .i64 a, .int .i64 b, .slice sp l.length scap, .int .i64 0] w fun e w' => e = .returned (.bool false) ∧ Below w.heap.size w w' := by
  go_enter Tryz.func25, Tryz.ntmps25
  replace cS := Lib.hid cS
  go_upto_region 1 with (fail)
  refine wp_cutB w (Bc w.heap.size #[.string r.name, .int .i64 r.eps, .int .i64 r.floor, .int .i64 r.last, .int .i64 r.scale, .slice p r.pts.length cap] 35 <| Bz) ?_
  rintro W1 hW z2 ⟨⟨b1, yb1, k1, f1⟩, -⟩
  go_wp2_with fail
  refine (cS.out _ (PtsIn.below hp (by exact belowAny))).mono ?_
  rintro e w3 ⟨q, c, rfl, hq1, hb3⟩
  have z4 := hb3.size
  try simp at z4
  clear k1 f1
  refine haveB w w3 (Bc w.heap.size #[.string r.name, .int .i64 r.eps, .int .i64 r.floor, .int .i64 r.last, .int .i64 r.scale, .slice p r.pts.length cap] 35 <| Bz) ?_
  clear b1 hW
  rintro hW z5 ⟨⟨b1, yb1, k1, f1⟩, -⟩
  have b2 := hq1
  clear hq1
  go_wp2
  refine bodyPost_ret (by simp [results, Tryz.results25, go_sem, k1, f1, yb1]) rfl ⟨rfl, by exact belowAny⟩
set_option maxRecDepth 100000 in
set_option maxHeartbeats 2000000 in
theorem refScan_loop (r : RawT) (p : Option Addr) (cap : Nat) (a b : Int) (L : List (Int × Int)) (sp : Option Addr) (l : List (Int × Int × Int)) (scap : Nat) (w : World) (hp : PtsIn w p r.pts) (hn : ((L.length : Int) == 0) = false) (he : ((l.length : Int) != (L.length : Int)) = false) (hl : l.length = L.length) (hl3 : l.length ≤ 2000) (hB : BksIn w sp l) (hlv : ∀ x, x ∈ l → I64 x.1 ∧ I64 x.2.1 ∧ I64 x.2.2) (hLv : ∀ x, x ∈ L → I64 x.2)
    (cS : ∀ W, PtsIn W p r.pts → Calls Tryz.prog 60 #[.agg #[.string r.name, .int .i64 r.eps, .int .i64 r.floor, .int .i64 r.last, .int .i64 r.scale, .slice p r.pts.length cap], .int .i64 a, .int .i64 b] W fun e w' => ∃ q c, e = .returned (.slice q L.length c) ∧ PtsIn w' q L ∧ Below W.heap.size W w') :
    Calls Tryz.prog 25 #[.agg #[.string r.name, .int .i64 r.eps, .int .i64 r.floor, .int .i64 r.last, .int .i64 r.scale, .slice p r.pts.length cap], .int .i64 a, .int .i64 b, .slice sp l.length scap, .int .i64 0] w fun e w' => e = .returned (.bool ((L.zip l).all fun q => refOK r.eps q.1 q.2)) ∧ Below w.heap.size w w' := by
  obtain ⟨RES, hRES⟩ : ∃ B, ((L.zip l).all fun q => refOK r.eps q.1 q.2) = B := ⟨_, rfl⟩
  rw [hRES]
  replace hRES := Lib.hid hRES
  replace hl := Lib.hid hl
  go_enter Tryz.func25, Tryz.ntmps25
  replace cS := Lib.hid cS
  go_upto_region 1 with (fail)
  refine wp_cutB w (Bc w.heap.size #[.string r.name, .int .i64 r.eps, .int .i64 r.floor, .int .i64 r.last, .int .i64 r.scale, .slice p r.pts.length cap] 35 <| Bz) ?_
  rintro W1 hW z2 ⟨⟨b1, yb1, k1, f1⟩, -⟩
  go_wp2_with fail
  refine (cS.out _ (PtsIn.below hp (by exact belowAny))).mono ?_
  rintro e w3 ⟨q, c, rfl, hq1, hb3⟩
  have z4 := hb3.size
  try simp at z4
  clear k1 f1
  refine haveB w w3 (Bc w.heap.size #[.string r.name, .int .i64 r.eps, .int .i64 r.floor, .int .i64 r.last, .int .i64 r.scale, .slice p r.pts.length cap] 35 <| Bz) ?_
  clear b1 hW
  rintro hW z5 ⟨⟨b1, yb1, k1, f1⟩, -⟩
  have b2 := hq1
  clear hq1
  go_wp2
  clear k1 f1
  refine wp_loop (rsRel w r p cap a b L q c sp scap l) (fun a' _ => l.length - (intAt (a'.tmps.getD 42 undef)).toNat) ?_ ?_
  · unfold rsRel
    exact ⟨hW, b1, b2, 0, frame_ex rfl, rfl, Nat.zero_le _⟩
  clear b1 b2 hW
  rintro a' W ⟨hW, b1, b2, i, ⟨u, rfl⟩, hall, hi⟩
  have hz := hW.size
  have yb1 := b1.lt
  rcases Nat.lt_or_ge i l.length with hlt | hge
  · have hL9 : i < L.length := by have := hl.out; omega
    obtain ⟨⟨t, v⟩, tr⟩ : ∃ x, L[i]? = some x := ⟨L[i]'(by omega), List.getElem?_eq_getElem (by omega)⟩
    obtain ⟨⟨xt, xv, xe⟩, tx⟩ : ∃ x, l[i]? = some x := ⟨l[i]'(by omega), List.getElem?_eq_getElem (by omega)⟩
    have hv9 := hLv _ (List.mem_of_getElem? tr)
    have hx9 := hlv _ (List.mem_of_getElem? tx)
    simp only at hv9 hx9
    obtain ⟨b8, o8, rfl, q0, q1, q2⟩ := (hB.below hW).at' i _ tx
    obtain ⟨bq, oq, rfl, -, -⟩ := b2.at' i _ tr
    simp only at q0 q1 q2
    have zq := cell_lt q0
    try simp only at zq
    have hL8 := Lib.hid b2
    have hst : ((L.take (i + 1)).zip l).all (fun q => refOK r.eps q.1 q.2) = refOK r.eps (t, v) (xt, xv, xe) := by
      rw [List.take_add_one, tr]
      have e := zip_snoc3 (x := (t, v)) (y := (xt, xv, xe)) (pre := L.take i) (l := l) (by rw [List.length_take, Nat.min_eq_left (by omega)]; exact tx)
      rw [Option.toList_some, e, List.all_append, hall, Bool.true_and]
      simp
    obtain ⟨F, hF⟩ : ∃ F, refOK r.eps (t, v) (xt, xv, xe) = F := ⟨_, rfl⟩
    rw [hF] at hst
    have hno := Lib.hid (fun (e : F = false) => (show RES = false by
      rw [← hRES.out]
      rw [e] at hst
      exact zip_cut3 hst))
    have hb1 := Lib.hid (show v.natAbs < 2 ^ 900 from lt_pow2 64 900 (show v.natAbs < 2 ^ 64 by unfold I64 at hv9; omega) (by omega))
    have hb2 := Lib.hid (show xv.natAbs < 2 ^ 900 from lt_pow2 64 900 (show xv.natAbs < 2 ^ 64 by unfold I64 at hx9; omega) (by omega))
    have hb3 := Lib.hid (show xe.natAbs < 2 ^ 900 from lt_pow2 64 900 (show xe.natAbs < 2 ^ 64 by unfold I64 at hx9; omega) (by omega))
    have hb4 := Lib.hid (show (xv + xe).natAbs < 2 ^ 900 from lt_pow2 66 900 (show (xv + xe).natAbs < 2 ^ 66 by unfold I64 at hx9; omega) (by omega))
    have hb5 := Lib.hid (show (xv - xe).natAbs < 2 ^ 900 from lt_pow2 66 900 (show (xv - xe).natAbs < 2 ^ 66 by unfold I64 at hx9; omega) (by omega))
    have hv := Lib.hid (show (((((xt != t) || decide (xe < 0)) || decide (r.eps < xe)) || decide (xv + xe < v)) || decide (v < xv - xe)) = !F by rw [← hF]; unfold refOK; rw [Bool.not_not])
    replace tr := Lib.hid tr
    replace hst := Lib.hid hst
    clear hF hall hRES tx
    have k1 := b1.cell
    have f1 := b1.frozen
    go_upto_region 9 with (fail)
    clear k1 f1
    refine wp_cutB w (Bc w.heap.size #[.string r.name, .int .i64 r.eps, .int .i64 r.floor, .int .i64 r.last, .int .i64 r.scale, .slice p r.pts.length cap] 35 <| Bc W.heap.size #[.int .i64 xt, .int .i64 xv, .int .i64 xe] 64 <| Rc (fun W' => PtsP W' bq oq L) <| Bz) ?_ (hI := by exact belowAny) (hR := (Bc.mk (by exact blkAny2) <| Bc.mk (by exact blkAny2) <| Rc.mk (by first | exact ⟨b2⟩ | exact (PtsP.mk b2).below (by exact belowAny)) <| trivial))
    clear b1 hW
    rintro W21 hW z22 ⟨⟨b1, yb1, k1, f1⟩, ⟨b2, yb2, k2, f2⟩, b3, -⟩
    clear k1 f1 k2 f2
    refine wp_region_ndA 15 94 [] (fun W' => Rex [] W21 W' ∧ Blk W' w.heap.size #[.string r.name, .int .i64 r.eps, .int .i64 r.floor, .int .i64 r.last, .int .i64 r.scale, .slice p r.pts.length cap] 35 ∧ Blk W' W.heap.size #[.int .i64 xt, .int .i64 xv, .int .i64 xe] 64 ∧ PtsP W' bq oq L) mixed (by kernel_rfl) rfl ⟨(Rex.refl _ _).drew, b1, b2, b3.drew⟩ (fun w w' ⟨h0, h1, h2, h3⟩ hr => ⟨h0.trans hr, h1.rex hr (by simp <;> omega), h2.rex hr (by simp <;> omega), h3.rex hr (by simp <;> omega)⟩) (fun c a d v w h => by cases d <;> exact h) ?_
    iterate 5
      apply nd_det (hg := rfl) (hal := rfl)
      · intro a W' hC hE
        obtain ⟨_, k1, k2, k3⟩ := hC
        have k1 := k1.cell
        have k2 := k2.cell
        obtain ⟨t0, t1⟩ := k3.cellAt tr.out
        first
          | (simp [Oper.looksAt, Op.operands, Call.operands, envOf, Det] at hE; simp [go_sem, Act.eval, IntWalk.i64_left, hE, k1, k2, k3, t0, t1, hL9]; try rfl)
          | (clear hE; simp [go_sem, Act.eval, IntWalk.i64_left, k1, k2, k3, t0, t1, hL9]; try rfl)
    apply nd_call (NI (v)) (hg := rfl) (hal := rfl)
    · exact NI.closed _
    · intro a' W' hC hE
      obtain ⟨_, k1, k2, k3⟩ := hC
      simp [Oper.looksAt, Op.operands, Call.operands, envOf, Det] at hE
      refine ⟨_, _, ?_, (c_refInt v W' hv9.1 hv9.2).mono ?_⟩
      · simp [go_sem, Act.eval, hE]
        try rfl
      · rintro e w' ⟨v, rfl, hB, hR⟩
        exact ⟨_, rfl, hR, hB⟩
    iterate 2
      apply nd_det (hg := rfl) (hal := rfl)
      · intro a W' hC hE
        obtain ⟨_, k1, k2, k3⟩ := hC
        have k1 := k1.cell
        have k2 := k2.cell
        obtain ⟨t0, t1⟩ := k3.cellAt tr.out
        first
          | (simp [Oper.looksAt, Op.operands, Call.operands, envOf, Det] at hE; simp [go_sem, Act.eval, IntWalk.i64_left, hE, k1, k2, k3, t0, t1, hL9]; try rfl)
          | (clear hE; simp [go_sem, Act.eval, IntWalk.i64_left, k1, k2, k3, t0, t1, hL9]; try rfl)
    apply nd_call (NI (xv)) (hg := rfl) (hal := rfl)
    · exact NI.closed _
    · intro a' W' hC hE
      obtain ⟨_, k1, k2, k3⟩ := hC
      simp [Oper.looksAt, Op.operands, Call.operands, envOf, Det] at hE
      refine ⟨_, _, ?_, (c_refInt xv W' hx9.2.1.1 hx9.2.1.2).mono ?_⟩
      · simp [go_sem, Act.eval, hE]
        try rfl
      · rintro e w' ⟨v, rfl, hB, hR⟩
        exact ⟨_, rfl, hR, hB⟩
    iterate 2
      apply nd_det (hg := rfl) (hal := rfl)
      · intro a W' hC hE
        obtain ⟨_, k1, k2, k3⟩ := hC
        have k1 := k1.cell
        have k2 := k2.cell
        obtain ⟨t0, t1⟩ := k3.cellAt tr.out
        first
          | (simp [Oper.looksAt, Op.operands, Call.operands, envOf, Det] at hE; simp [go_sem, Act.eval, IntWalk.i64_left, hE, k1, k2, k3, t0, t1, hL9]; try rfl)
          | (clear hE; simp [go_sem, Act.eval, IntWalk.i64_left, k1, k2, k3, t0, t1, hL9]; try rfl)
    apply nd_call (NI (xe)) (hg := rfl) (hal := rfl)
    · exact NI.closed _
    · intro a' W' hC hE
      obtain ⟨_, k1, k2, k3⟩ := hC
      simp [Oper.looksAt, Op.operands, Call.operands, envOf, Det] at hE
      refine ⟨_, _, ?_, (c_refInt xe W' hx9.2.2.1 hx9.2.2.2).mono ?_⟩
      · simp [go_sem, Act.eval, hE]
        try rfl
      · rintro e w' ⟨v, rfl, hB, hR⟩
        exact ⟨_, rfl, hR, hB⟩
    apply nd_alloc W21.heap.size #[.bool false, .slice none 0 0] 115 rfl rfl
    · exact fun W' hC => hC.1.size
    · simp [others] <;> omega
    · intro w; kernel_rfl
    apply nd_alloc W21.heap.size #[.bool false, .slice none 0 0] 115 rfl rfl
    · exact fun W' hC => hC.1.size
    · simp [others] <;> omega
    · intro w; kernel_rfl
    apply nd_alloc W21.heap.size #[.bool false, .slice none 0 0] 115 rfl rfl
    · exact fun W' hC => hC.1.size
    · simp [others] <;> omega
    · intro w; kernel_rfl
    rintro W2 ⟨hR, d1, d2, d3⟩
    simp only [ndFinR, Det, forall_eq]
    intros
    repeat (rename GDet _ _ _ _ => hgd; clear hgd)
    simp only [Act.put, List.setIfInBounds_toArray, List.set_cons_zero, List.set_cons_succ, List.drop_succ_cons, List.drop_zero]
    have hP0 := Lib.hid b3
    have hB20 := hR.of_priv (Nat.le_refl _)
    clear b1 b2 b3
    have b1 := d1
    have b2 := d2
    have b3 := d3
    clear d1 d2 d3
    replace hW := hW.trans (hR.of_priv hW.size)
    clear hR
    rename AllocApart _ _ => hap
    rename NewVar _ _ _ _ _ => hn
    obtain ⟨o16, rfl, hg16, b6⟩ := hn
    rename NewVar _ _ _ _ _ => hn
    obtain ⟨o15, rfl, hg15, b5⟩ := hn
    rename NewVar _ _ _ _ _ => hn
    obtain ⟨o14, rfl, hg14, b4⟩ := hn
    have h1415 : o14 ≠ o15 := fun e => hap 14 15 (by simp [allocDsts, isAlloc]) (by simp [allocDsts, isAlloc]) (by decide) ⟨o14, 0, none⟩ (by simp [Act.put]) (by simp [Act.put, e])
    have h1416 : o14 ≠ o16 := fun e => hap 14 16 (by simp [allocDsts, isAlloc]) (by simp [allocDsts, isAlloc]) (by decide) ⟨o14, 0, none⟩ (by simp [Act.put]) (by simp [Act.put, e])
    have h1516 : o15 ≠ o16 := fun e => hap 15 16 (by simp [allocDsts, isAlloc]) (by simp [allocDsts, isAlloc]) (by decide) ⟨o15, 0, none⟩ (by simp [Act.put]) (by simp [Act.put, e])
    clear hap
    rename NI v _ _ => hi1
    rename NI xv _ _ => hi2
    rename NI xe _ _ => hi3
    obtain ⟨p1, l1, c1, rfl, hq1⟩ := num_shape hi1
    obtain ⟨p2, l2, c2, rfl, hq2⟩ := num_shape hi2
    obtain ⟨p3, l3, c3, rfl, hq3⟩ := num_shape hi3
    clear hi1 hi2 hi3
    have e5 := (Blk.setO (g := o14) (Blk.setO (g := o14) b5 (by omega) 0 (.bool (decide (v < 0)))) (by omega) 1 (.slice p1 l1 c1))
    have e6 := (Blk.setO (g := o15) (Blk.setO (g := o15) ((Blk.setO (g := o14) (Blk.setO (g := o14) b6 (by omega) 0 (.bool (decide (v < 0)))) (by omega) 1 (.slice p1 l1 c1))) (by omega) 0 (.bool (decide (xv < 0)))) (by omega) 1 (.slice p2 l2 c2))
    have hS1 := Lib.hid (((hq1.store b4 (.bool (decide (v < 0))) (.slice p1 l1 c1)).store e5 (.bool (decide (xv < 0))) (.slice p2 l2 c2)).store e6 (.bool (decide (xe < 0))) (.slice p3 l3 c3))
    have hS2 := Lib.hid (((hq2.store b4 (.bool (decide (v < 0))) (.slice p1 l1 c1)).store e5 (.bool (decide (xv < 0))) (.slice p2 l2 c2)).store e6 (.bool (decide (xe < 0))) (.slice p3 l3 c3))
    have hS3 := Lib.hid (((hq3.store b4 (.bool (decide (v < 0))) (.slice p1 l1 c1)).store e5 (.bool (decide (xv < 0))) (.slice p2 l2 c2)).store e6 (.bool (decide (xe < 0))) (.slice p3 l3 c3))
    clear hq1 hq2 hq3 e5 e6
    have yb1 := b1.lt
    have yb2 := b2.lt
    have yb4 := b4.lt
    have yb5 := b5.lt
    have yb6 := b6.lt
    have zz9 := hW.size
    have k1 := b1.cell
    have f1 := b1.frozen
    have k2 := b2.cell
    have f2 := b2.frozen
    have k4 := b4.cell
    have f4 := b4.frozen
    have k5 := b5.cell
    have f5 := b5.frozen
    have k6 := b6.cell
    have f6 := b6.frozen
    have hP9 := Lib.hid b3
    go_upto_region 10 with (fail)
    clear k1 f1 k2 f2 k4 f4 k5 f5 k6 f6
    refine wp_cutB w (Bc w.heap.size #[.string r.name, .int .i64 r.eps, .int .i64 r.floor, .int .i64 r.last, .int .i64 r.scale, .slice p r.pts.length cap] 35 <| Bc W.heap.size #[.int .i64 xt, .int .i64 xv, .int .i64 xe] 64 <| Rc (fun W' => PtsP W' bq oq L) <| Bc o14 #[.bool (decide (v < 0)), .slice p1 l1 c1] 115 <| Bc o15 #[.bool (decide (xv < 0)), .slice p2 l2 c2] 115 <| Bc o16 #[.bool (decide (xe < 0)), .slice p3 l3 c3] 115 <| Rc (fun W' => Bits W' (.slice p1 l1 c1) (v).natAbs) <| Rc (fun W' => Bits W' (.slice p2 l2 c2) (xv).natAbs) <| Rc (fun W' => Bits W' (.slice p3 l3 c3) (xe).natAbs) <| Bz) ?_ (hI := by exact belowAny) (hR := (Bc.mk (by exact blkAny2) <| Bc.mk (by exact blkAny2) <| Rc.mk (by exact hP0.out.below (by exact belowAny)) <| Bc.mk (by exact blkAny2) <| Bc.mk (by exact blkAny2) <| Bc.mk (by exact blkAny2) <| Rc.mk (by exact hS1.out) <| Rc.mk (by exact hS2.out) <| Rc.mk (by exact hS3.out) <| trivial))
    clear b1 b2 b3 b4 b5 b6 hW
    rintro W23 hW z24 hL
    obtain ⟨⟨b1, yb1, k1, f1⟩, ⟨b2, yb2, k2, f2⟩, b3, ⟨b4, yb4, k4, f4⟩, ⟨b5, yb5, k5, f5⟩, ⟨b6, yb6, k6, f6⟩, b7, b8, b9, -⟩ := id hL
    clear k1 f1 k2 f2 k4 f4 k5 f5 k6 f6
    refine wp_regD 34 94 hW hL ?_
    iterate 9 refine dE (fun W' hC => aI (hC.2.2.2.1.cellAt tr.out) hL9) ?_
    iterate 3 refine gE (fun W' hC => aI (hC.2.2.2.1.cellAt tr.out) hL9) ?_
    refine pO ?_
    refine dE (fun W' hC => aI (hC.2.2.2.1.cellAt tr.out) hL9) ?_
    iterate 5 refine gE (fun W' hC => aI (hC.2.2.2.1.cellAt tr.out) hL9) ?_
    refine pO ?_
    refine dE (fun W' hC => aI (hC.2.2.2.1.cellAt tr.out) hL9) ?_
    iterate 2 refine gE (fun W' hC => aI (hC.2.2.2.1.cellAt tr.out) hL9) ?_
    apply nd_gcall (NI (xv + xe)) (p := true) (hg := rfl) (hd := rfl) (hal := rfl)
    · exact NI.closed _
    · intro v W' h
      simp [envOf, Det] at h
      simp
      exact h
    · intro hp hx a' W' hC hE
      obtain ⟨_, ⟨-, -, k1, -⟩, ⟨-, -, k2, -⟩, k3, ⟨-, -, k4, -⟩, ⟨-, -, k5, -⟩, ⟨-, -, k6, -⟩, k7, k8, k9, -⟩ := hC
      simp [Oper.looksAt, Op.operands, Call.operands, envOf, Det, GDet, GS, hx] at hE
      refine ⟨_, _, ?_, (c_refAdd (.agg #[.bool (decide (xv < 0)), .slice p2 l2 c2]) (.agg #[.bool (decide (xe < 0)), .slice p3 l3 c3]) _ _ W' ⟨_, rfl, k8⟩ ⟨_, rfl, k9⟩ hb2.out hb3.out).mono ?_⟩
      · simp [go_sem, Act.eval, hE]
        try rfl
      · rintro e w' ⟨v, rfl, hB, hR⟩
        exact ⟨_, rfl, hR, hB⟩
    refine gE (fun W' hC => aI (hC.2.2.2.1.cellAt tr.out) hL9) ?_
    apply nd_callvg (p := true) (c := .bool (decide (xv + xe < v))) (hg := rfl) (hd := rfl) (hal := rfl)
    · intro v W' h
      simp [envOf, Det] at h
      simp
      exact h
    · intro hp hx a' W' hC hE
      obtain ⟨_, ⟨-, -, k1, -⟩, ⟨-, -, k2, -⟩, k3, ⟨-, -, k4, -⟩, ⟨-, -, k5, -⟩, ⟨-, -, k6, -⟩, k7, k8, k9, -⟩ := hC
      simp [Oper.looksAt, Op.operands, Call.operands, envOf, Det, GDet, GS, hx] at hE
      refine ⟨_, _, ?_, (c_refLess _ (.agg #[.bool (decide (v < 0)), .slice p1 l1 c1]) _ _ W' hE.1 ⟨_, rfl, k7⟩ hb4.out hb1.out)⟩
      simp [go_sem, Act.eval, hE.2]
      try rfl
    refine pO ?_
    refine dE (fun W' hC => aI (hC.2.2.2.1.cellAt tr.out) hL9) ?_
    iterate 3 refine gE (fun W' hC => aI (hC.2.2.2.1.cellAt tr.out) hL9) ?_
    apply nd_gcall (NI (xv - xe)) (p := true) (hg := rfl) (hd := rfl) (hal := rfl)
    · exact NI.closed _
    · intro v W' h
      simp [envOf, Det] at h
      simp
      exact h
    · intro hp hx a' W' hC hE
      obtain ⟨_, ⟨-, -, k1, -⟩, ⟨-, -, k2, -⟩, k3, ⟨-, -, k4, -⟩, ⟨-, -, k5, -⟩, ⟨-, -, k6, -⟩, k7, k8, k9, -⟩ := hC
      simp [Oper.looksAt, Op.operands, Call.operands, envOf, Det, GDet, GS, hx] at hE
      refine ⟨_, _, ?_, (c_refSub (.agg #[.bool (decide (xv < 0)), .slice p2 l2 c2]) (.agg #[.bool (decide (xe < 0)), .slice p3 l3 c3]) _ _ W' ⟨_, rfl, k8⟩ ⟨_, rfl, k9⟩ hb2.out hb3.out).mono ?_⟩
      · simp [go_sem, Act.eval, hE]
        try rfl
      · rintro e w' ⟨v, rfl, hB, hR⟩
        exact ⟨_, rfl, hR, hB⟩
    apply nd_callvg (p := true) (c := .bool (decide (v < xv - xe))) (hg := rfl) (hd := rfl) (hal := rfl)
    · intro v W' h
      simp [envOf, Det] at h
      simp
      exact h
    · intro hp hx a' W' hC hE
      obtain ⟨_, ⟨-, -, k1, -⟩, ⟨-, -, k2, -⟩, k3, ⟨-, -, k4, -⟩, ⟨-, -, k5, -⟩, ⟨-, -, k6, -⟩, k7, k8, k9, -⟩ := hC
      simp [Oper.looksAt, Op.operands, Call.operands, envOf, Det, GDet, GS, hx] at hE
      refine ⟨_, _, ?_, (c_refLess (.agg #[.bool (decide (v < 0)), .slice p1 l1 c1]) _ _ _ W' ⟨_, rfl, k7⟩ hE.2.1 hb1.out hb5.out)⟩
      simp [go_sem, Act.eval, hE.1]
      try rfl
    refine pO ?_
    clear hW hL b1 b2 b3 b4 b5 b6 b7 b8 b9
    rintro W25 hW z26 hL
    simp only [ndR]
    intros
    repeat (rename GDet _ _ _ _ => hgd; clear hgd)
    simp only [ndS]
    refine wpList_nil ?_
    obtain ⟨⟨b1, yb1, k1, f1⟩, ⟨b2, yb2, k2, f2⟩, b3, ⟨b4, yb4, k4, f4⟩, ⟨b5, yb5, k5, f5⟩, ⟨b6, yb6, k6, f6⟩, b7, b8, b9, -⟩ := hL
    rw [hv.out]
    cases F with
    | false =>
      go_wp2
      go_ret
      exact ⟨by rw [hno.out (by trivial)]; rfl, by exact belowAny⟩
    | true =>
      go_wp2
      rw [show (i : Int) + 1 = ((i + 1 : Nat) : Int) by omega]
      refine ⟨?_, by simp [intAt]; omega⟩
      unfold rsRel
      exact ⟨hW, b1, b3.1, i + 1, frame_ex rfl, hst.out, by omega⟩
  · obtain rfl : i = l.length := by omega
    rw [hl.out, List.take_of_length_le (Nat.le_refl _)] at hall
    have hres := Lib.hid (show RES = true by rw [← hRES.out]; exact hall)
    clear hall hRES
    go_wp2
    go_ret
    exact ⟨by rw [hres.out]; rfl, by exact belowAny⟩
end Go.Proofs.YtdeghcgakkhbmaaGreat
namespace Go.Proofs.YtdeghcgakkhbmaaGreat
open Go.RowKit
/-- The segments of which points are told. -/
def PtsDom (s : SegT) : Prop := (s.K = 4 ∧ (s.raw.length : Int) = cnt s.runs) ∨ (s.K ≠ 4 ∧ isLine s.A s.R s.n s.d = true)
end Go.Proofs.YtdeghcgakkhbmaaGreat
namespace Go.Proofs.YtdeghcgakkhbmaaGreat
open Go.RowKit
set_option maxRecDepth 100000 in
set_option maxHeartbeats 2000000 in
theorem c_r18Letter (r : Nat) (w : World) : Calls Tryz.prog 103 #[.int .u8 r] w fun e w' => e = .returned (.bool (letterB r)) ∧ Below w.heap.size w w' := by
  go_enter Tryz.func103, Tryz.ntmps103
  go_upto_region 1 with (fail)
  refine wp_cutB w (Bz) ?_
  rintro W1 hW z2 hL
  refine wp_regS 15 17 hW hL ?_
  iterate 3 refine dA ?_
  iterate 2 refine gA ?_
  refine pA ?_
  refine dA ?_
  iterate 3 refine gA ?_
  iterate 2 refine gB ?_
  refine pgA ?_
  refine pO ?_
  refine dA ?_
  clear hW hL
  rintro W3 hW z4 hL
  simp only [ndR]
  intros
  repeat (rename GDet _ _ _ _ => hgd; clear hgd)
  simp only [ndS]
  refine wpList_nil ?_
  obtain ⟨-⟩ := hL
  go_wp2
  refine bodyPost_ret (v := .bool ((decide (97 ≤ (r : Int)) && decide ((r : Int) ≤ 122)) || (decide (48 ≤ (r : Int)) && decide ((r : Int) ≤ 57)))) (by simp [results, Tryz.results103, go_sem]) rfl ⟨?_, by exact belowAny⟩
  congr 2
  unfold letterB
  rw [Bool.eq_iff_iff]
  simp only [Bool.or_eq_true, Bool.and_eq_true, decide_eq_true_eq]
  omega
set_option maxRecDepth 100000 in
set_option maxHeartbeats 2000000 in
theorem c_r18Time (n : Int) (w : World) : Calls Tryz.prog 55 #[.int .i64 n] w fun e w' => e = .returned (.bool (btw n (0) 281474976710656)) ∧ Below w.heap.size w w' := by
  unfold btw
  go_enter Tryz.func55, Tryz.ntmps55
  go_upto_region 1 with (fail)
  refine wp_cutB w (Bz) ?_
  rintro W1 hW z2 hL
  refine wp_regS 7 9 hW hL ?_
  iterate 3 refine dA ?_
  iterate 2 refine gA ?_
  refine pA ?_
  refine dA ?_
  clear hW hL
  rintro W3 hW z4 hL
  simp only [ndR]
  intros
  repeat (rename GDet _ _ _ _ => hgd; clear hgd)
  simp only [ndS]
  refine wpList_nil ?_
  obtain ⟨-⟩ := hL
  go_wp2
  refine bodyPost_ret (by simp [results, Tryz.results55, go_sem]) rfl ⟨rfl, by exact belowAny⟩
set_option maxRecDepth 100000 in
set_option maxHeartbeats 2000000 in
theorem c_r13Eps (n : Int) (w : World) : Calls Tryz.prog 57 #[.int .i64 n] w fun e w' => e = .returned (.bool (btw n (0) 1099511627776)) ∧ Below w.heap.size w w' := by
  unfold btw
  go_enter Tryz.func57, Tryz.ntmps57
  go_upto_region 1 with (fail)
  refine wp_cutB w (Bz) ?_
  rintro W1 hW z2 hL
  refine wp_regS 7 9 hW hL ?_
  iterate 3 refine dA ?_
  iterate 2 refine gA ?_
  refine pA ?_
  refine dA ?_
  clear hW hL
  rintro W3 hW z4 hL
  simp only [ndR]
  intros
  repeat (rename GDet _ _ _ _ => hgd; clear hgd)
  simp only [ndS]
  refine wpList_nil ?_
  obtain ⟨-⟩ := hL
  go_wp2
  refine bodyPost_ret (by simp [results, Tryz.results57, go_sem]) rfl ⟨rfl, by exact belowAny⟩
set_option maxRecDepth 100000 in
set_option maxHeartbeats 2000000 in
theorem c_r24Scale (n : Int) (w : World) : Calls Tryz.prog 58 #[.int .i64 n] w fun e w' => e = .returned (.bool (btw n (-40) 40)) ∧ Below w.heap.size w w' := by
  unfold btw
  go_enter Tryz.func58, Tryz.ntmps58
  go_upto_region 1 with (fail)
  refine wp_cutB w (Bz) ?_
  rintro W1 hW z2 hL
  refine wp_regS 7 9 hW hL ?_
  iterate 3 refine dA ?_
  iterate 2 refine gA ?_
  refine pA ?_
  refine dA ?_
  clear hW hL
  rintro W3 hW z4 hL
  simp only [ndR]
  intros
  repeat (rename GDet _ _ _ _ => hgd; clear hgd)
  simp only [ndS]
  refine wpList_nil ?_
  obtain ⟨-⟩ := hL
  go_wp2
  refine bodyPost_ret (by simp [results, Tryz.results58, go_sem]) rfl ⟨rfl, by exact belowAny⟩
set_option maxRecDepth 100000 in
set_option maxHeartbeats 2000000 in
theorem c_r13Point (t v : Int) (w : World) : Calls Tryz.prog 59 #[.agg #[.int .i64 t, .int .i64 v]] w fun e w' => e = .returned (.bool (btw t 0 281474976710656 && btw v (-2305843009213693952) 2305843009213693952)) ∧ Below w.heap.size w w' := by
  unfold btw
  rw [← Bool.and_assoc]
  go_enter Tryz.func59, Tryz.ntmps59
  go_upto_region 1 with (fail)
  refine wp_cutB w (Bc w.heap.size #[.int .i64 t, .int .i64 v] 58 <| Bz) ?_
  rintro W1 hW z2 hL
  refine wp_regS 19 21 hW hL ?_
  iterate 4 refine dA ?_
  iterate 3 refine gA ?_
  refine pA ?_
  refine dA ?_
  iterate 3 refine gA ?_
  refine pA ?_
  refine dA ?_
  iterate 3 refine gA ?_
  refine pA ?_
  refine dA ?_
  clear hW hL
  rintro W3 hW z4 hL
  simp only [ndR]
  intros
  repeat (rename GDet _ _ _ _ => hgd; clear hgd)
  simp only [ndS]
  refine wpList_nil ?_
  obtain ⟨⟨b1, yb1, k1, f1⟩, -⟩ := hL
  go_wp2
  refine bodyPost_ret (by simp [results, Tryz.results59, go_sem, k1, f1, yb1]) rfl ⟨rfl, by exact belowAny⟩
theorem let_step (s : ByteArray) (f pos : Nat) (h : pos < s.size) : lettersB s (f + 1) pos = (letterB (s[pos]'h).toNat && lettersB s f (pos + 1)) := by
  have e : lettersB s (f + 1) pos = (letterB (Utf8.decode s pos).1 && lettersB s f (pos + (Utf8.decode s pos).2)) := by simp [lettersB, h]
  rw [e]
  by_cases ha : (s[pos]'h).toNat < 128
  · rw [decode_ascii s pos h ha]
  · have h1 := (decode_high s pos h (by omega)).1
    have n1 : letterB (Utf8.decode s pos).1 = false := by unfold letterB; simp; omega
    have n2 : letterB (s[pos]'h).toNat = false := by unfold letterB; simp; omega
    rw [n1, n2, Bool.false_and, Bool.false_and]
def nm18Rel (w : World) (s : ByteArray) (a' : Act) (W : World) : Prop :=
  Below w.heap.size w W ∧ ∃ i f : Nat, (∃ u : Nat → Value, a' = { tmps := #[.string s, u 1, u 2, u 3, .string s, .int .i64 (s.size : Int), .int .i64 (i : Int), u 7, u 8, u 9, u 10, u 11, u 12, u 13, u 14, u 15, u 16, u 17, u 18, u 19, u 20, u 21, u 22], defers := [] }) ∧ s.size ≤ i + f ∧ lettersB s f i = lettersB s s.size 0 ∧ i ≤ s.size
set_option maxRecDepth 100000 in
set_option maxHeartbeats 2000000 in
theorem c_r18Name (s : ByteArray) (w : World) (hs9 : s.size ≤ 1000) : Calls Tryz.prog 56 #[.string s] w fun e w' => e = .returned (.bool (nameB s)) ∧ Below w.heap.size w w' := by
  go_enter Tryz.func56, Tryz.ntmps56
  go_wp2
  refine wp_loop (nm18Rel w s) (fun a' _ => s.size - (intAt (a'.tmps.getD 6 undef)).toNat) ?_ ?_
  · unfold nm18Rel
    exact ⟨Below.refl _ _, 0, s.size, frame_ex rfl, by omega, rfl, by omega⟩
  · rintro a' W ⟨hW, i, f, ⟨u, rfl⟩, hf, hlet, hi⟩
    have hz := hW.size
    rcases Nat.lt_or_ge i s.size with hlt | hge
    · obtain ⟨f, rfl⟩ : ∃ g, f = g + 1 := ⟨f - 1, by omega⟩
      rw [let_step s f i hlt] at hlet
      obtain ⟨c, hc⟩ : ∃ c, (s[i]'hlt).toNat = c := ⟨_, rfl⟩
      have hix : ∀ W, (Instr.index 9 (.string s) (.int .i64 (i : Int))).run Tryz.prog W = .ok (.int .u8 (c : Int)) W := fun W => by
        rw [run_index_string _ _ _ _ _ (by kernel_rfl), dif_pos (by omega)]
        simp only [Int.toNat_natCast, hc]
      rw [hc] at hlet
      have cl := fun W => c_r18Letter c W
      obtain ⟨b, hb⟩ : ∃ b, letterB c = b := ⟨_, rfl⟩
      rw [hb] at cl hlet
      clear hc hb
      replace cl := Lib.hid cl
      replace hlet := Lib.hid hlet
      cases b with
      | true =>
        go_wp2_with fail
        refine (cl.out _).mono ?_
        rintro e w5 ⟨rfl, hb5⟩
        go_wp2
        rw [show (i : Int) + 1 = ((i + 1 : Nat) : Int) by omega]
        refine ⟨?_, by simp [intAt]; omega⟩
        unfold nm18Rel
        exact ⟨hW.trans (hb5.mono hz), i + 1, f, frame_ex rfl, by omega, by rw [← hlet.out]; rfl, by omega⟩
      | false =>
        have hno := Lib.hid (show nameB s = false by unfold nameB; rw [← hlet.out]; simp)
        go_wp2_with fail
        refine (cl.out _).mono ?_
        rintro e w5 ⟨rfl, hb5⟩
        go_wp2
        go_ret
        exact ⟨by rw [hno.out]; rfl, hW.trans (hb5.mono hz)⟩
    · have hall : lettersB s s.size 0 = true := by
        rw [← hlet]
        cases f with
        | zero => rfl
        | succ f => simp [lettersB, Nat.not_lt.2 hge]
      clear hlet
      have hnm : nameB s = (decide (1 ≤ (s.size : Int)) && decide ((s.size : Int) ≤ 12)) := by
        unfold nameB
        rw [hall, Bool.and_true, Bool.eq_iff_iff]
        simp only [Bool.and_eq_true, decide_eq_true_eq]
        omega
      replace hnm := Lib.hid hnm
      clear hall
      go_upto_region 7 with (fail)
      refine wp_cutB w (Bz) ?_
      clear hW
      rintro W21 hW z22 hL
      refine wp_regS 9 23 hW hL ?_
      iterate 4 refine dA ?_
      iterate 3 refine gA ?_
      refine pA ?_
      refine dA ?_
      clear hW hL
      rintro W23 hW z24 hL
      simp only [ndR]
      intros
      repeat (rename GDet _ _ _ _ => hgd; clear hgd)
      simp only [ndS]
      refine wpList_nil ?_
      obtain ⟨-⟩ := hL
      go_wp2
      refine bodyPost_ret (v := .bool (decide (1 ≤ (s.size : Int)) && decide ((s.size : Int) ≤ 12))) (by simp [results, Tryz.results56, go_sem]) rfl ⟨by rw [hnm.out], by exact belowAny⟩
end Go.Proofs.YtdeghcgakkhbmaaGreat
