/- Parts of the proof that follows: The laws of chapter 28: ModelHolds' walk. No condition. | The document's models: the points of some times; how wide a span is, whether a number lies in it; a mixed number. | The document's models: a mixed number times a count; what points come to. | The document's models: whether a mean, a sum holds. | The document's models: whether a sum holds. -/
import Derived.Test.YtdeghcgakkhbmaaGreatHs18
set_option linter.unusedSimpArgs false
set_option linter.unusedVariables false
namespace Go.Proofs.YtdeghcgakkhbmaaGreat
open Go.RowKit
def BkS (N : Nat) (l : List (Int × Int × Int)) : Spec := fun v w => ∃ p c, v = .slice p N c ∧ BksIn w p l ∧ N ≤ c
theorem BkS.closed (N : Nat) (l : List (Int × Int × Int)) : Closed [] (BkS N l) := fun _ _ _ hr ⟨p, c, e, h, h2⟩ => ⟨p, c, e, h.rex hr rfl, h2⟩
def RawSp (r : RawT) : Spec := fun v w => ∃ p2 c2, v = .agg #[.string r.name, .int .i64 r.eps, .int .i64 r.floor, .int .i64 r.last, .int .i64 r.scale, .slice p2 r.pts.length c2] ∧ PtsIn w p2 r.pts
theorem RawSp.closed (r : RawT) : Closed [] (RawSp r) := fun _ _ _ hr ⟨p, c, e, h⟩ => ⟨p, c, e, h.rex hr rfl⟩
set_option maxRecDepth 100000 in
set_option maxHeartbeats 2000000 in
theorem mholds_w (q r : RawT) (p : Option Addr) (cap : Nat) (k a b er cn lo up mc lw lr hw hr slo sup serr : Int) (sp : Option Addr) (sn scap N : Nat) (l : List (Int × Int × Int)) (Q H1 H2 H3 V1 V2 V3 : Bool) (w : World) (EN : Hid ((if (1025 : Int) < (sn : Int) then (1025 : Int) else sn) = (N : Int))) (hNc : (N : Int) ≤ scap) (hN0 : 0 ≤ (N : Int))
    (h1 : Hid ((((Q && decide (1 ≤ k)) && decide (k ≤ 5)) && H1) = V1)) (h2 : Hid ((Q && H2) = V2)) (h3 : Hid ((Q && H3) = V3))
    (c1 : ∀ W, Below w.heap.size w W → Calls Tryz.prog 8 #[] W fun e w' => e = .returned (.bool true) ∧ Below W.heap.size W w')
        (c2 : ∀ W, Below w.heap.size w W → Calls Tryz.prog 14 #[.agg #[.string q.name, .int .i64 q.eps, .int .i64 q.floor, .int .i64 q.last, .int .i64 q.scale, .slice p q.pts.length cap]] W fun e w' => ∃ p' cap', e = .returned (.agg #[.string r.name, .int .i64 r.eps, .int .i64 r.floor, .int .i64 r.last, .int .i64 r.scale, .slice p' r.pts.length cap']) ∧ Below W.heap.size W w' ∧ PtsIn w' p' r.pts)
        (c3 : ∀ W p' cap', PtsIn W p' r.pts → Calls Tryz.prog 21 #[.agg #[.string r.name, .int .i64 r.eps, .int .i64 r.floor, .int .i64 r.last, .int .i64 r.scale, .slice p' r.pts.length cap']] W fun e w' => e = .returned (.bool Q) ∧ Below W.heap.size W w')
        (c4 : ∀ W, Below w.heap.size w W → Calls Tryz.prog 22 #[.slice sp N scap] W fun e w' => ∃ v, e = .returned v ∧ Below W.heap.size W w' ∧ BkS N l v w')
        (cH : Q = true → 1 ≤ k → k ≤ 5 → ∀ W p' cap', PtsIn W p' r.pts → Calls Tryz.prog 23 #[.agg #[.string r.name, .int .i64 r.eps, .int .i64 r.floor, .int .i64 r.last, .int .i64 r.scale, .slice p' r.pts.length cap'], .int .i64 k, .int .i64 a, .int .i64 b, .agg #[.int .i64 er, .int .i64 cn, .int .i64 lo, .int .i64 up, .int .i64 mc, .int .i64 lw, .int .i64 lr, .int .i64 hw, .int .i64 hr]] W fun e w' => e = .returned (.bool H1) ∧ Below W.heap.size W w')
        (cA : Q = true → ∀ W p' cap', PtsIn W p' r.pts → Calls Tryz.prog 24 #[.agg #[.string r.name, .int .i64 r.eps, .int .i64 r.floor, .int .i64 r.last, .int .i64 r.scale, .slice p' r.pts.length cap'], .int .i64 a, .agg #[.int .i64 slo, .int .i64 sup], .int .i64 serr] W fun e w' => e = .returned (.bool H2) ∧ Below W.heap.size W w')
        (cC : Q = true → ∀ W p' cap' q7 c7, PtsIn W p' r.pts → BksIn W q7 l → N ≤ c7 → Calls Tryz.prog 25 #[.agg #[.string r.name, .int .i64 r.eps, .int .i64 r.floor, .int .i64 r.last, .int .i64 r.scale, .slice p' r.pts.length cap'], .int .i64 a, .int .i64 b, .slice q7 N c7, .int .i64 serr] W fun e w' => e = .returned (.bool H3) ∧ Below W.heap.size W w')
        (mH : ∀ W p' cap', PtsIn W p' r.pts → Calls Tryz.prog 15 #[.agg #[.string r.name, .int .i64 r.eps, .int .i64 r.floor, .int .i64 r.last, .int .i64 r.scale, .slice p' r.pts.length cap'], .int .i64 k, .int .i64 a, .int .i64 b, .agg #[.int .i64 er, .int .i64 cn, .int .i64 lo, .int .i64 up, .int .i64 mc, .int .i64 lw, .int .i64 lr, .int .i64 hw, .int .i64 hr]] W fun e w' => e = .returned (.bool V1) ∧ Below W.heap.size W w')
        (mA : ∀ W p' cap', PtsIn W p' r.pts → Calls Tryz.prog 26 #[.agg #[.string r.name, .int .i64 r.eps, .int .i64 r.floor, .int .i64 r.last, .int .i64 r.scale, .slice p' r.pts.length cap'], .int .i64 a, .agg #[.int .i64 slo, .int .i64 sup], .int .i64 serr] W fun e w' => e = .returned (.bool V2) ∧ Below W.heap.size W w')
        (mC : ∀ W p' cap' q7 c7, PtsIn W p' r.pts → BksIn W q7 l → N ≤ c7 → Calls Tryz.prog 27 #[.agg #[.string r.name, .int .i64 r.eps, .int .i64 r.floor, .int .i64 r.last, .int .i64 r.scale, .slice p' r.pts.length cap'], .int .i64 a, .int .i64 b, .slice q7 N c7, .int .i64 serr] W fun e w' => e = .returned (.bool V3) ∧ Below W.heap.size W w')
        (cS : ∀ W p' cap' p2 c2, PtsIn W p' r.pts → PtsIn W p2 r.pts → Calls Tryz.prog 28 #[.agg #[.string r.name, .int .i64 r.eps, .int .i64 r.floor, .int .i64 r.last, .int .i64 r.scale, .slice p' r.pts.length cap'], .agg #[.string r.name, .int .i64 r.eps, .int .i64 r.floor, .int .i64 r.last, .int .i64 r.scale, .slice p2 r.pts.length c2]] W fun e w' => e = .returned (.bool true) ∧ Below W.heap.size W w')
        (cE : ∀ W q7 c7, Below w.heap.size w W → BksIn W q7 l → Calls Tryz.prog 29 #[.slice q7 N c7, .slice sp N scap] W fun e w' => e = .returned (.bool true) ∧ Below W.heap.size W w') :
    Calls Tryz.prog 6 #[.agg #[.string q.name, .int .i64 q.eps, .int .i64 q.floor, .int .i64 q.last, .int .i64 q.scale, .slice p q.pts.length cap], .agg #[.int .i64 k, .int .i64 a, .int .i64 b, .int .i64 er, .int .i64 cn, .int .i64 lo, .int .i64 up, .int .i64 mc, .int .i64 lw, .int .i64 lr, .int .i64 hw, .int .i64 hr, .int .i64 slo, .int .i64 sup, .int .i64 serr, .slice sp sn scap]] w fun e w' => e = .returned (.bool true) ∧ Below w.heap.size w w' := by
  have H_c1 := Lib.hid c1
  clear c1
  go_enter Tryz.func6, Tryz.ntmps6
  replace c2 := Lib.hid c2
  replace c3 := Lib.hid c3
  replace c4 := Lib.hid c4
  replace cH := Lib.hid cH
  replace cA := Lib.hid cA
  replace cC := Lib.hid cC
  replace mH := Lib.hid mH
  replace mA := Lib.hid mA
  replace mC := Lib.hid mC
  replace cS := Lib.hid cS
  replace cE := Lib.hid cE
  go_wp2_with fail
  refine (H_c1.out _ belowAny).mono ?_
  rintro e w1 ⟨rfl, hb1⟩
  have z2 := hb1.size
  try simp at z2
  refine haveB w w1 (Bc w.heap.size #[.string q.name, .int .i64 q.eps, .int .i64 q.floor, .int .i64 q.last, .int .i64 q.scale, .slice p q.pts.length cap] 35 <| Bc (w.heap.size + 1) #[.int .i64 k, .int .i64 a, .int .i64 b, .int .i64 er, .int .i64 cn, .int .i64 lo, .int .i64 up, .int .i64 mc, .int .i64 lw, .int .i64 lr, .int .i64 hw, .int .i64 hr, .int .i64 slo, .int .i64 sup, .int .i64 serr, .slice sp sn scap] 47 <| Bz) ?_
  rintro hW z3 ⟨⟨b1, yb1, k1, f1⟩, ⟨b2, yb2, k2, f2⟩, -⟩
  clear hb1
  go_wp2_with fail
  refine (c2.out _ belowAny).mono ?_
  rintro e w4 ⟨p', cap', rfl, hb4, hs⟩
  have z5 := hb4.size
  try simp at z5
  clear k1 f1 k2 f2
  refine haveB w w4 (Bc w.heap.size #[.string q.name, .int .i64 q.eps, .int .i64 q.floor, .int .i64 q.last, .int .i64 q.scale, .slice p q.pts.length cap] 35 <| Bc (w.heap.size + 1) #[.int .i64 k, .int .i64 a, .int .i64 b, .int .i64 er, .int .i64 cn, .int .i64 lo, .int .i64 up, .int .i64 mc, .int .i64 lw, .int .i64 lr, .int .i64 hw, .int .i64 hr, .int .i64 slo, .int .i64 sup, .int .i64 serr, .slice sp sn scap] 47 <| Bz) ?_
  clear b1 b2 hW
  rintro hW z6 ⟨⟨b1, yb1, k1, f1⟩, ⟨b2, yb2, k2, f2⟩, -⟩
  have b3 := hs
  clear hs
  go_wp2_with fail
  refine (c3.out _ p' cap' (PtsIn.below b3 (by exact belowAny))).mono ?_
  rintro e w7 ⟨rfl, hb7⟩
  have z8 := hb7.size
  try simp at z8
  clear k1 f1 k2 f2
  refine haveB w w7 (Bc w.heap.size #[.string q.name, .int .i64 q.eps, .int .i64 q.floor, .int .i64 q.last, .int .i64 q.scale, .slice p q.pts.length cap] 35 <| Bc (w.heap.size + 1) #[.int .i64 k, .int .i64 a, .int .i64 b, .int .i64 er, .int .i64 cn, .int .i64 lo, .int .i64 up, .int .i64 mc, .int .i64 lw, .int .i64 lr, .int .i64 hw, .int .i64 hr, .int .i64 slo, .int .i64 sup, .int .i64 serr, .slice sp sn scap] 47 <| Rc (fun W' => PtsIn W' p' r.pts) <| Bc w4.heap.size #[.string r.name, .int .i64 r.eps, .int .i64 r.floor, .int .i64 r.last, .int .i64 r.scale, .slice p' r.pts.length cap'] 35 <| Bz) ?_ (hR := (Bc.mk (by exact blkAny2) <| Bc.mk (by exact blkAny2) <| Rc.mk (by first | exact b3 | exact PtsIn.below (PtsIn.below b3 (by exact belowAny)) hb7 | exact PtsIn.below b3 (by exact belowAny)) <| Bc.mk (by exact blkAny2) <| trivial))
  clear b1 b2 b3 hW
  rintro hW z9 ⟨⟨b1, yb1, k1, f1⟩, ⟨b2, yb2, k2, f2⟩, b3, ⟨b4, yb4, k4, f4⟩, -⟩
  go_upto_region 5 with (fail)
  clear k1 f1 k2 f2 k4 f4
  refine wp_cutB w (Bc w.heap.size #[.string q.name, .int .i64 q.eps, .int .i64 q.floor, .int .i64 q.last, .int .i64 q.scale, .slice p q.pts.length cap] 35 <| Bc (w.heap.size + 1) #[.int .i64 k, .int .i64 a, .int .i64 b, .int .i64 er, .int .i64 cn, .int .i64 lo, .int .i64 up, .int .i64 mc, .int .i64 lw, .int .i64 lr, .int .i64 hw, .int .i64 hr, .int .i64 slo, .int .i64 sup, .int .i64 serr, .slice sp sn scap] 47 <| Rc (fun W' => PtsIn W' p' r.pts) <| Bc w4.heap.size #[.string r.name, .int .i64 r.eps, .int .i64 r.floor, .int .i64 r.last, .int .i64 r.scale, .slice p' r.pts.length cap'] 35 <| Bz) ?_ (hI := by exact belowAny) (hR := (Bc.mk (by exact blkAny2) <| Bc.mk (by exact blkAny2) <| Rc.mk (by first | exact b3 | exact PtsIn.below (PtsIn.below b3 (by exact belowAny)) hW | exact PtsIn.below b3 (by exact belowAny)) <| Bc.mk (by exact blkAny2) <| trivial))
  clear b1 b2 b3 b4 hW
  rintro W10 hW z11 hL
  obtain ⟨⟨b1, yb1, k1, f1⟩, ⟨b2, yb2, k2, f2⟩, b3, ⟨b4, yb4, k4, f4⟩, -⟩ := id hL
  clear k1 f1 k2 f2 k4 f4
  refine wp_regS 8 123 hW hL ?_
  iterate 5 refine dA ?_
  apply nd_det (.int .i64 ((N : Nat) : Int)) (hg := rfl) (hal := rfl)
  · intro a' W' hC hE
    simp [Oper.looksAt, Op.operands, Call.operands, envOf, Det] at hE
    simp [go_sem, Act.eval, hE, EN.out]
  apply nd_det (.slice sp N scap) (hg := rfl) (hal := rfl)
  · intro a' W' hC hE
    simp [Oper.looksAt, Op.operands, Call.operands, envOf, Det] at hE
    simp [go_sem, Act.eval, hE, hNc, hN0, add_zero_map]
  apply nd_call (BkS N l) (hg := rfl) (hal := rfl)
  · exact BkS.closed _ _
  · intro a' W' hC hE
    simp [Oper.looksAt, Op.operands, Call.operands, envOf, Det] at hE
    refine ⟨_, _, ?_, (c4.out W' (hW.trans (hC.1.of_priv hW.size))).mono ?_⟩
    · simp [go_sem, Act.eval, hE]
      try rfl
    · rintro e w' ⟨v, rfl, hB, hv⟩
      exact ⟨v, rfl, hB, hv⟩
  clear hW hL b1 b2 b3 b4
  rintro W12 hW z13 hL
  simp only [ndR]
  intros
  simp only [ndS]
  obtain ⟨⟨b1, yb1, k1, f1⟩, ⟨b2, yb2, k2, f2⟩, b3, ⟨b4, yb4, k4, f4⟩, -⟩ := hL
  rename BkS _ _ _ _ => hs
  obtain ⟨q7, c7, rfl, b5, hc7⟩ := hs
  go_upto_region 6 with (fail)
  clear k1 f1 k2 f2 k4 f4
  refine wp_cutB w (Bc w.heap.size #[.string q.name, .int .i64 q.eps, .int .i64 q.floor, .int .i64 q.last, .int .i64 q.scale, .slice p q.pts.length cap] 35 <| Bc (w.heap.size + 1) #[.int .i64 k, .int .i64 a, .int .i64 b, .int .i64 er, .int .i64 cn, .int .i64 lo, .int .i64 up, .int .i64 mc, .int .i64 lw, .int .i64 lr, .int .i64 hw, .int .i64 hr, .int .i64 slo, .int .i64 sup, .int .i64 serr, .slice sp sn scap] 47 <| Rc (fun W' => PtsIn W' p' r.pts) <| Bc w4.heap.size #[.string r.name, .int .i64 r.eps, .int .i64 r.floor, .int .i64 r.last, .int .i64 r.scale, .slice p' r.pts.length cap'] 35 <| Rc (fun W' => BksIn W' q7 l) <| Bz) ?_ (hI := by exact belowAny) (hR := (Bc.mk (by exact blkAny2) <| Bc.mk (by exact blkAny2) <| Rc.mk (by first | exact b3 | exact PtsIn.below (PtsIn.below b3 (by exact belowAny)) hW | exact PtsIn.below b3 (by exact belowAny)) <| Bc.mk (by exact blkAny2) <| Rc.mk (by first | exact b5 | exact BksIn.below (BksIn.below b5 (by exact belowAny)) hW | exact BksIn.below b5 (by exact belowAny)) <| trivial))
  clear b1 b2 b3 b4 b5 hW
  rintro W14 hW z15 hL
  obtain ⟨⟨b1, yb1, k1, f1⟩, ⟨b2, yb2, k2, f2⟩, b3, ⟨b4, yb4, k4, f4⟩, b5, -⟩ := id hL
  clear k1 f1 k2 f2 k4 f4
  refine wp_regS 24 123 hW hL ?_
  iterate 2 refine dA ?_
  iterate 3 refine gA ?_
  refine pA ?_
  refine dA ?_
  iterate 3 refine gA ?_
  refine pA ?_
  refine dA ?_
  iterate 9 refine gA ?_
  apply nd_callvg (p := true) (c := .bool H1) (hg := rfl) (hd := rfl) (hal := rfl)
  · intro v W' h
    simp [envOf, Det] at h
    simp
    exact h
  · intro hp hx a' W' hC hE
    obtain ⟨_, ⟨-, -, k1, -⟩, ⟨-, -, k2, -⟩, k3, ⟨-, -, k4, -⟩, k5, -⟩ := hC
    simp [Oper.looksAt, Op.operands, Call.operands, envOf, Det, GDet, GS, hx] at hE
    refine ⟨_, _, ?_, (cH.out (by simp at hx; exact hx.1.1) (by simp at hx; omega) (by simp at hx; omega) W' p' cap' k3)⟩
    simp [go_sem, Act.eval, hE]
    try rfl
  refine pA ?_
  refine dA ?_
  clear hW hL b1 b2 b3 b4 b5
  rintro W16 hW z17 hL
  simp only [ndR]
  intros
  repeat (rename GDet _ _ _ _ => hgd; clear hgd)
  simp only [ndS]
  refine wpList_nil ?_
  obtain ⟨⟨b1, yb1, k1, f1⟩, ⟨b2, yb2, k2, f2⟩, b3, ⟨b4, yb4, k4, f4⟩, b5, -⟩ := hL
  rw [h1.out]
  clear h1
  go_upto_region 7 with (fail)
  clear k1 f1 k2 f2 k4 f4
  refine wp_cutB w (Bc w.heap.size #[.string q.name, .int .i64 q.eps, .int .i64 q.floor, .int .i64 q.last, .int .i64 q.scale, .slice p q.pts.length cap] 35 <| Bc (w.heap.size + 1) #[.int .i64 k, .int .i64 a, .int .i64 b, .int .i64 er, .int .i64 cn, .int .i64 lo, .int .i64 up, .int .i64 mc, .int .i64 lw, .int .i64 lr, .int .i64 hw, .int .i64 hr, .int .i64 slo, .int .i64 sup, .int .i64 serr, .slice sp sn scap] 47 <| Rc (fun W' => PtsIn W' p' r.pts) <| Bc w4.heap.size #[.string r.name, .int .i64 r.eps, .int .i64 r.floor, .int .i64 r.last, .int .i64 r.scale, .slice p' r.pts.length cap'] 35 <| Rc (fun W' => BksIn W' q7 l) <| Bz) ?_ (hI := by exact belowAny) (hR := (Bc.mk (by exact blkAny2) <| Bc.mk (by exact blkAny2) <| Rc.mk (by first | exact b3 | exact PtsIn.below (PtsIn.below b3 (by exact belowAny)) hW | exact PtsIn.below b3 (by exact belowAny)) <| Bc.mk (by exact blkAny2) <| Rc.mk (by first | exact b5 | exact BksIn.below (BksIn.below b5 (by exact belowAny)) hW | exact BksIn.below b5 (by exact belowAny)) <| trivial))
  clear b1 b2 b3 b4 b5 hW
  rintro W18 hW z19 hL
  obtain ⟨⟨b1, yb1, k1, f1⟩, ⟨b2, yb2, k2, f2⟩, b3, ⟨b4, yb4, k4, f4⟩, b5, -⟩ := id hL
  clear k1 f1 k2 f2 k4 f4
  refine wp_regS 12 123 hW hL ?_
  iterate 2 refine dA ?_
  iterate 7 refine gA ?_
  apply nd_callvg (p := true) (c := .bool H2) (hg := rfl) (hd := rfl) (hal := rfl)
  · intro v W' h
    simp [envOf, Det] at h
    simp
    exact h
  · intro hp hx a' W' hC hE
    obtain ⟨_, ⟨-, -, k1, -⟩, ⟨-, -, k2, -⟩, k3, ⟨-, -, k4, -⟩, k5, -⟩ := hC
    simp [Oper.looksAt, Op.operands, Call.operands, envOf, Det, GDet, GS, hx] at hE
    refine ⟨_, _, ?_, (cA.out hx W' p' cap' k3)⟩
    simp [go_sem, Act.eval, hE]
    try rfl
  refine pA ?_
  refine dA ?_
  clear hW hL b1 b2 b3 b4 b5
  rintro W20 hW z21 hL
  simp only [ndR]
  intros
  repeat (rename GDet _ _ _ _ => hgd; clear hgd)
  simp only [ndS]
  refine wpList_nil ?_
  obtain ⟨⟨b1, yb1, k1, f1⟩, ⟨b2, yb2, k2, f2⟩, b3, ⟨b4, yb4, k4, f4⟩, b5, -⟩ := hL
  rw [h2.out]
  clear h2
  go_upto_region 8 with (fail)
  clear k1 f1 k2 f2 k4 f4
  refine wp_cutB w (Bc w.heap.size #[.string q.name, .int .i64 q.eps, .int .i64 q.floor, .int .i64 q.last, .int .i64 q.scale, .slice p q.pts.length cap] 35 <| Bc (w.heap.size + 1) #[.int .i64 k, .int .i64 a, .int .i64 b, .int .i64 er, .int .i64 cn, .int .i64 lo, .int .i64 up, .int .i64 mc, .int .i64 lw, .int .i64 lr, .int .i64 hw, .int .i64 hr, .int .i64 slo, .int .i64 sup, .int .i64 serr, .slice sp sn scap] 47 <| Rc (fun W' => PtsIn W' p' r.pts) <| Bc w4.heap.size #[.string r.name, .int .i64 r.eps, .int .i64 r.floor, .int .i64 r.last, .int .i64 r.scale, .slice p' r.pts.length cap'] 35 <| Rc (fun W' => BksIn W' q7 l) <| Bz) ?_ (hI := by exact belowAny) (hR := (Bc.mk (by exact blkAny2) <| Bc.mk (by exact blkAny2) <| Rc.mk (by first | exact b3 | exact PtsIn.below (PtsIn.below b3 (by exact belowAny)) hW | exact PtsIn.below b3 (by exact belowAny)) <| Bc.mk (by exact blkAny2) <| Rc.mk (by first | exact b5 | exact BksIn.below (BksIn.below b5 (by exact belowAny)) hW | exact BksIn.below b5 (by exact belowAny)) <| trivial))
  clear b1 b2 b3 b4 b5 hW
  rintro W22 hW z23 hL
  obtain ⟨⟨b1, yb1, k1, f1⟩, ⟨b2, yb2, k2, f2⟩, b3, ⟨b4, yb4, k4, f4⟩, b5, -⟩ := id hL
  clear k1 f1 k2 f2 k4 f4
  refine wp_regS 13 123 hW hL ?_
  iterate 2 refine dA ?_
  iterate 8 refine gA ?_
  apply nd_callvg (p := true) (c := .bool H3) (hg := rfl) (hd := rfl) (hal := rfl)
  · intro v W' h
    simp [envOf, Det] at h
    simp
    exact h
  · intro hp hx a' W' hC hE
    obtain ⟨_, ⟨-, -, k1, -⟩, ⟨-, -, k2, -⟩, k3, ⟨-, -, k4, -⟩, k5, -⟩ := hC
    simp [Oper.looksAt, Op.operands, Call.operands, envOf, Det, GDet, GS, hx] at hE
    refine ⟨_, _, ?_, (cC.out hx W' p' cap' q7 c7 k3 k5 hc7)⟩
    simp [go_sem, Act.eval, hE]
    try rfl
  refine pA ?_
  refine dA ?_
  clear hW hL b1 b2 b3 b4 b5
  rintro W24 hW z25 hL
  simp only [ndR]
  intros
  repeat (rename GDet _ _ _ _ => hgd; clear hgd)
  simp only [ndS]
  refine wpList_nil ?_
  obtain ⟨⟨b1, yb1, k1, f1⟩, ⟨b2, yb2, k2, f2⟩, b3, ⟨b4, yb4, k4, f4⟩, b5, -⟩ := hL
  rw [h3.out]
  clear h3
  go_upto_region 9 with (fail)
  clear k1 f1 k2 f2 k4 f4
  refine wp_cutB w (Bc w.heap.size #[.string q.name, .int .i64 q.eps, .int .i64 q.floor, .int .i64 q.last, .int .i64 q.scale, .slice p q.pts.length cap] 35 <| Bc (w.heap.size + 1) #[.int .i64 k, .int .i64 a, .int .i64 b, .int .i64 er, .int .i64 cn, .int .i64 lo, .int .i64 up, .int .i64 mc, .int .i64 lw, .int .i64 lr, .int .i64 hw, .int .i64 hr, .int .i64 slo, .int .i64 sup, .int .i64 serr, .slice sp sn scap] 47 <| Rc (fun W' => PtsIn W' p' r.pts) <| Bc w4.heap.size #[.string r.name, .int .i64 r.eps, .int .i64 r.floor, .int .i64 r.last, .int .i64 r.scale, .slice p' r.pts.length cap'] 35 <| Rc (fun W' => BksIn W' q7 l) <| Bz) ?_ (hI := by exact belowAny) (hR := (Bc.mk (by exact blkAny2) <| Bc.mk (by exact blkAny2) <| Rc.mk (by first | exact b3 | exact PtsIn.below (PtsIn.below b3 (by exact belowAny)) hW | exact PtsIn.below b3 (by exact belowAny)) <| Bc.mk (by exact blkAny2) <| Rc.mk (by first | exact b5 | exact BksIn.below (BksIn.below b5 (by exact belowAny)) hW | exact BksIn.below b5 (by exact belowAny)) <| trivial))
  clear b1 b2 b3 b4 b5 hW
  rintro W26 hW z27 hL
  obtain ⟨⟨b1, yb1, k1, f1⟩, ⟨b2, yb2, k2, f2⟩, b3, ⟨b4, yb4, k4, f4⟩, b5, -⟩ := id hL
  clear k1 f1 k2 f2 k4 f4
  refine wp_regD 53 123 hW hL ?_
  iterate 9 refine dA ?_
  apply nd_callv (.bool V1) (hg := rfl) (hal := rfl)
  · intro a' W' hC hE
    obtain ⟨_, ⟨-, -, k1, -⟩, ⟨-, -, k2, -⟩, k3, ⟨-, -, k4, -⟩, k5, -⟩ := hC
    simp [Oper.looksAt, Op.operands, Call.operands, envOf, Det] at hE
    refine ⟨_, _, ?_, (mH.out W' p' cap' k3)⟩
    simp [go_sem, Act.eval, hE]
    try rfl
  iterate 3 refine dA ?_
  iterate 7 refine gA ?_
  apply nd_callvg (p := true) (c := .bool V2) (hg := rfl) (hd := rfl) (hal := rfl)
  · intro v W' h
    simp [envOf, Det] at h
    simp
    exact h
  · intro hp hx a' W' hC hE
    obtain ⟨_, ⟨-, -, k1, -⟩, ⟨-, -, k2, -⟩, k3, ⟨-, -, k4, -⟩, k5, -⟩ := hC
    simp [Oper.looksAt, Op.operands, Call.operands, envOf, Det, GDet, GS, hx] at hE
    refine ⟨_, _, ?_, (mA.out W' p' cap' k3)⟩
    simp [go_sem, Act.eval, hE]
    try rfl
  iterate 2 refine gA ?_
  refine pA ?_
  refine dA ?_
  iterate 8 refine gA ?_
  apply nd_callvg (p := true) (c := .bool V3) (hg := rfl) (hd := rfl) (hal := rfl)
  · intro v W' h
    simp [envOf, Det] at h
    simp
    exact h
  · intro hp hx a' W' hC hE
    obtain ⟨_, ⟨-, -, k1, -⟩, ⟨-, -, k2, -⟩, k3, ⟨-, -, k4, -⟩, k5, -⟩ := hC
    simp [Oper.looksAt, Op.operands, Call.operands, envOf, Det, GDet, GS, hx] at hE
    refine ⟨_, _, ?_, (mC.out W' p' cap' q7 c7 k3 k5 hc7)⟩
    simp [go_sem, Act.eval, hE]
    try rfl
  iterate 2 refine gA ?_
  refine pA ?_
  refine dA ?_
  iterate 2 refine gA ?_
  apply nd_gcall (RawSp r) (p := true) (hg := rfl) (hd := rfl) (hal := rfl)
  · exact RawSp.closed _
  · intro v W' h
    simp [envOf, Det] at h
    simp
    exact h
  · intro hp hx a' W' hC hE
    have h9 := (hW.trans (hC.1.of_priv hW.size))
    simp [Oper.looksAt, Op.operands, Call.operands, envOf, Det, GDet, GS, hx] at hE
    refine ⟨_, _, ?_, (c2.out W' h9).mono ?_⟩
    · simp [go_sem, Act.eval, hE]
      try rfl
    · rintro e w' ⟨p2, c2', rfl, hB, hv⟩
      exact ⟨_, rfl, hB, p2, c2', rfl, hv⟩
  apply nd_callvg (p := true) (c := .bool true) (hg := rfl) (hd := rfl) (hal := rfl)
  · intro v W' h
    simp [envOf, Det] at h
    simp
    exact h
  · intro hp hx a' W' hC hE
    obtain ⟨_, ⟨-, -, k1, -⟩, ⟨-, -, k2, -⟩, k3, ⟨-, -, k4, -⟩, k5, -⟩ := hC
    simp [Oper.looksAt, Op.operands, Call.operands, envOf, Det, GDet, GS, hx] at hE
    obtain ⟨p2, c2', e9, h9⟩ := hE.2.1
    refine ⟨_, _, ?_, (cS.out W' p' cap' p2 c2' k3 h9)⟩
    simp [go_sem, Act.eval, hE.1, e9]
    try rfl
  refine pA ?_
  refine dA ?_
  iterate 5 refine gA ?_
  apply nd_detg (p := true) (c := .slice sp N scap) (hg := rfl) (hd := rfl) (hal := rfl)
  · intro v W' h
    simp [envOf, Det] at h
    simp
    exact h
  · intro hp hx a' W' hC hE
    simp [Oper.looksAt, Op.operands, Call.operands, envOf, Det, GDet, hx] at hE
    simp [go_sem, Act.eval, hE, hNc, hN0, add_zero_map]
  apply nd_callvg (p := true) (c := .bool true) (hg := rfl) (hd := rfl) (hal := rfl)
  · intro v W' h
    simp [envOf, Det] at h
    simp
    exact h
  · intro hp hx a' W' hC hE
    have h9 := (hW.trans (hC.1.of_priv hW.size))
    obtain ⟨_, ⟨-, -, k1, -⟩, ⟨-, -, k2, -⟩, k3, ⟨-, -, k4, -⟩, k5, -⟩ := hC
    simp [Oper.looksAt, Op.operands, Call.operands, envOf, Det, GDet, GS, hx] at hE
    refine ⟨_, _, ?_, (cE.out W' q7 c7 h9 k5)⟩
    simp [go_sem, Act.eval, hE]
    try rfl
  refine pA ?_
  refine dA ?_
  clear hW hL b1 b2 b3 b4 b5
  rintro W28 hW z29 hL
  simp only [ndR]
  intros
  repeat (rename GDet _ _ _ _ => hgd; clear hgd)
  simp only [ndS]
  refine wpList_nil ?_
  obtain ⟨⟨b1, yb1, k1, f1⟩, ⟨b2, yb2, k2, f2⟩, b3, ⟨b4, yb4, k4, f4⟩, b5, -⟩ := hL
  go_wp2
  refine bodyPost_ret (by simp [results, Tryz.results6, go_sem, k1, f1, k2, f2, k4, f4, yb1, yb2, yb4]) rfl ⟨rfl, by exact belowAny⟩
end Go.Proofs.YtdeghcgakkhbmaaGreat
namespace Go.Proofs.YtdeghcgakkhbmaaGreat
open Go.RowKit
def soRel (w1 : World) (r : RawT) (p : Option Addr) (cap : Nat) (a b : Int) (a' : Act) (W : World) : Prop :=
  Below w1.heap.size w1 W ∧ ∃ (i : Nat) (v : Value) (L : List (Int × Int)), (∃ u : Nat → Value, a' = { tmps := #[u 0, .int .i64 a, .int .i64 b, u 3, u 4, u 5, .slice none 0 0, v, u 8, u 9, u 10, .slice p r.pts.length cap, .int .i64 (r.pts.length : Int), .int .i64 (i : Int), u 14, u 15, u 16, u 17, u 18, u 19, u 20, u 21, u 22, u 23, u 24, u 25, u 26, u 27, u 28, u 29, u 30, u 31, u 32], defers := [] }) ∧
    OwnR W w1.heap.size 58 2 v L.length (flatPts L) ∧ L = ((r.pts.take i).filter fun p => decide (a ≤ p.1) && decide (p.1 ≤ b)) ∧ i ≤ r.pts.length
theorem filter_snoc {r : RawT} {a b : Int} {i : Nat} {x : Int × Int} (hx : r.pts[i]? = some x) : ((r.pts.take (i + 1)).filter fun p => decide (a ≤ p.1) && decide (p.1 ≤ b)) = ((r.pts.take i).filter fun p => decide (a ≤ p.1) && decide (p.1 ≤ b)) ++ if (decide (a ≤ x.1) && decide (x.1 ≤ b)) = true then [x] else [] := by
  rw [List.take_add_one, hx, List.filter_append]
  congr 1
  simp only [Option.toList_some, List.filter_cons, List.filter_nil]
theorem own_ptsQ {W : World} {B n : Nat} {e : TypeId} {p : Option Addr} {cap : Nat} {l : List (Int × Int)} (h : OwnR W B e 2 (.slice p n cap) n (flatPts l)) : PtsIn W p l := by
  rcases h.own.2 with ⟨h1, h0⟩ | ⟨g, cap', cur, h1, hg, hb, hn, hmx, _, ht⟩
  · have := h.own.1
    rw [flatPts_len9, h0] at this
    have : l = [] := List.length_eq_zero_iff.1 (by omega)
    subst this
    exact ⟨fun i r hr => by simp at hr⟩
  · injection h1 with h1 _ _
    subst h1
    exact pts_in hb ht
set_option maxRecDepth 100000 in
set_option maxHeartbeats 2000000 in
theorem c_refSome (r : RawT) (p : Option Addr) (cap : Nat) (a b : Int) (w : World) (hp : PtsIn w p r.pts) (hl : r.pts.length ≤ 2000) :
    Calls Tryz.prog 60 #[.agg (rawA r p cap), .int .i64 a, .int .i64 b] w fun e w' => ∃ q c, e = .returned (.slice q (someL r a b).length c) ∧ PtsIn w' q (someL r a b) ∧ Below w.heap.size w w' := by
  unfold rawA
  obtain ⟨i0, hi, hz0, hz1, hz2⟩ := info_parts Tryz.infoPoint
  go_enter Tryz.func60, Tryz.ntmps60
  go_upto_region 1 with (fail)
  refine wp_cutB w (Bc w.heap.size #[.string r.name, .int .i64 r.eps, .int .i64 r.floor, .int .i64 r.last, .int .i64 r.scale, .slice p r.pts.length cap] 35 <| Bz) ?_
  rintro W1 hW z2 ⟨⟨b1, yb1, k1, f1⟩, -⟩
  go_wp2
  clear b1 k1 f1
  have hp1 := hp.below hW
  refine wp_loop (soRel W1 r p cap a b) (fun a' _ => r.pts.length - (intAt (a'.tmps.getD 13 undef)).toNat) ?_ ?_
  · unfold soRel
    exact ⟨Below.refl _ _, 0, _, [], frame_ex rfl, OwnR.nil _ _ _ _, by simp, Nat.zero_le _⟩
  rintro a' W ⟨hW0, i, v, L, ⟨u, rfl⟩, hown, hL, hi'⟩
  have hz := hW0.size
  have hlL : L.length ≤ 2000 := by
    have h1 := List.length_filter_le (fun p => decide (a ≤ p.1) && decide (p.1 ≤ b)) (r.pts.take i)
    rw [← hL, List.length_take] at h1
    omega
  rcases Nat.lt_or_ge i r.pts.length with hlt | hge
  · obtain ⟨⟨t, y⟩, tr⟩ : ∃ x, r.pts[i]? = some x := ⟨r.pts[i]'(by omega), List.getElem?_eq_getElem (by omega)⟩
    obtain ⟨b0, o0, rfl, q0, q1⟩ := (hp1.below hW0).at' i _ tr
    simp only at q0 q1
    have hs := filter_snoc (a := a) (b := b) tr
    rw [← hL] at hs
    have zv := cell_lt q0
    try simp only at zv
    by_cases h1 : a ≤ t
    · by_cases h2 : t ≤ b
      · have hL2 := Lib.hid (show L ++ [(t, y)] = ((r.pts.take (i + 1)).filter fun p => decide (a ≤ p.1) && decide (p.1 ≤ b)) by rw [hs, if_pos (by simp [h1, h2])])
        clear hs hL tr hp hp1
        go_upto_region 6 with (fail)
        refine wp_cutB W (Bc W.heap.size #[.int .i64 t, .int .i64 y] 58 <| Rc (fun W' => OwnR W' W1.heap.size 58 2 v L.length (flatPts L)) <| Bz) ?_ (hI := by exact belowAny) (hR := (Bc.mk (by exact blkAny2) <| Rc.mk (by exact hown.below belowAny) <| trivial))
        rintro W21 hW z22 ⟨⟨b1, yb1, k1, f1⟩, b2, -⟩
        have hown9 := b2.own
        have hW9 := hW0.trans (hW.mono hz)
        have ya9 := hW9.size
        clear hW b2 hown q0 q1 h1 h2
        go_wp2_with (at_builtin; refine wpList_append_own _ rfl (.tmp 27) (.tmp 29) 33 rfl W1.heap.size 58 i0 (.agg #[.int .i64 0, .int .i64 0]) 2 16 (by kernel_rfl) hi hz0 hz1 hz2 rfl (by decide) _ _ _ rfl (hown9.alloc _) ⟨W21.heap.size, 0, none⟩ 1 1 [.int .i64 t, .int .i64 y] rfl rfl (cell_two_new _ _ _ _) (by simp [Value.oneCell']) (by simp [maxLen]; omega) (by omega) (by simp; omega) ?_)
        intro v' w9 hown2 hgr _
        have hB := Lib.hid (below_append hW9 ya9 hown9 hgr)
        replace hown2 := Lib.hid hown2
        clear hgr hown9
        go_wp2
        rw [show (i : Int) + 1 = ((i + 1 : Nat) : Int) by omega]
        refine ⟨?_, by simp [intAt]; omega⟩
        unfold soRel
        exact ⟨hB.out, i + 1, v', L ++ [(t, y)], frame_ex rfl, ⟨by rw [flatPts_snoc, List.length_append, List.length_singleton]; simpa using hown2.out⟩, hL2.out, by omega⟩
      · have hL2 := Lib.hid (show L = ((r.pts.take (i + 1)).filter fun p => decide (a ≤ p.1) && decide (p.1 ≤ b)) by rw [hs, if_neg (by simp [h1, h2]), List.append_nil])
        clear hs hL tr hp hp1
        have hB1 : Below W.heap.size W (W.alloc (.cells #[.int .i64 t, .int .i64 y] 58)) := belowAny
        have e1 := Lib.hid (hW0.trans (hB1.mono hz))
        have e2 := Lib.hid (hown.below hB1)
        clear hown hB1
        go_wp2
        rw [show (i : Int) + 1 = ((i + 1 : Nat) : Int) by omega]
        refine ⟨?_, by simp [intAt]; omega⟩
        unfold soRel
        exact ⟨e1.out, i + 1, v, L, frame_ex rfl, e2.out, hL2.out, by omega⟩
    · have hL2 := Lib.hid (show L = ((r.pts.take (i + 1)).filter fun p => decide (a ≤ p.1) && decide (p.1 ≤ b)) by rw [hs, if_neg (by simp [h1]), List.append_nil])
      clear hs hL tr hp hp1
      have hB1 : Below W.heap.size W (W.alloc (.cells #[.int .i64 t, .int .i64 y] 58)) := belowAny
      have e1 := Lib.hid (hW0.trans (hB1.mono hz))
      have e2 := Lib.hid (hown.below hB1)
      clear hown hB1
      go_wp2
      rw [show (i : Int) + 1 = ((i + 1 : Nat) : Int) by omega]
      refine ⟨?_, by simp [intAt]; omega⟩
      unfold soRel
      exact ⟨e1.out, i + 1, v, L, frame_ex rfl, e2.out, hL2.out, by omega⟩
  · obtain rfl : i = r.pts.length := by omega
    rw [List.take_of_length_le (Nat.le_refl _)] at hL
    replace hL := Lib.hid hL
    go_wp2
    go_ret
    obtain ⟨q, c, rfl, -, -, -, -⟩ := hown.form
    rw [show someL r a b = L from hL.out.symm]
    exact ⟨q, c, rfl, own_ptsQ hown, hW.trans (hW0.mono hW.size)⟩
set_option maxRecDepth 100000 in
set_option maxHeartbeats 2000000 in
theorem c_refWidth (x y : Int) (w : World) (hx : I64 x) (hy : I64 y) : Calls Tryz.prog 108 #[.agg #[.int .i64 x, .int .i64 y]] w fun e w' => ∃ v, e = .returned v ∧ NumIs w' v (y - x) ∧ Below w.heap.size w w' := by
  have hx9 : x.natAbs < 2 ^ 900 := lt_pow2 64 900 (show x.natAbs < 2 ^ 64 by unfold I64 at hx; omega) (by omega)
  have hy9 : y.natAbs < 2 ^ 900 := lt_pow2 64 900 (show y.natAbs < 2 ^ 64 by unfold I64 at hy; omega) (by omega)
  go_enter Tryz.func108, Tryz.ntmps108
  go_upto_region 1 with (fail)
  refine wp_cutB w (Bc w.heap.size #[.int .i64 x, .int .i64 y] 38 <| Bc (w.heap.size + 1) #[.bool false, .slice none 0 0] 115 <| Bz) ?_
  rintro W1 hW z2 hL
  obtain ⟨⟨b1, yb1, k1, f1⟩, ⟨b2, yb2, k2, f2⟩, -⟩ := id hL
  clear k1 f1 k2 f2
  refine wp_regD 7 10 hW hL ?_
  iterate 2 refine dA ?_
  apply nd_call (NI (y)) (hg := rfl) (hal := rfl)
  · exact NI.closed _
  · intro a' W' hC hE
    obtain ⟨_, ⟨-, -, k1, -⟩, ⟨-, -, k2, -⟩, -⟩ := hC
    simp [Oper.looksAt, Op.operands, Call.operands, envOf, Det] at hE
    refine ⟨_, _, ?_, (c_refInt y W' hy.1 hy.2).mono ?_⟩
    · simp [go_sem, Act.eval, hE]
      try rfl
    · rintro e w' ⟨v, rfl, hB, hR⟩
      exact ⟨_, rfl, hR, hB⟩
  iterate 2 refine dA ?_
  apply nd_call (NI (x)) (hg := rfl) (hal := rfl)
  · exact NI.closed _
  · intro a' W' hC hE
    obtain ⟨_, ⟨-, -, k1, -⟩, ⟨-, -, k2, -⟩, -⟩ := hC
    simp [Oper.looksAt, Op.operands, Call.operands, envOf, Det] at hE
    refine ⟨_, _, ?_, (c_refInt x W' hx.1 hx.2).mono ?_⟩
    · simp [go_sem, Act.eval, hE]
      try rfl
    · rintro e w' ⟨v, rfl, hB, hR⟩
      exact ⟨_, rfl, hR, hB⟩
  apply nd_call (NI (y - x)) (hg := rfl) (hal := rfl)
  · exact NI.closed _
  · intro a' W' hC hE
    obtain ⟨_, ⟨-, -, k1, -⟩, ⟨-, -, k2, -⟩, -⟩ := hC
    simp [Oper.looksAt, Op.operands, Call.operands, envOf, Det] at hE
    refine ⟨_, _, ?_, (c_refSub _ _ y x W' hE.1 hE.2 hy9 hx9).mono ?_⟩
    · simp [go_sem, Act.eval]
      try rfl
    · rintro e w' ⟨v, rfl, hB, hR⟩
      exact ⟨_, rfl, hR, hB⟩
  clear hW hL b1 b2
  rintro W3 hW z4 hL
  simp only [ndR]
  intros
  simp only [ndS]
  obtain ⟨⟨b1, yb1, k1, f1⟩, ⟨b2, yb2, k2, f2⟩, -⟩ := hL
  rename NI (y - x) _ _ => hq
  obtain ⟨p1, l1, k1', rfl, hq1⟩ := num_shape hq
  replace hq1 := Lib.hid hq1
  clear hq
  obtain ⟨B, hB⟩ : ∃ B, B = (decide (y - x < 0)) := ⟨_, rfl⟩
  rw [← hB]
  replace hB := Lib.hid hB
  go_wp2
  refine bodyPost_ret (v := .agg #[.bool B, .slice p1 l1 k1']) (by simp [results, Tryz.results108, go_sem, k1, f1, k2, f2, yb1, yb2]) rfl ⟨_, rfl, ⟨_, by rw [hB.out], ?_⟩, by exact belowAny⟩
  have hS := hq1.out.store b2 (.bool B) (.slice p1 l1 k1')
  simpa using hS
set_option maxRecDepth 100000 in
set_option maxHeartbeats 2000000 in
theorem c_refLies (lo up v most : Int) (vm : Value) (w : World) (hlo : I64 lo) (hup : I64 up) (hM : NumIs w vm most) (hm9 : most.natAbs < 2 ^ 900) : Calls Tryz.prog 63 #[.agg #[.int .i64 lo, .int .i64 up], .int .i64 v, vm] w fun e w' => e = .returned (.bool (((decide (lo ≤ v)) && (decide (v ≤ up))) && !(decide (most < up - lo)))) ∧ Below w.heap.size w w' := by
  obtain ⟨pm, lm, cm, rfl, -⟩ := num_shape hM
  have hw9 : (up - lo).natAbs < 2 ^ 900 := lt_pow2 70 900 (show (up - lo).natAbs < 2 ^ 70 by unfold I64 at hlo hup; omega) (by omega)
  go_enter Tryz.func63, Tryz.ntmps63
  go_upto_region 1 with (fail)
  refine wp_cutB w (Bc w.heap.size #[.int .i64 lo, .int .i64 up] 38 <| Bc (w.heap.size + 1) #[.bool (decide (most < 0)), .slice pm lm cm] 115 <| Rc (fun W' => NumIs W' (.agg #[.bool (decide (most < 0)), .slice pm lm cm]) most) <| Bz) ?_ (hI := by exact belowAny) (hR := (Bc.mk (by exact blkAny2) <| Bc.mk (by exact blkAny2) <| Rc.mk (by exact NumIs.below hM belowAny) <| trivial))
  rintro W1 hW z2 hL
  obtain ⟨⟨b1, yb1, k1, f1⟩, ⟨b2, yb2, k2, f2⟩, b3, -⟩ := id hL
  clear k1 f1 k2 f2
  refine wp_regD 18 24 hW hL ?_
  iterate 5 refine dA ?_
  iterate 4 refine gA ?_
  refine pA ?_
  refine dA ?_
  iterate 2 refine gA ?_
  apply nd_gcall (NI (up - lo)) (p := true) (hg := rfl) (hd := rfl) (hal := rfl)
  · exact NI.closed _
  · intro v W' h
    simp [envOf, Det] at h
    simp
    exact h
  · intro hp hx a' W' hC hE
    obtain ⟨_, ⟨-, -, k1, -⟩, ⟨-, -, k2, -⟩, k3, -⟩ := hC
    simp [Oper.looksAt, Op.operands, Call.operands, envOf, Det, GDet, hx] at hE
    refine ⟨_, _, ?_, (c_refWidth lo up W' hlo hup).mono ?_⟩
    · simp [go_sem, Act.eval, hE]
      try rfl
    · rintro e w' ⟨v, rfl, hB, hR⟩
      exact ⟨_, rfl, hR, hB⟩
  apply nd_callvg (p := true) (c := .bool (decide (most < up - lo))) (hg := rfl) (hd := rfl) (hal := rfl)
  · intro v W' h
    simp [envOf, Det] at h
    simp
    exact h
  · intro hp hx a' W' hC hE
    obtain ⟨_, ⟨-, -, k1, -⟩, ⟨-, -, k2, -⟩, k3, -⟩ := hC
    simp [Oper.looksAt, Op.operands, Call.operands, envOf, Det, GDet, GS, hx] at hE
    refine ⟨_, _, ?_, (c_refLess _ _ most (up - lo) W' k3 hE.2.1 hm9 hw9)⟩
    simp [go_sem, Act.eval, hE.1]
    try rfl
  refine gA ?_
  refine pA ?_
  refine dA ?_
  clear hW hL b1 b2 b3
  rintro W3 hW z4 hL
  simp only [ndR]
  intros
  repeat (rename GDet _ _ _ _ => hgd; clear hgd)
  simp only [ndS]
  refine wpList_nil ?_
  obtain ⟨⟨b1, yb1, k1, f1⟩, ⟨b2, yb2, k2, f2⟩, b3, -⟩ := hL
  go_wp2
  refine bodyPost_ret (by simp [results, Tryz.results63, go_sem, k1, f1, k2, f2, yb1, yb2]) rfl ⟨rfl, by exact belowAny⟩
end Go.Proofs.YtdeghcgakkhbmaaGreat
namespace Go.Proofs.YtdeghcgakkhbmaaGreat
open Go.RowKit
set_option maxRecDepth 100000 in
set_option maxHeartbeats 2000000 in
theorem c_refMixed (n m k : Int) (w : World) (hn : I64 n) (hm : I64 m) (hk : I64 k) : Calls Tryz.prog 107 #[.agg #[.int .i64 n, .int .i64 m], .int .i64 k] w fun e w' => ∃ pz lz cz, e = .returned (.tuple #[.agg #[.bool (decide (n * k + m < 0)), .slice pz lz cz], .bool (decide (0 ≤ m) && decide (m < k))]) ∧ Bits w' (.slice pz lz cz) (n * k + m).natAbs ∧ Below w.heap.size w w' := by
  have hn4 : n.natAbs < 2 ^ 400 := lt_pow2 64 400 (show n.natAbs < 2 ^ 64 by unfold I64 at hn; omega) (by omega)
  have hk4 : k.natAbs < 2 ^ 400 := lt_pow2 64 400 (show k.natAbs < 2 ^ 64 by unfold I64 at hk; omega) (by omega)
  have hm9 : m.natAbs < 2 ^ 900 := lt_pow2 64 900 (show m.natAbs < 2 ^ 64 by unfold I64 at hm; omega) (by omega)
  have hnk9 : (n * k).natAbs < 2 ^ 900 := lt_pow2 128 900 (by
    rw [Int.natAbs_mul]
    exact Nat.lt_of_lt_of_le (Nat.mul_lt_mul'' (show n.natAbs < 2 ^ 64 by unfold I64 at hn; omega) (show k.natAbs < 2 ^ 64 by unfold I64 at hk; omega)) (by omega)) (by omega)
  obtain ⟨F, hF⟩ : ∃ F, (decide (0 ≤ m) && decide (m < k)) = F := ⟨_, rfl⟩
  rw [hF]
  replace hF := Lib.hid hF
  go_enter Tryz.func107, Tryz.ntmps107
  go_upto_region 1 with (fail)
  refine wp_cutB w (Bc w.heap.size #[.int .i64 n, .int .i64 m] 40 <| Bc (w.heap.size + 1) #[.bool false, .slice none 0 0] 115 <| Bz) ?_
  rintro W1 hW z2 ⟨⟨b1, yb1, k1, f1⟩, ⟨b2, yb2, k2, f2⟩, -⟩
  go_upto_region 1 with (fail)
  clear k1 f1 k2 f2
  refine wp_cutB w (Bc w.heap.size #[.int .i64 n, .int .i64 m] 40 <| Bc (w.heap.size + 1) #[.bool false, .slice none 0 0] 115 <| Bz) ?_
  clear b1 b2 hW
  rintro W3 hW z4 hL
  obtain ⟨⟨b1, yb1, k1, f1⟩, ⟨b2, yb2, k2, f2⟩, -⟩ := id hL
  clear k1 f1 k2 f2
  refine wp_regD 11 27 hW hL ?_
  iterate 2 refine dA ?_
  apply nd_call (NI (n)) (hg := rfl) (hal := rfl)
  · exact NI.closed _
  · intro a' W' hC hE
    obtain ⟨_, ⟨-, -, k1, -⟩, ⟨-, -, k2, -⟩, -⟩ := hC
    simp [Oper.looksAt, Op.operands, Call.operands, envOf, Det] at hE
    refine ⟨_, _, ?_, (c_refInt n W' hn.1 hn.2).mono ?_⟩
    · simp [go_sem, Act.eval, hE]
      try rfl
    · rintro e w' ⟨v, rfl, hB, hR⟩
      exact ⟨_, rfl, hR, hB⟩
  refine dA ?_
  apply nd_call (NI (k)) (hg := rfl) (hal := rfl)
  · exact NI.closed _
  · intro a' W' hC hE
    obtain ⟨_, ⟨-, -, k1, -⟩, ⟨-, -, k2, -⟩, -⟩ := hC
    simp [Oper.looksAt, Op.operands, Call.operands, envOf, Det] at hE
    refine ⟨_, _, ?_, (c_refInt k W' hk.1 hk.2).mono ?_⟩
    · simp [go_sem, Act.eval, hE]
      try rfl
    · rintro e w' ⟨v, rfl, hB, hR⟩
      exact ⟨_, rfl, hR, hB⟩
  apply nd_call (NI (n * k)) (hg := rfl) (hal := rfl)
  · exact NI.closed _
  · intro a' W' hC hE
    obtain ⟨_, ⟨-, -, k1, -⟩, ⟨-, -, k2, -⟩, -⟩ := hC
    simp [Oper.looksAt, Op.operands, Call.operands, envOf, Det] at hE
    refine ⟨_, _, ?_, (c_refMul _ _ n k W' hE.1 hE.2 hn4 hk4).mono ?_⟩
    · simp [go_sem, Act.eval]
      try rfl
    · rintro e w' ⟨v, rfl, hB, hR⟩
      exact ⟨_, rfl, hR, hB⟩
  iterate 2 refine dA ?_
  apply nd_call (NI (m)) (hg := rfl) (hal := rfl)
  · exact NI.closed _
  · intro a' W' hC hE
    obtain ⟨_, ⟨-, -, k1, -⟩, ⟨-, -, k2, -⟩, -⟩ := hC
    simp [Oper.looksAt, Op.operands, Call.operands, envOf, Det] at hE
    refine ⟨_, _, ?_, (c_refInt m W' hm.1 hm.2).mono ?_⟩
    · simp [go_sem, Act.eval, hE]
      try rfl
    · rintro e w' ⟨v, rfl, hB, hR⟩
      exact ⟨_, rfl, hR, hB⟩
  apply nd_call (NI (n * k + m)) (hg := rfl) (hal := rfl)
  · exact NI.closed _
  · intro a' W' hC hE
    obtain ⟨_, ⟨-, -, k1, -⟩, ⟨-, -, k2, -⟩, -⟩ := hC
    simp [Oper.looksAt, Op.operands, Call.operands, envOf, Det] at hE
    refine ⟨_, _, ?_, (c_refAdd _ _ (n * k) m W' hE.1 hE.2 hnk9 hm9).mono ?_⟩
    · simp [go_sem, Act.eval]
      try rfl
    · rintro e w' ⟨v, rfl, hB, hR⟩
      exact ⟨_, rfl, hR, hB⟩
  apply nd_alloc W3.heap.size #[.bool false, .slice none 0 0] 115 rfl rfl
  · exact fun W' hC => hC.1.size
  · simp [others] <;> omega
  · intro w; kernel_rfl
  clear hW hL b1 b2
  rintro W5 hW z6 hL
  simp only [ndR]
  intros
  simp only [ndS]
  obtain ⟨⟨b1, yb1, k1, f1⟩, ⟨b2, yb2, k2, f2⟩, -⟩ := hL
  obtain ⟨o3, rfl, hg3, b3⟩ := ‹NewVar _ _ _ _ _›
  have yb3 := b3.lt
  rename NI (n * k + m) _ _ => hq
  obtain ⟨p1, l1, k1', rfl, hq1⟩ := num_shape hq
  replace hq1 := Lib.hid hq1
  clear hq
  have k3 := b3.cell
  have f3 := b3.frozen
  obtain ⟨B, hB⟩ : ∃ B, B = (decide (n * k + m < 0)) := ⟨_, rfl⟩
  rw [← hB]
  replace hB := Lib.hid hB
  have hq2 := Lib.hid (hq1.out.store b3 (.bool B) (.slice p1 l1 k1'))
  clear hq1
  go_upto_region 2 with (fail)
  clear k1 f1 k2 f2 k3 f3
  refine wp_cutB w (Bc w.heap.size #[.int .i64 n, .int .i64 m] 40 <| Bc (w.heap.size + 1) #[.bool false, .slice none 0 0] 115 <| Bc o3 #[.bool B, .slice p1 l1 k1'] 115 <| Rc (fun W' => Bits W' (.slice p1 l1 k1') (n * k + m).natAbs) <| Bz) ?_ (hI := by exact belowAny) (hR := (Bc.mk (by exact blkAny2) <| Bc.mk (by exact blkAny2) <| Bc.mk (by exact blkAny2) <| Rc.mk (by exact hq2.out) <| trivial))
  clear b1 b2 b3 hW
  rintro W7 hW z8 ⟨⟨b1, yb1, k1, f1⟩, ⟨b2, yb2, k2, f2⟩, ⟨b3, yb3, k3, f3⟩, b4, -⟩
  have hq := Lib.hid b4
  clear b4 hq2
  by_cases h2 : 0 ≤ m
  · by_cases h3 : m < k
    · obtain rfl : F = true := by rw [← hF.out, decide_eq_true h2, decide_eq_true h3]; rfl
      clear hF
      go_region
      simp only [Exit.then]
      go_wp2
      refine bodyPost_ret (v := .tuple #[.agg #[.bool B, .slice p1 l1 k1'], .bool true]) (by simp [results, Tryz.results107, go_sem, k1, f1, k2, f2, k3, f3, yb1, yb2, yb3]) rfl ⟨p1, l1, k1', by rw [hB.out], ?_, by exact Below.drew belowAny⟩
      have hS := Bits.drew (hq.out.store b2 (.bool B) (.slice p1 l1 k1'))
      simpa using hS
    · obtain rfl : F = false := by rw [← hF.out, decide_eq_true h2, decide_eq_false h3]; rfl
      clear hF
      go_region
      simp only [Exit.then]
      go_wp2
      refine bodyPost_ret (v := .tuple #[.agg #[.bool B, .slice p1 l1 k1'], .bool false]) (by simp [results, Tryz.results107, go_sem, k1, f1, k2, f2, k3, f3, yb1, yb2, yb3]) rfl ⟨p1, l1, k1', by rw [hB.out], ?_, by exact Below.drew belowAny⟩
      have hS := Bits.drew (hq.out.store b2 (.bool B) (.slice p1 l1 k1'))
      simpa using hS
  · obtain rfl : F = false := by rw [← hF.out, decide_eq_false h2]; rfl
    clear hF
    go_region
    simp only [Exit.then]
    go_wp2
    refine bodyPost_ret (v := .tuple #[.agg #[.bool B, .slice p1 l1 k1'], .bool false]) (by simp [results, Tryz.results107, go_sem, k1, f1, k2, f2, k3, f3, yb1, yb2, yb3]) rfl ⟨p1, l1, k1', by rw [hB.out], ?_, by exact Below.drew belowAny⟩
    have hS := Bits.drew (hq.out.store b2 (.bool B) (.slice p1 l1 k1'))
    simpa using hS
def ttRel (w : World) (p : Option Addr) (cap : Nat) (l : List (Int × Int)) (a' : Act) (W : World) : Prop :=
  Below w.heap.size w W ∧ Blk W w.heap.size #[.bool false, .slice none 0 0] 115 ∧ ∃ (i : Nat) (s : Int) (pz : Option Addr) (lz cz : Nat), (∃ u : Nat → Value, a' = { tmps := #[u 0, u 1, .pointer (some ⟨w.heap.size, 0, none⟩), .pointer (some ⟨w.heap.size + 1, 0, none⟩), u 4, u 5, .slice p l.length cap, .int .i64 (l.length : Int), .int .i64 (i : Int), u 9, u 10, u 11, u 12, u 13, u 14, u 15, u 16, u 17, u 18], defers := [] }) ∧
    Blk W (w.heap.size + 1) #[.bool (decide (s < 0)), .slice pz lz cz] 115 ∧ NumIs W (.agg #[.bool (decide (s < 0)), .slice pz lz cz]) s ∧ s = lsum ((l.take i).map (·.2)) ∧ i ≤ l.length
set_option maxRecDepth 100000 in
set_option maxHeartbeats 2000000 in
theorem c_refTotal (p : Option Addr) (cap : Nat) (l : List (Int × Int)) (w : World) (hp : PtsIn w p l) (hl : l.length ≤ 2000) (hv : ∀ x, x ∈ l → I64 x.2) : Calls Tryz.prog 104 #[.slice p l.length cap] w fun e w' => ∃ v, e = .returned v ∧ NumIs w' v (lsum (l.map (·.2))) ∧ Below w.heap.size w w' := by
  go_enter Tryz.func104, Tryz.ntmps104
  go_upto_region 2 with (fail)
  refine wp_cutB w (Bc w.heap.size #[.bool false, .slice none 0 0] 115 <| Bc (w.heap.size + 1) #[.bool false, .slice none 0 0] 115 <| Bz) ?_
  rintro W1 hW z2 ⟨⟨b1, yb1, k1, f1⟩, ⟨b2, yb2, k2, f2⟩, -⟩
  go_wp2
  refine wp_loop (ttRel w p cap l) (fun a' _ => l.length - (intAt (a'.tmps.getD 8 undef)).toNat) ?_ ?_
  · unfold ttRel
    exact ⟨hW, b1, 0, 0, none, 0, 0, frame_ex rfl, b2, ⟨_, rfl, Bits.zero _⟩, by simp [lsum], Nat.zero_le _⟩
  clear b1 b2 hW k1 f1 k2 f2
  rintro a' W ⟨hW, b1, i, s, pz, lz, cz, ⟨u, rfl⟩, b2, hS, hs, hi'⟩
  have hz := hW.size
  have yb1 := b1.lt
  have yb2 := b2.lt
  have hsb := lsum_bd (l := (l.take i).map (·.2)) (B := 9223372036854775808) (fun v hv' => by
    obtain ⟨x, hx, rfl⟩ := List.mem_map.1 hv'
    have := hv x (List.mem_of_mem_take hx)
    unfold I64 at this
    omega)
  have hlen : ((l.take i).map (·.2)).length ≤ 2000 := by rw [List.length_map, List.length_take]; omega
  have hs9 : s.natAbs < 2 ^ 900 := lt_pow2 80 900 (show s.natAbs < 2 ^ 80 by rw [hs]; omega) (by omega)
  clear hsb hlen
  rcases Nat.lt_or_ge i l.length with hlt | hge
  · obtain ⟨⟨t, y⟩, tr⟩ : ∃ x, l[i]? = some x := ⟨l[i]'(by omega), List.getElem?_eq_getElem (by omega)⟩
    have hy := hv _ (List.mem_of_getElem? tr)
    simp only at hy
    have hy9 : y.natAbs < 2 ^ 900 := lt_pow2 64 900 (show y.natAbs < 2 ^ 64 by unfold I64 at hy; omega) (by omega)
    obtain ⟨b0, o0, rfl, q0, q1⟩ := (hp.below hW).at' i _ tr
    simp only at q0 q1
    have hs2 := Lib.hid (show s + y = lsum ((l.take (i + 1)).map (·.2)) by rw [List.take_add_one, tr, List.map_append, lsum_append, hs]; simp [lsum])
    clear hs tr hp
    have zv := cell_lt q0
    try simp only at zv
    have k1 := b1.cell
    have f1 := b1.frozen
    have k2 := b2.cell
    have f2 := b2.frozen
    go_upto_region 5 with (fail)
    clear k1 f1 k2 f2
    refine wp_cutB w (Bc w.heap.size #[.bool false, .slice none 0 0] 115 <| Bc (w.heap.size + 1) #[.bool (decide (s < 0)), .slice pz lz cz] 115 <| Bc W.heap.size #[.int .i64 t, .int .i64 y] 58 <| Rc (fun W' => NumIs W' (.agg #[.bool (decide (s < 0)), .slice pz lz cz]) s) <| Bz) ?_ (hI := by exact belowAny) (hR := (Bc.mk (by exact blkAny2) <| Bc.mk (by exact blkAny2) <| Bc.mk (by exact blkAny2) <| Rc.mk (by exact NumIs.below hS belowAny) <| trivial))
    clear b1 b2 hW
    rintro W21 hW z22 hL
    obtain ⟨⟨b1, yb1, k1, f1⟩, ⟨b2, yb2, k2, f2⟩, ⟨b3, yb3, k3, f3⟩, b4, -⟩ := id hL
    clear k1 f1 k2 f2 k3 f3
    refine wp_regD 5 19 hW hL ?_
    iterate 3 refine dA ?_
    apply nd_call (NI (y)) (hg := rfl) (hal := rfl)
    · exact NI.closed _
    · intro a' W' hC hE
      obtain ⟨_, ⟨-, -, k1, -⟩, ⟨-, -, k2, -⟩, ⟨-, -, k3, -⟩, k4, -⟩ := hC
      simp [Oper.looksAt, Op.operands, Call.operands, envOf, Det] at hE
      refine ⟨_, _, ?_, (c_refInt y W' hy.1 hy.2).mono ?_⟩
      · simp [go_sem, Act.eval, hE]
        try rfl
      · rintro e w' ⟨v, rfl, hB, hR⟩
        exact ⟨_, rfl, hR, hB⟩
    apply nd_call (NI (s + y)) (hg := rfl) (hal := rfl)
    · exact NI.closed _
    · intro a' W' hC hE
      obtain ⟨_, ⟨-, -, k1, -⟩, ⟨-, -, k2, -⟩, ⟨-, -, k3, -⟩, k4, -⟩ := hC
      simp [Oper.looksAt, Op.operands, Call.operands, envOf, Det] at hE
      refine ⟨_, _, ?_, (c_refAdd _ _ s y W' k4 hE.2 hs9 hy9).mono ?_⟩
      · simp [go_sem, Act.eval, hE.1]
        try rfl
      · rintro e w' ⟨v, rfl, hB, hR⟩
        exact ⟨_, rfl, hR, hB⟩
    clear hW hL b1 b2 b3 b4
    rintro W23 hW z24 hL
    simp only [ndR]
    intros
    simp only [ndS]
    obtain ⟨⟨b1, yb1, k1, f1⟩, ⟨b2, yb2, k2, f2⟩, ⟨b3, yb3, k3, f3⟩, b4, -⟩ := hL
    rename NI (s + y) _ _ => hq
    obtain ⟨p1, l1, k1', rfl, hq1⟩ := num_shape hq
    replace hq1 := Lib.hid hq1
    clear hq
    obtain ⟨B, hB⟩ : ∃ B, B = (decide (s + y < 0)) := ⟨_, rfl⟩
    rw [← hB]
    replace hB := Lib.hid hB
    have hq2 := Lib.hid (hq1.out.store b2 (.bool B) (.slice p1 l1 k1'))
    clear hq1
    go_upto_region 6 with (fail)
    clear k1 f1 k2 f2 k3 f3
    refine wp_cutB w (Bc w.heap.size #[.bool false, .slice none 0 0] 115 <| Bc (w.heap.size + 1) #[.bool B, .slice p1 l1 k1'] 115 <| Rc (fun W' => Bits W' (.slice p1 l1 k1') (s + y).natAbs) <| Bz) ?_ (hI := by exact belowAny) (hR := (Bc.mk (by exact blkAny2) <| Bc.mk (by exact blkAny2) <| Rc.mk (by exact hq2.out) <| trivial))
    clear b1 b2 b3 hW
    rintro W25 hW z26 ⟨⟨b1, yb1, k1, f1⟩, ⟨b2, yb2, k2, f2⟩, b3, -⟩
    clear hq2
    go_wp2
    rw [show (i : Int) + 1 = ((i + 1 : Nat) : Int) by omega]
    refine ⟨?_, by simp [intAt]; omega⟩
    unfold ttRel
    exact ⟨hW, b1, i + 1, s + y, p1, l1, k1', frame_ex rfl, by rw [hB.out] at b2; exact b2, ⟨_, rfl, b3⟩, hs2.out, by omega⟩
  · obtain rfl : i = l.length := by omega
    rw [List.take_of_length_le (Nat.le_refl _)] at hs
    replace hs := Lib.hid hs
    have k1 := b1.cell
    have f1 := b1.frozen
    have k2 := b2.cell
    have f2 := b2.frozen
    obtain ⟨B, hB⟩ : ∃ B, B = (decide (s < 0)) := ⟨_, rfl⟩
    rw [← hB] at hS b2 k2
    replace hB := Lib.hid hB
    replace hS := Lib.hid hS
    go_wp2
    refine bodyPost_ret (v := .agg #[.bool B, .slice pz lz cz]) (by simp [results, Tryz.results104, go_sem, k1, f1, k2, f2, yb1, yb2]) rfl ⟨_, rfl, ?_, by exact belowAny⟩
    rw [← hs.out]
    obtain ⟨sz, e9, hq⟩ := hS.out
    refine ⟨_, by rw [hB.out], ?_⟩
    injection e9 with e9
    have e8 : sz = .slice pz lz cz := by simp at e9; exact e9.2.symm
    subst e8
    have hS := hq.store b1 (.bool B) (.slice pz lz cz)
    simpa using hS
end Go.Proofs.YtdeghcgakkhbmaaGreat
namespace Go.Proofs.YtdeghcgakkhbmaaGreat
open Go.RowKit
set_option maxRecDepth 100000 in
set_option maxHeartbeats 2000000 in
theorem c_refMean (mc lw lr hw hr : Int) (p : Option Addr) (cap : Nat) (l : List (Int × Int)) (eps : Int) (w : World) (hp : PtsIn w p l) (hl : l.length ≤ 2000) (hv : ∀ x, x ∈ l → I64 x.2) (he0 : 0 ≤ eps) (he1 : eps ≤ 1099511627776) (hlw : I64 lw) (hlr : I64 lr) (hhw : I64 hw) (hhr : I64 hr) :
    Calls Tryz.prog 62 #[.slice p l.length cap, .agg #[.int .i64 mc, .int .i64 lw, .int .i64 lr, .int .i64 hw, .int .i64 hr], .int .i64 eps] w fun e w' => e = .returned (.bool ((((((decide (0 ≤ lr) && decide (lr < (l.length : Int))) && (decide (0 ≤ hr) && decide (hr < (l.length : Int)))) && (mc == (l.length : Int))) && !(decide (lsum (l.map (·.2)) < lw * (l.length : Int) + lr))) && !(decide (hw * (l.length : Int) + hr < lsum (l.map (·.2))))) && !(decide (2 * eps * (l.length : Int) < hw * (l.length : Int) + hr - (lw * (l.length : Int) + lr))))) ∧ Below w.heap.size w w' := by
  have hll : I64 (l.length : Int) := by unfold I64; omega
  have hE2 : I64 (2 * eps) := by unfold I64; omega
  have EQ2 := Lib.hid (show wrap64 (2 * eps) = 2 * eps by simp only [wrap64_eq]; omega)
  have he4 : (2 * eps).natAbs < 2 ^ 400 := lt_pow2 64 400 (show (2 * eps).natAbs < 2 ^ 64 by omega) (by omega)
  have hl4 : (l.length : Int).natAbs < 2 ^ 400 := lt_pow2 64 400 (show (l.length : Int).natAbs < 2 ^ 64 by omega) (by omega)
  have hmm0 : 0 ≤ 2 * eps * (l.length : Int) := Int.mul_nonneg (by omega) (by omega)
  have hmm1 : 2 * eps * (l.length : Int) ≤ 2 * eps * 1000000 := Int.mul_le_mul_of_nonneg_left (by omega) (by omega)
  have hm9 : (2 * eps * (l.length : Int)).natAbs < 2 ^ 900 := lt_pow2 80 900 (show _ < 2 ^ 80 by omega) (by omega)
  have hsb := lsum_bd (l := l.map (·.2)) (B := 9223372036854775808) (fun v hv' => by
    obtain ⟨x, hx, rfl⟩ := List.mem_map.1 hv'
    have := hv x hx
    unfold I64 at this
    omega)
  rw [List.length_map] at hsb
  have hs9 : (lsum (l.map (·.2))).natAbs < 2 ^ 900 := lt_pow2 80 900 (show _ < 2 ^ 80 by omega) (by omega)
  have b1 := mdMul_bd (n := lw) (k := (l.length : Int)) hlw (by omega) (by omega)
  have b2 := mdMul_bd (n := hw) (k := (l.length : Int)) hhw (by omega) (by omega)
  have hz9 : (lw * (l.length : Int) + lr).natAbs < 2 ^ 900 := lt_pow2 90 900 (show _ < 2 ^ 90 by unfold I64 at hlr; omega) (by omega)
  have hh9 : (hw * (l.length : Int) + hr).natAbs < 2 ^ 900 := lt_pow2 90 900 (show _ < 2 ^ 90 by unfold I64 at hhr; omega) (by omega)
  have hd9 : (hw * (l.length : Int) + hr - (lw * (l.length : Int) + lr)).natAbs < 2 ^ 900 := lt_pow2 90 900 (show _ < 2 ^ 90 by unfold I64 at hlr hhr; omega) (by omega)
  clear b1 b2 hsb hmm0 hmm1
  go_enter Tryz.func62, Tryz.ntmps62
  go_upto_region 1 with (fail)
  refine wp_cutB w (Bc w.heap.size #[.int .i64 mc, .int .i64 lw, .int .i64 lr, .int .i64 hw, .int .i64 hr] 42 <| Bz) ?_
  rintro W1 hW z2 ⟨⟨b1, yb1, k1, f1⟩, -⟩
  go_wp2_with fail
  refine (c_refMixed lw lr (l.length : Int) _ hlw hlr hll).mono ?_
  rintro e w3 ⟨p1, l1, c1, rfl, hq1, hb3⟩
  have z4 := hb3.size
  try simp at z4
  clear k1 f1
  refine haveB w w3 (Bc w.heap.size #[.int .i64 mc, .int .i64 lw, .int .i64 lr, .int .i64 hw, .int .i64 hr] 42 <| Bz) ?_
  clear b1 hW
  rintro hW z5 ⟨⟨b1, yb1, k1, f1⟩, -⟩
  have b2 := hq1
  clear hq1
  go_wp2_with fail
  refine (c_refMixed hw hr (l.length : Int) _ hhw hhr hll).mono ?_
  rintro e w6 ⟨p2, l2, c2, rfl, hq2, hb6⟩
  have z7 := hb6.size
  try simp at z7
  clear k1 f1
  refine haveB w w6 (Bc w.heap.size #[.int .i64 mc, .int .i64 lw, .int .i64 lr, .int .i64 hw, .int .i64 hr] 42 <| Rc (fun W' => Bits W' (.slice p1 l1 c1) (lw * (l.length : Int) + lr).natAbs) <| Bc w3.heap.size #[.bool (decide (lw * (l.length : Int) + lr < 0)), .slice p1 l1 c1] 115 <| Bz) ?_ (hR := (Bc.mk (by exact blkAny2) <| Rc.mk (by first | exact b2 | exact Bits.below (Bits.below b2 (by exact belowAny)) hb6 | exact Bits.below b2 (by exact belowAny)) <| Bc.mk (by exact blkAny2) <| trivial))
  clear b1 b2 hW
  rintro hW z8 ⟨⟨b1, yb1, k1, f1⟩, b2, ⟨b3, yb3, k3, f3⟩, -⟩
  have b4 := hq2
  clear hq2
  go_wp2_with fail
  refine (c_refTotal p cap l _ (PtsIn.below hp (by exact belowAny)) hl hv).mono ?_
  rintro e w9 ⟨v3, rfl, hq3, hb9⟩
  have z10 := hb9.size
  try simp at z10
  clear k1 f1 k3 f3
  refine haveB w w9 (Bc w.heap.size #[.int .i64 mc, .int .i64 lw, .int .i64 lr, .int .i64 hw, .int .i64 hr] 42 <| Rc (fun W' => Bits W' (.slice p1 l1 c1) (lw * (l.length : Int) + lr).natAbs) <| Bc w3.heap.size #[.bool (decide (lw * (l.length : Int) + lr < 0)), .slice p1 l1 c1] 115 <| Rc (fun W' => Bits W' (.slice p2 l2 c2) (hw * (l.length : Int) + hr).natAbs) <| Bc w6.heap.size #[.bool (decide (hw * (l.length : Int) + hr < 0)), .slice p2 l2 c2] 115 <| Bz) ?_ (hR := (Bc.mk (by exact blkAny2) <| Rc.mk (by first | exact b2 | exact Bits.below (Bits.below b2 (by exact belowAny)) hb9 | exact Bits.below b2 (by exact belowAny)) <| Bc.mk (by exact blkAny2) <| Rc.mk (by first | exact b4 | exact Bits.below (Bits.below b4 (by exact belowAny)) hb9 | exact Bits.below b4 (by exact belowAny)) <| Bc.mk (by exact blkAny2) <| trivial))
  clear b1 b2 b3 b4 hW
  rintro hW z11 ⟨⟨b1, yb1, k1, f1⟩, b2, ⟨b3, yb3, k3, f3⟩, b4, ⟨b5, yb5, k5, f5⟩, -⟩
  obtain ⟨p3, l3, c3, rfl, b6⟩ := num_shape hq3
  clear hq3
  go_upto_region 4 with (fail)
  clear k1 f1 k3 f3 k5 f5
  refine wp_cutB w (Bc w.heap.size #[.int .i64 mc, .int .i64 lw, .int .i64 lr, .int .i64 hw, .int .i64 hr] 42 <| Rc (fun W' => Bits W' (.slice p1 l1 c1) (lw * (l.length : Int) + lr).natAbs) <| Bc w3.heap.size #[.bool (decide (lw * (l.length : Int) + lr < 0)), .slice p1 l1 c1] 115 <| Rc (fun W' => Bits W' (.slice p2 l2 c2) (hw * (l.length : Int) + hr).natAbs) <| Bc w6.heap.size #[.bool (decide (hw * (l.length : Int) + hr < 0)), .slice p2 l2 c2] 115 <| Rc (fun W' => Bits W' (.slice p3 l3 c3) (lsum (l.map (·.2))).natAbs) <| Bc w9.heap.size #[.bool (decide (lsum (l.map (·.2)) < 0)), .slice p3 l3 c3] 115 <| Bz) ?_ (hI := by exact belowAny) (hR := (Bc.mk (by exact blkAny2) <| Rc.mk (by first | exact b2 | exact Bits.below (Bits.below b2 (by exact belowAny)) hW | exact Bits.below b2 (by exact belowAny)) <| Bc.mk (by exact blkAny2) <| Rc.mk (by first | exact b4 | exact Bits.below (Bits.below b4 (by exact belowAny)) hW | exact Bits.below b4 (by exact belowAny)) <| Bc.mk (by exact blkAny2) <| Rc.mk (by first | exact b6 | exact Bits.below (Bits.below b6 (by exact belowAny)) hW | exact Bits.below b6 (by exact belowAny)) <| Bc.mk (by exact blkAny2) <| trivial))
  clear b1 b2 b3 b4 b5 b6 hW
  rintro W12 hW z13 hL
  obtain ⟨⟨b1, yb1, k1, f1⟩, b2, ⟨b3, yb3, k3, f3⟩, b4, ⟨b5, yb5, k5, f5⟩, b6, ⟨b7, yb7, k7, f7⟩, -⟩ := id hL
  clear k1 f1 k3 f3 k5 f5 k7 f7
  refine wp_regS 8 69 hW hL ?_
  iterate 2 refine dE (fun W' hC => EQ2.out) ?_
  apply nd_call (NI (2 * eps)) (hg := rfl) (hal := rfl)
  · exact NI.closed _
  · intro a' W' hC hE
    obtain ⟨_, ⟨-, -, k1, -⟩, k2, ⟨-, -, k3, -⟩, k4, ⟨-, -, k5, -⟩, k6, ⟨-, -, k7, -⟩, -⟩ := hC
    simp [Oper.looksAt, Op.operands, Call.operands, envOf, Det] at hE
    refine ⟨_, _, ?_, (c_refInt (2 * eps) W' hE2.1 hE2.2).mono ?_⟩
    · simp [go_sem, Act.eval, hE]
      try rfl
    · rintro e w' ⟨v, rfl, hB, hR⟩
      exact ⟨_, rfl, hR, hB⟩
  iterate 2 refine dE (fun W' hC => EQ2.out) ?_
  apply nd_call (NI ((l.length : Int))) (hg := rfl) (hal := rfl)
  · exact NI.closed _
  · intro a' W' hC hE
    obtain ⟨_, ⟨-, -, k1, -⟩, k2, ⟨-, -, k3, -⟩, k4, ⟨-, -, k5, -⟩, k6, ⟨-, -, k7, -⟩, -⟩ := hC
    simp [Oper.looksAt, Op.operands, Call.operands, envOf, Det] at hE
    refine ⟨_, _, ?_, (c_refInt (l.length : Int) W' hll.1 hll.2).mono ?_⟩
    · simp [go_sem, Act.eval, hE]
      try rfl
    · rintro e w' ⟨v, rfl, hB, hR⟩
      exact ⟨_, rfl, hR, hB⟩
  apply nd_call (NI (2 * eps * (l.length : Int))) (hg := rfl) (hal := rfl)
  · exact NI.closed _
  · intro a' W' hC hE
    obtain ⟨_, ⟨-, -, k1, -⟩, k2, ⟨-, -, k3, -⟩, k4, ⟨-, -, k5, -⟩, k6, ⟨-, -, k7, -⟩, -⟩ := hC
    simp [Oper.looksAt, Op.operands, Call.operands, envOf, Det] at hE
    refine ⟨_, _, ?_, (c_refMul _ _ (2 * eps) (l.length : Int) W' hE.1 hE.2 he4 hl4).mono ?_⟩
    · simp [go_sem, Act.eval]
      try rfl
    · rintro e w' ⟨v, rfl, hB, hR⟩
      exact ⟨_, rfl, hR, hB⟩
  apply nd_alloc W12.heap.size #[.bool false, .slice none 0 0] 115 rfl rfl
  · exact fun W' hC => hC.1.size
  · simp [others] <;> omega
  · intro w; kernel_rfl
  clear hW hL b1 b2 b3 b4 b5 b6 b7
  rintro W14 hW z15 hL
  simp only [ndR]
  intros
  simp only [ndS]
  obtain ⟨⟨b1, yb1, k1, f1⟩, b2, ⟨b3, yb3, k3, f3⟩, b4, ⟨b5, yb5, k5, f5⟩, b6, ⟨b7, yb7, k7, f7⟩, -⟩ := hL
  obtain ⟨oM, rfl, hgM, b8⟩ := ‹NewVar _ _ _ _ _›
  have yb8 := b8.lt
  rename NI (2 * eps * (l.length : Int)) _ _ => hq
  obtain ⟨pm, lm, cm, rfl, hq1⟩ := num_shape hq
  replace hq1 := Lib.hid hq1
  clear hq
  have k8 := b8.cell
  have f8 := b8.frozen
  have hq2 := Lib.hid (hq1.out.store b8 (.bool (decide (2 * eps * (l.length : Int) < 0))) (.slice pm lm cm))
  clear hq1
  go_upto_region 5 with (fail)
  clear k1 f1 k3 f3 k5 f5 k7 f7 k8 f8
  refine wp_cutB w (Bc w.heap.size #[.int .i64 mc, .int .i64 lw, .int .i64 lr, .int .i64 hw, .int .i64 hr] 42 <| Rc (fun W' => Bits W' (.slice p1 l1 c1) (lw * (l.length : Int) + lr).natAbs) <| Bc w3.heap.size #[.bool (decide (lw * (l.length : Int) + lr < 0)), .slice p1 l1 c1] 115 <| Rc (fun W' => Bits W' (.slice p2 l2 c2) (hw * (l.length : Int) + hr).natAbs) <| Bc w6.heap.size #[.bool (decide (hw * (l.length : Int) + hr < 0)), .slice p2 l2 c2] 115 <| Rc (fun W' => Bits W' (.slice p3 l3 c3) (lsum (l.map (·.2))).natAbs) <| Bc w9.heap.size #[.bool (decide (lsum (l.map (·.2)) < 0)), .slice p3 l3 c3] 115 <| Bc oM #[.bool (decide (2 * eps * (l.length : Int) < 0)), .slice pm lm cm] 115 <| Rc (fun W' => Bits W' (.slice pm lm cm) (2 * eps * (l.length : Int)).natAbs) <| Bz) ?_ (hI := by exact belowAny) (hR := (Bc.mk (by exact blkAny2) <| Rc.mk (by exact Bits.store b2 b8 _ _) <| Bc.mk (by exact blkAny2) <| Rc.mk (by exact Bits.store b4 b8 _ _) <| Bc.mk (by exact blkAny2) <| Rc.mk (by exact Bits.store b6 b8 _ _) <| Bc.mk (by exact blkAny2) <| Bc.mk (by exact blkAny2) <| Rc.mk (by exact hq2.out) <| trivial))
  clear b1 b2 b3 b4 b5 b6 b7 b8 hW
  rintro W16 hW z17 hL
  obtain ⟨⟨b1, yb1, k1, f1⟩, b2, ⟨b3, yb3, k3, f3⟩, b4, ⟨b5, yb5, k5, f5⟩, b6, ⟨b7, yb7, k7, f7⟩, ⟨b8, yb8, k8, f8⟩, b9, -⟩ := id hL
  clear k1 f1 k3 f3 k5 f5 k7 f7 k8 f8
  refine wp_regD 32 69 hW hL ?_
  iterate 2 refine dA ?_
  refine gA ?_
  refine pA ?_
  refine dA ?_
  iterate 5 refine gA ?_
  refine pA ?_
  refine dA ?_
  iterate 2 refine gA ?_
  apply nd_callvg (p := true) (c := .bool (decide (lsum (l.map (·.2)) < lw * (l.length : Int) + lr))) (hg := rfl) (hd := rfl) (hal := rfl)
  · intro v W' h
    simp [envOf, Det] at h
    simp
    exact h
  · intro hp hx a' W' hC hE
    obtain ⟨_, ⟨-, -, k1, -⟩, k2, ⟨-, -, k3, -⟩, k4, ⟨-, -, k5, -⟩, k6, ⟨-, -, k7, -⟩, ⟨-, -, k8, -⟩, k9, -⟩ := hC
    simp [Oper.looksAt, Op.operands, Call.operands, envOf, Det, GDet, GS, hx] at hE
    refine ⟨_, _, ?_, (c_refLess (.agg #[.bool (decide (lsum (l.map (·.2)) < 0)), .slice p3 l3 c3]) (.agg #[.bool (decide (lw * (l.length : Int) + lr < 0)), .slice p1 l1 c1]) _ _ W' ⟨_, rfl, k6⟩ ⟨_, rfl, k2⟩ hs9 hz9)⟩
    simp [go_sem, Act.eval, hE]
    try rfl
  refine gA ?_
  refine pA ?_
  refine dA ?_
  iterate 2 refine gA ?_
  apply nd_callvg (p := true) (c := .bool (decide (hw * (l.length : Int) + hr < lsum (l.map (·.2))))) (hg := rfl) (hd := rfl) (hal := rfl)
  · intro v W' h
    simp [envOf, Det] at h
    simp
    exact h
  · intro hp hx a' W' hC hE
    obtain ⟨_, ⟨-, -, k1, -⟩, k2, ⟨-, -, k3, -⟩, k4, ⟨-, -, k5, -⟩, k6, ⟨-, -, k7, -⟩, ⟨-, -, k8, -⟩, k9, -⟩ := hC
    simp [Oper.looksAt, Op.operands, Call.operands, envOf, Det, GDet, GS, hx] at hE
    refine ⟨_, _, ?_, (c_refLess (.agg #[.bool (decide (hw * (l.length : Int) + hr < 0)), .slice p2 l2 c2]) (.agg #[.bool (decide (lsum (l.map (·.2)) < 0)), .slice p3 l3 c3]) _ _ W' ⟨_, rfl, k4⟩ ⟨_, rfl, k6⟩ hh9 hs9)⟩
    simp [go_sem, Act.eval, hE]
    try rfl
  refine gA ?_
  refine pA ?_
  refine dA ?_
  iterate 3 refine gA ?_
  apply nd_gcall (NI (hw * (l.length : Int) + hr - (lw * (l.length : Int) + lr))) (p := true) (hg := rfl) (hd := rfl) (hal := rfl)
  · exact NI.closed _
  · intro v W' h
    simp [envOf, Det] at h
    simp
    exact h
  · intro hp hx a' W' hC hE
    obtain ⟨_, ⟨-, -, k1, -⟩, k2, ⟨-, -, k3, -⟩, k4, ⟨-, -, k5, -⟩, k6, ⟨-, -, k7, -⟩, ⟨-, -, k8, -⟩, k9, -⟩ := hC
    simp [Oper.looksAt, Op.operands, Call.operands, envOf, Det, GDet, GS, hx] at hE
    refine ⟨_, _, ?_, (c_refSub (.agg #[.bool (decide (hw * (l.length : Int) + hr < 0)), .slice p2 l2 c2]) (.agg #[.bool (decide (lw * (l.length : Int) + lr < 0)), .slice p1 l1 c1]) _ _ W' ⟨_, rfl, k4⟩ ⟨_, rfl, k2⟩ hh9 hz9).mono ?_⟩
    · simp [go_sem, Act.eval, hE]
      try rfl
    · rintro e w' ⟨v, rfl, hB, hR⟩
      exact ⟨_, rfl, hR, hB⟩
  apply nd_callvg (p := true) (c := .bool (decide (2 * eps * (l.length : Int) < hw * (l.length : Int) + hr - (lw * (l.length : Int) + lr)))) (hg := rfl) (hd := rfl) (hal := rfl)
  · intro v W' h
    simp [envOf, Det] at h
    simp
    exact h
  · intro hp hx a' W' hC hE
    obtain ⟨_, ⟨-, -, k1, -⟩, k2, ⟨-, -, k3, -⟩, k4, ⟨-, -, k5, -⟩, k6, ⟨-, -, k7, -⟩, ⟨-, -, k8, -⟩, k9, -⟩ := hC
    simp [Oper.looksAt, Op.operands, Call.operands, envOf, Det, GDet, GS, hx] at hE
    refine ⟨_, _, ?_, (c_refLess (.agg #[.bool (decide (2 * eps * (l.length : Int) < 0)), .slice pm lm cm]) _ _ _ W' ⟨_, rfl, k9⟩ hE.2.1 hm9 hd9)⟩
    simp [go_sem, Act.eval, hE.1]
    try rfl
  refine gA ?_
  refine pA ?_
  refine dA ?_
  clear hW hL b1 b2 b3 b4 b5 b6 b7 b8 b9
  rintro W18 hW z19 hL
  simp only [ndR]
  intros
  repeat (rename GDet _ _ _ _ => hgd; clear hgd)
  simp only [ndS]
  refine wpList_nil ?_
  obtain ⟨⟨b1, yb1, k1, f1⟩, b2, ⟨b3, yb3, k3, f3⟩, b4, ⟨b5, yb5, k5, f5⟩, b6, ⟨b7, yb7, k7, f7⟩, ⟨b8, yb8, k8, f8⟩, b9, -⟩ := hL
  go_wp2
  refine bodyPost_ret (by simp [results, Tryz.results62, go_sem, k1, f1, k3, f3, k5, f5, k7, f7, k8, f8, yb1, yb3, yb5, yb7, yb8]) rfl ⟨rfl, by exact belowAny⟩
end Go.Proofs.YtdeghcgakkhbmaaGreat
namespace Go.Proofs.YtdeghcgakkhbmaaGreat
open Go.RowKit
theorem c_refValueB (va : Value) (z : Int) (w : World) (h : NumIs w va z) (hz : z.natAbs < 2 ^ 900) :
    Calls Tryz.prog 106 #[va] w fun e w' => e = .returned (.tuple #[.int .i64 (wv (inI z) z), .bool (inI z)]) ∧ Below w.heap.size w w' := by
  unfold inI wv
  by_cases h0 : I64 z
  · rw [decide_eq_true h0, if_pos rfl]
    exact c_refValue va z w h (by unfold I64 at h0; omega) (by unfold I64 at h0; omega)
  · rw [decide_eq_false h0, if_neg (by decide)]
    exact c_refValue_no va z w h hz (by unfold I64 at h0; omega)
set_option maxRecDepth 100000 in
set_option maxHeartbeats 2000000 in
theorem refSum_over (cn lo up mc lw lr hw hr : Int) (p : Option Addr) (cap : Nat) (l : List (Int × Int)) (eps : Int) (w : World) (hp : PtsIn w p l) (hl : l.length ≤ 2000) (hv : ∀ x, x ∈ l → I64 x.2) (he0 : 0 ≤ eps) (he1 : eps ≤ 1099511627776) : Calls Tryz.prog 61 #[.slice p l.length cap, .agg #[.int .i64 5, .int .i64 cn, .int .i64 lo, .int .i64 up, .int .i64 mc, .int .i64 lw, .int .i64 lr, .int .i64 hw, .int .i64 hr], .int .i64 eps] w fun e w' => e = .returned (.bool (((cn == 0) && ((lo == 0) && ((up == 0) && ((mc == 0) && ((lw == 0) && ((lr == 0) && ((hw == 0) && ((hr == 0))))))))) && (!(inI (lsum (l.map (·.2)) - 2 * eps * (l.length : Int))) || !(inI (lsum (l.map (·.2)) + 2 * eps * (l.length : Int)))))) ∧ Below w.heap.size w w' := by
  have hll : I64 (l.length : Int) := by unfold I64; omega
  have hE2 : I64 (2 * eps) := by unfold I64; omega
  have EQ2 := Lib.hid (show wrap64 (2 * eps) = 2 * eps by simp only [wrap64_eq]; omega)
  have he4 : (2 * eps).natAbs < 2 ^ 400 := lt_pow2 64 400 (show (2 * eps).natAbs < 2 ^ 64 by omega) (by omega)
  have hl4 : (l.length : Int).natAbs < 2 ^ 400 := lt_pow2 64 400 (show (l.length : Int).natAbs < 2 ^ 64 by omega) (by omega)
  have hmm0 : 0 ≤ 2 * eps * (l.length : Int) := Int.mul_nonneg (by omega) (by omega)
  have hmm1 : 2 * eps * (l.length : Int) ≤ 2 * eps * 1000000 := Int.mul_le_mul_of_nonneg_left (by omega) (by omega)
  have hm9 : (2 * eps * (l.length : Int)).natAbs < 2 ^ 900 := lt_pow2 80 900 (show _ < 2 ^ 80 by omega) (by omega)
  have hsb := lsum_bd (l := l.map (·.2)) (B := 9223372036854775808) (fun v hv' => by
    obtain ⟨x, hx, rfl⟩ := List.mem_map.1 hv'
    have := hv x hx
    unfold I64 at this
    omega)
  rw [List.length_map] at hsb
  have hs9 : (lsum (l.map (·.2))).natAbs < 2 ^ 900 := lt_pow2 80 900 (show _ < 2 ^ 80 by omega) (by omega)
  have hd9 : (lsum (l.map (·.2)) - 2 * eps * (l.length : Int)).natAbs < 2 ^ 900 := lt_pow2 90 900 (show _ < 2 ^ 90 by omega) (by omega)
  have ha9 : (lsum (l.map (·.2)) + 2 * eps * (l.length : Int)).natAbs < 2 ^ 900 := lt_pow2 90 900 (show _ < 2 ^ 90 by omega) (by omega)
  clear hsb hmm0 hmm1
  replace he4 := Lib.hid he4
  replace hl4 := Lib.hid hl4
  replace hs9 := Lib.hid hs9
  replace hm9 := Lib.hid hm9
  replace hd9 := Lib.hid hd9
  replace ha9 := Lib.hid ha9
  go_enter Tryz.func61, Tryz.ntmps61
  go_wp2_with fail
  refine (c_refTotal p cap l _ (PtsIn.below hp (by exact belowAny)) hl hv).mono ?_
  rintro e w1 ⟨v3, rfl, hq3, hb1⟩
  have z2 := hb1.size
  try simp at z2
  refine haveB w w1 (Bc w.heap.size #[.int .i64 5, .int .i64 cn, .int .i64 lo, .int .i64 up, .int .i64 mc, .int .i64 lw, .int .i64 lr, .int .i64 hw, .int .i64 hr] 44 <| Bz) ?_
  rintro hW z3 ⟨⟨b1, yb1, k1, f1⟩, -⟩
  obtain ⟨p3, l3, c3, rfl, b2⟩ := num_shape hq3
  clear hq3
  go_upto_region 2 with (fail)
  clear k1 f1
  refine wp_cutB w (Bc w.heap.size #[.int .i64 5, .int .i64 cn, .int .i64 lo, .int .i64 up, .int .i64 mc, .int .i64 lw, .int .i64 lr, .int .i64 hw, .int .i64 hr] 44 <| Rc (fun W' => Bits W' (.slice p3 l3 c3) (lsum (l.map (·.2))).natAbs) <| Bc w1.heap.size #[.bool (decide (lsum (l.map (·.2)) < 0)), .slice p3 l3 c3] 115 <| Bz) ?_ (hI := by exact belowAny) (hR := (Bc.mk (by exact blkAny2) <| Rc.mk (by first | exact b2 | exact Bits.below (Bits.below b2 (by exact belowAny)) hW | exact Bits.below b2 (by exact belowAny)) <| Bc.mk (by exact blkAny2) <| trivial))
  clear b1 b2 hW
  rintro W4 hW z5 hL
  obtain ⟨⟨b1, yb1, k1, f1⟩, b2, ⟨b3, yb3, k3, f3⟩, -⟩ := id hL
  clear k1 f1 k3 f3
  refine wp_regS 8 72 hW hL ?_
  iterate 2 refine dE (fun W' hC => EQ2.out) ?_
  apply nd_call (NI (2 * eps)) (hg := rfl) (hal := rfl)
  · exact NI.closed _
  · intro a' W' hC hE
    obtain ⟨_, ⟨-, -, k1, -⟩, k2, ⟨-, -, k3, -⟩, -⟩ := hC
    simp [Oper.looksAt, Op.operands, Call.operands, envOf, Det] at hE
    refine ⟨_, _, ?_, (c_refInt (2 * eps) W' hE2.1 hE2.2).mono ?_⟩
    · simp [go_sem, Act.eval, hE]
      try rfl
    · rintro e w' ⟨v, rfl, hB, hR⟩
      exact ⟨_, rfl, hR, hB⟩
  iterate 2 refine dE (fun W' hC => EQ2.out) ?_
  apply nd_call (NI ((l.length : Int))) (hg := rfl) (hal := rfl)
  · exact NI.closed _
  · intro a' W' hC hE
    obtain ⟨_, ⟨-, -, k1, -⟩, k2, ⟨-, -, k3, -⟩, -⟩ := hC
    simp [Oper.looksAt, Op.operands, Call.operands, envOf, Det] at hE
    refine ⟨_, _, ?_, (c_refInt (l.length : Int) W' hll.1 hll.2).mono ?_⟩
    · simp [go_sem, Act.eval, hE]
      try rfl
    · rintro e w' ⟨v, rfl, hB, hR⟩
      exact ⟨_, rfl, hR, hB⟩
  apply nd_call (NI (2 * eps * (l.length : Int))) (hg := rfl) (hal := rfl)
  · exact NI.closed _
  · intro a' W' hC hE
    obtain ⟨_, ⟨-, -, k1, -⟩, k2, ⟨-, -, k3, -⟩, -⟩ := hC
    simp [Oper.looksAt, Op.operands, Call.operands, envOf, Det] at hE
    refine ⟨_, _, ?_, (c_refMul _ _ (2 * eps) (l.length : Int) W' hE.1 hE.2 he4.out hl4.out).mono ?_⟩
    · simp [go_sem, Act.eval]
      try rfl
    · rintro e w' ⟨v, rfl, hB, hR⟩
      exact ⟨_, rfl, hR, hB⟩
  apply nd_alloc W4.heap.size #[.bool false, .slice none 0 0] 115 rfl rfl
  · exact fun W' hC => hC.1.size
  · simp [others] <;> omega
  · intro w; kernel_rfl
  clear hW hL b1 b2 b3
  rintro W6 hW z7 hL
  simp only [ndR]
  intros
  simp only [ndS]
  obtain ⟨⟨b1, yb1, k1, f1⟩, b2, ⟨b3, yb3, k3, f3⟩, -⟩ := hL
  obtain ⟨oM, rfl, hgM, b4⟩ := ‹NewVar _ _ _ _ _›
  have yb4 := b4.lt
  rename NI (2 * eps * (l.length : Int)) _ _ => hq
  obtain ⟨pm, lm, cm, rfl, hq1⟩ := num_shape hq
  replace hq1 := Lib.hid hq1
  clear hq
  have k4 := b4.cell
  have f4 := b4.frozen
  have hq2 := Lib.hid (hq1.out.store b4 (.bool (decide (2 * eps * (l.length : Int) < 0))) (.slice pm lm cm))
  clear hq1
  go_upto_region 3 with (fail)
  clear k1 f1 k3 f3 k4 f4
  refine wp_cutB w (Bc w.heap.size #[.int .i64 5, .int .i64 cn, .int .i64 lo, .int .i64 up, .int .i64 mc, .int .i64 lw, .int .i64 lr, .int .i64 hw, .int .i64 hr] 44 <| Rc (fun W' => Bits W' (.slice p3 l3 c3) (lsum (l.map (·.2))).natAbs) <| Bc w1.heap.size #[.bool (decide (lsum (l.map (·.2)) < 0)), .slice p3 l3 c3] 115 <| Bc oM #[.bool (decide (2 * eps * (l.length : Int) < 0)), .slice pm lm cm] 115 <| Rc (fun W' => Bits W' (.slice pm lm cm) (2 * eps * (l.length : Int)).natAbs) <| Bz) ?_ (hI := by exact belowAny) (hR := (Bc.mk (by exact blkAny2) <| Rc.mk (by exact Bits.store b2 b4 _ _) <| Bc.mk (by exact blkAny2) <| Bc.mk (by exact blkAny2) <| Rc.mk (by exact hq2.out) <| trivial))
  clear b1 b2 b3 b4 hW
  rintro W8 hW z9 ⟨⟨b1, yb1, k1, f1⟩, b2, ⟨b3, yb3, k3, f3⟩, ⟨b4, yb4, k4, f4⟩, b5, -⟩
  clear hq2
  go_wp2_with fail
  refine (c_refSub (.agg #[.bool (decide (lsum (l.map (·.2)) < 0)), .slice p3 l3 c3]) (.agg #[.bool (decide (2 * eps * (l.length : Int) < 0)), .slice pm lm cm]) _ _ _ ⟨_, rfl, b2⟩ ⟨_, rfl, b5⟩ hs9.out hm9.out).mono ?_
  rintro e w10 ⟨v4, rfl, hq4, hb10⟩
  have z11 := hb10.size
  try simp at z11
  clear k1 f1 k3 f3 k4 f4
  refine haveB w w10 (Bc w.heap.size #[.int .i64 5, .int .i64 cn, .int .i64 lo, .int .i64 up, .int .i64 mc, .int .i64 lw, .int .i64 lr, .int .i64 hw, .int .i64 hr] 44 <| Rc (fun W' => Bits W' (.slice p3 l3 c3) (lsum (l.map (·.2))).natAbs) <| Bc w1.heap.size #[.bool (decide (lsum (l.map (·.2)) < 0)), .slice p3 l3 c3] 115 <| Bc oM #[.bool (decide (2 * eps * (l.length : Int) < 0)), .slice pm lm cm] 115 <| Rc (fun W' => Bits W' (.slice pm lm cm) (2 * eps * (l.length : Int)).natAbs) <| Bz) ?_ (hR := (Bc.mk (by exact blkAny2) <| Rc.mk (by first | exact b2 | exact Bits.below (Bits.below b2 (by exact belowAny)) hb10 | exact Bits.below b2 (by exact belowAny)) <| Bc.mk (by exact blkAny2) <| Bc.mk (by exact blkAny2) <| Rc.mk (by first | exact b5 | exact Bits.below (Bits.below b5 (by exact belowAny)) hb10 | exact Bits.below b5 (by exact belowAny)) <| trivial))
  clear b1 b2 b3 b4 b5 hW
  rintro hW z12 ⟨⟨b1, yb1, k1, f1⟩, b2, ⟨b3, yb3, k3, f3⟩, ⟨b4, yb4, k4, f4⟩, b5, -⟩
  go_wp2_with fail
  refine (c_refValueB v4 _ _ hq4 hd9.out).mono ?_
  rintro e w13 ⟨rfl, hb13⟩
  have z14 := hb13.size
  try simp at z14
  clear k1 f1 k3 f3 k4 f4
  refine haveB w w13 (Bc w.heap.size #[.int .i64 5, .int .i64 cn, .int .i64 lo, .int .i64 up, .int .i64 mc, .int .i64 lw, .int .i64 lr, .int .i64 hw, .int .i64 hr] 44 <| Rc (fun W' => Bits W' (.slice p3 l3 c3) (lsum (l.map (·.2))).natAbs) <| Bc w1.heap.size #[.bool (decide (lsum (l.map (·.2)) < 0)), .slice p3 l3 c3] 115 <| Bc oM #[.bool (decide (2 * eps * (l.length : Int) < 0)), .slice pm lm cm] 115 <| Rc (fun W' => Bits W' (.slice pm lm cm) (2 * eps * (l.length : Int)).natAbs) <| Bz) ?_ (hR := (Bc.mk (by exact blkAny2) <| Rc.mk (by first | exact b2 | exact Bits.below (Bits.below b2 (by exact belowAny)) hb13 | exact Bits.below b2 (by exact belowAny)) <| Bc.mk (by exact blkAny2) <| Bc.mk (by exact blkAny2) <| Rc.mk (by first | exact b5 | exact Bits.below (Bits.below b5 (by exact belowAny)) hb13 | exact Bits.below b5 (by exact belowAny)) <| trivial))
  clear b1 b2 b3 b4 b5 hW
  rintro hW z15 ⟨⟨b1, yb1, k1, f1⟩, b2, ⟨b3, yb3, k3, f3⟩, ⟨b4, yb4, k4, f4⟩, b5, -⟩
  clear hb13
  go_wp2_with fail
  refine (c_refAdd (.agg #[.bool (decide (lsum (l.map (·.2)) < 0)), .slice p3 l3 c3]) (.agg #[.bool (decide (2 * eps * (l.length : Int) < 0)), .slice pm lm cm]) _ _ _ ⟨_, rfl, b2⟩ ⟨_, rfl, b5⟩ hs9.out hm9.out).mono ?_
  rintro e w16 ⟨v5, rfl, hq5, hb16⟩
  have z17 := hb16.size
  try simp at z17
  clear k1 f1 k3 f3 k4 f4
  refine haveB w w16 (Bc w.heap.size #[.int .i64 5, .int .i64 cn, .int .i64 lo, .int .i64 up, .int .i64 mc, .int .i64 lw, .int .i64 lr, .int .i64 hw, .int .i64 hr] 44 <| Rc (fun W' => Bits W' (.slice p3 l3 c3) (lsum (l.map (·.2))).natAbs) <| Bc w1.heap.size #[.bool (decide (lsum (l.map (·.2)) < 0)), .slice p3 l3 c3] 115 <| Bc oM #[.bool (decide (2 * eps * (l.length : Int) < 0)), .slice pm lm cm] 115 <| Rc (fun W' => Bits W' (.slice pm lm cm) (2 * eps * (l.length : Int)).natAbs) <| Bz) ?_ (hR := (Bc.mk (by exact blkAny2) <| Rc.mk (by first | exact b2 | exact Bits.below (Bits.below b2 (by exact belowAny)) hb16 | exact Bits.below b2 (by exact belowAny)) <| Bc.mk (by exact blkAny2) <| Bc.mk (by exact blkAny2) <| Rc.mk (by first | exact b5 | exact Bits.below (Bits.below b5 (by exact belowAny)) hb16 | exact Bits.below b5 (by exact belowAny)) <| trivial))
  clear b1 b2 b3 b4 b5 hW
  rintro hW z18 ⟨⟨b1, yb1, k1, f1⟩, b2, ⟨b3, yb3, k3, f3⟩, ⟨b4, yb4, k4, f4⟩, b5, -⟩
  go_wp2_with fail
  refine (c_refValueB v5 _ _ hq5 ha9.out).mono ?_
  rintro e w19 ⟨rfl, hb19⟩
  have z20 := hb19.size
  try simp at z20
  clear k1 f1 k3 f3 k4 f4
  refine haveB w w19 (Bc w.heap.size #[.int .i64 5, .int .i64 cn, .int .i64 lo, .int .i64 up, .int .i64 mc, .int .i64 lw, .int .i64 lr, .int .i64 hw, .int .i64 hr] 44 <| Rc (fun W' => Bits W' (.slice p3 l3 c3) (lsum (l.map (·.2))).natAbs) <| Bc w1.heap.size #[.bool (decide (lsum (l.map (·.2)) < 0)), .slice p3 l3 c3] 115 <| Bc oM #[.bool (decide (2 * eps * (l.length : Int) < 0)), .slice pm lm cm] 115 <| Rc (fun W' => Bits W' (.slice pm lm cm) (2 * eps * (l.length : Int)).natAbs) <| Bz) ?_ (hR := (Bc.mk (by exact blkAny2) <| Rc.mk (by first | exact b2 | exact Bits.below (Bits.below b2 (by exact belowAny)) hb19 | exact Bits.below b2 (by exact belowAny)) <| Bc.mk (by exact blkAny2) <| Bc.mk (by exact blkAny2) <| Rc.mk (by first | exact b5 | exact Bits.below (Bits.below b5 (by exact belowAny)) hb19 | exact Bits.below b5 (by exact belowAny)) <| trivial))
  clear b1 b2 b3 b4 b5 hW
  rintro hW z21 ⟨⟨b1, yb1, k1, f1⟩, b2, ⟨b3, yb3, k3, f3⟩, ⟨b4, yb4, k4, f4⟩, b5, -⟩
  clear hb19
  go_upto_region 6 with (fail)
  clear k1 f1 k3 f3 k4 f4
  refine wp_cutB w (Bc w.heap.size #[.int .i64 5, .int .i64 cn, .int .i64 lo, .int .i64 up, .int .i64 mc, .int .i64 lw, .int .i64 lr, .int .i64 hw, .int .i64 hr] 44 <| Rc (fun W' => Bits W' (.slice p3 l3 c3) (lsum (l.map (·.2))).natAbs) <| Bc w1.heap.size #[.bool (decide (lsum (l.map (·.2)) < 0)), .slice p3 l3 c3] 115 <| Bc oM #[.bool (decide (2 * eps * (l.length : Int) < 0)), .slice pm lm cm] 115 <| Rc (fun W' => Bits W' (.slice pm lm cm) (2 * eps * (l.length : Int)).natAbs) <| Bz) ?_ (hI := by exact belowAny) (hR := (Bc.mk (by exact blkAny2) <| Rc.mk (by first | exact b2 | exact Bits.below (Bits.below b2 (by exact belowAny)) hW | exact Bits.below b2 (by exact belowAny)) <| Bc.mk (by exact blkAny2) <| Bc.mk (by exact blkAny2) <| Rc.mk (by first | exact b5 | exact Bits.below (Bits.below b5 (by exact belowAny)) hW | exact Bits.below b5 (by exact belowAny)) <| trivial))
  clear b1 b2 b3 b4 b5 hW
  rintro W22 hW z23 hL
  obtain ⟨⟨b1, yb1, k1, f1⟩, b2, ⟨b3, yb3, k3, f3⟩, ⟨b4, yb4, k4, f4⟩, b5, -⟩ := id hL
  clear k1 f1 k3 f3 k4 f4
  refine wp_regS 12 72 hW hL ?_
  iterate 2 refine dA ?_
  apply nd_det (.bool ((cn == 0) && ((lo == 0) && ((up == 0) && ((mc == 0) && ((lw == 0) && ((lr == 0) && ((hw == 0) && ((hr == 0)))))))))) (hg := rfl) (hal := rfl)
  · intro a' W' hC hE
    clear he4 hl4 hs9 hm9 hd9 ha9
    simp [Oper.looksAt, Op.operands, Call.operands, envOf, Det] at hE
    simp [go_sem, Act.eval, hE]
    repeat' split
    all_goals simp_all
  refine dA ?_
  iterate 3 refine gA ?_
  iterate 2 refine gB ?_
  refine pgO ?_
  refine pA ?_
  refine dA ?_
  clear hW hL b1 b2 b3 b4 b5
  rintro W24 hW z25 hL
  simp only [ndR]
  intros
  repeat (rename GDet _ _ _ _ => hgd; clear hgd)
  simp only [ndS]
  refine wpList_nil ?_
  obtain ⟨⟨b1, yb1, k1, f1⟩, b2, ⟨b3, yb3, k3, f3⟩, ⟨b4, yb4, k4, f4⟩, b5, -⟩ := hL
  go_wp2
  refine bodyPost_ret (by simp [results, Tryz.results61, go_sem, k1, f1, k3, f3, k4, f4, yb1, yb3, yb4]) rfl ⟨rfl, by exact belowAny⟩
set_option maxRecDepth 100000 in
set_option maxHeartbeats 2000000 in
theorem refSum_plain (er cn lo up mc lw lr hw hr : Int) (p : Option Addr) (cap : Nat) (l : List (Int × Int)) (eps : Int) (w : World) (hp : PtsIn w p l) (hl : l.length ≤ 2000) (hv : ∀ x, x ∈ l → I64 x.2) (he0 : 0 ≤ eps) (he1 : eps ≤ 1099511627776) (her : (er == 5) = false) (hlo : I64 lo) (hup : I64 up) : Calls Tryz.prog 61 #[.slice p l.length cap, .agg #[.int .i64 er, .int .i64 cn, .int .i64 lo, .int .i64 up, .int .i64 mc, .int .i64 lw, .int .i64 lr, .int .i64 hw, .int .i64 hr], .int .i64 eps] w fun e w' => e = .returned (.bool ((inI (lsum (l.map (·.2))) && ((er == 0) && ((cn == 0) && ((mc == 0) && ((lw == 0) && ((lr == 0) && ((hw == 0) && ((hr == 0))))))))) && (((decide (lo ≤ wv (inI (lsum (l.map (·.2)))) (lsum (l.map (·.2))))) && (decide (wv (inI (lsum (l.map (·.2)))) (lsum (l.map (·.2))) ≤ up))) && !(decide (2 * eps * (l.length : Int) < up - lo))))) ∧ Below w.heap.size w w' := by
  have hll : I64 (l.length : Int) := by unfold I64; omega
  have hE2 : I64 (2 * eps) := by unfold I64; omega
  have EQ2 := Lib.hid (show wrap64 (2 * eps) = 2 * eps by simp only [wrap64_eq]; omega)
  have he4 : (2 * eps).natAbs < 2 ^ 400 := lt_pow2 64 400 (show (2 * eps).natAbs < 2 ^ 64 by omega) (by omega)
  have hl4 : (l.length : Int).natAbs < 2 ^ 400 := lt_pow2 64 400 (show (l.length : Int).natAbs < 2 ^ 64 by omega) (by omega)
  have hmm0 : 0 ≤ 2 * eps * (l.length : Int) := Int.mul_nonneg (by omega) (by omega)
  have hmm1 : 2 * eps * (l.length : Int) ≤ 2 * eps * 1000000 := Int.mul_le_mul_of_nonneg_left (by omega) (by omega)
  have hm9 : (2 * eps * (l.length : Int)).natAbs < 2 ^ 900 := lt_pow2 80 900 (show _ < 2 ^ 80 by omega) (by omega)
  have hsb := lsum_bd (l := l.map (·.2)) (B := 9223372036854775808) (fun v hv' => by
    obtain ⟨x, hx, rfl⟩ := List.mem_map.1 hv'
    have := hv x hx
    unfold I64 at this
    omega)
  rw [List.length_map] at hsb
  have hs9 : (lsum (l.map (·.2))).natAbs < 2 ^ 900 := lt_pow2 80 900 (show _ < 2 ^ 80 by omega) (by omega)
  have hd9 : (lsum (l.map (·.2)) - 2 * eps * (l.length : Int)).natAbs < 2 ^ 900 := lt_pow2 90 900 (show _ < 2 ^ 90 by omega) (by omega)
  have ha9 : (lsum (l.map (·.2)) + 2 * eps * (l.length : Int)).natAbs < 2 ^ 900 := lt_pow2 90 900 (show _ < 2 ^ 90 by omega) (by omega)
  clear hsb hmm0 hmm1
  replace he4 := Lib.hid he4
  replace hl4 := Lib.hid hl4
  replace hs9 := Lib.hid hs9
  replace hm9 := Lib.hid hm9
  replace hd9 := Lib.hid hd9
  replace ha9 := Lib.hid ha9
  go_enter Tryz.func61, Tryz.ntmps61
  go_wp2_with fail
  refine (c_refTotal p cap l _ (PtsIn.below hp (by exact belowAny)) hl hv).mono ?_
  rintro e w1 ⟨v3, rfl, hq3, hb1⟩
  have z2 := hb1.size
  try simp at z2
  refine haveB w w1 (Bc w.heap.size #[.int .i64 er, .int .i64 cn, .int .i64 lo, .int .i64 up, .int .i64 mc, .int .i64 lw, .int .i64 lr, .int .i64 hw, .int .i64 hr] 44 <| Bz) ?_
  rintro hW z3 ⟨⟨b1, yb1, k1, f1⟩, -⟩
  obtain ⟨p3, l3, c3, rfl, b2⟩ := num_shape hq3
  clear hq3
  go_upto_region 2 with (fail)
  clear k1 f1
  refine wp_cutB w (Bc w.heap.size #[.int .i64 er, .int .i64 cn, .int .i64 lo, .int .i64 up, .int .i64 mc, .int .i64 lw, .int .i64 lr, .int .i64 hw, .int .i64 hr] 44 <| Rc (fun W' => Bits W' (.slice p3 l3 c3) (lsum (l.map (·.2))).natAbs) <| Bc w1.heap.size #[.bool (decide (lsum (l.map (·.2)) < 0)), .slice p3 l3 c3] 115 <| Bz) ?_ (hI := by exact belowAny) (hR := (Bc.mk (by exact blkAny2) <| Rc.mk (by first | exact b2 | exact Bits.below (Bits.below b2 (by exact belowAny)) hW | exact Bits.below b2 (by exact belowAny)) <| Bc.mk (by exact blkAny2) <| trivial))
  clear b1 b2 hW
  rintro W4 hW z5 hL
  obtain ⟨⟨b1, yb1, k1, f1⟩, b2, ⟨b3, yb3, k3, f3⟩, -⟩ := id hL
  clear k1 f1 k3 f3
  refine wp_regS 8 72 hW hL ?_
  iterate 2 refine dE (fun W' hC => EQ2.out) ?_
  apply nd_call (NI (2 * eps)) (hg := rfl) (hal := rfl)
  · exact NI.closed _
  · intro a' W' hC hE
    obtain ⟨_, ⟨-, -, k1, -⟩, k2, ⟨-, -, k3, -⟩, -⟩ := hC
    simp [Oper.looksAt, Op.operands, Call.operands, envOf, Det] at hE
    refine ⟨_, _, ?_, (c_refInt (2 * eps) W' hE2.1 hE2.2).mono ?_⟩
    · simp [go_sem, Act.eval, hE]
      try rfl
    · rintro e w' ⟨v, rfl, hB, hR⟩
      exact ⟨_, rfl, hR, hB⟩
  iterate 2 refine dE (fun W' hC => EQ2.out) ?_
  apply nd_call (NI ((l.length : Int))) (hg := rfl) (hal := rfl)
  · exact NI.closed _
  · intro a' W' hC hE
    obtain ⟨_, ⟨-, -, k1, -⟩, k2, ⟨-, -, k3, -⟩, -⟩ := hC
    simp [Oper.looksAt, Op.operands, Call.operands, envOf, Det] at hE
    refine ⟨_, _, ?_, (c_refInt (l.length : Int) W' hll.1 hll.2).mono ?_⟩
    · simp [go_sem, Act.eval, hE]
      try rfl
    · rintro e w' ⟨v, rfl, hB, hR⟩
      exact ⟨_, rfl, hR, hB⟩
  apply nd_call (NI (2 * eps * (l.length : Int))) (hg := rfl) (hal := rfl)
  · exact NI.closed _
  · intro a' W' hC hE
    obtain ⟨_, ⟨-, -, k1, -⟩, k2, ⟨-, -, k3, -⟩, -⟩ := hC
    simp [Oper.looksAt, Op.operands, Call.operands, envOf, Det] at hE
    refine ⟨_, _, ?_, (c_refMul _ _ (2 * eps) (l.length : Int) W' hE.1 hE.2 he4.out hl4.out).mono ?_⟩
    · simp [go_sem, Act.eval]
      try rfl
    · rintro e w' ⟨v, rfl, hB, hR⟩
      exact ⟨_, rfl, hR, hB⟩
  apply nd_alloc W4.heap.size #[.bool false, .slice none 0 0] 115 rfl rfl
  · exact fun W' hC => hC.1.size
  · simp [others] <;> omega
  · intro w; kernel_rfl
  clear hW hL b1 b2 b3
  rintro W6 hW z7 hL
  simp only [ndR]
  intros
  simp only [ndS]
  obtain ⟨⟨b1, yb1, k1, f1⟩, b2, ⟨b3, yb3, k3, f3⟩, -⟩ := hL
  obtain ⟨oM, rfl, hgM, b4⟩ := ‹NewVar _ _ _ _ _›
  have yb4 := b4.lt
  rename NI (2 * eps * (l.length : Int)) _ _ => hq
  obtain ⟨pm, lm, cm, rfl, hq1⟩ := num_shape hq
  replace hq1 := Lib.hid hq1
  clear hq
  have k4 := b4.cell
  have f4 := b4.frozen
  have hq2 := Lib.hid (hq1.out.store b4 (.bool (decide (2 * eps * (l.length : Int) < 0))) (.slice pm lm cm))
  clear hq1
  go_upto_region 3 with (fail)
  clear k1 f1 k3 f3 k4 f4
  refine wp_cutB w (Bc w.heap.size #[.int .i64 er, .int .i64 cn, .int .i64 lo, .int .i64 up, .int .i64 mc, .int .i64 lw, .int .i64 lr, .int .i64 hw, .int .i64 hr] 44 <| Rc (fun W' => Bits W' (.slice p3 l3 c3) (lsum (l.map (·.2))).natAbs) <| Bc w1.heap.size #[.bool (decide (lsum (l.map (·.2)) < 0)), .slice p3 l3 c3] 115 <| Bc oM #[.bool (decide (2 * eps * (l.length : Int) < 0)), .slice pm lm cm] 115 <| Rc (fun W' => Bits W' (.slice pm lm cm) (2 * eps * (l.length : Int)).natAbs) <| Bz) ?_ (hI := by exact belowAny) (hR := (Bc.mk (by exact blkAny2) <| Rc.mk (by exact Bits.store b2 b4 _ _) <| Bc.mk (by exact blkAny2) <| Bc.mk (by exact blkAny2) <| Rc.mk (by exact hq2.out) <| trivial))
  clear b1 b2 b3 b4 hW
  rintro W8 hW z9 ⟨⟨b1, yb1, k1, f1⟩, b2, ⟨b3, yb3, k3, f3⟩, ⟨b4, yb4, k4, f4⟩, b5, -⟩
  clear hq2
  go_wp2_with fail
  refine (c_refValueB (.agg #[.bool (decide (lsum (l.map (·.2)) < 0)), .slice p3 l3 c3]) _ _ ⟨_, rfl, b2⟩ hs9.out).mono ?_
  rintro e w10 ⟨rfl, hb10⟩
  have z11 := hb10.size
  try simp at z11
  clear k1 f1 k3 f3 k4 f4
  refine haveB w w10 (Bc w.heap.size #[.int .i64 er, .int .i64 cn, .int .i64 lo, .int .i64 up, .int .i64 mc, .int .i64 lw, .int .i64 lr, .int .i64 hw, .int .i64 hr] 44 <| Rc (fun W' => Bits W' (.slice p3 l3 c3) (lsum (l.map (·.2))).natAbs) <| Bc w1.heap.size #[.bool (decide (lsum (l.map (·.2)) < 0)), .slice p3 l3 c3] 115 <| Bc oM #[.bool (decide (2 * eps * (l.length : Int) < 0)), .slice pm lm cm] 115 <| Rc (fun W' => Bits W' (.slice pm lm cm) (2 * eps * (l.length : Int)).natAbs) <| Bz) ?_ (hR := (Bc.mk (by exact blkAny2) <| Rc.mk (by first | exact b2 | exact Bits.below (Bits.below b2 (by exact belowAny)) hb10 | exact Bits.below b2 (by exact belowAny)) <| Bc.mk (by exact blkAny2) <| Bc.mk (by exact blkAny2) <| Rc.mk (by first | exact b5 | exact Bits.below (Bits.below b5 (by exact belowAny)) hb10 | exact Bits.below b5 (by exact belowAny)) <| trivial))
  clear b1 b2 b3 b4 b5 hW
  rintro hW z12 ⟨⟨b1, yb1, k1, f1⟩, b2, ⟨b3, yb3, k3, f3⟩, ⟨b4, yb4, k4, f4⟩, b5, -⟩
  clear hb10
  go_upto_region 8 with (fail)
  clear k1 f1 k3 f3 k4 f4
  refine wp_cutB w (Bc w.heap.size #[.int .i64 er, .int .i64 cn, .int .i64 lo, .int .i64 up, .int .i64 mc, .int .i64 lw, .int .i64 lr, .int .i64 hw, .int .i64 hr] 44 <| Rc (fun W' => Bits W' (.slice p3 l3 c3) (lsum (l.map (·.2))).natAbs) <| Bc w1.heap.size #[.bool (decide (lsum (l.map (·.2)) < 0)), .slice p3 l3 c3] 115 <| Bc oM #[.bool (decide (2 * eps * (l.length : Int) < 0)), .slice pm lm cm] 115 <| Rc (fun W' => Bits W' (.slice pm lm cm) (2 * eps * (l.length : Int)).natAbs) <| Bz) ?_ (hI := by exact belowAny) (hR := (Bc.mk (by exact blkAny2) <| Rc.mk (by first | exact b2 | exact Bits.below (Bits.below b2 (by exact belowAny)) hW | exact Bits.below b2 (by exact belowAny)) <| Bc.mk (by exact blkAny2) <| Bc.mk (by exact blkAny2) <| Rc.mk (by first | exact b5 | exact Bits.below (Bits.below b5 (by exact belowAny)) hW | exact Bits.below b5 (by exact belowAny)) <| trivial))
  clear b1 b2 b3 b4 b5 hW
  rintro W13 hW z14 hL
  obtain ⟨⟨b1, yb1, k1, f1⟩, b2, ⟨b3, yb3, k3, f3⟩, ⟨b4, yb4, k4, f4⟩, b5, -⟩ := id hL
  clear k1 f1 k3 f3 k4 f4
  refine wp_regS 16 72 hW hL ?_
  iterate 2 refine dA ?_
  iterate 4 refine gA ?_
  apply nd_detg (p := true) (c := .bool ((er == 0) && ((cn == 0) && ((mc == 0) && ((lw == 0) && ((lr == 0) && ((hw == 0) && ((hr == 0))))))))) (hg := rfl) (hd := rfl) (hal := rfl)
  · intro v W' h
    simp [envOf, Det] at h
    simp
    exact h
  · intro hp hx a' W' hC hE
    clear he4 hl4 hs9 hm9 hd9 ha9
    simp [Oper.looksAt, Op.operands, Call.operands, envOf, Det, GDet, hx] at hE
    simp [go_sem, Act.eval, hE]
    repeat' split
    all_goals simp_all
  refine pA ?_
  refine dA ?_
  iterate 4 refine gA ?_
  apply nd_callvg (p := true) (c := .bool (((decide (lo ≤ wv (inI (lsum (l.map (·.2)))) (lsum (l.map (·.2))))) && (decide (wv (inI (lsum (l.map (·.2)))) (lsum (l.map (·.2))) ≤ up))) && !(decide (2 * eps * (l.length : Int) < up - lo)))) (hg := rfl) (hd := rfl) (hal := rfl)
  · intro v W' h
    simp [envOf, Det] at h
    simp
    exact h
  · intro hp hx a' W' hC hE
    obtain ⟨_, ⟨-, -, k1, -⟩, k2, ⟨-, -, k3, -⟩, ⟨-, -, k4, -⟩, k5, -⟩ := hC
    simp [Oper.looksAt, Op.operands, Call.operands, envOf, Det, GDet, GS, hx] at hE
    refine ⟨_, _, ?_, (c_refLies lo up _ _ (.agg #[.bool (decide (2 * eps * (l.length : Int) < 0)), .slice pm lm cm]) W' hlo hup ⟨_, rfl, k5⟩ hm9.out)⟩
    simp [go_sem, Act.eval, hE]
    try rfl
  refine pA ?_
  refine dA ?_
  clear hW hL b1 b2 b3 b4 b5
  rintro W15 hW z16 hL
  simp only [ndR]
  intros
  repeat (rename GDet _ _ _ _ => hgd; clear hgd)
  simp only [ndS]
  refine wpList_nil ?_
  obtain ⟨⟨b1, yb1, k1, f1⟩, b2, ⟨b3, yb3, k3, f3⟩, ⟨b4, yb4, k4, f4⟩, b5, -⟩ := hL
  go_wp2
  refine bodyPost_ret (by simp [results, Tryz.results61, go_sem, k1, f1, k3, f3, k4, f4, yb1, yb3, yb4]) rfl ⟨rfl, by exact belowAny⟩
end Go.Proofs.YtdeghcgakkhbmaaGreat
