/- Parts of the proof that follows: The document's lines: At. | The document's lines: At told. | The document's runs of times, plainly: that runs may be is just that their times rise, and that they are those of their times. No condition. | The document's times of runs: Times. -/
import Derived.Test.YtbanjolokkghdaaGreatDoorWz21
set_option linter.unusedSimpArgs false
set_option linter.unusedVariables false
namespace Go.Proofs.YtbanjolokkghdaaGreatDoor
open Go.RowKit
def DV (x y : Int) : Spec := fun v w => ∃ v1 v2, v = .tuple #[v1, v2] ∧ NumIs w v1 (x / y) ∧ NumIs w v2 (x % y)
theorem DV.closed (x y : Int) : Closed [] (DV x y) := fun _ _ _ hr ⟨v1, v2, e, h1, h2⟩ => ⟨v1, v2, e, h1.rex hr rfl, h2.rex hr rfl⟩
set_option maxRecDepth 100000 in
set_option maxHeartbeats 4000000 in
theorem rat_yes (A R n d t X : Int) (w : World) (hd : -9223372036854775808 ≤ d ∧ d ≤ 9223372036854775807) (hX : X.natAbs < 2 ^ 800) (hd0 : 0 < d) (hd8 : d.natAbs < 2 ^ 800)
    (c1 : ∀ W, Calls Tryz.prog 82 #[.agg #[.int .i64 A, .int .i64 R, .int .i64 n, .int .i64 d], .int .i64 t] W fun e w' => ∃ v, e = .returned v ∧ NumIs w' v X ∧ Below W.heap.size W w')
    (c2 : ∀ W va, NumIs W va (X / d) → Calls Tryz.prog 84 #[va] W fun e w' => e = .returned (.tuple #[.int .i64 (X / d), .bool true]) ∧ Below W.heap.size W w') (hb : isBack (X / d) = true) :
    Calls Tryz.prog 60 #[.agg #[.int .i64 A, .int .i64 R, .int .i64 n, .int .i64 d], .int .i64 t] w fun e w' => e = .returned (.tuple #[.int .i64 (X / d), .bool true]) ∧ Below w.heap.size w w' := by
  have H_c1 := Lib.hid c1
  clear c1
  have H_c2 := Lib.hid c2
  clear c2
  go_enter Tryz.func60, Tryz.ntmps60
  go_upto_region 1 with (fail)
  refine wp_cutB w (Bc w.heap.size #[.int .i64 A, .int .i64 R, .int .i64 n, .int .i64 d] 26 <| Bz) ?_
  rintro W1 hW z2 ⟨⟨b1, yb1, k1, f1⟩, -⟩
  have c1 := H_c1.out
  refine wp_region_ndA 12 33 [] (fun W' => Rex [] W1 W' ∧ Blk W' w.heap.size #[.int .i64 A, .int .i64 R, .int .i64 n, .int .i64 d] 26) mixed (by kernel_rfl) rfl ⟨(Rex.refl _ _).drew, b1⟩ (fun w w' ⟨h0, h1⟩ hr => ⟨h0.trans hr, h1.rex hr (by simp <;> omega)⟩) (fun c a d v w h => by cases d <;> exact h) ?_
  iterate 2
    apply nd_det (hg := rfl) (hal := rfl)
    · intro a W' hC hE
      obtain ⟨_, k1⟩ := hC
      have k1 := k1.cell
      first
        | (simp [Oper.looksAt, Op.operands, Call.operands, envOf, Det] at hE; simp [go_sem, Act.eval, IntWalk.i64_left, hE, k1]; try rfl)
        | (clear hE; simp [go_sem, Act.eval, IntWalk.i64_left, k1]; try rfl)
  apply nd_call (NI X) (hg := rfl) (hal := rfl)
  · exact NI.closed _
  · intro a W' hC hE
    obtain ⟨_, k1⟩ := hC
    have k1 := k1.cell
    simp [Oper.looksAt, Op.operands, Call.operands, envOf, Det] at hE
    refine ⟨_, _, ?_, (c1 W').mono ?_⟩
    · simp [go_sem, Act.eval, hE]
      try rfl
    · rintro e w' ⟨v, rfl, hB, hR⟩
      exact ⟨_, rfl, hR, hB⟩
  iterate 2
    apply nd_det (hg := rfl) (hal := rfl)
    · intro a W' hC hE
      obtain ⟨_, k1⟩ := hC
      have k1 := k1.cell
      first
        | (simp [Oper.looksAt, Op.operands, Call.operands, envOf, Det] at hE; simp [go_sem, Act.eval, IntWalk.i64_left, hE, k1]; try rfl)
        | (clear hE; simp [go_sem, Act.eval, IntWalk.i64_left, k1]; try rfl)
  apply nd_call (NI d) (hg := rfl) (hal := rfl)
  · exact NI.closed _
  · intro a W' hC hE
    simp [Oper.looksAt, Op.operands, Call.operands, envOf, Det] at hE
    refine ⟨_, _, ?_, (c_refInt d W' hd.1 hd.2).mono ?_⟩
    · simp [go_sem, Act.eval, hE]
      try rfl
    · rintro e w' ⟨v, rfl, hB, hR⟩
      exact ⟨_, rfl, hR, hB⟩
  apply nd_call (DV X d) (hg := rfl) (hal := rfl)
  · exact DV.closed _ _
  · intro a W' hC hE
    simp [Oper.looksAt, Op.operands, Call.operands, envOf, Det] at hE
    refine ⟨_, _, ?_, (c_refDiv _ _ X d W' hE.1 hE.2 hX hd0 hd8).mono ?_⟩
    · simp [go_sem, Act.eval]
      try rfl
    · rintro e w' ⟨v1, v2, rfl, h1, h2, hR⟩
      exact ⟨_, rfl, hR, v1, v2, rfl, h1, h2⟩
  apply nd_spec (DV X d) (hg := rfl) (hal := rfl)
  · exact DV.closed _ _
  · intro a W' hC hE
    simp [Oper.looksAt, Op.operands, Call.operands, envOf, Det] at hE
    refine ⟨_, ?_, hE⟩
    simp [go_sem, Act.eval]
  apply nd_spec (NI (X / d)) (hg := rfl) (hal := rfl)
  · exact NI.closed _
  · intro a W' hC hE
    simp [Oper.looksAt, Op.operands, Call.operands, envOf, Det] at hE
    obtain ⟨v1, v2, h0, h1, h2⟩ := hE
    refine ⟨v1, ?_, h1⟩
    simp [go_sem, Act.eval, h0]
  apply nd_spec (NI (X % d)) (hg := rfl) (hal := rfl)
  · exact NI.closed _
  · intro a W' hC hE
    simp [Oper.looksAt, Op.operands, Call.operands, envOf, Det] at hE
    obtain ⟨v1, v2, h0, h1, h2⟩ := hE
    refine ⟨v2, ?_, h2⟩
    simp [go_sem, Act.eval, h0]
  apply nd_alloc W1.heap.size #[.bool false, .slice none 0 0] 140 rfl rfl
  · exact fun W' hC => hC.1.size
  · simp [others] <;> omega
  · intro w; kernel_rfl
  apply nd_alloc W1.heap.size #[.bool false, .slice none 0 0] 140 rfl rfl
  · exact fun W' hC => hC.1.size
  · simp [others] <;> omega
  · intro w; kernel_rfl
  rintro W2 ⟨hR, d1⟩
  simp only [ndFinR, Det, forall_eq]
  intros
  repeat (rename GDet _ _ _ _ => hgd; clear hgd)
  simp only [Act.put, List.setIfInBounds_toArray, List.set_cons_zero, List.set_cons_succ, List.drop_succ_cons, List.drop_zero]
  clear b1
  have b1 := d1
  clear d1
  replace hW := hW.trans (hR.of_priv hW.size)
  clear hR
  clear H_c1
  try clear c1
  rename AllocApart _ _ => hap
  rename NewVar _ _ _ _ _ => hn7
  obtain ⟨o7, rfl, hg7, b3⟩ := hn7
  rename NewVar _ _ _ _ _ => hn6
  obtain ⟨o6, rfl, hg6, b2⟩ := hn6
  have hne : o6 ≠ o7 := fun e => hap 6 7 (by simp [allocDsts, isAlloc]) (by simp [allocDsts, isAlloc]) (by decide) ⟨o6, 0, none⟩ (by simp [Act.put]) (by simp [Act.put, e])
  clear hap
  rename NI (X / d) _ _ => hi1
  rename NI (X % d) _ _ => hi2
  obtain ⟨p1, l1, k1', rfl, hq1⟩ := num_shape hi1
  obtain ⟨p2, l2, k2', rfl, hq2⟩ := num_shape hi2
  clear hi1 hi2 hq2
  have hS := Lib.hid ((hq1.store b2 (.bool (decide (X / d < 0))) (.slice p1 l1 k1')).store (show Blk _ o7 #[.bool false, .slice none 0 0] 140 from (b3.setO (by omega) 0 _).setO (by omega) 1 _) (.bool (decide (X % d < 0))) (.slice p2 l2 k2'))
  clear hq1
  have z9 := hW.size
  have z10 := b1.lt
  have z11 := b2.lt
  have z12 := b3.lt
  clear k1 f1
  have k1 := b1.cell
  have f1 := b1.frozen
  have k2 := b2.cell
  have f2 := b2.frozen
  have k3 := b3.cell
  have f3 := b3.frozen
  go_upto_region 2 with (fail)
  clear k1 f1 k2 f2 k3 f3
  refine wp_cutB w (Bc o6 #[.bool (decide (X / d < 0)), .slice p1 l1 k1'] 140 <| Rc (fun W' => Bits W' (.slice p1 l1 k1') (X / d).natAbs) <| Bz) ?_ (hI := by exact belowAny) (hR := (Bc.mk (by exact blkAny2) <| Rc.mk (by exact hS.out) <| trivial))
  clear b1 b2 b3 hW
  rintro W3 hW z4 ⟨⟨b1, yb1, k1, f1⟩, b2, -⟩
  have hq := Lib.hid b2
  clear b2 hS
  go_wp2_with fail
  refine (H_c2.out _ _ ⟨_, rfl, hq.out⟩).mono ?_
  rintro e w5 ⟨rfl, hb5⟩
  have z6 := hb5.size
  try simp at z6
  clear k1 f1
  refine haveB w w5 (Bc o6 #[.bool (decide (X / d < 0)), .slice p1 l1 k1'] 140 <| Bz) ?_
  clear b1 hW
  rintro hW z7 ⟨⟨b1, yb1, k1, f1⟩, -⟩
  clear hb5
  go_upto_region 3 with (fail)
  clear k1 f1
  refine wp_cutB w (Bc o6 #[.bool (decide (X / d < 0)), .slice p1 l1 k1'] 140 <| Bz) ?_
  clear b1 hW
  rintro W8 hW z9 hL
  refine wp_regS 7 33 hW hL ?_
  iterate 3 refine dE (fun W' hC => hb) ?_
  refine gE (fun W' hC => hb) ?_
  apply nd_callvg2 (p := true) (hg := rfl) (hd := rfl) (hal := rfl)
  · intro v W' h
    simp [envOf, Det] at h
    simp
    exact h
  · intro hp hx W' hC
    exact c_rback (X / d) W'
  · intro hp hx a W' hC hE
    obtain ⟨_, ⟨-, -, k1, -⟩, -⟩ := hC
    first
      | (simp [Oper.looksAt, Op.operands, Call.operands, envOf, Det, GDet, hx] at hE; simp [go_sem, Act.eval, IntWalk.i64_left, hE, k1, hb]; try rfl)
      | (clear hE; simp [go_sem, Act.eval, IntWalk.i64_left, k1, hb]; try rfl)
  refine gE (fun W' hC => hb) ?_
  refine pO ?_
  clear hW hL
  rintro W10 hW z11 hL
  simp only [ndR]
  intros
  repeat (rename GDet _ _ _ _ => hgd; clear hgd)
  simp only [ndS]
  refine wpList_nil ?_
  obtain ⟨⟨b1, yb1, k1, f1⟩, -⟩ := hL
  go_wp2
  refine bodyPost_ret (v := .tuple #[.int .i64 (X / d), .bool true]) (by simp [results, Tryz.results60, go_sem, k1, f1, yb1]) rfl ⟨rfl, hW⟩
set_option maxRecDepth 100000 in
set_option maxHeartbeats 4000000 in
theorem rat_back (A R n d t X : Int) (w : World) (hd : -9223372036854775808 ≤ d ∧ d ≤ 9223372036854775807) (hX : X.natAbs < 2 ^ 800) (hd0 : 0 < d) (hd8 : d.natAbs < 2 ^ 800)
    (c1 : ∀ W, Calls Tryz.prog 82 #[.agg #[.int .i64 A, .int .i64 R, .int .i64 n, .int .i64 d], .int .i64 t] W fun e w' => ∃ v, e = .returned v ∧ NumIs w' v X ∧ Below W.heap.size W w')
    (c2 : ∀ W va, NumIs W va (X / d) → Calls Tryz.prog 84 #[va] W fun e w' => e = .returned (.tuple #[.int .i64 (X / d), .bool true]) ∧ Below W.heap.size W w') (hb : isBack (X / d) = false) :
    Calls Tryz.prog 60 #[.agg #[.int .i64 A, .int .i64 R, .int .i64 n, .int .i64 d], .int .i64 t] w fun e w' => e = .returned (.tuple #[.int .i64 0, .bool false]) ∧ Below w.heap.size w w' := by
  have H_c1 := Lib.hid c1
  clear c1
  have H_c2 := Lib.hid c2
  clear c2
  go_enter Tryz.func60, Tryz.ntmps60
  go_upto_region 1 with (fail)
  refine wp_cutB w (Bc w.heap.size #[.int .i64 A, .int .i64 R, .int .i64 n, .int .i64 d] 26 <| Bz) ?_
  rintro W1 hW z2 ⟨⟨b1, yb1, k1, f1⟩, -⟩
  have c1 := H_c1.out
  refine wp_region_ndA 12 33 [] (fun W' => Rex [] W1 W' ∧ Blk W' w.heap.size #[.int .i64 A, .int .i64 R, .int .i64 n, .int .i64 d] 26) mixed (by kernel_rfl) rfl ⟨(Rex.refl _ _).drew, b1⟩ (fun w w' ⟨h0, h1⟩ hr => ⟨h0.trans hr, h1.rex hr (by simp <;> omega)⟩) (fun c a d v w h => by cases d <;> exact h) ?_
  iterate 2
    apply nd_det (hg := rfl) (hal := rfl)
    · intro a W' hC hE
      obtain ⟨_, k1⟩ := hC
      have k1 := k1.cell
      first
        | (simp [Oper.looksAt, Op.operands, Call.operands, envOf, Det] at hE; simp [go_sem, Act.eval, IntWalk.i64_left, hE, k1]; try rfl)
        | (clear hE; simp [go_sem, Act.eval, IntWalk.i64_left, k1]; try rfl)
  apply nd_call (NI X) (hg := rfl) (hal := rfl)
  · exact NI.closed _
  · intro a W' hC hE
    obtain ⟨_, k1⟩ := hC
    have k1 := k1.cell
    simp [Oper.looksAt, Op.operands, Call.operands, envOf, Det] at hE
    refine ⟨_, _, ?_, (c1 W').mono ?_⟩
    · simp [go_sem, Act.eval, hE]
      try rfl
    · rintro e w' ⟨v, rfl, hB, hR⟩
      exact ⟨_, rfl, hR, hB⟩
  iterate 2
    apply nd_det (hg := rfl) (hal := rfl)
    · intro a W' hC hE
      obtain ⟨_, k1⟩ := hC
      have k1 := k1.cell
      first
        | (simp [Oper.looksAt, Op.operands, Call.operands, envOf, Det] at hE; simp [go_sem, Act.eval, IntWalk.i64_left, hE, k1]; try rfl)
        | (clear hE; simp [go_sem, Act.eval, IntWalk.i64_left, k1]; try rfl)
  apply nd_call (NI d) (hg := rfl) (hal := rfl)
  · exact NI.closed _
  · intro a W' hC hE
    simp [Oper.looksAt, Op.operands, Call.operands, envOf, Det] at hE
    refine ⟨_, _, ?_, (c_refInt d W' hd.1 hd.2).mono ?_⟩
    · simp [go_sem, Act.eval, hE]
      try rfl
    · rintro e w' ⟨v, rfl, hB, hR⟩
      exact ⟨_, rfl, hR, hB⟩
  apply nd_call (DV X d) (hg := rfl) (hal := rfl)
  · exact DV.closed _ _
  · intro a W' hC hE
    simp [Oper.looksAt, Op.operands, Call.operands, envOf, Det] at hE
    refine ⟨_, _, ?_, (c_refDiv _ _ X d W' hE.1 hE.2 hX hd0 hd8).mono ?_⟩
    · simp [go_sem, Act.eval]
      try rfl
    · rintro e w' ⟨v1, v2, rfl, h1, h2, hR⟩
      exact ⟨_, rfl, hR, v1, v2, rfl, h1, h2⟩
  apply nd_spec (DV X d) (hg := rfl) (hal := rfl)
  · exact DV.closed _ _
  · intro a W' hC hE
    simp [Oper.looksAt, Op.operands, Call.operands, envOf, Det] at hE
    refine ⟨_, ?_, hE⟩
    simp [go_sem, Act.eval]
  apply nd_spec (NI (X / d)) (hg := rfl) (hal := rfl)
  · exact NI.closed _
  · intro a W' hC hE
    simp [Oper.looksAt, Op.operands, Call.operands, envOf, Det] at hE
    obtain ⟨v1, v2, h0, h1, h2⟩ := hE
    refine ⟨v1, ?_, h1⟩
    simp [go_sem, Act.eval, h0]
  apply nd_spec (NI (X % d)) (hg := rfl) (hal := rfl)
  · exact NI.closed _
  · intro a W' hC hE
    simp [Oper.looksAt, Op.operands, Call.operands, envOf, Det] at hE
    obtain ⟨v1, v2, h0, h1, h2⟩ := hE
    refine ⟨v2, ?_, h2⟩
    simp [go_sem, Act.eval, h0]
  apply nd_alloc W1.heap.size #[.bool false, .slice none 0 0] 140 rfl rfl
  · exact fun W' hC => hC.1.size
  · simp [others] <;> omega
  · intro w; kernel_rfl
  apply nd_alloc W1.heap.size #[.bool false, .slice none 0 0] 140 rfl rfl
  · exact fun W' hC => hC.1.size
  · simp [others] <;> omega
  · intro w; kernel_rfl
  rintro W2 ⟨hR, d1⟩
  simp only [ndFinR, Det, forall_eq]
  intros
  repeat (rename GDet _ _ _ _ => hgd; clear hgd)
  simp only [Act.put, List.setIfInBounds_toArray, List.set_cons_zero, List.set_cons_succ, List.drop_succ_cons, List.drop_zero]
  clear b1
  have b1 := d1
  clear d1
  replace hW := hW.trans (hR.of_priv hW.size)
  clear hR
  clear H_c1
  try clear c1
  rename AllocApart _ _ => hap
  rename NewVar _ _ _ _ _ => hn7
  obtain ⟨o7, rfl, hg7, b3⟩ := hn7
  rename NewVar _ _ _ _ _ => hn6
  obtain ⟨o6, rfl, hg6, b2⟩ := hn6
  have hne : o6 ≠ o7 := fun e => hap 6 7 (by simp [allocDsts, isAlloc]) (by simp [allocDsts, isAlloc]) (by decide) ⟨o6, 0, none⟩ (by simp [Act.put]) (by simp [Act.put, e])
  clear hap
  rename NI (X / d) _ _ => hi1
  rename NI (X % d) _ _ => hi2
  obtain ⟨p1, l1, k1', rfl, hq1⟩ := num_shape hi1
  obtain ⟨p2, l2, k2', rfl, hq2⟩ := num_shape hi2
  clear hi1 hi2 hq2
  have hS := Lib.hid ((hq1.store b2 (.bool (decide (X / d < 0))) (.slice p1 l1 k1')).store (show Blk _ o7 #[.bool false, .slice none 0 0] 140 from (b3.setO (by omega) 0 _).setO (by omega) 1 _) (.bool (decide (X % d < 0))) (.slice p2 l2 k2'))
  clear hq1
  have z9 := hW.size
  have z10 := b1.lt
  have z11 := b2.lt
  have z12 := b3.lt
  clear k1 f1
  have k1 := b1.cell
  have f1 := b1.frozen
  have k2 := b2.cell
  have f2 := b2.frozen
  have k3 := b3.cell
  have f3 := b3.frozen
  go_upto_region 2 with (fail)
  clear k1 f1 k2 f2 k3 f3
  refine wp_cutB w (Bc o6 #[.bool (decide (X / d < 0)), .slice p1 l1 k1'] 140 <| Rc (fun W' => Bits W' (.slice p1 l1 k1') (X / d).natAbs) <| Bz) ?_ (hI := by exact belowAny) (hR := (Bc.mk (by exact blkAny2) <| Rc.mk (by exact hS.out) <| trivial))
  clear b1 b2 b3 hW
  rintro W3 hW z4 ⟨⟨b1, yb1, k1, f1⟩, b2, -⟩
  have hq := Lib.hid b2
  clear b2 hS
  go_wp2_with fail
  refine (H_c2.out _ _ ⟨_, rfl, hq.out⟩).mono ?_
  rintro e w5 ⟨rfl, hb5⟩
  have z6 := hb5.size
  try simp at z6
  clear k1 f1
  refine haveB w w5 (Bc o6 #[.bool (decide (X / d < 0)), .slice p1 l1 k1'] 140 <| Bz) ?_
  clear b1 hW
  rintro hW z7 ⟨⟨b1, yb1, k1, f1⟩, -⟩
  clear hb5
  go_upto_region 3 with (fail)
  clear k1 f1
  refine wp_cutB w (Bc o6 #[.bool (decide (X / d < 0)), .slice p1 l1 k1'] 140 <| Bz) ?_
  clear b1 hW
  rintro W8 hW z9 hL
  refine wp_regS 7 33 hW hL ?_
  iterate 3 refine dE (fun W' hC => hb) ?_
  refine gE (fun W' hC => hb) ?_
  apply nd_callvg2 (p := true) (hg := rfl) (hd := rfl) (hal := rfl)
  · intro v W' h
    simp [envOf, Det] at h
    simp
    exact h
  · intro hp hx W' hC
    exact c_rback (X / d) W'
  · intro hp hx a W' hC hE
    obtain ⟨_, ⟨-, -, k1, -⟩, -⟩ := hC
    first
      | (simp [Oper.looksAt, Op.operands, Call.operands, envOf, Det, GDet, hx] at hE; simp [go_sem, Act.eval, IntWalk.i64_left, hE, k1, hb]; try rfl)
      | (clear hE; simp [go_sem, Act.eval, IntWalk.i64_left, k1, hb]; try rfl)
  refine gE (fun W' hC => hb) ?_
  refine pO ?_
  clear hW hL
  rintro W10 hW z11 hL
  simp only [ndR]
  intros
  repeat (rename GDet _ _ _ _ => hgd; clear hgd)
  simp only [ndS]
  refine wpList_nil ?_
  obtain ⟨⟨b1, yb1, k1, f1⟩, -⟩ := hL
  go_wp2
  refine bodyPost_ret (v := .tuple #[.int .i64 0, .bool false]) (by simp [results, Tryz.results60, go_sem, k1, f1, yb1]) rfl ⟨rfl, hW⟩
set_option maxRecDepth 100000 in
set_option maxHeartbeats 4000000 in
theorem rat_over (A R n d t X : Int) (w : World) (hd : -9223372036854775808 ≤ d ∧ d ≤ 9223372036854775807) (hX : X.natAbs < 2 ^ 800) (hd0 : 0 < d) (hd8 : d.natAbs < 2 ^ 800)
    (c1 : ∀ W, Calls Tryz.prog 82 #[.agg #[.int .i64 A, .int .i64 R, .int .i64 n, .int .i64 d], .int .i64 t] W fun e w' => ∃ v, e = .returned v ∧ NumIs w' v X ∧ Below W.heap.size W w')
    (c2 : ∀ W va, NumIs W va (X / d) → Calls Tryz.prog 84 #[va] W fun e w' => e = .returned (.tuple #[.int .i64 0, .bool false]) ∧ Below W.heap.size W w') :
    Calls Tryz.prog 60 #[.agg #[.int .i64 A, .int .i64 R, .int .i64 n, .int .i64 d], .int .i64 t] w fun e w' => e = .returned (.tuple #[.int .i64 0, .bool false]) ∧ Below w.heap.size w w' := by
  have H_c1 := Lib.hid c1
  clear c1
  have H_c2 := Lib.hid c2
  clear c2
  go_enter Tryz.func60, Tryz.ntmps60
  go_upto_region 1 with (fail)
  refine wp_cutB w (Bc w.heap.size #[.int .i64 A, .int .i64 R, .int .i64 n, .int .i64 d] 26 <| Bz) ?_
  rintro W1 hW z2 ⟨⟨b1, yb1, k1, f1⟩, -⟩
  have c1 := H_c1.out
  refine wp_region_ndA 12 33 [] (fun W' => Rex [] W1 W' ∧ Blk W' w.heap.size #[.int .i64 A, .int .i64 R, .int .i64 n, .int .i64 d] 26) mixed (by kernel_rfl) rfl ⟨(Rex.refl _ _).drew, b1⟩ (fun w w' ⟨h0, h1⟩ hr => ⟨h0.trans hr, h1.rex hr (by simp <;> omega)⟩) (fun c a d v w h => by cases d <;> exact h) ?_
  iterate 2
    apply nd_det (hg := rfl) (hal := rfl)
    · intro a W' hC hE
      obtain ⟨_, k1⟩ := hC
      have k1 := k1.cell
      first
        | (simp [Oper.looksAt, Op.operands, Call.operands, envOf, Det] at hE; simp [go_sem, Act.eval, IntWalk.i64_left, hE, k1]; try rfl)
        | (clear hE; simp [go_sem, Act.eval, IntWalk.i64_left, k1]; try rfl)
  apply nd_call (NI X) (hg := rfl) (hal := rfl)
  · exact NI.closed _
  · intro a W' hC hE
    obtain ⟨_, k1⟩ := hC
    have k1 := k1.cell
    simp [Oper.looksAt, Op.operands, Call.operands, envOf, Det] at hE
    refine ⟨_, _, ?_, (c1 W').mono ?_⟩
    · simp [go_sem, Act.eval, hE]
      try rfl
    · rintro e w' ⟨v, rfl, hB, hR⟩
      exact ⟨_, rfl, hR, hB⟩
  iterate 2
    apply nd_det (hg := rfl) (hal := rfl)
    · intro a W' hC hE
      obtain ⟨_, k1⟩ := hC
      have k1 := k1.cell
      first
        | (simp [Oper.looksAt, Op.operands, Call.operands, envOf, Det] at hE; simp [go_sem, Act.eval, IntWalk.i64_left, hE, k1]; try rfl)
        | (clear hE; simp [go_sem, Act.eval, IntWalk.i64_left, k1]; try rfl)
  apply nd_call (NI d) (hg := rfl) (hal := rfl)
  · exact NI.closed _
  · intro a W' hC hE
    simp [Oper.looksAt, Op.operands, Call.operands, envOf, Det] at hE
    refine ⟨_, _, ?_, (c_refInt d W' hd.1 hd.2).mono ?_⟩
    · simp [go_sem, Act.eval, hE]
      try rfl
    · rintro e w' ⟨v, rfl, hB, hR⟩
      exact ⟨_, rfl, hR, hB⟩
  apply nd_call (DV X d) (hg := rfl) (hal := rfl)
  · exact DV.closed _ _
  · intro a W' hC hE
    simp [Oper.looksAt, Op.operands, Call.operands, envOf, Det] at hE
    refine ⟨_, _, ?_, (c_refDiv _ _ X d W' hE.1 hE.2 hX hd0 hd8).mono ?_⟩
    · simp [go_sem, Act.eval]
      try rfl
    · rintro e w' ⟨v1, v2, rfl, h1, h2, hR⟩
      exact ⟨_, rfl, hR, v1, v2, rfl, h1, h2⟩
  apply nd_spec (DV X d) (hg := rfl) (hal := rfl)
  · exact DV.closed _ _
  · intro a W' hC hE
    simp [Oper.looksAt, Op.operands, Call.operands, envOf, Det] at hE
    refine ⟨_, ?_, hE⟩
    simp [go_sem, Act.eval]
  apply nd_spec (NI (X / d)) (hg := rfl) (hal := rfl)
  · exact NI.closed _
  · intro a W' hC hE
    simp [Oper.looksAt, Op.operands, Call.operands, envOf, Det] at hE
    obtain ⟨v1, v2, h0, h1, h2⟩ := hE
    refine ⟨v1, ?_, h1⟩
    simp [go_sem, Act.eval, h0]
  apply nd_spec (NI (X % d)) (hg := rfl) (hal := rfl)
  · exact NI.closed _
  · intro a W' hC hE
    simp [Oper.looksAt, Op.operands, Call.operands, envOf, Det] at hE
    obtain ⟨v1, v2, h0, h1, h2⟩ := hE
    refine ⟨v2, ?_, h2⟩
    simp [go_sem, Act.eval, h0]
  apply nd_alloc W1.heap.size #[.bool false, .slice none 0 0] 140 rfl rfl
  · exact fun W' hC => hC.1.size
  · simp [others] <;> omega
  · intro w; kernel_rfl
  apply nd_alloc W1.heap.size #[.bool false, .slice none 0 0] 140 rfl rfl
  · exact fun W' hC => hC.1.size
  · simp [others] <;> omega
  · intro w; kernel_rfl
  rintro W2 ⟨hR, d1⟩
  simp only [ndFinR, Det, forall_eq]
  intros
  repeat (rename GDet _ _ _ _ => hgd; clear hgd)
  simp only [Act.put, List.setIfInBounds_toArray, List.set_cons_zero, List.set_cons_succ, List.drop_succ_cons, List.drop_zero]
  clear b1
  have b1 := d1
  clear d1
  replace hW := hW.trans (hR.of_priv hW.size)
  clear hR
  clear H_c1
  try clear c1
  rename AllocApart _ _ => hap
  rename NewVar _ _ _ _ _ => hn7
  obtain ⟨o7, rfl, hg7, b3⟩ := hn7
  rename NewVar _ _ _ _ _ => hn6
  obtain ⟨o6, rfl, hg6, b2⟩ := hn6
  have hne : o6 ≠ o7 := fun e => hap 6 7 (by simp [allocDsts, isAlloc]) (by simp [allocDsts, isAlloc]) (by decide) ⟨o6, 0, none⟩ (by simp [Act.put]) (by simp [Act.put, e])
  clear hap
  rename NI (X / d) _ _ => hi1
  rename NI (X % d) _ _ => hi2
  obtain ⟨p1, l1, k1', rfl, hq1⟩ := num_shape hi1
  obtain ⟨p2, l2, k2', rfl, hq2⟩ := num_shape hi2
  clear hi1 hi2 hq2
  have hS := Lib.hid ((hq1.store b2 (.bool (decide (X / d < 0))) (.slice p1 l1 k1')).store (show Blk _ o7 #[.bool false, .slice none 0 0] 140 from (b3.setO (by omega) 0 _).setO (by omega) 1 _) (.bool (decide (X % d < 0))) (.slice p2 l2 k2'))
  clear hq1
  have z9 := hW.size
  have z10 := b1.lt
  have z11 := b2.lt
  have z12 := b3.lt
  clear k1 f1
  have k1 := b1.cell
  have f1 := b1.frozen
  have k2 := b2.cell
  have f2 := b2.frozen
  have k3 := b3.cell
  have f3 := b3.frozen
  go_upto_region 2 with (fail)
  clear k1 f1 k2 f2 k3 f3
  refine wp_cutB w (Bc o6 #[.bool (decide (X / d < 0)), .slice p1 l1 k1'] 140 <| Rc (fun W' => Bits W' (.slice p1 l1 k1') (X / d).natAbs) <| Bz) ?_ (hI := by exact belowAny) (hR := (Bc.mk (by exact blkAny2) <| Rc.mk (by exact hS.out) <| trivial))
  clear b1 b2 b3 hW
  rintro W3 hW z4 ⟨⟨b1, yb1, k1, f1⟩, b2, -⟩
  have hq := Lib.hid b2
  clear b2 hS
  go_wp2_with fail
  refine (H_c2.out _ _ ⟨_, rfl, hq.out⟩).mono ?_
  rintro e w5 ⟨rfl, hb5⟩
  have z6 := hb5.size
  try simp at z6
  clear k1 f1
  refine haveB w w5 (Bc o6 #[.bool (decide (X / d < 0)), .slice p1 l1 k1'] 140 <| Bz) ?_
  clear b1 hW
  rintro hW z7 ⟨⟨b1, yb1, k1, f1⟩, -⟩
  clear hb5
  go_wp2
  refine bodyPost_ret (v := .tuple #[.int .i64 0, .bool false]) (by simp [results, Tryz.results60, go_sem, k1, f1, yb1]) rfl ⟨rfl, hW⟩
end Go.Proofs.YtbanjolokkghdaaGreatDoor
namespace Go.Proofs.YtbanjolokkghdaaGreatDoor
open Go.RowKit
theorem at_bounds {A R n d t : Int} (h : isLine A R n d = true) (h0 : 0 ≤ t) (h1 : t ≤ 281474976710656) :
    (-9223372036854775808 ≤ n ∧ n ≤ 9223372036854775807) ∧ (-9223372036854775808 ≤ t ∧ t ≤ 9223372036854775807) ∧ (-9223372036854775808 ≤ R ∧ R ≤ 9223372036854775807) ∧ (-9223372036854775808 ≤ A ∧ A ≤ 9223372036854775807) ∧ (1 ≤ d ∧ d ≤ 281474976710656) ∧
      n.natAbs < 2 ^ 64 ∧ t.natAbs < 2 ^ 64 ∧ A.natAbs < 2 ^ 64 ∧ d.natAbs < 2 ^ 64 ∧ (n * t).natAbs < 2 ^ 128 ∧ R.natAbs < 2 ^ 64 ∧ (A * d).natAbs < 2 ^ 128 ∧ (n * t + R).natAbs < 2 ^ 129 ∧ (n * t + R + A * d).natAbs < 2 ^ 130 := by
  unfold isLine at h
  simp only [Bool.and_eq_true, decide_eq_true_eq] at h
  obtain ⟨⟨⟨⟨ha, hs⟩, _⟩, hR0⟩, hR1⟩ := h
  have ha := isBack_iff.1 ha
  have hs := isSlope_bd hs
  have e1 : (n * t).natAbs < 2 ^ 128 := by
    rw [Int.natAbs_mul, show (2 : Nat) ^ 128 = 2 ^ 64 * 2 ^ 64 by rw [← Nat.pow_add]]
    exact Nat.mul_lt_mul'' (by omega) (by omega)
  have e2 : (A * d).natAbs < 2 ^ 128 := by
    rw [Int.natAbs_mul, show (2 : Nat) ^ 128 = 2 ^ 64 * 2 ^ 64 by rw [← Nat.pow_add]]
    exact Nat.mul_lt_mul'' (by omega) (by omega)
  exact ⟨by omega, by omega, by omega, by omega, by omega, by omega, by omega, by omega, by omega, e1, by omega, e2, by omega, by omega⟩
theorem at_div {A R n d t : Int} (hd : 1 ≤ d) : (n * t + R + A * d) / d = lineVal A R n d t := by
  unfold lineVal
  exact Int.add_mul_ediv_right _ _ (by omega)
theorem c_rat_times {A R n d t : Int} (h : isLine A R n d = true) (h0 : 0 ≤ t) (h1 : t ≤ 281474976710656) (w : World) :
    Calls Tryz.prog 82 #[.agg #[.int .i64 A, .int .i64 R, .int .i64 n, .int .i64 d], .int .i64 t] w fun e w' => ∃ v, e = .returned v ∧ NumIs w' v (n * t + R + A * d) ∧ Below w.heap.size w w' := by
  obtain ⟨a1, a2, a3, a4, a5, a6, a7, a8, a9, a10, a11, a12, a13, a14⟩ := at_bounds h h0 h1
  exact rtimes_w A R n d t w a1 a2 a3 a4 (by omega) (lt_pow2 64 400 a6 (by omega)) (lt_pow2 64 400 a7 (by omega)) (lt_pow2 64 400 a8 (by omega)) (lt_pow2 64 400 a9 (by omega)) (lt_pow2 128 900 a10 (by omega)) (lt_pow2 64 900 a11 (by omega)) (lt_pow2 129 900 a13 (by omega)) (lt_pow2 128 900 a12 (by omega))
theorem c_rat_yes {A R n d t : Int} (h : isLine A R n d = true) (h0 : 0 ≤ t) (h1 : t ≤ 281474976710656) (hb : isBack (lineVal A R n d t) = true) (w : World) :
    Calls Tryz.prog 60 #[.agg #[.int .i64 A, .int .i64 R, .int .i64 n, .int .i64 d], .int .i64 t] w fun e w' => e = .returned (.tuple #[.int .i64 (lineVal A R n d t), .bool true]) ∧ Below w.heap.size w w' := by
  obtain ⟨a1, a2, a3, a4, a5, a6, a7, a8, a9, a10, a11, a12, a13, a14⟩ := at_bounds h h0 h1
  rw [← at_div a5.1] at hb ⊢
  have hb' := isBack_iff.1 hb
  exact rat_yes A R n d t _ w (by omega) (lt_pow2 130 800 a14 (by omega)) (by omega) (lt_pow2 64 800 a9 (by omega)) (fun W => c_rat_times h h0 h1 W) (fun W va hv => c_refValue va _ W hv (by omega) (by omega)) hb
theorem c_rat_no {A R n d t : Int} (h : isLine A R n d = true) (h0 : 0 ≤ t) (h1 : t ≤ 281474976710656) (hb : isBack (lineVal A R n d t) = false) (w : World) :
    Calls Tryz.prog 60 #[.agg #[.int .i64 A, .int .i64 R, .int .i64 n, .int .i64 d], .int .i64 t] w fun e w' => e = .returned (.tuple #[.int .i64 0, .bool false]) ∧ Below w.heap.size w w' := by
  obtain ⟨a1, a2, a3, a4, a5, a6, a7, a8, a9, a10, a11, a12, a13, a14⟩ := at_bounds h h0 h1
  rw [← at_div a5.1] at hb
  by_cases hf : -9223372036854775808 ≤ (n * t + R + A * d) / d ∧ (n * t + R + A * d) / d < 9223372036854775808
  · exact rat_back A R n d t _ w (by omega) (lt_pow2 130 800 a14 (by omega)) (by omega) (lt_pow2 64 800 a9 (by omega)) (fun W => c_rat_times h h0 h1 W) (fun W va hv => c_refValue va _ W hv hf.1 hf.2) hb
  · refine rat_over A R n d t _ w (by omega) (lt_pow2 130 800 a14 (by omega)) (by omega) (lt_pow2 64 800 a9 (by omega)) (fun W => c_rat_times h h0 h1 W) (fun W va hv => c_refValue_no va _ W hv ?_ hf)
    have : ((n * t + R + A * d) / d).natAbs ≤ (n * t + R + A * d).natAbs := by
      have := Int.natAbs_ediv_le_natAbs (n * t + R + A * d) d
      omega
    exact Nat.lt_of_le_of_lt this (lt_pow2 130 900 a14 (by omega))
end Go.Proofs.YtbanjolokkghdaaGreatDoor
namespace Go.Proofs.YtbanjolokkghdaaGreatDoor
open Go.RowKit

instance : DecidableEq RunT := fun a b =>
  if h : a.f = b.f ∧ a.s = b.s ∧ a.c = b.c then isTrue (by obtain ⟨a1, a2, a3⟩ := a; obtain ⟨b1, b2, b3⟩ := b; obtain ⟨h1, h2, h3⟩ := h; simp at h1 h2 h3; subst h1; subst h2; subst h3; rfl)
  else isFalse (fun e => h (by subst e; exact ⟨rfl, rfl, rfl⟩))
/-- How many more times follow in the same step. -/
def extn (s p : Int) : List Int → Nat
  | [] => 0
  | t :: l => if t - p = s then extn s t l + 1 else 0
theorem extn_le (s : Int) : ∀ (l : List Int) (p : Int), extn s p l ≤ l.length
  | [], _ => Nat.le_refl _
  | t :: l, p => by
    simp only [extn, List.length_cons]
    split
    · have := extn_le s l t; omega
    · omega
theorem step_succ (s p : Int) (k : Nat) : p + s + s * ((k : Int) + 1) = p + s * (((k + 1 : Nat) : Int) + 1) := by
  have : s * (((k + 1 : Nat) : Int) + 1) = s + s * ((k : Int) + 1) := by
    rw [show (((k + 1 : Nat) : Int) + 1) = 1 + ((k : Int) + 1) by omega, Int.mul_add, Int.mul_one]
  omega
theorem extn_take (s : Int) : ∀ (l : List Int) (p : Int), l.take (extn s p l) = (List.range (extn s p l)).map fun (k : Nat) => p + s * ((k : Int) + 1)
  | [], _ => rfl
  | t :: l, p => by
    simp only [extn]
    split
    · next h =>
      rw [List.take_succ_cons, extn_take s l t, List.range_succ_eq_map, List.map_cons, List.map_map]
      congr 1
      · simp; omega
      · apply List.map_congr_left
        intro k _
        show t + s * ((k : Int) + 1) = p + s * (((k + 1 : Nat) : Int) + 1)
        rw [← step_succ, show t = p + s by omega]
    · simp
theorem extn_stop (s : Int) : ∀ (l : List Int) (p t : Int) (m : List Int), l.drop (extn s p l) = t :: m → t - (p + s * (extn s p l : Int)) ≠ s
  | [], p, t, m, h => by simp at h
  | x :: l, p, t, m, h => by
    simp only [extn] at h ⊢
    split at h
    · next hx =>
      rw [if_pos hx]
      rw [List.drop_succ_cons] at h
      have ih := extn_stop s l x t m h
      have e : p + s * ((extn s x l + 1 : Nat) : Int) = x + s * (extn s x l : Int) := by
        rw [show x = p + s by omega, show ((extn s (p + s) l + 1 : Nat) : Int) = 1 + (extn s (p + s) l : Int) by omega, Int.mul_add, Int.mul_one]
        omega
      rw [e]; exact ih
    · next hx =>
      rw [if_neg hx]
      simp at h
      simp
      rw [← h.1]; exact hx
/-- The runs of times: from each first one on as far as it goes. -/
def ofL : List Int → List RunT
  | [] => []
  | [t] => [⟨t, 0, 1⟩]
  | a :: b :: l => ⟨a, b - a, ((extn (b - a) b l + 2 : Nat) : Int)⟩ :: ofL (l.drop (extn (b - a) b l))
termination_by l => l.length
decreasing_by simp; omega
theorem ofL_nil : ofL [] = [] := by rw [ofL]
theorem ofL_one (t : Int) : ofL [t] = [⟨t, 0, 1⟩] := by rw [ofL]
theorem ofL_more (a b : Int) (l : List Int) : ofL (a :: b :: l) = ⟨a, b - a, ((extn (b - a) b l + 2 : Nat) : Int)⟩ :: ofL (l.drop (extn (b - a) b l)) := by rw [ofL]
theorem timesR_more (a b : Int) (l : List Int) : timesR ⟨a, b - a, ((extn (b - a) b l + 2 : Nat) : Int)⟩ = a :: b :: l.take (extn (b - a) b l) := by
  unfold timesR
  simp only []
  rw [Int.toNat_natCast, List.range_succ_eq_map, List.map_cons, List.map_map, List.range_succ_eq_map, List.map_cons, List.map_map, extn_take]
  congr 1
  · simp
  · congr 1
    · simp [Function.comp]; omega
    · apply List.map_congr_left
      intro k _
      show a + (b - a) * ((k + 1 + 1 : Nat) : Int) = b + (b - a) * ((k : Int) + 1)
      rw [show ((k + 1 + 1 : Nat) : Int) = 1 + ((k : Int) + 1) by omega, Int.mul_add, Int.mul_one]
      omega
theorem times_of : ∀ (n : Nat) (t : List Int), t.length ≤ n → timesL (ofL t) = t
  | _, [], _ => by rw [ofL_nil]; rfl
  | _, [t], _ => by rw [ofL_one]; simp [timesL, timesR]
  | 0, a :: b :: l, h => by simp at h
  | n + 1, a :: b :: l, h => by
    rw [ofL_more]
    show timesR _ ++ timesL _ = _
    rw [timesR_more, times_of n _ (by simp at h ⊢; omega)]
    simp
/-- Times that may be. -/
structure Rising (t : List Int) : Prop where
  up : t.Pairwise (· < ·)
  lo : ∀ x, x ∈ t → 0 ≤ x ∧ x ≤ 281474976710656
theorem Rising.tail {a : Int} {t : List Int} (h : Rising (a :: t)) : Rising t := ⟨(List.pairwise_cons.1 h.up).2, fun x hx => h.lo x (by simp [hx])⟩
theorem Rising.drop {t : List Int} (h : Rising t) (k : Nat) : Rising (t.drop k) := ⟨h.up.sublist (List.drop_sublist k t), fun x hx => h.lo x (List.mem_of_mem_drop hx)⟩
theorem of_first {t : List Int} {q : RunT} (h : (ofL t).head? = some q) : t.head? = some q.f := by
  match t, h with
  | [], h => simp [ofL_nil] at h
  | [x], h => simp [ofL_one] at h; subst h; rfl
  | a :: b :: l, h => rw [ofL_more] at h; simp at h; subst h; rfl
theorem last_more (a b : Int) (l : List Int) : lastI ⟨a, b - a, ((extn (b - a) b l + 2 : Nat) : Int)⟩ = b + (b - a) * (extn (b - a) b l : Int) := by
  unfold lastI
  simp only []
  rw [show ((extn (b - a) b l + 2 : Nat) : Int) - 1 = 1 + (extn (b - a) b l : Int) by omega, Int.mul_add, Int.mul_one]
  omega
theorem last_mem (a b : Int) (l : List Int) : b + (b - a) * (extn (b - a) b l : Int) ∈ b :: l.take (extn (b - a) b l) := by
  rw [extn_take]
  rcases Nat.eq_zero_or_pos (extn (b - a) b l) with h | h
  · rw [h]; simp
  · refine List.mem_cons_of_mem _ (List.mem_map.2 ⟨extn (b - a) b l - 1, List.mem_range.2 (by omega), ?_⟩)
    rw [show ((extn (b - a) b l - 1 : Nat) : Int) + 1 = (extn (b - a) b l : Int) by omega]
theorem of_each : ∀ (n : Nat) (t : List Int), t.length ≤ n → t.length ≤ 256 → Rising t → (∀ r, r ∈ ofL t → RunOk r) ∧ Chain (ofL t)
  | _, [], _, _, _ => by rw [ofL_nil]; exact ⟨by simp, trivial⟩
  | _, [t], _, _, h => by
    rw [ofL_one]
    have := h.lo t (by simp)
    refine ⟨?_, ?_⟩
    · intro r hr
      simp at hr
      subst hr
      exact ⟨by simp; omega, by simp; omega, by simp, by simp, by simp, by simp, by simp, by simp [lastI]; omega⟩
    · exact ⟨by simp, trivial⟩
  | 0, a :: b :: l, h, _, _ => by simp at h
  | n + 1, a :: b :: l, hn, h256, h => by
    have hk := extn_le (b - a) l b
    have ih := of_each n (l.drop (extn (b - a) b l)) (by simp at hn ⊢; omega) (by simp at h256 ⊢; omega) (h.tail.tail.drop _)
    have ha := h.lo a (by simp)
    have hb := h.lo b (by simp)
    have hab : a < b := (List.pairwise_cons.1 h.up).1 b (by simp)
    have hlm : b + (b - a) * (extn (b - a) b l : Int) ∈ b :: l := by
      have := last_mem a b l
      rcases List.mem_cons.1 this with e | e
      · rw [e]; simp
      · exact List.mem_cons_of_mem _ (List.mem_of_mem_take e)
    have hlast := h.lo _ (List.mem_cons_of_mem a hlm)
    rw [ofL_more]
    refine ⟨?_, ?_⟩
    · intro r hr
      rcases List.mem_cons.1 hr with e | e
      · subst e
        refine ⟨ha.1, ha.2, by simp; omega, by simp; omega, by simp; omega, by simp at h256; simp; omega, by simp; omega, ?_⟩
        rw [last_more]; exact hlast.2
      · exact ih.1 r e
    · refine ⟨?_, ih.2⟩
      intro q hq
      have h1 := of_first hq
      cases hd : l.drop (extn (b - a) b l) with
      | nil => rw [hd] at h1; simp at h1
      | cons x m =>
        rw [hd] at h1
        simp at h1
        have hs := extn_stop _ l b x m hd
        refine ⟨⟨?_, ?_⟩, by simp; omega⟩
        · rw [last_more, ← h1]
          have hu : (b :: l).Pairwise (· < ·) := (List.pairwise_cons.1 h.up).2
          have e : b :: l = (b :: l.take (extn (b - a) b l)) ++ (x :: m) := by rw [← hd, List.cons_append, List.take_append_drop]
          rw [e, List.pairwise_append] at hu
          exact hu.2.2 _ (last_mem a b l) x (by simp)
        · rw [last_more, ← h1]; exact hs
theorem length_of_cnt {l : List RunT} (h : ∀ r, r ∈ l → RunOk r) : ((timesL l).length : Int) = cnt l := length_timesL l fun r hr => by have := (h r hr).c0; omega
theorem cnt_ge : ∀ (l : List RunT), (∀ r, r ∈ l → 1 ≤ r.c) → (l.length : Int) ≤ cnt l
  | [], _ => by simp [cnt]
  | r :: l, h => by
    have := cnt_ge l fun r hr => h r (by simp [hr])
    have := h r (by simp)
    simp [cnt]; omega
theorem of_runs {t : List Int} (h : Rising t) (h0 : 0 < t.length) (h1 : t.length ≤ 256) : RunsOk (ofL t) := by
  obtain ⟨he, hc⟩ := of_each t.length t (Nat.le_refl _) h1 h
  have ht := times_of t.length t (Nat.le_refl _)
  have hn := length_of_cnt he
  rw [ht] at hn
  have hg := cnt_ge _ fun r hr => (he r hr).c0
  refine ⟨?_, by omega, he, by omega, hc⟩
  cases hl : ofL t with
  | nil => rw [hl] at ht; simp [timesL] at ht; subst ht; simp at h0
  | cons r l => simp
theorem extn_run (s : Int) : ∀ (k : Nat) (p : Int) (m : List Int), (∀ x, m.head? = some x → x - (p + s * (k : Int)) ≠ s) → extn s p ((List.range k).map (fun (i : Nat) => p + s * ((i : Int) + 1)) ++ m) = k
  | 0, p, [], _ => rfl
  | 0, p, x :: m, h => by
    have := h x rfl
    simp at this
    simp [extn, this]
  | k + 1, p, m, h => by
    rw [List.range_succ_eq_map, List.map_cons, List.map_map, List.cons_append]
    simp only [extn]
    rw [if_pos (by simp; omega)]
    congr 1
    have e : (fun (i : Nat) => p + s * ((i : Int) + 1)) ∘ Nat.succ = fun (i : Nat) => (p + s) + s * ((i : Int) + 1) := by
      funext i
      exact (step_succ s p i).symm
    rw [e]
    have := extn_run s k (p + s) m fun x hx => by
      have h1 := h x hx
      rw [show ((k + 1 : Nat) : Int) = 1 + (k : Int) by omega, Int.mul_add, Int.mul_one] at h1
      intro h2; apply h1; omega
    simpa using this
theorem of_times : ∀ (l : List RunT), (∀ r, r ∈ l → RunOk r) → Chain l → ofL (timesL l) = l
  | [], _, _ => by simp [timesL, ofL_nil]
  | r :: l, he, hc => by
    have hr := he r (by simp)
    have ih := of_times l (fun q hq => he q (by simp [hq])) hc.tail
    have c0 := hr.c0
    by_cases h1 : r.c = 1
    · have hl : l = [] := by
        cases l with
        | nil => rfl
        | cons q l => have := (hc.1 q rfl).2; omega
      subst hl
      obtain ⟨f, s, c⟩ := r
      simp at h1
      subst h1
      have hs : s = 0 := hr.one.1 rfl
      subst hs
      simp [timesL, timesR, ofL_one]
    · obtain ⟨k, hk⟩ : ∃ k : Nat, r.c = ((k + 2 : Nat) : Int) := ⟨(r.c - 2).toNat, by omega⟩
      obtain ⟨f, s, c⟩ := r
      simp at hk
      subst hk
      have e : timesR ⟨f, s, (k : Int) + 2⟩ = f :: (f + s) :: (List.range k).map fun (i : Nat) => (f + s) + s * ((i : Int) + 1) := by
        unfold timesR
        simp only []
        rw [show ((k : Int) + 2).toNat = k + 1 + 1 by omega, List.range_succ_eq_map, List.map_cons, List.map_map, List.range_succ_eq_map, List.map_cons, List.map_map]
        congr 1
        · simp
        · congr 1
          · simp [Function.comp]
          · apply List.map_congr_left
            intro i _
            show f + s * ((i + 1 + 1 : Nat) : Int) = _
            rw [show ((i + 1 + 1 : Nat) : Int) = 1 + ((i : Int) + 1) by omega, Int.mul_add, Int.mul_one]
            omega
      have hx : extn s (f + s) ((List.range k).map (fun (i : Nat) => (f + s) + s * ((i : Int) + 1)) ++ timesL l) = k := extn_run s k (f + s) _ fun x hx => by
        cases l with
        | nil => simp [timesL] at hx
        | cons q l =>
          obtain ⟨⟨h2, h3⟩, -⟩ := hc.1 q rfl
          have hq := he q (by simp)
          have : (timesL (q :: l)).head? = some q.f := by
            obtain ⟨j, hj⟩ : ∃ j : Nat, q.c.toNat = j + 1 := ⟨q.c.toNat - 1, by have := hq.c0; omega⟩
            show (timesR q ++ timesL l).head? = _
            unfold timesR
            rw [hj, List.range_succ_eq_map]
            simp
          rw [this] at hx
          cases hx
          unfold lastI at h3
          simp only [] at h3
          rw [show (k : Int) + 2 - 1 = 1 + (k : Int) by omega, Int.mul_add, Int.mul_one] at h3
          intro h4; apply h3; omega
      show ofL (timesR _ ++ timesL l) = _
      rw [e, List.cons_append, List.cons_append, ofL_more, show f + s - f = s by omega, hx, List.drop_left' (by simp), ih]
      simp
/-- May runs be told in times, one by one? -/
def fitR (r : RunT) : Bool := decide (1 ≤ r.c) && decide (r.c ≤ 256) && decide (0 ≤ r.s) && decide (r.s ≤ 281474976710656) && decide (0 ≤ r.f) && decide (r.f ≤ 281474976710656)
def fitL (l : List RunT) : Bool := l.all fitR && decide (cnt l ≤ 256)
def timesG (l : List RunT) : List Int := if fitL l then timesL l else []
def risingB (t : List Int) : Bool := decide (1 ≤ t.length) && decide (t.length ≤ 256) && decide (t.Pairwise (· < ·)) && t.all fun x => decide (0 ≤ x) && decide (x ≤ 281474976710656)
theorem risingB_iff (t : List Int) : risingB t = true ↔ 1 ≤ t.length ∧ t.length ≤ 256 ∧ Rising t := by
  unfold risingB
  simp only [Bool.and_eq_true, decide_eq_true_eq, List.all_eq_true]
  constructor
  · rintro ⟨⟨⟨a, b⟩, c⟩, d⟩; exact ⟨a, b, c, d⟩
  · rintro ⟨a, b, c, d⟩; exact ⟨⟨⟨a, b⟩, c⟩, d⟩
def rightR (l : List RunT) : Bool := risingB (timesG l) && decide (ofL (timesG l) = l)
theorem fit_ok {l : List RunT} (h : RunsOk l) : fitL l = true := by
  unfold fitL
  simp only [Bool.and_eq_true, decide_eq_true_eq, List.all_eq_true]
  refine ⟨fun r hr => ?_, h.count⟩
  have := h.each r hr
  have a := this.f0; have b := this.f1; have c := this.s0; have d := this.s1; have e := this.c0; have f := this.c1
  unfold fitR
  simp [a, b, c, d, e, f]
theorem times_ok {l : List RunT} (h : RunsOk l) : timesG l = timesL l := by unfold timesG; rw [if_pos (fit_ok h)]
theorem rising_ok {l : List RunT} (h : RunsOk l) : Rising (timesL l) := ⟨times_pairwise l h.each h.chain, times_in l h⟩
theorem cnt_one {l : List RunT} (h : RunsOk l) : 1 ≤ cnt l := by
  have := cnt_ge l fun r hr => (h.each r hr).c0
  have := h.some'
  omega
theorem rightR_is (l : List RunT) : rightR l = risesB l := by
  rw [Bool.eq_iff_iff, risesB_iff]
  unfold rightR
  rw [Bool.and_eq_true, risingB_iff, decide_eq_true_eq]
  constructor
  · rintro ⟨⟨h1, h2, h3⟩, h4⟩
    rw [← h4]
    exact of_runs h3 (by omega) h2
  · intro h
    have hn := length_of_cnt h.each
    have := cnt_one h
    have := h.count
    rw [times_ok h]
    exact ⟨⟨by omega, by omega, rising_ok h⟩, of_times l h.each h.chain⟩
end Go.Proofs.YtbanjolokkghdaaGreatDoor
namespace Go.Proofs.YtbanjolokkghdaaGreatDoor
open Go.RowKit
theorem Tryz.infoI64 : (Tryz.prog.info? 2).map (fun i => (i.zero, i.size, i.bytes)) = some (some (.int .i64 0), 1, 8) := by kernel_rfl
def tiRel (w : World) (p : Option Addr) (l : List RunT) (cap : Nat) (a' : Act) (W : World) : Prop :=
  Below w.heap.size w W ∧ ∃ (i : Nat) (T : List Int) (v : Value), (∃ u : Nat → Value, a' = { tmps := #[.slice p l.length cap, u 1, .slice none 0 0, v, .int .i64 (i : Int), u 5, u 6, u 7, u 8, u 9, u 10, u 11, u 12, u 13, u 14, u 15, u 16, u 17, u 18, u 19, u 20, u 21, u 22, u 23, u 24, u 25, u 26, u 27, u 28, u 29, u 30, u 31, u 32, u 33, u 34, u 35, u 36, u 37, u 38, u 39, u 40, u 41, u 42, u 43, u 44, u 45, u 46, u 47, u 48, u 49, u 50, u 51, u 52, u 53, u 54, u 55, u 56, u 57, u 58, u 59, u 60, u 61, u 62, u 63, u 64, u 65, u 66, u 67, u 68, u 69], defers := [] }) ∧
    OwnR W w.heap.size 2 1 v T.length (T.map (Value.int .i64)) ∧ T = timesL (l.take i) ∧ i ≤ l.length ∧ (∀ r, r ∈ l.take i → fitR r = true) ∧ cnt (l.take i) ≤ 256
def tjRel (w : World) (p : Option Addr) (l : List RunT) (cap i : Nat) (T : List Int) (r : RunT) (g : Nat) (a' : Act) (W : World) : Prop :=
  Below w.heap.size w W ∧ Blk W g #[.int .i64 r.f, .int .i64 r.s, .int .i64 r.c] 94 ∧ ∃ (k : Nat) (T1 : List Int) (v : Value), (∃ u : Nat → Value, a' = { tmps := #[.slice p l.length cap, u 1, .slice none 0 0, v, .int .i64 (i : Int), .pointer (some ⟨g, 0, none⟩), .int .i64 (k : Int), u 7, u 8, u 9, u 10, u 11, u 12, u 13, u 14, u 15, u 16, u 17, u 18, u 19, u 20, u 21, u 22, u 23, u 24, u 25, u 26, u 27, u 28, u 29, u 30, u 31, u 32, u 33, u 34, u 35, u 36, u 37, u 38, u 39, u 40, u 41, u 42, u 43, u 44, u 45, u 46, u 47, u 48, u 49, u 50, u 51, u 52, u 53, u 54, u 55, u 56, u 57, u 58, u 59, u 60, u 61, u 62, u 63, u 64, u 65, u 66, u 67, u 68, u 69], defers := [] }) ∧
    OwnR W w.heap.size 2 1 v T1.length (T1.map (Value.int .i64)) ∧ T1 = T ++ (List.range k).map (fun (j : Nat) => r.f + r.s * (j : Int)) ∧ (k : Int) ≤ r.c
theorem cnt_takeLe : ∀ (l : List RunT) (k : Nat), (∀ r, r ∈ l → 1 ≤ r.c) → cnt (l.take k) ≤ cnt l
  | [], k, _ => by simp
  | r :: l, 0, h => by
    have := cnt_ge (r :: l) h
    simp [cnt] at this ⊢
    have : cnt ([] : List RunT) = 0 := rfl
    omega
  | r :: l, k + 1, h => by
    have := cnt_takeLe l k fun q hq => h q (by simp [hq])
    simp only [List.take_succ_cons, cnt]
    omega
set_option maxRecDepth 100000 in
set_option maxHeartbeats 8000000 in
theorem reftimes_w (p : Option Addr) (cap : Nat) (l : List RunT) (w : World) (h : RunsIn w p l) (hlen : l.length ≤ 1000) :
    Calls Tryz.prog 30 #[.slice p l.length cap] w fun e w' => ∃ v, e = .returned v ∧ OwnR w' w.heap.size 2 1 v (timesG l).length ((timesG l).map (Value.int .i64)) ∧ Below w.heap.size w w' := by
  obtain ⟨i0, hi, hz0, hz1, hz2⟩ := info_parts Tryz.infoI64
  go_enter Tryz.func30, Tryz.ntmps30
  go_wp2
  refine wp_loop (tiRel w p l cap) (fun a' _ => l.length - (intAt (a'.tmps.getD 4 undef)).toNat) ?_ ?_
  · unfold tiRel
    exact ⟨Below.refl _ _, 0, [], _, frame_ex rfl, OwnR.nil _ _ _ _, by simp [timesL], by omega, by simp, by simp [cnt]⟩
  · rintro a' W ⟨hW0, i, T, v, ⟨u, rfl⟩, hown, hT, hi', hfit, hcnt⟩
    have hz := hW0.size
    obtain ⟨pv, cv, rfl, hcv, hcm, -, -⟩ := hown.form
    have hTl : (T.length : Int) = cnt (l.take i) := by
      rw [hT]; exact length_timesL _ fun r hr => by have := hfit r hr; unfold fitR at this; simp at this; omega
    have hT256 : T.length ≤ 256 := by omega
    replace hT := Lib.hid hT
    replace hfit := Lib.hid hfit
    replace hcnt := Lib.hid hcnt
    replace hTl := Lib.hid hTl
    rcases Nat.lt_or_ge i l.length with hlt | hge
    · obtain ⟨r, hri⟩ : ∃ r, l[i]? = some r := ⟨l[i]'(by omega), List.getElem?_eq_getElem (by omega)⟩
      obtain ⟨b, o, rfl, k0, k1, k2⟩ := (h.below hW0).at' i r hri
      replace hri := Lib.hid hri
      obtain ⟨S, hS⟩ : ∃ S, wrap64 ((T.length : Int) + r.c) = S := ⟨_, rfl⟩
      replace hS := Lib.hid hS
      go_upto_region 6 with (fail)
      refine wp_cutB W (Bc W.heap.size #[.int .i64 r.f, .int .i64 r.s, .int .i64 r.c] 94 <| Rc (fun W' => OwnR W' w.heap.size 2 1 (.slice pv T.length cv) T.length (T.map (Value.int .i64))) <| Bz) ?_ (hI := by exact belowAny) (hR := (Bc.mk (by exact blkAny2) <| Rc.mk (by exact hown.below belowAny) <| trivial))
      rintro W1 hW z2 hL
      obtain ⟨⟨b1, yb1, k1, f1⟩, b2, -⟩ := id hL
      clear k1 f1
      refine wp_regS 36 70 hW hL ?_
      iterate 4 refine dE (fun W' hC => hS.out) ?_
      iterate 3 refine gE (fun W' hC => hS.out) ?_
      refine pO ?_
      refine dE (fun W' hC => hS.out) ?_
      iterate 6 refine gE (fun W' hC => hS.out) ?_
      refine pO ?_
      refine dE (fun W' hC => hS.out) ?_
      iterate 3 refine gE (fun W' hC => hS.out) ?_
      refine pO ?_
      refine dE (fun W' hC => hS.out) ?_
      iterate 3 refine gE (fun W' hC => hS.out) ?_
      refine pO ?_
      refine dE (fun W' hC => hS.out) ?_
      iterate 3 refine gE (fun W' hC => hS.out) ?_
      refine pO ?_
      refine dE (fun W' hC => hS.out) ?_
      iterate 3 refine gE (fun W' hC => hS.out) ?_
      refine pO ?_
      clear hW hL b1 b2
      rintro W3 hW z4 hL
      simp only [ndR]
      intros
      simp only [ndS]
      refine wpList_nil ?_
      obtain ⟨⟨b1, yb1, k1, f1⟩, b2, -⟩ := hL
      obtain ⟨F, hF⟩ : ∃ F, (decide (r.c < 1) || decide (256 < r.c) || decide (256 < S) || decide (r.s < 0) || decide (281474976710656 < r.s) || decide (r.f < 0) || decide (281474976710656 < r.f)) = F := ⟨_, rfl⟩
      rw [hF]
      have hrt := Lib.hid (show (l.take (i + 1)) = l.take i ++ [r] by rw [List.take_succ_eq_append_getElem hlt]; have := hri.out; rw [List.getElem?_eq_getElem hlt] at this; injection this with this; rw [this])
      cases F with
      | true =>
        have hG : timesG l = [] := by
          unfold timesG
          rw [if_neg]
          intro hh
          unfold fitL at hh
          simp only [Bool.and_eq_true, List.all_eq_true, decide_eq_true_eq] at hh
          have hr := hh.1 r (List.mem_of_getElem? hri.out)
          unfold fitR at hr
          simp at hr
          simp at hF
          have hc2 := cnt_takeLe l (i + 1) fun q hq => by have := hh.1 q hq; unfold fitR at this; simp at this; omega
          rw [hrt.out, cnt_append] at hc2
          simp only [cnt] at hc2
          have h3 := hTl.out
          have h4 := hS.out
          rw [wrap64_eq] at h4
          omega
        clear hF
        replace hG := Lib.hid hG
        go_wp2
        go_ret
        exact ⟨_, rfl, by rw [hG.out]; exact OwnR.nil _ _ _ _, hW0.trans (hW.mono hz)⟩
      | false =>
        simp only [Bool.or_eq_false_iff, decide_eq_false_iff_not] at hF
        obtain ⟨⟨⟨⟨⟨⟨f1, f2⟩, f3⟩, f4⟩, f5⟩, f6⟩, f7⟩ := hF
        have hSS : S = T.length + r.c := by have h4 := hS.out; rw [wrap64_eq] at h4; omega
        clear hS
        subst hSS
        have zb := b1.lt
        have zz := Nat.le_trans hz hW.size
        have hB1 := hW0.trans (hW.mono hz)
        clear hW hown k0 k1 k2
        go_wp2
        refine wp_loop (tjRel w (some ⟨b, o, none⟩) l cap i T r W.heap.size) (fun a' _ => r.c.toNat - (intAt (a'.tmps.getD 6 undef)).toNat) ?_ ?_
        · unfold tjRel
          exact ⟨hB1, b1, 0, T, _, frame_ex rfl, b2, by simp, by omega⟩
        · rintro a' W2 ⟨hW1, b1, k, T1, v, ⟨u, rfl⟩, hown, hT1, hk⟩
          have ya1 := hW1.size
          have zb2 := b1.lt
          have hl1 : T1.length = T.length + k := by rw [hT1]; simp
          have hl9 : T1.length ≤ 256 := by omega
          replace hT1 := Lib.hid hT1
          replace hl1 := Lib.hid hl1
          have k1 := b1.cell
          have g1 := b1.frozen
          rcases Int.lt_or_le (k : Int) r.c with hkc | hkc
          · obtain ⟨M, hM⟩ : ∃ M, (k : Int) * r.s = M := ⟨_, rfl⟩
            have m0 : 0 ≤ M := hM ▸ Int.mul_nonneg (by omega) (by omega)
            have m1 : M ≤ 256 * 281474976710656 := hM ▸ Int.mul_le_mul (by omega) (by omega) (by omega) (by omega)
            have hown' := hown.own
            go_wp2_with (at_builtin; refine wpList_append_own _ rfl (.tmp 59) (.tmp 67) 27 rfl w.heap.size 2 i0 (.int .i64 0) 1 8 (by kernel_rfl) hi hz0 hz1 hz2 rfl (by decide) _ _ _ rfl (hown'.alloc _) ⟨W2.heap.size, 0, none⟩ 1 1 [.int .i64 (r.f + M)] rfl rfl (cell_one_new _ _ _) (by simp [Value.oneCell']) (by simp [maxLen]; omega) (by omega) (by simp; omega) ?_)
            intro v' w1 hown2 hgr _
            have hB := Lib.hid (below_append hW1 ya1 hown' hgr)
            have b2 := b1.grown hown' (by decide) hgr
            clear hgr hown' hown
            replace hown2 := Lib.hid hown2
            clear b1 k1 g1
            go_wp2
            rw [show (k : Int) + 1 = ((k + 1 : Nat) : Int) by omega]
            refine ⟨?_, by simp [intAt]; omega⟩
            unfold tjRel
            exact ⟨hB.out, b2, k + 1, T1 ++ [r.f + M], v', frame_ex rfl, ⟨by simpa using hown2.out⟩, by rw [hT1.out, List.range_succ, List.map_append, List.append_assoc, ← hM, Int.mul_comm]; rfl, by omega⟩
          · have hkc2 : (k : Int) = r.c := by omega
            have hTT := Lib.hid (show T1 = timesL (l.take (i + 1)) by
              rw [hrt.out, timesL_append, hT1.out, ← hT.out]
              show _ = T ++ (timesR r ++ [])
              rw [List.append_nil]
              unfold timesR
              rw [show r.c.toNat = k by omega])
            have hfit2 := Lib.hid (show ∀ q, q ∈ l.take (i + 1) → fitR q = true by
              intro q hq
              rw [hrt.out] at hq
              rcases List.mem_append.1 hq with hq | hq
              · exact hfit.out q hq
              · rw [List.mem_singleton.1 hq]
                unfold fitR
                simp
                omega)
            have hcnt2 := Lib.hid (show cnt (l.take (i + 1)) ≤ 256 by
              rw [hrt.out, cnt_append, ← hTl.out]
              simp only [cnt]
              omega)
            clear hkc2 f3
            go_wp2
            rw [show (i : Int) + 1 = ((i + 1 : Nat) : Int) by omega]
            refine ⟨?_, by simp [intAt]; omega⟩
            unfold tiRel
            exact ⟨hW1, i + 1, T1, v, frame_ex rfl, hown, hTT.out, by omega, hfit2.out, hcnt2.out⟩
    · obtain rfl : i = l.length := by omega
      have hG : timesG l = T := by
        unfold timesG fitL
        have h1 := hfit.out
        have h2 := hcnt.out
        rw [List.take_length] at h1 h2
        rw [if_pos (by simp only [Bool.and_eq_true, List.all_eq_true, decide_eq_true_eq]; exact ⟨h1, h2⟩), hT.out, List.take_length]
      replace hG := Lib.hid hG
      go_wp2
      go_ret
      exact ⟨_, rfl, by rw [hG.out]; exact hown, hW0⟩
end Go.Proofs.YtbanjolokkghdaaGreatDoor
