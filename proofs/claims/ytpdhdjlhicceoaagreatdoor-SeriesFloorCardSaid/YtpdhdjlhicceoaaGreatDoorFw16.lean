/- Parts of the proof that follows: series.Check. No condition. | Binary digits, plainly, from the lowest on. No condition. | The references' numbers: Size, power. -/
import Derived.Test.YtpdhdjlhicceoaaGreatDoorFw15
set_option linter.unusedSimpArgs false
set_option linter.unusedVariables false
namespace Go.Proofs.YtpdhdjlhicceoaaGreatDoor
open Go.RowKit Go.Shelf
attribute [local go_sem] Oper.semAt_some
def ck1Rel (w : World) (s : SerT) (ps po : Option Addr) (cs co : Nat) (a' : Act) (W : World) : Prop :=
  Below w.heap.size w W ∧ Blk W w.heap.size #[.string s.name, .int .i64 s.eps, .int .i64 s.floor, .int .i64 s.last, .int .i64 s.scale, .slice ps s.segs.length cs, .slice po s.opn.length co] 26 ∧ Blk W (w.heap.size + 1) #[.int .i64 0] 27 ∧ ∃ i : Nat, (∃ u : Nat → Value, a' = { tmps := #[.agg #[.string s.name, .int .i64 s.eps, .int .i64 s.floor, .int .i64 s.last, .int .i64 s.scale, .slice ps s.segs.length cs, .slice po s.opn.length co], .pointer (some ⟨w.heap.size, 0, none⟩), .pointer (some ⟨w.heap.size + 1, 0, none⟩), u 3, u 4, u 5, u 6, u 7, u 8, u 9, u 10, u 11, u 12, u 13, u 14, u 15, u 16, u 17, u 18, u 19, u 20, u 21, u 22, u 23, u 24, .slice ps s.segs.length cs, .int .i64 (s.segs.length : Int), .int .i64 (i : Int), u 28, u 29, u 30, u 31, u 32, u 33, u 34, u 35, u 36, u 37, u 38, u 39, u 40, u 41, u 42, u 43, u 44, u 45, u 46, u 47, u 48, u 49, u 50, u 51, u 52, u 53, u 54, u 55, u 56, u 57, u 58, u 59, u 60, u 61, u 62, u 63, u 64, u 65, u 66, u 67, u 68, u 69, u 70, u 71, u 72, u 73, u 74, u 75, u 76, u 77, u 78, u 79, u 80, u 81, u 82, u 83], defers := [] }) ∧ i ≤ s.segs.length ∧ (∀ j x, j < i → s.segs[j]? = some x → inSegB s.eps s.floor x = true)
def ck2Rel (w : World) (s : SerT) (ps po : Option Addr) (cs co : Nat) (a' : Act) (W : World) : Prop :=
  Below w.heap.size w W ∧ Blk W w.heap.size #[.string s.name, .int .i64 s.eps, .int .i64 s.floor, .int .i64 s.last, .int .i64 s.scale, .slice ps s.segs.length cs, .slice po s.opn.length co] 26 ∧ Blk W (w.heap.size + 1) #[.int .i64 0] 27 ∧ ∃ i : Nat, (∃ u : Nat → Value, a' = { tmps := #[.agg #[.string s.name, .int .i64 s.eps, .int .i64 s.floor, .int .i64 s.last, .int .i64 s.scale, .slice ps s.segs.length cs, .slice po s.opn.length co], .pointer (some ⟨w.heap.size, 0, none⟩), .pointer (some ⟨w.heap.size + 1, 0, none⟩), u 3, u 4, u 5, u 6, u 7, u 8, u 9, u 10, u 11, u 12, u 13, u 14, u 15, u 16, u 17, u 18, u 19, u 20, u 21, u 22, u 23, u 24, u 25, u 26, u 27, u 28, u 29, u 30, u 31, u 32, u 33, u 34, u 35, u 36, u 37, u 38, u 39, u 40, u 41, u 42, u 43, u 44, .slice po s.opn.length co, .int .i64 (s.opn.length : Int), .int .i64 (i : Int), u 48, u 49, u 50, u 51, u 52, u 53, u 54, u 55, u 56, u 57, u 58, u 59, u 60, u 61, u 62, u 63, u 64, u 65, u 66, u 67, u 68, u 69, u 70, u 71, u 72, u 73, u 74, u 75, u 76, u 77, u 78, u 79, u 80, u 81, u 82, u 83], defers := [] }) ∧ i ≤ s.opn.length ∧ (∀ j x, j < i → s.opn[j]? = some x → inOpnB s.floor x = true)
set_option maxRecDepth 100000 in
set_option maxHeartbeats 8000000 in
theorem check_in (s : SerT) (ps po : Option Addr) (cs co : Nat) (w : World) (hin : SerIn w s ps po) :
    CallsIn Fence.wide 4 Tryz.prog 32 #[.agg (serA s ps cs po co)] w fun e w' => e = .returned (.int .i64 (checkE s)) ∧ Below w.heap.size w w' := by
  have hfS := hin.fewS
  have hfO := hin.fewO
  unfold serA
  refine callsIn_of_wp_marks Tryz.func32 rfl trivial ?_ rfl
  simp only [Tryz.ntmps32, List.size_toArray, List.length_cons, List.length_nil, Nat.reduceAdd, Nat.reduceSub, Array.replicate_succ, Array.replicate_zero, List.push_toArray, List.append_toArray, List.nil_append, List.cons_append]
  refine wpIn_wide.2 ?_
  have hNS : numsB s = (nameB s.name && btw s.eps 0 1099511627776 && btw s.scale (-40) 40 && btw s.floor 0 281474976710656 && btw s.last (-1) 281474976710656) := by unfold numsB; simp [Bool.and_assoc]
  have c1 := fun W => c_srNums s.name s.eps s.floor s.last s.scale ps po s.segs.length cs s.opn.length co W
  rw [← hNS] at c1
  clear hNS
  obtain ⟨N, hN⟩ : ∃ N, numsB s = N := ⟨_, rfl⟩
  rw [hN] at c1
  have c2 := fun W (h : SerIn W s ps po) => c_mgCheck ps cs s.segs W (by omega) h.segs
  obtain ⟨E, hE⟩ : ∃ E : Int, (if rowB (-1) s.segs = true then 0 else 240) = E := ⟨_, rfl⟩
  rw [hE] at c2
  obtain ⟨RES, hRES⟩ : ∃ z, checkE s = z := ⟨_, rfl⟩
  rw [hRES]
  replace hN := Lib.hid hN
  replace hE := Lib.hid hE
  replace c1 := Lib.hid c1
  replace c2 := Lib.hid c2
  replace hRES := Lib.hid hRES
  go_upto_region 1 with (fail)
  refine wp_facts (fun W' => Below w.heap.size w W' ∧ Blk W' w.heap.size #[.string s.name, .int .i64 s.eps, .int .i64 s.floor, .int .i64 s.last, .int .i64 s.scale, .slice ps s.segs.length cs, .slice po s.opn.length co] 26 ∧ Blk W' (w.heap.size + 1) #[.int .i64 0] 27) ⟨by exact belowAny, by exact blkAny2, by exact blkAny2⟩ ?_
  rintro W1 ⟨hW, b1, b2⟩
  have z2 := hW.size
  have z3 := b1.lt
  have z4 := b2.lt
  refine wp_region_sq 15 84 [] (fun W' => Rex [] W1 W' ∧ Blk W' w.heap.size #[.string s.name, .int .i64 s.eps, .int .i64 s.floor, .int .i64 s.last, .int .i64 s.scale, .slice ps s.segs.length cs, .slice po s.opn.length co] 26 ∧ Blk W' (w.heap.size + 1) #[.int .i64 0] 27) (by kernel_rfl) rfl ⟨(Rex.refl _ _), b1, b2⟩ (fun w w' ⟨h0, h1, h2⟩ hr => ⟨h0.trans hr, h1.rex hr (by simp <;> omega), h2.rex hr (by simp <;> omega)⟩) ?_
  iterate 1
    apply nd_det (hg := rfl) (hal := rfl)
    · intro a W' hC hE
      obtain ⟨_, k1, k2⟩ := hC
      have k1 := k1.cell
      first
        | (simp [Oper.looksAt, Op.operands, Call.operands, envOf, Det] at hE; simp [go_sem, Act.eval, IntWalk.i64_left, hE, k1, k2]; try rfl)
        | (clear hE; simp [go_sem, Act.eval, IntWalk.i64_left, k1, k2]; try rfl)
  refine nd_callv2 rfl rfl (fun W' hC => c1.out W') (fun a W' hC hE => ?_) ?_
  · obtain ⟨_, k1, k2⟩ := hC
    have k1 := k1.cell
    first
      | (simp [Oper.looksAt, Op.operands, Call.operands, envOf, Det] at hE; simp [go_sem, Act.eval, IntWalk.i64_left, hE, k1, k2]; try rfl)
      | (clear hE; simp [go_sem, Act.eval, IntWalk.i64_left, k1, k2]; try rfl)
  iterate 2
    apply nd_det (hg := rfl) (hal := rfl)
    · intro a W' hC hE
      obtain ⟨_, k1, k2⟩ := hC
      have k1 := k1.cell
      first
        | (simp [Oper.looksAt, Op.operands, Call.operands, envOf, Det] at hE; simp [go_sem, Act.eval, IntWalk.i64_left, hE, k1, k2]; try rfl)
        | (clear hE; simp [go_sem, Act.eval, IntWalk.i64_left, k1, k2]; try rfl)
  iterate 2
    apply nd_detg (p := true) (hg := rfl) (hd := rfl) (hal := rfl)
    · intro v W' h
      simp [envOf, Det, GDet] at h
      simp
      exact h
    · intro hp hx a W' hC hE
      obtain ⟨_, k1, k2⟩ := hC
      have k1 := k1.cell
      simp [Oper.looksAt, Op.operands, Call.operands, envOf, Det, GDet, hx] at hE
      simp [go_sem, Act.eval, IntWalk.i64_left, hE, k1, k2]
      try rfl
  apply nd_callvg2 (p := true) (hg := rfl) (hd := rfl) (hal := rfl)
  · intro v W' h
    simp [envOf, Det] at h
    simp
    exact h
  · intro hp hx W' hC
    exact c2.out W' (hin.below (hW.trans (hC.1.of_priv hW.size)))
  · intro hp hx a W' hC hE
    obtain ⟨_, k1, k2⟩ := hC
    have k1 := k1.cell
    first
      | (simp [Oper.looksAt, Op.operands, Call.operands, envOf, Det, GDet, hx] at hE; simp [go_sem, Act.eval, IntWalk.i64_left, hE, k1, k2]; try rfl)
      | (clear hE; simp [go_sem, Act.eval, IntWalk.i64_left, k1, k2]; try rfl)
  iterate 1
    apply nd_detg (p := true) (hg := rfl) (hd := rfl) (hal := rfl)
    · intro v W' h
      simp [envOf, Det, GDet] at h
      simp
      exact h
    · intro hp hx a W' hC hE
      obtain ⟨_, k1, k2⟩ := hC
      have k1 := k1.cell
      simp [Oper.looksAt, Op.operands, Call.operands, envOf, Det, GDet, hx] at hE
      simp [go_sem, Act.eval, IntWalk.i64_left, hE, k1, k2]
      try rfl
  apply nd_pick_or (ho := rfl) (hg := rfl)
  · intro v W' h
    simp [envOf, Det] at h
    exact h
  · intro v W' h hx
    simp [envOf, GDet, hx] at h
    exact h
  iterate 1
    apply nd_det (hg := rfl) (hal := rfl)
    · intro a W' hC hE
      obtain ⟨_, k1, k2⟩ := hC
      have k1 := k1.cell
      first
        | (simp [Oper.looksAt, Op.operands, Call.operands, envOf, Det] at hE; simp [go_sem, Act.eval, IntWalk.i64_left, hE, k1, k2]; try rfl)
        | (clear hE; simp [go_sem, Act.eval, IntWalk.i64_left, k1, k2]; try rfl)
  iterate 4
    apply nd_detg (p := true) (hg := rfl) (hd := rfl) (hal := rfl)
    · intro v W' h
      simp [envOf, Det, GDet] at h
      simp
      exact h
    · intro hp hx a W' hC hE
      obtain ⟨_, k1, k2⟩ := hC
      have k1 := k1.cell
      simp [Oper.looksAt, Op.operands, Call.operands, envOf, Det, GDet, hx] at hE
      simp [go_sem, Act.eval, IntWalk.i64_left, hE, k1, k2]
      try rfl
  apply nd_pick_or (ho := rfl) (hg := rfl)
  · intro v W' h
    simp [envOf, Det] at h
    exact h
  · intro v W' h hx
    simp [envOf, GDet, hx] at h
    exact h
  rintro W5 ⟨hR, d1, d2⟩
  simp only [ndFinR, Det, forall_eq]
  intros
  repeat (rename GDet _ _ _ _ => hgd; clear hgd)
  simp only [Act.put, List.setIfInBounds_toArray, List.set_cons_zero, List.set_cons_succ]
  refine wpList_nil ?_
  replace hW := hW.trans (hR.of_priv hW.size)
  clear hR
  try clear b1 b2
  have b1 := d1
  clear d1
  have b2 := d2
  clear d2
  have k1 := b1.cell
  have f1 := b1.frozen
  have k2 := b2.cell
  have f2 := b2.frozen
  clear c1 c2
  have y1 := b1.lt
  have y2 := b2.lt
  obtain ⟨F, hF⟩ : ∃ F, (!N || E != 0 || decide (32 ≤ (s.opn.length : Int))) = F := ⟨_, rfl⟩
  rw [hF]
  simp only [Exit.then]
  cases F with
  | true =>
    replace hRES := Lib.hid (show RES = 340 by
      rw [← hRES.out]; unfold checkE; rw [if_neg]; intro hh
      unfold checkB at hh
      simp only [Bool.and_eq_true, decide_eq_true_eq] at hh
      have h1 := hN.out; have h2 := hE.out
      rw [hh.1] at h1
      rw [if_pos hh.2.1] at h2
      subst h1; subst h2
      simp at hF
      omega)
    clear hF
    go_wp2
    simp only [bodyPostM]
    have b9 : Blk (W5.setCell ⟨w.heap.size + 1, 0, none⟩ (.int .i64 340)) (w.heap.size + 1) #[.int .i64 340] 27 := blkAny2
    have k9 := b9.cell
    refine ⟨.int .i64 340, by simp [results, Tryz.f32, go_sem, k9], by rw [hRES.out], belowAny⟩
  | false =>
    have hN1 : N = true := by cases N with | true => rfl | false => simp at hF
    have hE1 : E = 0 := by subst hN1; simp at hF; exact hF.1
    have hO1 : s.opn.length < 32 := by subst hN1; simp at hF; omega
    have hrow : rowB (-1) s.segs = true := by
      have := hE.out
      rw [hE1] at this
      cases h : rowB (-1) s.segs with
      | true => rfl
      | false => rw [h] at this; simp at this
    have hnum : numsB s = true := by rw [hN.out, hN1]
    have hv := Lib.hid (rowB_seg hrow)
    replace hrow := Lib.hid hrow
    replace hnum := Lib.hid hnum
    clear hF hN hE hN1 hE1
    go_wp2
    refine wp_loop (ck1Rel w s ps po cs co) (fun a' _ => s.segs.length - (intAt (a'.tmps.getD 27 undef)).toNat) ?_ ?_
    · unfold ck1Rel
      exact ⟨hW, b1, b2, 0, frame_ex rfl, Nat.zero_le _, fun j x hj => by omega⟩
    · clear b1 b2 k1 f1 k2 f2 y1 y2 hW
      rintro a' W ⟨hW0, b1, b2, i, ⟨u, rfl⟩, hi', hall⟩
      have hz := hW0.size
      have zb1 := b1.lt
      have zb2 := b2.lt
      replace hall := Lib.hid hall
      rcases Nat.lt_or_ge i s.segs.length with hlt | hge
      · obtain ⟨x, tr⟩ : ∃ r, s.segs[i]? = some r := ⟨s.segs[i]'(by omega), List.getElem?_eq_getElem (by omega)⟩
        have hsx := hv.out x (List.mem_of_getElem? tr)
        obtain ⟨b, o, p', q', cp, vc, rfl, hs, hvc, q0, q1, q2, q3, q4, q5, q6, q7⟩ := (hin.below hW0).segs.one tr
        have c3 := fun W' (hW' : Below W.heap.size W W') => c_srLast x p' q' cp vc W' (hs.below hW') hsx
        unfold segA at c3
        obtain ⟨L, hL⟩ : ∃ L, lastT x.runs = L := ⟨_, rfl⟩
        rw [hL] at c3
        replace c3 := Lib.hid c3
        replace hL := Lib.hid hL
        replace tr := Lib.hid tr
        clear hs hsx
        have k1 := b1.cell
        have f1 := b1.frozen
        have k2 := b2.cell
        have f2 := b2.frozen
        go_upto_region 6 with (fail)
        clear k1 f1 k2 f2
        refine wp_facts (fun W' => Below W.heap.size W W' ∧ Blk W' w.heap.size #[.string s.name, .int .i64 s.eps, .int .i64 s.floor, .int .i64 s.last, .int .i64 s.scale, .slice (some ⟨b, o, none⟩) s.segs.length cs, .slice po s.opn.length co] 26 ∧ Blk W' (w.heap.size + 1) #[.int .i64 0] 27 ∧ Blk W' W.heap.size #[.int .i64 x.K, .slice p' x.runs.length cp, .int .i64 x.A, .int .i64 x.R, .int .i64 x.n, .int .i64 x.d, .slice q' x.raw.length vc, .int .i64 x.E] 49) ⟨by exact belowAny, by exact blkAny2, by exact blkAny2, by exact blkAny2⟩ ?_
        clear b1 b2
        rintro W21 ⟨hW, b1, b2, b3⟩
        have z22 := hW.size
        have z23 := b1.lt
        have z24 := b2.lt
        have z25 := b3.lt
        refine wp_region_ndQ 12 84 [] (fun W' => Rex [] W21 W' ∧ Blk W' w.heap.size #[.string s.name, .int .i64 s.eps, .int .i64 s.floor, .int .i64 s.last, .int .i64 s.scale, .slice (some ⟨b, o, none⟩) s.segs.length cs, .slice po s.opn.length co] 26 ∧ Blk W' (w.heap.size + 1) #[.int .i64 0] 27 ∧ Blk W' W.heap.size #[.int .i64 x.K, .slice p' x.runs.length cp, .int .i64 x.A, .int .i64 x.R, .int .i64 x.n, .int .i64 x.d, .slice q' x.raw.length vc, .int .i64 x.E] 49) mixed (by kernel_rfl) rfl ⟨(Rex.refl _ _).drew, b1, b2, b3⟩ (fun w w' ⟨h0, h1, h2, h3⟩ hr => ⟨h0.trans hr, h1.rex hr (by simp <;> omega), h2.rex hr (by simp <;> omega), h3.rex hr (by simp <;> omega)⟩) rfl ?_
        iterate 6
          apply nd_det (hg := rfl) (hal := rfl)
          · intro a W' hC hE
            obtain ⟨_, k1, k2, k3⟩ := hC
            have k1 := k1.cell
            have k3 := k3.cell
            first
              | (simp [Oper.looksAt, Op.operands, Call.operands, envOf, Det] at hE; simp [go_sem, Act.eval, IntWalk.i64_left, hE, k1, k2, k3]; try rfl)
              | (clear hE; simp [go_sem, Act.eval, IntWalk.i64_left, k1, k2, k3]; try rfl)
        iterate 1
          apply nd_detg (p := true) (hg := rfl) (hd := rfl) (hal := rfl)
          · intro v W' h
            simp [envOf, Det, GDet] at h
            simp
            exact h
          · intro hp hx a W' hC hE
            obtain ⟨_, k1, k2, k3⟩ := hC
            have k1 := k1.cell
            have k3 := k3.cell
            simp [Oper.looksAt, Op.operands, Call.operands, envOf, Det, GDet, hx] at hE
            simp [go_sem, Act.eval, IntWalk.i64_left, hE, k1, k2, k3]
            try rfl
        apply nd_callvg2 (p := true) (hg := rfl) (hd := rfl) (hal := rfl)
        · intro v W' h
          simp [envOf, Det] at h
          simp
          exact h
        · intro hp hx W' hC
          exact c3.out W' (hW.trans (hC.1.of_priv hW.size))
        · intro hp hx a W' hC hE
          obtain ⟨_, k1, k2, k3⟩ := hC
          have k1 := k1.cell
          have k3 := k3.cell
          first
            | (simp [Oper.looksAt, Op.operands, Call.operands, envOf, Det, GDet, hx] at hE; simp [go_sem, Act.eval, IntWalk.i64_left, hE, k1, k2, k3]; try rfl)
            | (clear hE; simp [go_sem, Act.eval, IntWalk.i64_left, k1, k2, k3]; try rfl)
        iterate 3
          apply nd_detg (p := true) (hg := rfl) (hd := rfl) (hal := rfl)
          · intro v W' h
            simp [envOf, Det, GDet] at h
            simp
            exact h
          · intro hp hx a W' hC hE
            obtain ⟨_, k1, k2, k3⟩ := hC
            have k1 := k1.cell
            have k3 := k3.cell
            simp [Oper.looksAt, Op.operands, Call.operands, envOf, Det, GDet, hx] at hE
            simp [go_sem, Act.eval, IntWalk.i64_left, hE, k1, k2, k3]
            try rfl
        apply nd_pick_or (ho := rfl) (hg := rfl)
        · intro v W' h
          simp [envOf, Det] at h
          exact h
        · intro v W' h hx
          simp [envOf, GDet, hx] at h
          exact h
        rintro W26 ⟨hR, d1, d2, d3⟩
        simp only [ndFinR, Det, forall_eq]
        intros
        repeat (rename GDet _ _ _ _ => hgd; clear hgd)
        simp only [Act.put, List.setIfInBounds_toArray, List.set_cons_zero, List.set_cons_succ]
        refine wpList_nil ?_
        replace hW := hW.trans (hR.of_priv hW.size)
        clear hR
        try clear b1 b2 b3
        have b1 := d1
        clear d1
        have b2 := d2
        clear d2
        have b3 := d3
        clear d3
        have k1 := b1.cell
        have f1 := b1.frozen
        have k2 := b2.cell
        have f2 := b2.frozen
        have k3 := b3.cell
        have f3 := b3.frozen
        have y1 := b1.lt
        have y2 := b2.lt
        obtain ⟨F, hF⟩ : ∃ F, (decide (s.eps < x.E) || decide (L < s.floor)) = F := ⟨_, rfl⟩
        rw [hF]
        simp only [Exit.then]
        have hin2 : inSegB s.eps s.floor x = !F := by
          rw [← hF]; unfold inSegB; rw [hL.out, Bool.eq_iff_iff]; simp
        clear hF
        cases F with
        | true =>
          replace hRES := Lib.hid (show RES = 340 by
            rw [← hRES.out]; unfold checkE; rw [if_neg]; intro hh
            unfold checkB at hh
            simp only [Bool.and_eq_true, decide_eq_true_eq] at hh
            have := List.all_eq_true.1 hh.2.2.2.1 x (List.mem_of_getElem? tr.out)
            rw [hin2] at this; cases this)
          clear hin2
          go_wp2
          simp only [bodyPostM]
          have b9 : Blk (W26.setCell ⟨w.heap.size + 1, 0, none⟩ (.int .i64 340)) (w.heap.size + 1) #[.int .i64 340] 27 := blkAny2
          have k9 := b9.cell
          refine ⟨.int .i64 340, by simp [results, Tryz.f32, go_sem, k9], by rw [hRES.out], (hW0.trans (hW.mono hz)).setCell (by simp) _⟩
        | false =>
          replace hin2 := Lib.hid hin2
          go_wp2
          rw [show (i : Int) + 1 = ((i + 1 : Nat) : Int) by omega]
          refine ⟨?_, by simp [intAt]; omega⟩
          unfold ck1Rel
          exact ⟨hW0.trans (hW.mono hz), b1, b2, i + 1, frame_ex rfl, by omega, fun j z hj hz => by
            rcases Nat.lt_or_ge j i with h | h
            · exact hall.out j z h hz
            · obtain rfl : j = i := by omega
              rw [tr.out] at hz
              injection hz with hz
              rw [← hz]; exact hin2.out⟩
      · obtain rfl : i = s.segs.length := by omega
        have hseg := Lib.hid (show s.segs.all (inSegB s.eps s.floor) = true by
          rw [List.all_eq_true]
          intro x hx
          obtain ⟨k, hk⟩ := List.getElem?_of_mem hx
          exact hall.out k x (List.getElem?_eq_some_iff.1 hk).1 hk)
        clear hall
        have k1 := b1.cell
        go_wp2
        clear k1
        refine wp_loop (ck2Rel w s ps po cs co) (fun a' _ => s.opn.length - (intAt (a'.tmps.getD 47 undef)).toNat) ?_ ?_
        · unfold ck2Rel
          exact ⟨hW0, b1, b2, 0, frame_ex rfl, Nat.zero_le _, fun j x hj => by omega⟩
        · clear b1 b2 zb1 zb2 hz hW0
          rintro a' W ⟨hW0, b1, b2, i, ⟨u, rfl⟩, hi', hall⟩
          have hz := hW0.size
          have zb1 := b1.lt
          have zb2 := b2.lt
          replace hall := Lib.hid hall
          rcases Nat.lt_or_ge i s.opn.length with hlt | hge
          · obtain ⟨⟨t, v⟩, tr⟩ : ∃ r, s.opn[i]? = some r := ⟨s.opn[i]'(by omega), List.getElem?_eq_getElem (by omega)⟩
            obtain ⟨b, o, rfl, q0, q1⟩ := (hin.below hW0).opn.at' i _ tr
            simp only at q0 q1
            obtain ⟨B5, hB5⟩ : ∃ B, btw t s.floor 281474976710656 = B := ⟨_, rfl⟩
            obtain ⟨B6, hB6⟩ : ∃ B, btw v (-2305843009213693952) 2305843009213693952 = B := ⟨_, rfl⟩
            have c5 := fun W => c_srBtw t s.floor 281474976710656 W
            have c6 := fun W => c_srBtw v (-2305843009213693952) 2305843009213693952 W
            rw [hB5] at c5
            rw [hB6] at c6
            have hin2 : inOpnB s.floor (t, v) = (B5 && B6) := by rw [← hB5, ← hB6]; rfl
            replace c5 := Lib.hid c5
            replace c6 := Lib.hid c6
            replace tr := Lib.hid tr
            clear hB5 hB6
            have k1 := b1.cell
            have f1 := b1.frozen
            have k2 := b2.cell
            have f2 := b2.frozen
            go_upto_region 12 with (fail)
            clear k1 f1 k2 f2
            refine wp_facts (fun W' => Below W.heap.size W W' ∧ Blk W' w.heap.size #[.string s.name, .int .i64 s.eps, .int .i64 s.floor, .int .i64 s.last, .int .i64 s.scale, .slice ps s.segs.length cs, .slice (some ⟨b, o, none⟩) s.opn.length co] 26 ∧ Blk W' (w.heap.size + 1) #[.int .i64 0] 27 ∧ Blk W' W.heap.size #[.int .i64 t, .int .i64 v] 53) ⟨by exact belowAny, by exact blkAny2, by exact blkAny2, by exact blkAny2⟩ ?_
            clear b1 b2
            rintro W21 ⟨hW, b1, b2, b3⟩
            have z22 := hW.size
            have z23 := b1.lt
            have z24 := b2.lt
            have z25 := b3.lt
            refine wp_region_sq 12 84 [] (fun W' => Rex [] W21 W' ∧ Blk W' w.heap.size #[.string s.name, .int .i64 s.eps, .int .i64 s.floor, .int .i64 s.last, .int .i64 s.scale, .slice ps s.segs.length cs, .slice (some ⟨b, o, none⟩) s.opn.length co] 26 ∧ Blk W' (w.heap.size + 1) #[.int .i64 0] 27 ∧ Blk W' W.heap.size #[.int .i64 t, .int .i64 v] 53) (by kernel_rfl) rfl ⟨(Rex.refl _ _), b1, b2, b3⟩ (fun w w' ⟨h0, h1, h2, h3⟩ hr => ⟨h0.trans hr, h1.rex hr (by simp <;> omega), h2.rex hr (by simp <;> omega), h3.rex hr (by simp <;> omega)⟩) ?_
            iterate 4
              apply nd_det (hg := rfl) (hal := rfl)
              · intro a W' hC hE
                obtain ⟨_, k1, k2, k3⟩ := hC
                have k1 := k1.cell
                have k3 := k3.cell
                first
                  | (simp [Oper.looksAt, Op.operands, Call.operands, envOf, Det] at hE; simp [go_sem, Act.eval, IntWalk.i64_left, hE, k1, k2, k3]; try rfl)
                  | (clear hE; simp [go_sem, Act.eval, IntWalk.i64_left, k1, k2, k3]; try rfl)
            refine nd_callv2 rfl rfl (fun W' hC => c5.out W') (fun a W' hC hE => ?_) ?_
            · obtain ⟨_, k1, k2, k3⟩ := hC
              have k1 := k1.cell
              have k3 := k3.cell
              first
                | (simp [Oper.looksAt, Op.operands, Call.operands, envOf, Det] at hE; simp [go_sem, Act.eval, IntWalk.i64_left, hE, k1, k2, k3]; try rfl)
                | (clear hE; simp [go_sem, Act.eval, IntWalk.i64_left, k1, k2, k3]; try rfl)
            iterate 2
              apply nd_det (hg := rfl) (hal := rfl)
              · intro a W' hC hE
                obtain ⟨_, k1, k2, k3⟩ := hC
                have k1 := k1.cell
                have k3 := k3.cell
                first
                  | (simp [Oper.looksAt, Op.operands, Call.operands, envOf, Det] at hE; simp [go_sem, Act.eval, IntWalk.i64_left, hE, k1, k2, k3]; try rfl)
                  | (clear hE; simp [go_sem, Act.eval, IntWalk.i64_left, k1, k2, k3]; try rfl)
            iterate 2
              apply nd_detg (p := true) (hg := rfl) (hd := rfl) (hal := rfl)
              · intro v W' h
                simp [envOf, Det, GDet] at h
                simp
                exact h
              · intro hp hx a W' hC hE
                obtain ⟨_, k1, k2, k3⟩ := hC
                have k1 := k1.cell
                have k3 := k3.cell
                simp [Oper.looksAt, Op.operands, Call.operands, envOf, Det, GDet, hx] at hE
                simp [go_sem, Act.eval, IntWalk.i64_left, hE, k1, k2, k3]
                try rfl
            apply nd_callvg2 (p := true) (hg := rfl) (hd := rfl) (hal := rfl)
            · intro v W' h
              simp [envOf, Det] at h
              simp
              exact h
            · intro hp hx W' hC
              exact c6.out W'
            · intro hp hx a W' hC hE
              obtain ⟨_, k1, k2, k3⟩ := hC
              have k1 := k1.cell
              have k3 := k3.cell
              first
                | (simp [Oper.looksAt, Op.operands, Call.operands, envOf, Det, GDet, hx] at hE; simp [go_sem, Act.eval, IntWalk.i64_left, hE, k1, k2, k3]; try rfl)
                | (clear hE; simp [go_sem, Act.eval, IntWalk.i64_left, k1, k2, k3]; try rfl)
            iterate 1
              apply nd_detg (p := true) (hg := rfl) (hd := rfl) (hal := rfl)
              · intro v W' h
                simp [envOf, Det, GDet] at h
                simp
                exact h
              · intro hp hx a W' hC hE
                obtain ⟨_, k1, k2, k3⟩ := hC
                have k1 := k1.cell
                have k3 := k3.cell
                simp [Oper.looksAt, Op.operands, Call.operands, envOf, Det, GDet, hx] at hE
                simp [go_sem, Act.eval, IntWalk.i64_left, hE, k1, k2, k3]
                try rfl
            apply nd_pick_or (ho := rfl) (hg := rfl)
            · intro v W' h
              simp [envOf, Det] at h
              exact h
            · intro v W' h hx
              simp [envOf, GDet, hx] at h
              exact h
            rintro W26 ⟨hR, d1, d2, d3⟩
            simp only [ndFinR, Det, forall_eq]
            intros
            repeat (rename GDet _ _ _ _ => hgd; clear hgd)
            simp only [Act.put, List.setIfInBounds_toArray, List.set_cons_zero, List.set_cons_succ]
            refine wpList_nil ?_
            replace hW := hW.trans (hR.of_priv hW.size)
            clear hR
            try clear b1 b2 b3
            have b1 := d1
            clear d1
            have b2 := d2
            clear d2
            have b3 := d3
            clear d3
            have k1 := b1.cell
            have f1 := b1.frozen
            have k2 := b2.cell
            have f2 := b2.frozen
            have k3 := b3.cell
            have f3 := b3.frozen
            have y1 := b1.lt
            have y2 := b2.lt
            obtain ⟨F, hF⟩ : ∃ F, (!B5 || !B6) = F := ⟨_, rfl⟩
            rw [hF]
            simp only [Exit.then]
            cases F with
            | true =>
              replace hRES := Lib.hid (show RES = 340 by
                rw [← hRES.out]; unfold checkE; rw [if_neg]; intro hh
                unfold checkB at hh
                simp only [Bool.and_eq_true, decide_eq_true_eq] at hh
                have := List.all_eq_true.1 hh.2.2.2.2.1 (t, v) (List.mem_of_getElem? tr.out)
                rw [hin2] at this
                cases B5 <;> cases B6 <;> simp at hF this)
              clear hin2 hF
              go_wp2
              simp only [bodyPostM]
              have b9 : Blk (W26.setCell ⟨w.heap.size + 1, 0, none⟩ (.int .i64 340)) (w.heap.size + 1) #[.int .i64 340] 27 := blkAny2
              have k9 := b9.cell
              refine ⟨.int .i64 340, by simp [results, Tryz.f32, go_sem, k9], by rw [hRES.out], (hW0.trans (hW.mono hz)).setCell (by simp) _⟩
            | false =>
              replace hin2 := Lib.hid (show inOpnB s.floor (t, v) = true by rw [hin2]; cases B5 <;> cases B6 <;> simp at hF ⊢)
              clear hF
              go_wp2
              rw [show (i : Int) + 1 = ((i + 1 : Nat) : Int) by omega]
              refine ⟨?_, by simp [intAt]; omega⟩
              unfold ck2Rel
              exact ⟨hW0.trans (hW.mono hz), b1, b2, i + 1, frame_ex rfl, by omega, fun j z hj hz => by
                rcases Nat.lt_or_ge j i with h | h
                · exact hall.out j z h hz
                · obtain rfl : j = i := by omega
                  rw [tr.out] at hz
                  injection hz with hz
                  rw [← hz]; exact hin2.out⟩
          · obtain rfl : i = s.opn.length := by omega
            have hopn := Lib.hid (show s.opn.all (inOpnB s.floor) = true by
              rw [List.all_eq_true]
              intro x hx
              obtain ⟨k, hk⟩ := List.getElem?_of_mem hx
              exact hall.out k x (List.getElem?_eq_some_iff.1 hk).1 hk)
            clear hall
            have k1 := b1.cell
            go_wp2_with fail
            refine (c_srTimes _ _ _ _ _ _ _ _ _ _ _ _).mono ?_
            rintro e w' ⟨rfl, rfl⟩
            clear k1
            have c1 : Below w.heap.size w ((W.alloc (.cells #[.int .i64 (-1)] 2)).alloc (.cells #[.string s.name, .int .i64 s.eps, .int .i64 s.floor, .int .i64 s.last, .int .i64 s.scale, .slice ps s.segs.length cs, .slice po s.opn.length co] 26)) := belowAny
            have d1 : Blk ((W.alloc (.cells #[.int .i64 (-1)] 2)).alloc (.cells #[.string s.name, .int .i64 s.eps, .int .i64 s.floor, .int .i64 s.last, .int .i64 s.scale, .slice ps s.segs.length cs, .slice po s.opn.length co] 26)) w.heap.size #[.string s.name, .int .i64 s.eps, .int .i64 s.floor, .int .i64 s.last, .int .i64 s.scale, .slice ps s.segs.length cs, .slice po s.opn.length co] 26 := blkAny2
            have d2 : Blk ((W.alloc (.cells #[.int .i64 (-1)] 2)).alloc (.cells #[.string s.name, .int .i64 s.eps, .int .i64 s.floor, .int .i64 s.last, .int .i64 s.scale, .slice ps s.segs.length cs, .slice po s.opn.length co] 26)) (w.heap.size + 1) #[.int .i64 0] 27 := blkAny2
            have d3 : Blk ((W.alloc (.cells #[.int .i64 (-1)] 2)).alloc (.cells #[.string s.name, .int .i64 s.eps, .int .i64 s.floor, .int .i64 s.last, .int .i64 s.scale, .slice ps s.segs.length cs, .slice po s.opn.length co] 26)) W.heap.size #[.int .i64 (-1)] 2 := blkAny2
            have d4 : Blk ((W.alloc (.cells #[.int .i64 (-1)] 2)).alloc (.cells #[.string s.name, .int .i64 s.eps, .int .i64 s.floor, .int .i64 s.last, .int .i64 s.scale, .slice ps s.segs.length cs, .slice po s.opn.length co] 26)) (W.heap.size + 1) #[.string s.name, .int .i64 s.eps, .int .i64 s.floor, .int .i64 s.last, .int .i64 s.scale, .slice ps s.segs.length cs, .slice po s.opn.length co] 26 := Blk.new' (by simp)
            have hsz : ((W.alloc (.cells #[.int .i64 (-1)] 2)).alloc (.cells #[.string s.name, .int .i64 s.eps, .int .i64 s.floor, .int .i64 s.last, .int .i64 s.scale, .slice ps s.segs.length cs, .slice po s.opn.length co] 26)).heap.size = W.heap.size + 1 + 1 := by simp
            simp only [World.size_alloc]
            obtain ⟨W0, hWe⟩ : ∃ W0, W0 = ((W.alloc (.cells #[.int .i64 (-1)] 2)).alloc (.cells #[.string s.name, .int .i64 s.eps, .int .i64 s.floor, .int .i64 s.last, .int .i64 s.scale, .slice ps s.segs.length cs, .slice po s.opn.length co] 26)) := ⟨_, rfl⟩
            rw [← hWe] at c1 d1 d2 d3 d4 hsz ⊢
            clear hWe hW0
            go_wp2
            refine (wpIn_wide (n := 4)).1 ?_
            refine wpIn_rangeFunc_ownG rfl (by omega) (gf := 110) (lb := #[.pointer (some ⟨W.heap.size + 1, 0, none⟩)]) rfl trivial (enters_of Tryz.func110 (by kernel_rfl) rfl)
              (encs := fun x : Int => #[Value.int .i64 x]) (Kp := KF w.heap.size (W.heap.size + 1)) (S := fun ys => ys = timesS s) (Sp := fun pre => pre <+: timesS s) (N := (timesS s).length) (w0 := W0)
              (fun lr J Jx Wx hWW hJ _ hY h0 => srTimes1_in 3 (by omega) lr (W.heap.size + 1) (W.heap.size + 1) s ps po cs co w hin hv.out (by omega) (Nat.le_refl _) J Jx _ hJ hY Wx (c1.trans (hWW.mono c1.size)) (d4.below hWW) h0)
              (fun h k => h.trans k) (KF.putObj (by omega)) (Below.refl _ _) (fun _ => rfl)
              (fun pre Wx => ((Blk Wx w.heap.size #[.string s.name, .int .i64 s.eps, .int .i64 s.floor, .int .i64 s.last, .int .i64 s.scale, .slice ps s.segs.length cs, .slice po s.opn.length co] 26 ∧ Blk Wx (w.heap.size + 1) #[.int .i64 0] 27) ∧ Blk Wx W.heap.size #[.int .i64 (lastOr (-1) pre)] 2) ∧ (riseB (-1) pre = true) ∧ Below w.heap.size w Wx)
              (fun c pre Wx => Blk Wx (w.heap.size + 1) #[.int .i64 340] 27 ∧ (c = .ret ∧ riseB (-1) pre = false) ∧ Below w.heap.size w Wx)
              (OwnFrom.and (OwnFrom.and (OwnFrom.and (Own.from (blk_own _ _ _) _) (Own.from (blk_own _ _ _) _)) (Own.from (blk_own _ _ _) _)) (OwnFrom.and (ownFrom_pure _ _) (ownFrom_below (Nat.le_refl _) (by omega))))
              (fun c => OwnFrom.and (Own.from (blk_own _ _ _) _) (OwnFrom.and (ownFrom_pure _ _) (ownFrom_below (Nat.le_refl _) (by omega))))
              ⟨⟨⟨d1, d2⟩, d3⟩, rfl, c1⟩
              ?a1 ?assign ?body ?done ?stop
            case assign =>
              intro l x Wx K hK
              gi_wp2
              exact hK
            case body =>
              rintro l pre x Wx ⟨⟨⟨i1, i2⟩, i3⟩, i4, i5⟩ hlt
              have hz5 := i5.size
              have y1 := i1.lt
              have y2 := i2.lt
              have y3 := i3.lt
              have k2 := i2.cell
              have f2 := i2.frozen
              have k3 := i3.cell
              have f3 := i3.frozen
              obtain ⟨A, hA⟩ : ∃ A, lastOr (-1) pre = A := ⟨_, rfl⟩
              have hr := Lib.hid (riseB_snoc pre (-1) x)
              have hl := Lib.hid (lastOr_snoc pre (-1) x)
              rw [hA] at i3 k3
              by_cases hlt2 : A < x
              · have hr2 := Lib.hid (show riseB (-1) (pre ++ [x]) = true by rw [hr.out, i4, hA]; simp [hlt2])
                clear hA i4
                gi_wp2
                exact ⟨KeepsOthers.from (keepsAny) _, kfAny, ⟨⟨⟨blkAny2, blkAny2⟩, by rw [hl.out]; exact blkAny2⟩, hr2.out, belowAny⟩⟩
              · have hr2 := Lib.hid (show riseB (-1) (pre ++ [x]) = false by rw [hr.out, hA]; simp [hlt2])
                have hle : x ≤ A := by omega
                clear hA i4 hlt2
                gi_wp2
                exact ⟨KeepsOthers.from (keepsAny) _, ⟨blkAny2, ⟨rfl, hr2.out⟩, belowAny⟩⟩
            case done =>
              rintro D ys Wx hD rfl ⟨⟨⟨i1, i2⟩, i3⟩, i4, i5⟩ hK
              have hz5 := i5.size
              have y1 := i1.lt
              have y2 := i2.lt
              have y3 := i3.lt
              have k1 := i1.cell
              have k2 := i2.cell
              have f2 := i2.frozen
              have k3 := i3.cell
              have hrise := Lib.hid i4
              clear i4
              obtain ⟨A, hA⟩ : ∃ A, lastOr (-1) (timesS s) = A := ⟨_, rfl⟩
              rw [hA] at i3 k3
              replace hA := Lib.hid hA
              have hck := Lib.hid (show checkB s = (lastB s && decide (keptN s ≤ 1024)) by
                unfold checkB
                rw [hnum.out, hrow.out, hseg.out, hopn.out, hrise.out, decide_eq_true hO1]
                simp)
              simp only [Exit.inBlock, Exit.then]
              by_cases hlast : 0 ≤ A ∧ s.last ≠ A
              · replace hRES := Lib.hid (show RES = 340 by
                  rw [← hRES.out]; unfold checkE; rw [if_neg]; rw [hck.out]; intro hh
                  rw [Bool.and_eq_true] at hh
                  have := hh.1
                  unfold lastB at this
                  rw [hA.out] at this
                  simp at this
                  omega)
                obtain ⟨h0, h1⟩ := hlast
                have h1 : (s.last != A) = true := by simpa using h1
                go_wp2
                have b9 : Blk (Wx.setCell ⟨w.heap.size + 1, 0, none⟩ (.int .i64 340)) (w.heap.size + 1) #[.int .i64 340] 27 := blkAny2
                have hK9 : (Wx.setCell ⟨w.heap.size + 1, 0, none⟩ (.int .i64 340)).heap[D]? = some (.deferred (some [])) := (keepsAny : KeepsOthers _ (Wx.setCell ⟨w.heap.size + 1, 0, none⟩ (.int .i64 340))).same D _ hK rfl
                have hB9 : Below w.heap.size w (Wx.setCell ⟨w.heap.size + 1, 0, none⟩ (.int .i64 340)) := belowAny
                simp only [bodyPostM]
                refine ⟨by simp, .inl ⟨_, _, rfl, run_takeDeferred hK9, ?_⟩⟩
                have hc9 := cell_kept (by simpa using b9.cell 0) (grownBy_putObj' (Wx.setCell ⟨w.heap.size + 1, 0, none⟩ (.int .i64 340)) D (.deferred none)) (fun r e => by cases e; exact ⟨_, hK9, rfl⟩)
                refine ⟨.int .i64 340, by simp [results, Tryz.f32, go_sem, hc9], by rw [hRES.out], hB9.trans (belowK_b (w := w) (Nat.le_refl _) (Wx.setCell ⟨w.heap.size + 1, 0, none⟩ (.int .i64 340)) D _ _ (by omega) hK9 rfl rfl)⟩
              · have hlb := Lib.hid (show lastB s = true by
                  unfold lastB
                  rw [hA.out]
                  simp
                  omega)
                have ckk := fun W (hW : Below Wx.heap.size Wx W) => c_srKept s ps po cs co W (hin.below (i5.trans (hW.mono hz5))) hv.out
                unfold serA at ckk
                have hkn : keptN s ≤ 25700 := Nat.le_trans (List.length_filter_le _ _) (times_few hin hv.out)
                obtain ⟨KN, hKN⟩ : ∃ z, keptN s = z := ⟨_, rfl⟩
                rw [hKN] at ckk hkn
                replace hKN := Lib.hid hKN
                replace ckk := Lib.hid ckk
                by_cases h0 : 0 ≤ A
                · have h1 : (s.last != A) = false := by simp; omega
                  clear hlast
                  go_wp2_with fail
                  refine (ckk.out _ belowAny).mono ?_
                  rintro e w3 ⟨rfl, hb3⟩
                  have j1 := i1.below hb3
                  have j2 := i2.below hb3
                  have hK3 : w3.heap[D]? = some (.deferred (some [])) := (hb3.block D (lt_of_heap hK)).trans hK
                  have hB3 := i5.trans (hb3.mono hz5)
                  have z3' := hB3.size
                  have y2' := j2.lt
                  have k2' := j2.cell
                  have f2' := j2.frozen
                  clear i1 i2 i3 i5 hK ckk k1 k2 f2 k3 y1 y2 y3
                  have hK := hK3
                  clear hK3 hb3
                  by_cases hkn2 : KN ≤ 1024
                  · replace hRES := Lib.hid (show RES = 0 by
                      rw [← hRES.out]; unfold checkE; rw [if_pos]; rw [hck.out, hlb.out, hKN.out]; simp [hkn2])
                    go_wp2
                    have b9 : Blk (w3.setCell ⟨w.heap.size + 1, 0, none⟩ (.int .i64 0)) (w.heap.size + 1) #[.int .i64 0] 27 := blkAny2
                    have hK9 : (w3.setCell ⟨w.heap.size + 1, 0, none⟩ (.int .i64 0)).heap[D]? = some (.deferred (some [])) := (keepsAny : KeepsOthers _ (w3.setCell ⟨w.heap.size + 1, 0, none⟩ (.int .i64 0))).same D _ hK rfl
                    have hB9 : Below w.heap.size w (w3.setCell ⟨w.heap.size + 1, 0, none⟩ (.int .i64 0)) := belowAny
                    simp only [bodyPostM]
                    refine ⟨by simp, .inl ⟨_, _, rfl, run_takeDeferred hK9, ?_⟩⟩
                    have hc9 := cell_kept (by simpa using b9.cell 0) (grownBy_putObj' (w3.setCell ⟨w.heap.size + 1, 0, none⟩ (.int .i64 0)) D (.deferred none)) (fun r e => by cases e; exact ⟨_, hK9, rfl⟩)
                    refine ⟨.int .i64 0, by simp [results, Tryz.f32, go_sem, hc9], by rw [hRES.out], hB9.trans (belowK_b (w := w) (Nat.le_refl _) (w3.setCell ⟨w.heap.size + 1, 0, none⟩ (.int .i64 0)) D _ _ (by omega) hK9 rfl rfl)⟩
                  · replace hRES := Lib.hid (show RES = 340 by
                      rw [← hRES.out]; unfold checkE; rw [if_neg]; rw [hck.out, hlb.out, hKN.out]; simp [hkn2])
                    have hkn3 : 1024 < KN := by omega
                    clear hkn2
                    go_wp2
                    have b9 : Blk (w3.setCell ⟨w.heap.size + 1, 0, none⟩ (.int .i64 340)) (w.heap.size + 1) #[.int .i64 340] 27 := blkAny2
                    have hK9 : (w3.setCell ⟨w.heap.size + 1, 0, none⟩ (.int .i64 340)).heap[D]? = some (.deferred (some [])) := (keepsAny : KeepsOthers _ (w3.setCell ⟨w.heap.size + 1, 0, none⟩ (.int .i64 340))).same D _ hK rfl
                    have hB9 : Below w.heap.size w (w3.setCell ⟨w.heap.size + 1, 0, none⟩ (.int .i64 340)) := belowAny
                    simp only [bodyPostM]
                    refine ⟨by simp, .inl ⟨_, _, rfl, run_takeDeferred hK9, ?_⟩⟩
                    have hc9 := cell_kept (by simpa using b9.cell 0) (grownBy_putObj' (w3.setCell ⟨w.heap.size + 1, 0, none⟩ (.int .i64 340)) D (.deferred none)) (fun r e => by cases e; exact ⟨_, hK9, rfl⟩)
                    refine ⟨.int .i64 340, by simp [results, Tryz.f32, go_sem, hc9], by rw [hRES.out], hB9.trans (belowK_b (w := w) (Nat.le_refl _) (w3.setCell ⟨w.heap.size + 1, 0, none⟩ (.int .i64 340)) D _ _ (by omega) hK9 rfl rfl)⟩
                · have h0' : A < 0 := by omega
                  clear hlast h0
                  go_wp2_with fail
                  refine (ckk.out _ belowAny).mono ?_
                  rintro e w3 ⟨rfl, hb3⟩
                  have j1 := i1.below hb3
                  have j2 := i2.below hb3
                  have hK3 : w3.heap[D]? = some (.deferred (some [])) := (hb3.block D (lt_of_heap hK)).trans hK
                  have hB3 := i5.trans (hb3.mono hz5)
                  have z3' := hB3.size
                  have y2' := j2.lt
                  have k2' := j2.cell
                  have f2' := j2.frozen
                  clear i1 i2 i3 i5 hK ckk k1 k2 f2 k3 y1 y2 y3
                  have hK := hK3
                  clear hK3 hb3
                  by_cases hkn2 : KN ≤ 1024
                  · replace hRES := Lib.hid (show RES = 0 by
                      rw [← hRES.out]; unfold checkE; rw [if_pos]; rw [hck.out, hlb.out, hKN.out]; simp [hkn2])
                    go_wp2
                    have b9 : Blk (w3.setCell ⟨w.heap.size + 1, 0, none⟩ (.int .i64 0)) (w.heap.size + 1) #[.int .i64 0] 27 := blkAny2
                    have hK9 : (w3.setCell ⟨w.heap.size + 1, 0, none⟩ (.int .i64 0)).heap[D]? = some (.deferred (some [])) := (keepsAny : KeepsOthers _ (w3.setCell ⟨w.heap.size + 1, 0, none⟩ (.int .i64 0))).same D _ hK rfl
                    have hB9 : Below w.heap.size w (w3.setCell ⟨w.heap.size + 1, 0, none⟩ (.int .i64 0)) := belowAny
                    simp only [bodyPostM]
                    refine ⟨by simp, .inl ⟨_, _, rfl, run_takeDeferred hK9, ?_⟩⟩
                    have hc9 := cell_kept (by simpa using b9.cell 0) (grownBy_putObj' (w3.setCell ⟨w.heap.size + 1, 0, none⟩ (.int .i64 0)) D (.deferred none)) (fun r e => by cases e; exact ⟨_, hK9, rfl⟩)
                    refine ⟨.int .i64 0, by simp [results, Tryz.f32, go_sem, hc9], by rw [hRES.out], hB9.trans (belowK_b (w := w) (Nat.le_refl _) (w3.setCell ⟨w.heap.size + 1, 0, none⟩ (.int .i64 0)) D _ _ (by omega) hK9 rfl rfl)⟩
                  · replace hRES := Lib.hid (show RES = 340 by
                      rw [← hRES.out]; unfold checkE; rw [if_neg]; rw [hck.out, hlb.out, hKN.out]; simp [hkn2])
                    have hkn3 : 1024 < KN := by omega
                    clear hkn2
                    go_wp2
                    have b9 : Blk (w3.setCell ⟨w.heap.size + 1, 0, none⟩ (.int .i64 340)) (w.heap.size + 1) #[.int .i64 340] 27 := blkAny2
                    have hK9 : (w3.setCell ⟨w.heap.size + 1, 0, none⟩ (.int .i64 340)).heap[D]? = some (.deferred (some [])) := (keepsAny : KeepsOthers _ (w3.setCell ⟨w.heap.size + 1, 0, none⟩ (.int .i64 340))).same D _ hK rfl
                    have hB9 : Below w.heap.size w (w3.setCell ⟨w.heap.size + 1, 0, none⟩ (.int .i64 340)) := belowAny
                    simp only [bodyPostM]
                    refine ⟨by simp, .inl ⟨_, _, rfl, run_takeDeferred hK9, ?_⟩⟩
                    have hc9 := cell_kept (by simpa using b9.cell 0) (grownBy_putObj' (w3.setCell ⟨w.heap.size + 1, 0, none⟩ (.int .i64 340)) D (.deferred none)) (fun r e => by cases e; exact ⟨_, hK9, rfl⟩)
                    refine ⟨.int .i64 340, by simp [results, Tryz.f32, go_sem, hc9], by rw [hRES.out], hB9.trans (belowK_b (w := w) (Nat.le_refl _) (w3.setCell ⟨w.heap.size + 1, 0, none⟩ (.int .i64 340)) D _ _ (by omega) hK9 rfl rfl)⟩
            case stop =>
              rintro D c pre Wx hD hpre ⟨i2, ⟨rfl, i4⟩, i5⟩ hK
              have hz5 := i5.size
              have y2 := i2.lt
              replace hRES := Lib.hid (show RES = 340 by
                rw [← hRES.out]; unfold checkE; rw [if_neg]; intro hh
                unfold checkB at hh
                simp only [Bool.and_eq_true, decide_eq_true_eq] at hh
                have := hh.2.2.2.2.2.1
                rw [riseB_prefix hpre _ i4] at this
                cases this)
              clear i4
              gi_wp2
              have b9 := i2
              have hK9 := hK
              have hB9 : Below w.heap.size w Wx := belowAny
              simp only [bodyPostM]
              refine ⟨by simp, .inl ⟨_, _, rfl, run_takeDeferred hK9, ?_⟩⟩
              have hc9 := cell_kept (by simpa using b9.cell 0) (grownBy_putObj' Wx D (.deferred none)) (fun r e => by cases e; exact ⟨_, hK9, rfl⟩)
              refine ⟨.int .i64 340, by simp [results, Tryz.f32, go_sem, hc9], by rw [hRES.out], hB9.trans (belowK_b (w := w) (Nat.le_refl _) Wx D _ _ (by omega) hK9 rfl rfl)⟩
theorem c_srCheck (s : SerT) (ps po : Option Addr) (cs co : Nat) (w : World) (hin : SerIn w s ps po) :
    Calls Tryz.prog 32 #[.agg (serA s ps cs po co)] w fun e w' => e = .returned (.int .i64 (checkE s)) ∧ Below w.heap.size w w' := callsIn_wide.1 (check_in s ps po cs co w hin)
end Go.Proofs.YtpdhdjlhicceoaaGreatDoor
namespace Go.Proofs.YtpdhdjlhicceoaaGreatDoor
open Go.RowKit

def valD : List Int → Nat
  | [] => 0
  | d :: l => d.toNat + 2 * valD l
def Dig (l : List Int) : Prop := ∀ d, d ∈ l → d = 0 ∨ d = 1
/-- No noughts at the end. -/
def Canon (l : List Int) : Prop := l = [] ∨ 2 ^ (l.length - 1) ≤ valD l
theorem Dig.nil : Dig [] := fun d h => by simp at h
theorem Dig.cons {l : List Int} {d : Int} (h : Dig l) (hd : d = 0 ∨ d = 1) : Dig (d :: l) := fun x hx => by
  rcases List.mem_cons.1 hx with h1 | h1
  · subst h1; exact hd
  · exact h x h1
theorem Dig.take {l : List Int} (h : Dig l) (k : Nat) : Dig (l.take k) := fun x hx => h x (List.mem_of_mem_take hx)
theorem Dig.drop {l : List Int} (h : Dig l) (k : Nat) : Dig (l.drop k) := fun x hx => h x (List.mem_of_mem_drop hx)
theorem Dig.at {l : List Int} (h : Dig l) {k : Nat} {d : Int} (hk : l[k]? = some d) : d = 0 ∨ d = 1 := h d (List.mem_of_getElem? hk)
theorem Canon.nil : Canon [] := .inl rfl
/-- What numbers a slice of int has; its block is one of int. -/
structure DigsIn (w : World) (p : Option Addr) (l : List Int) : Prop where
  at' : ∀ (i : Nat) (x : Int), l[i]? = some x → ∃ b o, p = some ⟨b, o, none⟩ ∧ w.cell? ⟨b, o + i, none⟩ = some (.int .i64 x)
  typ : ∀ a, p = some a → ∃ cur fz, w.heap[a.block]? = some (.cells cur 3 fz)
theorem DigsIn.below {w w' : World} {p : Option Addr} {l : List Int} (h : DigsIn w p l) (hb : Below w.heap.size w w') : DigsIn w' p l :=
  ⟨((⟨h.at'⟩ : IntsIn w p l).below hb).at', fun a e => by
    obtain ⟨cur, fz, hh⟩ := h.typ a e
    exact ⟨cur, fz, (hb.block a.block (Array.getElem?_eq_some_iff.1 hh).1).trans hh⟩⟩
theorem DigsIn.take {w : World} {p : Option Addr} {l : List Int} (h : DigsIn w p l) (k : Nat) : DigsIn w p (l.take k) := ⟨fun i r hr => h.at' i r (by
  rw [List.getElem?_take] at hr
  split at hr
  · exact hr
  · cases hr), h.typ⟩
/-- A slice of digits: a number, without noughts at the end. -/
def Bits (w : World) (v : Value) (n : Nat) : Prop := ∃ p l cap, v = .slice p l.length cap ∧ l.length ≤ cap ∧ l.length ≤ 1000 ∧ (p = none → l = [] ∧ cap = 0) ∧ DigsIn w p l ∧ Dig l ∧ Canon l ∧ valD l = n
theorem Bits.below {w w' : World} {v : Value} {n : Nat} (h : Bits w v n) (hb : Below w.heap.size w w') : Bits w' v n := by
  obtain ⟨p, l, cap, h1, h2, h3, h4, h5, h6⟩ := h
  exact ⟨p, l, cap, h1, h2, h3, h4, h5.below hb, h6⟩
theorem Bits.rex {L : List Nat} {w w' : World} {v : Value} {n : Nat} (h : Bits w v n) (hr : Rex L w w') (hL : L = []) : Bits w' v n := by subst hL; exact h.below hr.below
theorem Bits.drew {w : World} {v : Value} {n : Nat} (h : Bits w v n) : Bits w.drew v n := by
  obtain ⟨p, l, cap, h1, h2, h3, h4, h5, h6⟩ := h
  exact ⟨p, l, cap, h1, h2, h3, h4, ⟨h5.at', h5.typ⟩, h6⟩
theorem Bits.zero (w : World) : Bits w (.slice none 0 0) 0 := ⟨none, [], 0, rfl, by simp, by simp, fun _ => ⟨rfl, rfl⟩, ⟨fun i x h => by simp at h, fun a e => by cases e⟩, Dig.nil, Canon.nil, rfl⟩
end Go.Proofs.YtpdhdjlhicceoaaGreatDoor
namespace Go.Proofs.YtpdhdjlhicceoaaGreatDoor
open Go.RowKit
def sizeRel (u0 : Nat) (w : World) (a' : Act) (W : World) : Prop :=
  Below w.heap.size w W ∧ ∃ (l : List Int) (u : Nat) (v : Value), (∃ x : Nat → Value, a' = { tmps := #[.int .u64 (u : Int), x 1, x 2, v, x 4, x 5, x 6, x 7, x 8, x 9, x 10, x 11, x 12, x 13, x 14], defers := [] }) ∧
    W.ownsRow w.heap.size 3 1 v l.length (l.map (Value.int .i64)) ∧ Dig l ∧ valD l + 2 ^ l.length * u = u0 ∧ l.length ≤ 64 ∧ u < 2 ^ (64 - l.length) ∧ (u = 0 → Canon l)
def powRel (n : Nat) (w : World) (a' : Act) (W : World) : Prop :=
  Below w.heap.size w W ∧ ∃ (k : Nat) (v : Value), (∃ x : Nat → Value, a' = { tmps := #[.int .i64 (n : Int), x 1, x 2, v, .int .i64 (k : Int), x 5, x 6, x 7, x 8, x 9, x 10, x 11, x 12, x 13, x 14, x 15], defers := [] }) ∧
    W.ownsRow w.heap.size 3 1 v k ((List.replicate k (0 : Int)).map (Value.int .i64)) ∧ k ≤ n
end Go.Proofs.YtpdhdjlhicceoaaGreatDoor
