/- Parts of the proof that follows: The references' numbers: Div. | The references' numbers: Div, below 0 with a rest. | The document's lines: Back, Slope, Common, Lowest, Right. | The document's lines: Times; its numbers: Div. -/
import Derived.Test.YtbanjolokkghdaaGreatDoorWz20
set_option linter.unusedSimpArgs false
set_option linter.unusedVariables false
namespace Go.Proofs.YtbanjolokkghdaaGreatDoor
open Go.RowKit
set_option maxRecDepth 100000 in
set_option maxHeartbeats 4000000 in
theorem div_plain (sa : Bool) (pa pb : Option Addr) (la ca lb cb m n Q R : Nat) (w : World) (ha : Bits w (.slice pa la ca) m) (hb : Bits w (.slice pb lb cb) n) (hm : m < 2 ^ 800) (hQ : Hid (m / n = Q)) (hR : Hid (m % n = R)) (hn0 : 0 < n) (hn : n < 2 ^ 800) (hs : sa = false) :
    Calls Tryz.prog 81 #[.agg #[.bool sa, .slice pa la ca], .agg #[.bool false, .slice pb lb cb]] w fun e w' => ∃ s1 s2, e = .returned (.tuple #[.agg #[.bool (sa && decide (0 < Q)), s1], .agg #[.bool false, s2]]) ∧ Bits w' s1 Q ∧ Bits w' s2 R ∧ Below w.heap.size w w' := by
  subst hs
  go_enter Tryz.func81, Tryz.ntmps81
  go_wp2_with fail
  refine (c_refparts (.slice pa la ca) (.slice pb lb cb) m n _ (ha.below belowAny) (hb.below belowAny) hm hn0 hn).mono ?_
  rintro e w1 ⟨v1, v2, rfl, hq1, hq2, hb1⟩
  have z2 := hb1.size
  try simp at z2
  refine haveB w w1 (Bc w.heap.size #[.bool false, .slice pa la ca] 140 <| Bc (w.heap.size + 1) #[.bool false, .slice pb lb cb] 140 <| Bc (w.heap.size + 2) #[.bool false, .slice none 0 0] 140 <| Bc (w.heap.size + 3) #[.bool false, .slice none 0 0] 140 <| Bz) ?_
  rintro hW z3 ⟨⟨b1, yb1, k1, f1⟩, ⟨b2, yb2, k2, f2⟩, ⟨b3, yb3, k3, f3⟩, ⟨b4, yb4, k4, f4⟩, -⟩
  rw [hQ.out] at hq1
  rw [hR.out] at hq2
  obtain ⟨p1, l1, k1', rfl, _, hl1⟩ := bits_len hq1
  obtain ⟨p2, l2, k2', rfl, hpos, hl2⟩ := bits_len hq2
  replace hq1 := Lib.hid hq1
  replace hq2 := Lib.hid hq2
  replace hpos := Lib.hid hpos
  go_wp2_with fail
  refine (c_refmade false _ Q _ hq1.out).mono ?_
  rintro e w4 ⟨rfl, hb4⟩
  have z5 := hb4.size
  try simp at z5
  clear k1 f1 k2 f2 k3 f3 k4 f4
  refine haveB w w4 (Bc w.heap.size #[.bool false, .slice pa la ca] 140 <| Bc (w.heap.size + 1) #[.bool false, .slice pb lb cb] 140 <| Bc (w.heap.size + 2) #[.bool false, .slice none 0 0] 140 <| Bc (w.heap.size + 3) #[.bool false, .slice none 0 0] 140 <| Bz) ?_
  clear b1 b2 b3 b4 hW
  rintro hW z6 ⟨⟨b1, yb1, k1, f1⟩, ⟨b2, yb2, k2, f2⟩, ⟨b3, yb3, k3, f3⟩, ⟨b4, yb4, k4, f4⟩, -⟩
  replace hq1 := Lib.hid (hq1.out.below hb4)
  replace hq2 := Lib.hid (hq2.out.below hb4)
  go_wp2_with fail
  refine (c_refmade false _ R _ hq2.out).mono ?_
  rintro e w7 ⟨rfl, hb7⟩
  have z8 := hb7.size
  try simp at z8
  clear k1 f1 k2 f2 k3 f3 k4 f4
  refine haveB w w7 (Bc w.heap.size #[.bool false, .slice pa la ca] 140 <| Bc (w.heap.size + 1) #[.bool false, .slice pb lb cb] 140 <| Bc (w.heap.size + 2) #[.bool false, .slice none 0 0] 140 <| Bc (w.heap.size + 3) #[.bool false, .slice none 0 0] 140 <| Bz) ?_
  clear b1 b2 b3 b4 hW
  rintro hW z9 ⟨⟨b1, yb1, k1, f1⟩, ⟨b2, yb2, k2, f2⟩, ⟨b3, yb3, k3, f3⟩, ⟨b4, yb4, k4, f4⟩, -⟩
  replace hq1 := Lib.hid (hq1.out.below hb7)
  replace hq2 := Lib.hid (hq2.out.below hb7)
  go_wp2
  have y_1 := b1.lt
  have y_2 := b2.lt
  have y_3 := b3.lt
  have y_4 := b4.lt
  refine bodyPost_ret (v := .tuple #[.agg #[.bool false, .slice p1 l1.length k1'], .agg #[.bool false, .slice p2 l2.length k2']]) (by simp [results, Tryz.results81, go_sem, k1, f1, k2, f2, k3, f3, k4, f4, y_1, y_2, y_3, y_4]) rfl ⟨.slice p1 l1.length k1', .slice p2 l2.length k2', by simp, ?_, ?_, by exact belowAny⟩
  · have hS := (hq1.out.store b3 (.bool false) (.slice p1 l1.length k1')).store (show Blk _ (w.heap.size + 3) #[.bool false, .slice none 0 0] 140 from (b4.setO (by omega) 0 _).setO (by omega) 1 _) (.bool false) (.slice p2 l2.length k2')
    simpa using hS
  · have hS := (hq2.out.store b3 (.bool false) (.slice p1 l1.length k1')).store (show Blk _ (w.heap.size + 3) #[.bool false, .slice none 0 0] 140 from (b4.setO (by omega) 0 _).setO (by omega) 1 _) (.bool false) (.slice p2 l2.length k2')
    simpa using hS
set_option maxRecDepth 100000 in
set_option maxHeartbeats 4000000 in
theorem div_zero (pa pb : Option Addr) (la ca lb cb m n Q R : Nat) (w : World) (ha : Bits w (.slice pa la ca) m) (hb : Bits w (.slice pb lb cb) n) (hm : m < 2 ^ 800) (hQ : Hid (m / n = Q)) (hR : Hid (m % n = R)) (hn0 : 0 < n) (hn : n < 2 ^ 800) (hr : R = 0) :
    Calls Tryz.prog 81 #[.agg #[.bool true, .slice pa la ca], .agg #[.bool false, .slice pb lb cb]] w fun e w' => ∃ s1 s2, e = .returned (.tuple #[.agg #[.bool (true && decide (0 < Q)), s1], .agg #[.bool false, s2]]) ∧ Bits w' s1 Q ∧ Bits w' s2 R ∧ Below w.heap.size w w' := by
  go_enter Tryz.func81, Tryz.ntmps81
  go_wp2_with fail
  refine (c_refparts (.slice pa la ca) (.slice pb lb cb) m n _ (ha.below belowAny) (hb.below belowAny) hm hn0 hn).mono ?_
  rintro e w1 ⟨v1, v2, rfl, hq1, hq2, hb1⟩
  have z2 := hb1.size
  try simp at z2
  refine haveB w w1 (Bc w.heap.size #[.bool true, .slice pa la ca] 140 <| Bc (w.heap.size + 1) #[.bool false, .slice pb lb cb] 140 <| Bc (w.heap.size + 2) #[.bool false, .slice none 0 0] 140 <| Bc (w.heap.size + 3) #[.bool false, .slice none 0 0] 140 <| Bz) ?_
  rintro hW z3 ⟨⟨b1, yb1, k1, f1⟩, ⟨b2, yb2, k2, f2⟩, ⟨b3, yb3, k3, f3⟩, ⟨b4, yb4, k4, f4⟩, -⟩
  rw [hQ.out] at hq1
  rw [hR.out] at hq2
  obtain ⟨p1, l1, k1', rfl, _, hl1⟩ := bits_len hq1
  obtain ⟨p2, l2, k2', rfl, hpos, hl2⟩ := bits_len hq2
  replace hq1 := Lib.hid hq1
  replace hq2 := Lib.hid hq2
  replace hpos := Lib.hid hpos
  obtain rfl : l2 = [] := List.length_eq_zero_iff.1 (by have := hpos.out; omega)
  clear hpos hr
  go_wp2_with fail
  refine (c_refmade true _ Q _ hq1.out).mono ?_
  rintro e w4 ⟨rfl, hb4⟩
  have z5 := hb4.size
  try simp at z5
  clear k1 f1 k2 f2 k3 f3 k4 f4
  refine haveB w w4 (Bc w.heap.size #[.bool true, .slice pa la ca] 140 <| Bc (w.heap.size + 1) #[.bool false, .slice pb lb cb] 140 <| Bc (w.heap.size + 2) #[.bool false, .slice none 0 0] 140 <| Bc (w.heap.size + 3) #[.bool false, .slice none 0 0] 140 <| Bz) ?_
  clear b1 b2 b3 b4 hW
  rintro hW z6 ⟨⟨b1, yb1, k1, f1⟩, ⟨b2, yb2, k2, f2⟩, ⟨b3, yb3, k3, f3⟩, ⟨b4, yb4, k4, f4⟩, -⟩
  replace hq1 := Lib.hid (hq1.out.below hb4)
  replace hq2 := Lib.hid (hq2.out.below hb4)
  go_wp2_with fail
  refine (c_refmade false _ R _ hq2.out).mono ?_
  rintro e w7 ⟨rfl, hb7⟩
  have z8 := hb7.size
  try simp at z8
  clear k1 f1 k2 f2 k3 f3 k4 f4
  refine haveB w w7 (Bc w.heap.size #[.bool true, .slice pa la ca] 140 <| Bc (w.heap.size + 1) #[.bool false, .slice pb lb cb] 140 <| Bc (w.heap.size + 2) #[.bool false, .slice none 0 0] 140 <| Bc (w.heap.size + 3) #[.bool false, .slice none 0 0] 140 <| Bz) ?_
  clear b1 b2 b3 b4 hW
  rintro hW z9 ⟨⟨b1, yb1, k1, f1⟩, ⟨b2, yb2, k2, f2⟩, ⟨b3, yb3, k3, f3⟩, ⟨b4, yb4, k4, f4⟩, -⟩
  replace hq1 := Lib.hid (hq1.out.below hb7)
  replace hq2 := Lib.hid (hq2.out.below hb7)
  obtain ⟨B, hB⟩ : ∃ B, B = (true && decide (0 < Q)) := ⟨_, rfl⟩
  try rw [← hB]
  try rw [Bool.true_and] at hB
  try rw [← hB]
  replace hB := Lib.hid hB
  go_wp2
  have y_1 := b1.lt
  have y_2 := b2.lt
  have y_3 := b3.lt
  have y_4 := b4.lt
  refine bodyPost_ret (v := .tuple #[.agg #[.bool B, .slice p1 l1.length k1'], .agg #[.bool false, .slice p2 0 k2']]) (by simp [results, Tryz.results81, go_sem, k1, f1, k2, f2, k3, f3, k4, f4, y_1, y_2, y_3, y_4]) rfl ⟨.slice p1 l1.length k1', .slice p2 0 k2', by rw [← hB.out, Bool.true_and], ?_, ?_, by exact belowAny⟩
  · have hS := (hq1.out.store b3 (.bool B) (.slice p1 l1.length k1')).store (show Blk _ (w.heap.size + 3) #[.bool false, .slice none 0 0] 140 from (b4.setO (by omega) 0 _).setO (by omega) 1 _) (.bool false) (.slice p2 0 k2')
    simpa using hS
  · have hS := (hq2.out.store b3 (.bool B) (.slice p1 l1.length k1')).store (show Blk _ (w.heap.size + 3) #[.bool false, .slice none 0 0] 140 from (b4.setO (by omega) 0 _).setO (by omega) 1 _) (.bool false) (.slice p2 0 k2')
    simpa using hS
end Go.Proofs.YtbanjolokkghdaaGreatDoor
namespace Go.Proofs.YtbanjolokkghdaaGreatDoor
open Go.RowKit
set_option maxRecDepth 100000 in
set_option maxHeartbeats 4000000 in
theorem div_rest (pa pb : Option Addr) (la ca lb cb m n Q R : Nat) (w : World) (ha : Bits w (.slice pa la ca) m) (hb : Bits w (.slice pb lb cb) n) (hm : m < 2 ^ 800) (hQ : Hid (m / n = Q)) (hR : Hid (m % n = R)) (hn0 : 0 < n) (hn : n < 2 ^ 800) (hr : 0 < R) (hQ9 : Q < 2 ^ 900) (hn9 : n < 2 ^ 900) (hRn : R ≤ n) :
    Calls Tryz.prog 81 #[.agg #[.bool true, .slice pa la ca], .agg #[.bool false, .slice pb lb cb]] w fun e w' => ∃ s1 s2, e = .returned (.tuple #[.agg #[.bool true, s1], .agg #[.bool false, s2]]) ∧ Bits w' s1 (Q + 1) ∧ Bits w' s2 (n - R) ∧ Below w.heap.size w w' := by
  go_enter Tryz.func81, Tryz.ntmps81
  go_wp2_with fail
  refine (c_refparts (.slice pa la ca) (.slice pb lb cb) m n _ (ha.below belowAny) (hb.below belowAny) hm hn0 hn).mono ?_
  rintro e w1 ⟨v1, v2, rfl, hq1, hq2, hb1⟩
  have z2 := hb1.size
  try simp at z2
  have b1 : Blk w1 w.heap.size #[.bool true, .slice pa la ca] 140 := by exact blkAny
  have b2 : Blk w1 (w.heap.size + 1) #[.bool false, .slice pb lb cb] 140 := by exact blkAny
  have b3 : Blk w1 (w.heap.size + 2) #[.bool false, .slice none 0 0] 140 := by exact blkAny
  have b4 : Blk w1 (w.heap.size + 3) #[.bool false, .slice none 0 0] 140 := by exact blkAny
  have hW : Below w.heap.size w w1 := by exact belowAny
  have z3 := b1.lt
  have z4 := b2.lt
  have z5 := b3.lt
  have z6 := b4.lt
  have k1 := b1.cell
  have f1 := b1.frozen
  have k2 := b2.cell
  have f2 := b2.frozen
  have k3 := b3.cell
  have f3 := b3.frozen
  have k4 := b4.cell
  have f4 := b4.frozen
  rw [hQ.out] at hq1
  rw [hR.out] at hq2
  obtain ⟨p1, l1, k1', rfl, _, hl1⟩ := bits_len hq1
  obtain ⟨p2, l2, k2', rfl, hpos, hl2⟩ := bits_len hq2
  obtain ⟨j, hj⟩ : ∃ j, l2.length = j + 1 := ⟨l2.length - 1, by omega⟩
  rw [hj] at hq2
  rw [hj]
  clear hpos hl2 hl1 hj
  have hnn := hb.below (show Below w.heap.size w w1 from by exact belowAny)
  replace hq1 := Lib.hid hq1
  replace hq2 := Lib.hid hq2
  replace hnn := Lib.hid hnn
  go_upto_region 3 with (fail)
  clear k1 f1 k2 f2 k3 f3 k4 f4
  refine wp_facts (fun W' => Below w.heap.size w W' ∧ Blk W' w.heap.size #[.bool true, .slice pa la ca] 140 ∧ Blk W' (w.heap.size + 1) #[.bool false, .slice pb lb cb] 140 ∧ Blk W' (w.heap.size + 2) #[.bool false, .slice none 0 0] 140 ∧ Blk W' (w.heap.size + 3) #[.bool false, .slice none 0 0] 140 ∧ Bits W' (.slice p1 l1.length k1') Q ∧ Bits W' (.slice p2 (j + 1) k2') R ∧ Bits W' (.slice pb lb cb) n) ⟨by exact belowAny, by exact blkAny, by exact blkAny, by exact blkAny, by exact blkAny, by exact hq1.out.below belowAny, by exact hq2.out.below belowAny, by exact hnn.out.below belowAny⟩ ?_
  clear b1 b2 b3 b4 hW
  rintro W7 ⟨hW, b1, b2, b3, b4, b5, b6, b7⟩
  have z8 := hW.size
  have z9 := b1.lt
  have z10 := b2.lt
  have z11 := b3.lt
  have z12 := b4.lt
  clear hq1 hq2 hnn
  refine wp_region_nd 9 38 [] (fun W' => Rex [] W7 W' ∧ Blk W' w.heap.size #[.bool true, .slice pa la ca] 140 ∧ Blk W' (w.heap.size + 1) #[.bool false, .slice pb lb cb] 140 ∧ Blk W' (w.heap.size + 2) #[.bool false, .slice none 0 0] 140 ∧ Blk W' (w.heap.size + 3) #[.bool false, .slice none 0 0] 140 ∧ Bits W' (.slice p1 l1.length k1') Q ∧ Bits W' (.slice p2 (j + 1) k2') R ∧ Bits W' (.slice pb lb cb) n) mixed (by kernel_rfl) rfl ⟨(Rex.refl _ _).drew, b1, b2, b3, b4, b5.drew, b6.drew, b7.drew⟩ (fun w w' ⟨h0, h1, h2, h3, h4, h5, h6, h7⟩ hr => ⟨h0.trans hr, h1.rex hr (by simp <;> omega), h2.rex hr (by simp <;> omega), h3.rex hr (by simp <;> omega), h4.rex hr (by simp <;> omega), h5.rex hr (by simp <;> omega), h6.rex hr (by simp <;> omega), h7.rex hr (by simp <;> omega)⟩) (fun c a d v w h => by cases d <;> exact h) ?_
  iterate 1
    apply nd_det (hg := rfl) (hal := rfl)
    · intro a W' hC hE
      obtain ⟨_, k1, k2, k3, k4, k5, k6, k7⟩ := hC
      have k1 := k1.cell
      have k2 := k2.cell
      first
        | (simp [Oper.looksAt, Op.operands, Call.operands, envOf, Det] at hE; simp [go_sem, Act.eval, IntWalk.i64_left, hE, k1, k2, k3, k4, k5, k6, k7]; try rfl)
        | (clear hE; simp [go_sem, Act.eval, IntWalk.i64_left, k1, k2, k3, k4, k5, k6, k7]; try rfl)
  apply nd_call (BS 1) (hg := rfl) (hal := rfl)
  · exact BS.closed _
  · intro a W' hC hE
    clear hE
    refine ⟨_, _, ?_, (c_Size 1 W' (by omega)).mono ?_⟩
    · simp [go_sem, Act.eval]
      try rfl
    · rintro e w' ⟨v, rfl, hB, hR⟩
      exact ⟨_, rfl, hR, hB⟩
  apply nd_call (BS (Q + 1)) (hg := rfl) (hal := rfl)
  · exact BS.closed _
  · intro a W' hC hE
    simp [Oper.looksAt, Op.operands, Call.operands, envOf, Det] at hE
    refine ⟨_, _, ?_, (c_plus (.slice p1 l1.length k1') _ Q 1 W' hC.2.2.2.2.2.1 hE.2 hQ9 (by omega)).mono ?_⟩
    · simp [go_sem, Act.eval, hE.1]
      try rfl
    · rintro e w' ⟨v, rfl, hB, hR⟩
      exact ⟨_, rfl, hR, hB⟩
  apply nd_call (NS true (Q + 1)) (hg := rfl) (hal := rfl)
  · exact NS.closed _ _
  · intro a W' hC hE
    simp [Oper.looksAt, Op.operands, Call.operands, envOf, Det] at hE
    refine ⟨_, _, ?_, (c_refmade true _ (Q + 1) W' hE).mono ?_⟩
    · simp [go_sem, Act.eval]
      try rfl
    · rintro e w' ⟨rfl, hR⟩
      have hb := BS.below hE hR
      exact ⟨_, rfl, hR, _, rfl, hb⟩
  iterate 3
    apply nd_det (hg := rfl) (hal := rfl)
    · intro a W' hC hE
      obtain ⟨_, k1, k2, k3, k4, k5, k6, k7⟩ := hC
      have k1 := k1.cell
      have k2 := k2.cell
      first
        | (simp [Oper.looksAt, Op.operands, Call.operands, envOf, Det] at hE; simp [go_sem, Act.eval, IntWalk.i64_left, hE, k1, k2, k3, k4, k5, k6, k7]; try rfl)
        | (clear hE; simp [go_sem, Act.eval, IntWalk.i64_left, k1, k2, k3, k4, k5, k6, k7]; try rfl)
  apply nd_call (BS (n - R)) (hg := rfl) (hal := rfl)
  · exact BS.closed _
  · intro a W' hC hE
    simp [Oper.looksAt, Op.operands, Call.operands, envOf, Det] at hE
    refine ⟨_, _, ?_, (c_minus (.slice pb lb cb) (.slice p2 (j + 1) k2') n R W' hC.2.2.2.2.2.2.2 hC.2.2.2.2.2.2.1 hn9 hRn).mono ?_⟩
    · simp [go_sem, Act.eval, hE]
      try rfl
    · rintro e w' ⟨v, rfl, hB, hR⟩
      exact ⟨_, rfl, hR, hB⟩
  apply nd_call (NS false (n - R)) (hg := rfl) (hal := rfl)
  · exact NS.closed _ _
  · intro a W' hC hE
    simp [Oper.looksAt, Op.operands, Call.operands, envOf, Det] at hE
    refine ⟨_, _, ?_, (c_refmade false _ (n - R) W' hE).mono ?_⟩
    · simp [go_sem, Act.eval]
      try rfl
    · rintro e w' ⟨rfl, hR⟩
      have hb := BS.below hE hR
      exact ⟨_, rfl, hR, _, rfl, hb⟩
  rintro W2 ⟨hR', d1, d2, d3, d4, d5, d6, d7⟩
  simp only [ndFinR, Det, forall_eq]
  intros
  repeat (rename GDet _ _ _ _ => hgd; clear hgd)
  simp only [Act.put, List.setIfInBounds_toArray, List.set_cons_zero, List.set_cons_succ, List.drop_succ_cons, List.drop_zero]
  clear b1 b2 b3 b4 b5 b6 b7
  have b1 := d1
  have b2 := d2
  have b3 := d3
  have b4 := d4
  clear d1 d2 d3 d4 d5 d6 d7
  obtain ⟨sz1, rfl, hy1⟩ := ‹NS true _ _ _›
  obtain ⟨sz2, rfl, hy2⟩ := ‹NS false _ _ _›
  obtain ⟨p3, l3, k3', rfl, _, hl3⟩ := bits_len hy1
  obtain ⟨p4, l4, k4', rfl, _, hl4⟩ := bits_len hy2
  replace hy1 := Lib.hid hy1
  replace hy2 := Lib.hid hy2
  replace hW := hW.trans (hR'.of_priv hW.size)
  clear hR' hl3 hl4
  have k1 := b1.cell
  have f1 := b1.frozen
  have k2 := b2.cell
  have f2 := b2.frozen
  have k3 := b3.cell
  have f3 := b3.frozen
  have k4 := b4.cell
  have f4 := b4.frozen
  have y_1 := b1.lt
  have y_2 := b2.lt
  have y_3 := b3.lt
  have y_4 := b4.lt
  obtain ⟨B, hB⟩ : ∃ B, B = (true && decide (0 < Q + 1)) := ⟨_, rfl⟩
  rw [← hB]
  replace hB := Lib.hid hB
  obtain ⟨C, hC⟩ : ∃ C, C = (false && decide (0 < n - R)) := ⟨_, rfl⟩
  rw [← hC]
  replace hC := Lib.hid hC
  go_wp2
  refine bodyPost_ret (v := .tuple #[.agg #[.bool B, .slice p3 l3.length k3'], .agg #[.bool C, .slice p4 l4.length k4']]) (by simp [results, Tryz.results81, go_sem, k1, f1, k2, f2, k3, f3, k4, f4, y_1, y_2, y_3, y_4]) rfl ⟨.slice p3 l3.length k3', .slice p4 l4.length k4', by rw [hB.out, hC.out]; simp, ?_, ?_, by exact belowAny⟩
  · have hS := (hy1.out.store b3 (.bool B) (.slice p3 l3.length k3')).store (show Blk _ (w.heap.size + 3) #[.bool false, .slice none 0 0] 140 from (b4.setO (by omega) 0 _).setO (by omega) 1 _) (.bool C) (.slice p4 l4.length k4')
    simpa using hS
  · have hS := (hy2.out.store b3 (.bool B) (.slice p3 l3.length k3')).store (show Blk _ (w.heap.size + 3) #[.bool false, .slice none 0 0] 140 from (b4.setO (by omega) 0 _).setO (by omega) 1 _) (.bool C) (.slice p4 l4.length k4')
    simpa using hS
end Go.Proofs.YtbanjolokkghdaaGreatDoor
namespace Go.Proofs.YtbanjolokkghdaaGreatDoor
open Go.RowKit
set_option maxRecDepth 100000 in
set_option maxHeartbeats 1000000 in
theorem c_rback (v : Int) (w : World) :
    Calls Tryz.prog 57 #[.int .i64 v] w fun e w' => e = .returned (.bool (isBack v)) ∧ Below w.heap.size w w' := by
  unfold isBack
  go_enter Tryz.func57, Tryz.ntmps57
  go_upto_region 1 with (fail)
  refine wp_region_sq 6 9 [] (fun W' => Rex [] w W') (by kernel_rfl) rfl (Rex.refl _ _) (fun w w' h0 hr => h0.trans hr) ?_
  iterate 3
    apply nd_det (hg := rfl) (hal := rfl)
    · intro a W' hC hE
      obtain _ := hC
      first
        | (simp [Oper.looksAt, Op.operands, Call.operands, envOf, Det] at hE; simp [go_sem, Act.eval, IntWalk.i64_left, hE]; try rfl)
        | (clear hE; simp [go_sem, Act.eval, IntWalk.i64_left]; try rfl)
  iterate 2
    apply nd_detg (p := true) (hg := rfl) (hd := rfl) (hal := rfl)
    · intro v W' h
      simp [envOf, Det, GDet] at h
      simp
      exact h
    · intro hp hx a W' hC hE
      obtain _ := hC
      simp [Oper.looksAt, Op.operands, Call.operands, envOf, Det, GDet, hx] at hE
      simp [go_sem, Act.eval, IntWalk.i64_left, hE]
      try rfl
  apply nd_pick_and (ho := rfl) (hg := rfl)
  · intro v W' h
    simp [envOf, Det] at h
    exact h
  · intro v W' h hx
    simp [envOf, GDet, hx] at h
    exact h
  rintro W2 hR
  simp only [ndFinR, Det, forall_eq]
  intros
  repeat (rename GDet _ _ _ _ => hgd; clear hgd)
  simp only [Act.put, List.setIfInBounds_toArray, List.set_cons_zero, List.set_cons_succ, List.drop_succ_cons, List.drop_zero]
  go_wp2
  go_ret
  exact ⟨rfl, hR.of_priv (Nat.le_refl _)⟩
set_option maxRecDepth 100000 in
set_option maxHeartbeats 1000000 in
theorem c_rslope (n d : Int) (w : World) :
    Calls Tryz.prog 58 #[.agg #[.int .i64 n, .int .i64 d]] w fun e w' => e = .returned (.bool (isSlope n d)) ∧ Below w.heap.size w w' := by
  unfold isSlope
  go_enter Tryz.func58, Tryz.ntmps58
  go_upto_region 1 with (fail)
  refine wp_facts (fun W => Below w.heap.size w W ∧ Blk W w.heap.size #[.int .i64 n, .int .i64 d] 96) ⟨(Below.refl _ _).alloc (Nat.le_refl _) _, (by repeat (first | (refine Blk.new' ?_; simp; done) | refine Blk.alloc ?_ _))⟩ ?_
  rintro W ⟨hW, b1⟩
  refine wp_region_sq 18 21 [] (fun W' => Rex [] W W' ∧ Blk W' w.heap.size #[.int .i64 n, .int .i64 d] 96) (by kernel_rfl) rfl ⟨(Rex.refl _ _), b1⟩ (fun w w' ⟨h0, h1⟩ hr => ⟨h0.trans hr, h1.rex hr (by simp <;> omega)⟩) ?_
  iterate 4
    apply nd_det (hg := rfl) (hal := rfl)
    · intro a W' hC hE
      obtain ⟨_, k1⟩ := hC
      have k1 := k1.cell
      first
        | (simp [Oper.looksAt, Op.operands, Call.operands, envOf, Det] at hE; simp [go_sem, Act.eval, IntWalk.i64_left, hE, k1]; try rfl)
        | (clear hE; simp [go_sem, Act.eval, IntWalk.i64_left, k1]; try rfl)
  iterate 3
    apply nd_detg (p := true) (hg := rfl) (hd := rfl) (hal := rfl)
    · intro v W' h
      simp [envOf, Det, GDet] at h
      simp
      exact h
    · intro hp hx a W' hC hE
      obtain ⟨_, k1⟩ := hC
      have k1 := k1.cell
      simp [Oper.looksAt, Op.operands, Call.operands, envOf, Det, GDet, hx] at hE
      simp [go_sem, Act.eval, IntWalk.i64_left, hE, k1]
      try rfl
  apply nd_pick_and (ho := rfl) (hg := rfl)
  · intro v W' h
    simp [envOf, Det] at h
    exact h
  · intro v W' h hx
    simp [envOf, GDet, hx] at h
    exact h
  iterate 1
    apply nd_det (hg := rfl) (hal := rfl)
    · intro a W' hC hE
      obtain ⟨_, k1⟩ := hC
      have k1 := k1.cell
      first
        | (simp [Oper.looksAt, Op.operands, Call.operands, envOf, Det] at hE; simp [go_sem, Act.eval, IntWalk.i64_left, hE, k1]; try rfl)
        | (clear hE; simp [go_sem, Act.eval, IntWalk.i64_left, k1]; try rfl)
  iterate 3
    apply nd_detg (p := true) (hg := rfl) (hd := rfl) (hal := rfl)
    · intro v W' h
      simp [envOf, Det, GDet] at h
      simp
      exact h
    · intro hp hx a W' hC hE
      obtain ⟨_, k1⟩ := hC
      have k1 := k1.cell
      simp [Oper.looksAt, Op.operands, Call.operands, envOf, Det, GDet, hx] at hE
      simp [go_sem, Act.eval, IntWalk.i64_left, hE, k1]
      try rfl
  apply nd_pick_and (ho := rfl) (hg := rfl)
  · intro v W' h
    simp [envOf, Det] at h
    exact h
  · intro v W' h hx
    simp [envOf, GDet, hx] at h
    exact h
  iterate 1
    apply nd_det (hg := rfl) (hal := rfl)
    · intro a W' hC hE
      obtain ⟨_, k1⟩ := hC
      have k1 := k1.cell
      first
        | (simp [Oper.looksAt, Op.operands, Call.operands, envOf, Det] at hE; simp [go_sem, Act.eval, IntWalk.i64_left, hE, k1]; try rfl)
        | (clear hE; simp [go_sem, Act.eval, IntWalk.i64_left, k1]; try rfl)
  iterate 3
    apply nd_detg (p := true) (hg := rfl) (hd := rfl) (hal := rfl)
    · intro v W' h
      simp [envOf, Det, GDet] at h
      simp
      exact h
    · intro hp hx a W' hC hE
      obtain ⟨_, k1⟩ := hC
      have k1 := k1.cell
      simp [Oper.looksAt, Op.operands, Call.operands, envOf, Det, GDet, hx] at hE
      simp [go_sem, Act.eval, IntWalk.i64_left, hE, k1]
      try rfl
  apply nd_pick_and (ho := rfl) (hg := rfl)
  · intro v W' h
    simp [envOf, Det] at h
    exact h
  · intro v W' h hx
    simp [envOf, GDet, hx] at h
    exact h
  rintro W2 ⟨hR, c1⟩
  simp only [ndFinR, Det, forall_eq]
  intros
  repeat (rename GDet _ _ _ _ => hgd; clear hgd)
  simp only [Act.put, List.setIfInBounds_toArray, List.set_cons_zero, List.set_cons_succ, List.drop_succ_cons, List.drop_zero]
  go_wp2
  go_ret
  exact ⟨rfl, hW.trans (hR.of_priv hW.size)⟩
structure Gcd2 (a b m n : Int) : Prop where
  m0 : 0 ≤ m
  m1 : m ≤ 9223372036854775807
  n0 : 0 ≤ n
  n1 : n ≤ 9223372036854775807
  eq : Nat.gcd m.natAbs n.natAbs = Nat.gcd a.natAbs b.natAbs
theorem Gcd2.left {a b m n : Int} (h : Gcd2 a b m n) (hn : 0 < n) : Gcd2 a b (m % n) n ∧ m % n < n := by
  have l1 := Int.emod_nonneg m (show n ≠ 0 by omega)
  have l2 := Int.emod_lt_of_pos m hn
  have := h.n1
  refine ⟨⟨l1, by omega, h.n0, h.n1, ?_⟩, l2⟩
  rw [← h.eq]
  obtain ⟨m, rfl⟩ := Int.eq_ofNat_of_zero_le h.m0
  obtain ⟨n, rfl⟩ := Int.eq_ofNat_of_zero_le h.n0
  show Nat.gcd (m % n) n = Nat.gcd m n
  rw [Nat.gcd_comm m n, ← Nat.gcd_rec]
theorem Gcd2.right {a b m n : Int} (h : Gcd2 a b m n) (hm : 0 < m) : Gcd2 a b m (n % m) ∧ n % m < m := by
  have l1 := Int.emod_nonneg n (show m ≠ 0 by omega)
  have l2 := Int.emod_lt_of_pos n hm
  have := h.m1
  refine ⟨⟨h.m0, h.m1, l1, by omega, ?_⟩, l2⟩
  rw [← h.eq]
  obtain ⟨m, rfl⟩ := Int.eq_ofNat_of_zero_le h.m0
  obtain ⟨n, rfl⟩ := Int.eq_ofNat_of_zero_le h.n0
  show Nat.gcd m (n % m) = Nat.gcd m n
  rw [Nat.gcd_comm m (n % m), Nat.gcd_rec m n]
theorem Gcd2.done {a b m n : Int} (h : Gcd2 a b m n) (hz : m = 0 ∨ n = 0) : m + n = (Nat.gcd a.natAbs b.natAbs : Int) := by
  rw [← h.eq]
  have := h.m0; have := h.n0
  rcases hz with rfl | rfl <;> simp <;> omega
def comRel (a b : Int) (w : World) (a' : Act) (W : World) : Prop := W = w ∧ ∃ (m n : Int), (∃ u : Nat → Value, a' = { tmps := #[.int .i64 m, .int .i64 n, u 2, u 3, .int .i64 0, u 5, u 6, u 7, u 8, u 9, u 10, u 11, u 12, u 13, u 14, u 15, u 16, u 17, u 18, u 19, u 20, u 21, u 22, u 23, u 24, u 25, u 26], defers := [] }) ∧ Gcd2 a b m n
set_option maxRecDepth 100000 in
set_option maxHeartbeats 1000000 in
theorem c_common (a b : Int) (w : World) (ha : -9223372036854775807 ≤ a ∧ a ≤ 9223372036854775807) (hb : 0 ≤ b ∧ b ≤ 9223372036854775807) :
    Calls Tryz.prog 80 #[.int .i64 a, .int .i64 b] w fun e w' => e = .returned (.int .i64 (Nat.gcd a.natAbs b.natAbs)) ∧ w' = w := by
  go_enter Tryz.func80, Tryz.ntmps80
  have start : ∀ m, (m = a ∨ m = -a) → 0 ≤ m → Gcd2 a b m b := by
    rintro m (rfl | rfl) h
    · exact ⟨h, ha.2, hb.1, hb.2, rfl⟩
    · exact ⟨h, by omega, hb.1, hb.2, by rw [Int.natAbs_neg]⟩
  by_cases h : a < 0
  · go_wp2
    refine wp_loop (comRel a b w) (fun x _ => (intAt (x.tmps.getD 0 undef)).toNat + (intAt (x.tmps.getD 1 undef)).toNat) ?_ ?_
    · unfold comRel
      exact ⟨rfl, -a, b, frame_ex rfl, start _ (.inr rfl) (by omega)⟩
    rintro a' W ⟨rfl, m, n, ⟨u, rfl⟩, hs⟩
    have m0 := hs.m0; have m1 := hs.m1; have n0 := hs.n0; have n1 := hs.n1
    by_cases hm : 0 < m
    · by_cases hn : 0 < n
      · by_cases hmn : n < m
        · have hq := hs.left hn
          have hn0 : ¬ n = 0 := by omega
          go_wp2
          have hq2 := hq.2
          refine ⟨?_, by simp [intAt]; omega⟩
          unfold comRel
          exact ⟨rfl, m % n, n, frame_ex rfl, hq.1⟩
        · have hq := hs.right hm
          have hm0 : ¬ m = 0 := by omega
          go_wp2
          have hq2 := hq.2
          refine ⟨?_, by simp [intAt]; omega⟩
          unfold comRel
          exact ⟨rfl, m, n % m, frame_ex rfl, hq.1⟩
      · have hd := Lib.hid (hs.done (.inr (by omega)))
        go_wp2
        go_ret
        exact ⟨by rw [← hd.out]; rfl, rfl⟩
    · have hd := Lib.hid (hs.done (.inl (by omega)))
      go_wp2
      go_ret
      exact ⟨by rw [← hd.out]; rfl, rfl⟩
  · go_wp2
    refine wp_loop (comRel a b w) (fun x _ => (intAt (x.tmps.getD 0 undef)).toNat + (intAt (x.tmps.getD 1 undef)).toNat) ?_ ?_
    · unfold comRel
      exact ⟨rfl, a, b, frame_ex rfl, start _ (.inl rfl) (by omega)⟩
    rintro a' W ⟨rfl, m, n, ⟨u, rfl⟩, hs⟩
    have m0 := hs.m0; have m1 := hs.m1; have n0 := hs.n0; have n1 := hs.n1
    by_cases hm : 0 < m
    · by_cases hn : 0 < n
      · by_cases hmn : n < m
        · have hq := hs.left hn
          have hn0 : ¬ n = 0 := by omega
          go_wp2
          have hq2 := hq.2
          refine ⟨?_, by simp [intAt]; omega⟩
          unfold comRel
          exact ⟨rfl, m % n, n, frame_ex rfl, hq.1⟩
        · have hq := hs.right hm
          have hm0 : ¬ m = 0 := by omega
          go_wp2
          have hq2 := hq.2
          refine ⟨?_, by simp [intAt]; omega⟩
          unfold comRel
          exact ⟨rfl, m, n % m, frame_ex rfl, hq.1⟩
      · have hd := Lib.hid (hs.done (.inr (by omega)))
        go_wp2
        go_ret
        exact ⟨by rw [← hd.out]; rfl, rfl⟩
    · have hd := Lib.hid (hs.done (.inl (by omega)))
      go_wp2
      go_ret
      exact ⟨by rw [← hd.out]; rfl, rfl⟩
set_option maxRecDepth 100000 in
set_option maxHeartbeats 1000000 in
theorem rlowest_w (n d g x y : Int) (w : World) (hg : ¬ g = 0) (e1 : wrap64 (n.tdiv g) = x) (e2 : wrap64 (d.tdiv g) = y)
    (c1 : ∀ w, Calls Tryz.prog 80 #[.int .i64 n, .int .i64 d] w fun e w' => e = .returned (.int .i64 g) ∧ w' = w) :
    Calls Tryz.prog 59 #[.agg #[.int .i64 n, .int .i64 d]] w fun e w' => e = .returned (.agg #[.int .i64 x, .int .i64 y]) ∧ Below w.heap.size w w' := by
  go_enter Tryz.func59, Tryz.ntmps59
  go_wp2_with fail
  refine (c1 _).mono ?_
  rintro e w1 ⟨rfl, rfl⟩
  clear c1
  go_upto_region 2 with (fail)
  refine wp_facts (fun W => Below w.heap.size w W ∧ Blk W w.heap.size #[.int .i64 n, .int .i64 d] 96 ∧ Blk W (w.heap.size + 1) #[.int .i64 0, .int .i64 0] 96) ⟨?_, (by repeat (first | (refine Blk.new' ?_; simp; done) | refine Blk.alloc ?_ _)), (by repeat (first | (refine Blk.new' ?_; simp; done) | refine Blk.alloc ?_ _))⟩ ?_
  · exact (have hUp := (Below.refl w.heap.size w); belowAny)
  rintro W ⟨hW, b1, b2⟩
  refine wp_region_nd 9 18 [] (fun W' => Rex [] W W' ∧ Blk W' w.heap.size #[.int .i64 n, .int .i64 d] 96 ∧ Blk W' (w.heap.size + 1) #[.int .i64 0, .int .i64 0] 96) mixed (by kernel_rfl) rfl ⟨(Rex.refl _ _).drew, b1, b2⟩ (fun w w' ⟨h0, h1, h2⟩ hr => ⟨h0.trans hr, h1.rex hr (by simp <;> omega), h2.rex hr (by simp <;> omega)⟩) (fun c a d v w h => by cases d <;> exact h) ?_
  iterate 9
    apply nd_det (hg := rfl) (hal := rfl)
    · intro a W' hC hE
      obtain ⟨_, k1, k2⟩ := hC
      have k1 := k1.cell
      first
        | (simp [Oper.looksAt, Op.operands, Call.operands, envOf, Det] at hE; simp [go_sem, Act.eval, IntWalk.i64_left, hE, k1, k2, hg, e1, e2]; try rfl)
        | (clear hE; simp [go_sem, Act.eval, IntWalk.i64_left, k1, k2, hg, e1, e2]; try rfl)
  rintro W2 ⟨hR, c1, c2⟩
  simp only [ndFinR, Det, forall_eq]
  intros
  repeat (rename GDet _ _ _ _ => hgd; clear hgd)
  simp only [Act.put, List.setIfInBounds_toArray, List.set_cons_zero, List.set_cons_succ, List.drop_succ_cons, List.drop_zero]
  have k2 := c2.cell
  have k3 := c2.frozen
  go_wp2
  refine bodyPost_ret (v := .agg #[.int .i64 x, .int .i64 y]) (by simp [results, Tryz.results59, go_sem, k2, k3]) rfl ⟨rfl, ?_⟩
  exact (have hUp := (hW.trans (hR.of_priv hW.size)); belowAny)
theorem c_rlowest (n d : Int) (w : World) (hn : -9223372036854775807 ≤ n ∧ n ≤ 9223372036854775807) (hd : 1 ≤ d) (hd' : d ≤ 9223372036854775807) :
    Calls Tryz.prog 59 #[.agg #[.int .i64 n, .int .i64 d]] w fun e w' => e = .returned (.agg #[.int .i64 (n.tdiv (gcdI n d)), .int .i64 (d.tdiv (gcdI n d))]) ∧ Below w.heap.size w w' := by
  have hg := gcdI_pos n hd
  exact rlowest_w n d (gcdI n d) _ _ w (by omega) (tdiv_small n _ ⟨by omega, hn.2⟩ hg) (tdiv_small d _ ⟨by omega, hd'⟩ hg) (fun w => c_common n d w hn ⟨by omega, hd'⟩)
set_option maxRecDepth 100000 in
set_option maxHeartbeats 1000000 in
theorem c_rline (A R n d : Int) (w : World) :
    Calls Tryz.prog 31 #[.agg #[.int .i64 A, .int .i64 R, .int .i64 n, .int .i64 d]] w fun e w' => e = .returned (.bool (isLine A R n d)) ∧ Below w.heap.size w w' := by
  rw [isLine_eq]
  go_enter Tryz.func31, Tryz.ntmps31
  go_upto_region 2 with (fail)
  refine wp_facts (fun W => Below w.heap.size w W ∧ Blk W w.heap.size #[.int .i64 A, .int .i64 R, .int .i64 n, .int .i64 d] 26 ∧ Blk W (w.heap.size + 1) #[.int .i64 n, .int .i64 d] 96) ⟨by exact belowAny, by exact blkAny2, by exact blkAny2⟩ ?_
  rintro W ⟨hW, b1, b2⟩
  refine wp_region_nd 25 34 [] (fun W' => Rex [] W W' ∧ Blk W' w.heap.size #[.int .i64 A, .int .i64 R, .int .i64 n, .int .i64 d] 26 ∧ Blk W' (w.heap.size + 1) #[.int .i64 n, .int .i64 d] 96) mixed (by kernel_rfl) rfl ⟨(Rex.refl _ _).drew, b1, b2⟩ (fun w w' ⟨h0, h1, h2⟩ hr => ⟨h0.trans hr, h1.rex hr (by simp <;> omega), h2.rex hr (by simp <;> omega)⟩) (fun c a d v w h => by cases d <;> exact h) ?_
  iterate 2
    apply nd_det (hg := rfl) (hal := rfl)
    · intro a W' hC hE
      obtain ⟨_, k1, k2⟩ := hC
      have k1 := k1.cell
      have k2 := k2.cell
      first
        | (simp [Oper.looksAt, Op.operands, Call.operands, envOf, Det] at hE; simp [go_sem, Act.eval, IntWalk.i64_left, hE, k1, k2, ite_eq2]; try rfl)
        | (clear hE; simp [go_sem, Act.eval, IntWalk.i64_left, k1, k2, ite_eq2]; try rfl)
  refine nd_callv2 rfl rfl (fun W' hC => c_rback A W') (fun a W' hC hE => ?_) ?_
  · obtain ⟨_, k1, k2⟩ := hC
    have k1 := k1.cell
    have k2 := k2.cell
    first
      | (simp [Oper.looksAt, Op.operands, Call.operands, envOf, Det] at hE; simp [go_sem, Act.eval, IntWalk.i64_left, hE, k1, k2, ite_eq2]; try rfl)
      | (clear hE; simp [go_sem, Act.eval, IntWalk.i64_left, k1, k2, ite_eq2]; try rfl)
  iterate 1
    apply nd_det (hg := rfl) (hal := rfl)
    · intro a W' hC hE
      obtain ⟨_, k1, k2⟩ := hC
      have k1 := k1.cell
      have k2 := k2.cell
      first
        | (simp [Oper.looksAt, Op.operands, Call.operands, envOf, Det] at hE; simp [go_sem, Act.eval, IntWalk.i64_left, hE, k1, k2, ite_eq2]; try rfl)
        | (clear hE; simp [go_sem, Act.eval, IntWalk.i64_left, k1, k2, ite_eq2]; try rfl)
  iterate 1
    apply nd_detg (p := true) (hg := rfl) (hd := rfl) (hal := rfl)
    · intro v W' h
      simp [envOf, Det, GDet] at h
      simp
      exact h
    · intro hp hx a W' hC hE
      obtain ⟨_, k1, k2⟩ := hC
      have k1 := k1.cell
      have k2 := k2.cell
      simp [Oper.looksAt, Op.operands, Call.operands, envOf, Det, GDet, hx] at hE
      simp [go_sem, Act.eval, IntWalk.i64_left, hE, k1, k2, ite_eq2]
      try rfl
  apply nd_callvg2 (p := true) (hg := rfl) (hd := rfl) (hal := rfl)
  · intro v W' h
    simp [envOf, Det] at h
    simp
    exact h
  · intro hp hx W' hC
    exact c_rslope n d W'
  · intro hp hx a W' hC hE
    obtain ⟨_, k1, k2⟩ := hC
    have k1 := k1.cell
    have k2 := k2.cell
    first
      | (simp [Oper.looksAt, Op.operands, Call.operands, envOf, Det, GDet, hx] at hE; simp [go_sem, Act.eval, IntWalk.i64_left, hE, k1, k2, ite_eq2]; try rfl)
      | (clear hE; simp [go_sem, Act.eval, IntWalk.i64_left, k1, k2, ite_eq2]; try rfl)
  apply nd_pick_and (ho := rfl) (hg := rfl)
  · intro v W' h
    simp [envOf, Det] at h
    exact h
  · intro v W' h hx
    simp [envOf, GDet, hx] at h
    exact h
  iterate 1
    apply nd_det (hg := rfl) (hal := rfl)
    · intro a W' hC hE
      obtain ⟨_, k1, k2⟩ := hC
      have k1 := k1.cell
      have k2 := k2.cell
      first
        | (simp [Oper.looksAt, Op.operands, Call.operands, envOf, Det] at hE; simp [go_sem, Act.eval, IntWalk.i64_left, hE, k1, k2, ite_eq2]; try rfl)
        | (clear hE; simp [go_sem, Act.eval, IntWalk.i64_left, k1, k2, ite_eq2]; try rfl)
  iterate 1
    apply nd_detg (p := true) (hg := rfl) (hd := rfl) (hal := rfl)
    · intro v W' h
      simp [envOf, Det, GDet] at h
      simp
      exact h
    · intro hp hx a W' hC hE
      obtain ⟨_, k1, k2⟩ := hC
      have k1 := k1.cell
      have k2 := k2.cell
      simp [Oper.looksAt, Op.operands, Call.operands, envOf, Det, GDet, hx] at hE
      simp [go_sem, Act.eval, IntWalk.i64_left, hE, k1, k2, ite_eq2]
      try rfl
  apply nd_callvg2 (p := true) (hg := rfl) (hd := rfl) (hal := rfl)
  · intro v W' h
    simp [envOf, Det] at h
    simp
    exact h
  · intro hp hx W' hC
    exact (let q := isSlope_bd (show isSlope n d = true by simp at hx; exact hx.2); c_rlowest n d W' ⟨by have := q.1; omega, by have := q.1; omega⟩ q.2.1 (by have := q.2.2; omega))
  · intro hp hx a W' hC hE
    obtain ⟨_, k1, k2⟩ := hC
    have k1 := k1.cell
    have k2 := k2.cell
    first
      | (simp [Oper.looksAt, Op.operands, Call.operands, envOf, Det, GDet, hx] at hE; simp [go_sem, Act.eval, IntWalk.i64_left, hE, k1, k2, ite_eq2]; try rfl)
      | (clear hE; simp [go_sem, Act.eval, IntWalk.i64_left, k1, k2, ite_eq2]; try rfl)
  iterate 2
    apply nd_detg (p := true) (hg := rfl) (hd := rfl) (hal := rfl)
    · intro v W' h
      simp [envOf, Det, GDet] at h
      simp
      exact h
    · intro hp hx a W' hC hE
      obtain ⟨_, k1, k2⟩ := hC
      have k1 := k1.cell
      have k2 := k2.cell
      simp [Oper.looksAt, Op.operands, Call.operands, envOf, Det, GDet, hx] at hE
      simp [go_sem, Act.eval, IntWalk.i64_left, hE, k1, k2, ite_eq2]
      try rfl
  apply nd_pick_and (ho := rfl) (hg := rfl)
  · intro v W' h
    simp [envOf, Det] at h
    exact h
  · intro v W' h hx
    simp [envOf, GDet, hx] at h
    exact h
  iterate 1
    apply nd_det (hg := rfl) (hal := rfl)
    · intro a W' hC hE
      obtain ⟨_, k1, k2⟩ := hC
      have k1 := k1.cell
      have k2 := k2.cell
      first
        | (simp [Oper.looksAt, Op.operands, Call.operands, envOf, Det] at hE; simp [go_sem, Act.eval, IntWalk.i64_left, hE, k1, k2, ite_eq2]; try rfl)
        | (clear hE; simp [go_sem, Act.eval, IntWalk.i64_left, k1, k2, ite_eq2]; try rfl)
  iterate 3
    apply nd_detg (p := true) (hg := rfl) (hd := rfl) (hal := rfl)
    · intro v W' h
      simp [envOf, Det, GDet] at h
      simp
      exact h
    · intro hp hx a W' hC hE
      obtain ⟨_, k1, k2⟩ := hC
      have k1 := k1.cell
      have k2 := k2.cell
      simp [Oper.looksAt, Op.operands, Call.operands, envOf, Det, GDet, hx] at hE
      simp [go_sem, Act.eval, IntWalk.i64_left, hE, k1, k2, ite_eq2]
      try rfl
  apply nd_pick_and (ho := rfl) (hg := rfl)
  · intro v W' h
    simp [envOf, Det] at h
    exact h
  · intro v W' h hx
    simp [envOf, GDet, hx] at h
    exact h
  iterate 1
    apply nd_det (hg := rfl) (hal := rfl)
    · intro a W' hC hE
      obtain ⟨_, k1, k2⟩ := hC
      have k1 := k1.cell
      have k2 := k2.cell
      first
        | (simp [Oper.looksAt, Op.operands, Call.operands, envOf, Det] at hE; simp [go_sem, Act.eval, IntWalk.i64_left, hE, k1, k2, ite_eq2]; try rfl)
        | (clear hE; simp [go_sem, Act.eval, IntWalk.i64_left, k1, k2, ite_eq2]; try rfl)
  iterate 5
    apply nd_detg (p := true) (hg := rfl) (hd := rfl) (hal := rfl)
    · intro v W' h
      simp [envOf, Det, GDet] at h
      simp
      exact h
    · intro hp hx a W' hC hE
      obtain ⟨_, k1, k2⟩ := hC
      have k1 := k1.cell
      have k2 := k2.cell
      simp [Oper.looksAt, Op.operands, Call.operands, envOf, Det, GDet, hx] at hE
      simp [go_sem, Act.eval, IntWalk.i64_left, hE, k1, k2, ite_eq2]
      try rfl
  apply nd_pick_and (ho := rfl) (hg := rfl)
  · intro v W' h
    simp [envOf, Det] at h
    exact h
  · intro v W' h hx
    simp [envOf, GDet, hx] at h
    exact h
  rintro W2 ⟨hR, c1, c2⟩
  simp only [ndFinR, Det, forall_eq]
  intros
  repeat (rename GDet _ _ _ _ => hgd; clear hgd)
  simp only [Act.put, List.setIfInBounds_toArray, List.set_cons_zero, List.set_cons_succ, List.drop_succ_cons, List.drop_zero]
  go_wp2
  go_ret
  exact ⟨rfl, hW.trans (hR.of_priv hW.size)⟩
end Go.Proofs.YtbanjolokkghdaaGreatDoor
namespace Go.Proofs.YtbanjolokkghdaaGreatDoor
open Go.RowKit
def NI (z : Int) : Spec := fun v w => NumIs w v z
theorem NI.closed (z : Int) : Closed [] (NI z) := fun _ _ _ hr h => NumIs.rex h hr rfl
theorem divN {m n Q R : Nat} (hn : 0 < n) (hQ : m / n = Q) (hR : m % n = R) : (m : Int) / (n : Int) = Q ∧ (m : Int) % (n : Int) = R := by
  subst hQ hR; exact ⟨by simp, by simp⟩
theorem divN0 {m n Q : Nat} (hn : 0 < n) (hQ : m / n = Q) (hR : m % n = 0) : (-(m : Int)) / (n : Int) = -(Q : Int) ∧ (-(m : Int)) % (n : Int) = 0 := by
  have h := Nat.div_add_mod m n
  rw [hQ, hR] at h
  refine (Int.ediv_emod_unique (by omega)).2 ⟨?_, by omega, by omega⟩
  have : ((n * Q : Nat) : Int) = m := by omega
  rw [Int.natCast_mul] at this
  rw [Int.mul_neg]; omega
theorem divN1 {m n Q R : Nat} (hn : 0 < n) (hQ : m / n = Q) (hR : m % n = R) (h0 : 0 < R) : (-(m : Int)) / (n : Int) = -((Q + 1 : Nat) : Int) ∧ (-(m : Int)) % (n : Int) = ((n - R : Nat) : Int) := by
  have h := Nat.div_add_mod m n
  have hl := Nat.mod_lt m hn
  rw [hQ, hR] at h
  rw [hR] at hl
  refine (Int.ediv_emod_unique (by omega)).2 ⟨?_, by omega, by omega⟩
  have : ((n * Q : Nat) : Int) + R = m := by omega
  rw [Int.natCast_mul] at this
  rw [Int.mul_neg, show ((Q + 1 : Nat) : Int) = (Q : Int) + 1 by omega, Int.mul_add]
  omega
theorem c_refDiv (va vb : Value) (x y : Int) (w : World) (ha : NumIs w va x) (hb : NumIs w vb y) (hx : x.natAbs < 2 ^ 800) (hy0 : 0 < y) (hy : y.natAbs < 2 ^ 800) :
    Calls Tryz.prog 81 #[va, vb] w fun e w' => ∃ v1 v2, e = .returned (.tuple #[v1, v2]) ∧ NumIs w' v1 (x / y) ∧ NumIs w' v2 (x % y) ∧ Below w.heap.size w w' := by
  obtain ⟨pa, la, ca, rfl, ha'⟩ := num_shape ha
  obtain ⟨pb, lb, cb, rfl, hb'⟩ := num_shape hb
  rw [decide_eq_false (show ¬ y < 0 by omega)]
  obtain ⟨n, rfl⟩ : ∃ n : Nat, y = (n : Int) := ⟨y.toNat, by omega⟩
  have hn0 : 0 < n := by omega
  rw [Int.natAbs_natCast] at hb' hy
  obtain ⟨Q, hQ⟩ : ∃ Q, x.natAbs / n = Q := ⟨_, rfl⟩
  obtain ⟨R, hR⟩ : ∃ R, x.natAbs % n = R := ⟨_, rfl⟩
  by_cases hneg : x < 0
  · rw [decide_eq_true hneg]
    obtain ⟨m, rfl⟩ : ∃ m : Nat, x = -(m : Int) := ⟨x.natAbs, by omega⟩
    rw [Int.natAbs_neg, Int.natAbs_natCast] at ha' hx hQ hR
    rcases Nat.eq_zero_or_pos R with h0 | h0
    · refine (div_zero pa pb la ca lb cb m n Q R w ha' hb' hx (Lib.hid hQ) (Lib.hid hR) hn0 hy h0).mono ?_
      rintro e w' ⟨s1, s2, rfl, h1, h2, hB⟩
      subst h0
      obtain ⟨e1, e2⟩ := divN0 hn0 hQ hR
      rw [e1, e2]
      refine ⟨_, _, rfl, num_made h1 (by omega) ?_, ⟨s2, rfl, h2⟩, hB⟩
      rw [Bool.true_and]; exact decide_eq_decide.2 ⟨fun h => by omega, fun h => by omega⟩
    · have hl := Nat.mod_lt m hn0
      rw [hR] at hl
      have hQm : Q ≤ m := by rw [← hQ]; exact Nat.div_le_self _ _
      have big := pow_lt2 800 900 (by omega)
      refine (div_rest pa pb la ca lb cb m n Q R w ha' hb' hx (Lib.hid hQ) (Lib.hid hR) hn0 hy h0 (by omega) (by omega) (by omega)).mono ?_
      rintro e w' ⟨s1, s2, rfl, h1, h2, hB⟩
      obtain ⟨e1, e2⟩ := divN1 hn0 hQ hR h0
      rw [e1, e2]
      refine ⟨_, _, rfl, ⟨s1, by rw [decide_eq_true (show -((Q + 1 : Nat) : Int) < 0 by omega)], by rw [Int.natAbs_neg, Int.natAbs_natCast]; exact h1⟩, ⟨s2, by rw [decide_eq_false (show ¬ ((n - R : Nat) : Int) < 0 by omega)], by rw [Int.natAbs_natCast]; exact h2⟩, hB⟩
  · rw [decide_eq_false hneg]
    obtain ⟨m, rfl⟩ : ∃ m : Nat, x = (m : Int) := ⟨x.toNat, by omega⟩
    rw [Int.natAbs_natCast] at ha' hx hQ hR
    refine (div_plain false pa pb la ca lb cb m n Q R w ha' hb' hx (Lib.hid hQ) (Lib.hid hR) hn0 hy rfl).mono ?_
    rintro e w' ⟨s1, s2, rfl, h1, h2, hB⟩
    obtain ⟨e1, e2⟩ := divN hn0 hQ hR
    rw [e1, e2]
    refine ⟨_, _, rfl, ⟨s1, by rw [decide_eq_false (show ¬ (Q : Int) < 0 by omega)]; rfl, by rw [Int.natAbs_natCast]; exact h1⟩, ⟨s2, by rw [decide_eq_false (show ¬ (R : Int) < 0 by omega)], by rw [Int.natAbs_natCast]; exact h2⟩, hB⟩
set_option maxRecDepth 100000 in
set_option maxHeartbeats 4000000 in
theorem rtimes_w (A R n d t : Int) (w : World) (hn : -9223372036854775808 ≤ n ∧ n ≤ 9223372036854775807) (ht : -9223372036854775808 ≤ t ∧ t ≤ 9223372036854775807) (hRR : -9223372036854775808 ≤ R ∧ R ≤ 9223372036854775807) (hA : -9223372036854775808 ≤ A ∧ A ≤ 9223372036854775807) (hd : -9223372036854775808 ≤ d ∧ d ≤ 9223372036854775807)
    (hn4 : n.natAbs < 2 ^ 400) (ht4 : t.natAbs < 2 ^ 400) (hA4 : A.natAbs < 2 ^ 400) (hd4 : d.natAbs < 2 ^ 400) (hnt9 : (n * t).natAbs < 2 ^ 900) (hR9 : R.natAbs < 2 ^ 900) (hs9 : (n * t + R).natAbs < 2 ^ 900) (hAd9 : (A * d).natAbs < 2 ^ 900) :
    Calls Tryz.prog 82 #[.agg #[.int .i64 A, .int .i64 R, .int .i64 n, .int .i64 d], .int .i64 t] w fun e w' => ∃ v, e = .returned v ∧ NumIs w' v (n * t + R + A * d) ∧ Below w.heap.size w w' := by
  go_enter Tryz.func82, Tryz.ntmps82
  go_upto_region 1 with (fail)
  refine wp_cutB w (Bc w.heap.size #[.int .i64 A, .int .i64 R, .int .i64 n, .int .i64 d] 26 <| Bc (w.heap.size + 1) #[.bool false, .slice none 0 0] 140 <| Bz) ?_
  rintro W1 hW z2 ⟨⟨b1, yb1, k1, f1⟩, ⟨b2, yb2, k2, f2⟩, -⟩
  refine wp_region_nd 11 25 [] (fun W' => Rex [] W1 W' ∧ Blk W' w.heap.size #[.int .i64 A, .int .i64 R, .int .i64 n, .int .i64 d] 26 ∧ Blk W' (w.heap.size + 1) #[.bool false, .slice none 0 0] 140) mixed (by kernel_rfl) rfl ⟨(Rex.refl _ _).drew, b1, b2⟩ (fun w w' ⟨h0, h1, h2⟩ hr => ⟨h0.trans hr, h1.rex hr (by simp <;> omega), h2.rex hr (by simp <;> omega)⟩) (fun c a d v w h => by cases d <;> exact h) ?_
  iterate 2
    apply nd_det (hg := rfl) (hal := rfl)
    · intro a W' hC hE
      obtain ⟨_, k1, k2⟩ := hC
      have k1 := k1.cell
      first
        | (simp [Oper.looksAt, Op.operands, Call.operands, envOf, Det] at hE; simp [go_sem, Act.eval, IntWalk.i64_left, hE, k1, k2]; try rfl)
        | (clear hE; simp [go_sem, Act.eval, IntWalk.i64_left, k1, k2]; try rfl)
  apply nd_call (NI (n)) (hg := rfl) (hal := rfl)
  · exact NI.closed _
  · intro a W' hC hE
    simp [Oper.looksAt, Op.operands, Call.operands, envOf, Det] at hE
    refine ⟨_, _, ?_, (c_refInt n W' hn.1 hn.2).mono ?_⟩
    · simp [go_sem, Act.eval, hE]
      try rfl
    · rintro e w' ⟨v, rfl, hB, hR⟩
      exact ⟨_, rfl, hR, hB⟩
  iterate 1
    apply nd_det (hg := rfl) (hal := rfl)
    · intro a W' hC hE
      obtain ⟨_, k1, k2⟩ := hC
      have k1 := k1.cell
      first
        | (simp [Oper.looksAt, Op.operands, Call.operands, envOf, Det] at hE; simp [go_sem, Act.eval, IntWalk.i64_left, hE, k1, k2]; try rfl)
        | (clear hE; simp [go_sem, Act.eval, IntWalk.i64_left, k1, k2]; try rfl)
  apply nd_call (NI (t)) (hg := rfl) (hal := rfl)
  · exact NI.closed _
  · intro a W' hC hE
    simp [Oper.looksAt, Op.operands, Call.operands, envOf, Det] at hE
    refine ⟨_, _, ?_, (c_refInt t W' ht.1 ht.2).mono ?_⟩
    · simp [go_sem, Act.eval, hE]
      try rfl
    · rintro e w' ⟨v, rfl, hB, hR⟩
      exact ⟨_, rfl, hR, hB⟩
  apply nd_call (NI (n * t)) (hg := rfl) (hal := rfl)
  · exact NI.closed _
  · intro a W' hC hE
    simp [Oper.looksAt, Op.operands, Call.operands, envOf, Det] at hE
    refine ⟨_, _, ?_, (c_refMul _ _ n t W' hE.1 hE.2 hn4 ht4).mono ?_⟩
    · simp [go_sem, Act.eval]
      try rfl
    · rintro e w' ⟨v, rfl, hB, hR⟩
      exact ⟨_, rfl, hR, hB⟩
  iterate 2
    apply nd_det (hg := rfl) (hal := rfl)
    · intro a W' hC hE
      obtain ⟨_, k1, k2⟩ := hC
      have k1 := k1.cell
      first
        | (simp [Oper.looksAt, Op.operands, Call.operands, envOf, Det] at hE; simp [go_sem, Act.eval, IntWalk.i64_left, hE, k1, k2]; try rfl)
        | (clear hE; simp [go_sem, Act.eval, IntWalk.i64_left, k1, k2]; try rfl)
  apply nd_call (NI (R)) (hg := rfl) (hal := rfl)
  · exact NI.closed _
  · intro a W' hC hE
    simp [Oper.looksAt, Op.operands, Call.operands, envOf, Det] at hE
    refine ⟨_, _, ?_, (c_refInt R W' hRR.1 hRR.2).mono ?_⟩
    · simp [go_sem, Act.eval, hE]
      try rfl
    · rintro e w' ⟨v, rfl, hB, hR⟩
      exact ⟨_, rfl, hR, hB⟩
  apply nd_call (NI (n * t + R)) (hg := rfl) (hal := rfl)
  · exact NI.closed _
  · intro a W' hC hE
    simp [Oper.looksAt, Op.operands, Call.operands, envOf, Det] at hE
    refine ⟨_, _, ?_, (c_refAdd _ _ (n * t) R W' hE.1 hE.2 hnt9 hR9).mono ?_⟩
    · simp [go_sem, Act.eval]
      try rfl
    · rintro e w' ⟨v, rfl, hB, hR⟩
      exact ⟨_, rfl, hR, hB⟩
  apply nd_alloc W1.heap.size #[.bool false, .slice none 0 0] 140 rfl rfl
  · exact fun W' hC => hC.1.size
  · simp [others] <;> omega
  · intro w; kernel_rfl
  rintro W2 ⟨hR, d1, d2⟩
  simp only [ndFinR, Det, forall_eq]
  intros
  repeat (rename GDet _ _ _ _ => hgd; clear hgd)
  simp only [Act.put, List.setIfInBounds_toArray, List.set_cons_zero, List.set_cons_succ, List.drop_succ_cons, List.drop_zero]
  clear b1 b2
  have b1 := d1
  have b2 := d2
  clear d1 d2
  replace hW := hW.trans (hR.of_priv hW.size)
  clear hR
  obtain ⟨o3, rfl, hg3, b3⟩ := ‹NewVar _ _ _ _ _›
  rename NI (n * t + R) _ _ => hq
  obtain ⟨p1, l1, k1', rfl, hq1⟩ := num_shape hq
  replace hq1 := Lib.hid hq1
  clear hq
  have z9 := hW.size
  have z10 := b1.lt
  have z11 := b2.lt
  have z12 := b3.lt
  clear k1 f1 k2 f2
  have k1 := b1.cell
  have f1 := b1.frozen
  have k2 := b2.cell
  have f2 := b2.frozen
  have k3 := b3.cell
  have f3 := b3.frozen
  have hq2 := Lib.hid (hq1.out.store b3 (.bool (decide (n * t + R < 0))) (.slice p1 l1 k1'))
  go_upto_region 2 with (fail)
  clear k1 f1 k2 f2 k3 f3
  refine wp_cutB w (Bc w.heap.size #[.int .i64 A, .int .i64 R, .int .i64 n, .int .i64 d] 26 <| Bc (w.heap.size + 1) #[.bool false, .slice none 0 0] 140 <| Bc o3 #[.bool (decide (n * t + R < 0)), .slice p1 l1 k1'] 140 <| Rc (fun W' => Bits W' (.slice p1 l1 k1') (n * t + R).natAbs) <| Bz) ?_ (hI := by exact belowAny) (hR := (Bc.mk (by exact blkAny2) <| Bc.mk (by exact blkAny2) <| Bc.mk (by exact blkAny2) <| Rc.mk (by exact hq2.out) <| trivial))
  clear b1 b2 b3 hW
  rintro W3 hW z4 ⟨⟨b1, yb1, k1, f1⟩, ⟨b2, yb2, k2, f2⟩, ⟨b3, yb3, k3, f3⟩, b4, -⟩
  refine wp_region_nd 9 25 [] (fun W' => Rex [] W3 W' ∧ Blk W' w.heap.size #[.int .i64 A, .int .i64 R, .int .i64 n, .int .i64 d] 26 ∧ Blk W' (w.heap.size + 1) #[.bool false, .slice none 0 0] 140 ∧ Blk W' o3 #[.bool (decide (n * t + R < 0)), .slice p1 l1 k1'] 140 ∧ Bits W' (.slice p1 l1 k1') (n * t + R).natAbs) mixed (by kernel_rfl) rfl ⟨(Rex.refl _ _).drew, b1, b2, b3, b4.drew⟩ (fun w w' ⟨h0, h1, h2, h3, h4⟩ hr => ⟨h0.trans hr, h1.rex hr (by simp <;> omega), h2.rex hr (by simp <;> omega), h3.rex hr (by simp <;> omega), h4.rex hr (by simp <;> omega)⟩) (fun c a d v w h => by cases d <;> exact h) ?_
  iterate 3
    apply nd_det (hg := rfl) (hal := rfl)
    · intro a W' hC hE
      obtain ⟨_, k1, k2, k3, k4⟩ := hC
      have k1 := k1.cell
      have k3 := k3.cell
      first
        | (simp [Oper.looksAt, Op.operands, Call.operands, envOf, Det] at hE; simp [go_sem, Act.eval, IntWalk.i64_left, hE, k1, k2, k3, k4]; try rfl)
        | (clear hE; simp [go_sem, Act.eval, IntWalk.i64_left, k1, k2, k3, k4]; try rfl)
  apply nd_call (NI (A)) (hg := rfl) (hal := rfl)
  · exact NI.closed _
  · intro a W' hC hE
    simp [Oper.looksAt, Op.operands, Call.operands, envOf, Det] at hE
    refine ⟨_, _, ?_, (c_refInt A W' hA.1 hA.2).mono ?_⟩
    · simp [go_sem, Act.eval, hE]
      try rfl
    · rintro e w' ⟨v, rfl, hB, hR⟩
      exact ⟨_, rfl, hR, hB⟩
  iterate 2
    apply nd_det (hg := rfl) (hal := rfl)
    · intro a W' hC hE
      obtain ⟨_, k1, k2, k3, k4⟩ := hC
      have k1 := k1.cell
      have k3 := k3.cell
      first
        | (simp [Oper.looksAt, Op.operands, Call.operands, envOf, Det] at hE; simp [go_sem, Act.eval, IntWalk.i64_left, hE, k1, k2, k3, k4]; try rfl)
        | (clear hE; simp [go_sem, Act.eval, IntWalk.i64_left, k1, k2, k3, k4]; try rfl)
  apply nd_call (NI (d)) (hg := rfl) (hal := rfl)
  · exact NI.closed _
  · intro a W' hC hE
    simp [Oper.looksAt, Op.operands, Call.operands, envOf, Det] at hE
    refine ⟨_, _, ?_, (c_refInt d W' hd.1 hd.2).mono ?_⟩
    · simp [go_sem, Act.eval, hE]
      try rfl
    · rintro e w' ⟨v, rfl, hB, hR⟩
      exact ⟨_, rfl, hR, hB⟩
  apply nd_call (NI (A * d)) (hg := rfl) (hal := rfl)
  · exact NI.closed _
  · intro a W' hC hE
    simp [Oper.looksAt, Op.operands, Call.operands, envOf, Det] at hE
    refine ⟨_, _, ?_, (c_refMul _ _ A d W' hE.1 hE.2 hA4 hd4).mono ?_⟩
    · simp [go_sem, Act.eval]
      try rfl
    · rintro e w' ⟨v, rfl, hB, hR⟩
      exact ⟨_, rfl, hR, hB⟩
  apply nd_call (NI (n * t + R + A * d)) (hg := rfl) (hal := rfl)
  · exact NI.closed _
  · intro a W' hC hE
    simp [Oper.looksAt, Op.operands, Call.operands, envOf, Det] at hE
    refine ⟨_, _, ?_, (c_refAdd (.agg #[.bool (decide (n * t + R < 0)), .slice p1 l1 k1']) _ (n * t + R) (A * d) W' ⟨_, rfl, hC.2.2.2.2⟩ hE.2 hs9 hAd9).mono ?_⟩
    · simp [go_sem, Act.eval, hE.1]
      try rfl
    · rintro e w' ⟨v, rfl, hB, hR⟩
      exact ⟨_, rfl, hR, hB⟩
  rintro W4 ⟨hR, d1, d2, d3, d4⟩
  simp only [ndFinR, Det, forall_eq]
  intros
  repeat (rename GDet _ _ _ _ => hgd; clear hgd)
  simp only [Act.put, List.setIfInBounds_toArray, List.set_cons_zero, List.set_cons_succ, List.drop_succ_cons, List.drop_zero]
  clear b1 b2 b3 b4
  have b1 := d1
  have b2 := d2
  have b3 := d3
  clear d1 d2 d3 d4
  replace hW := hW.trans (hR.of_priv hW.size)
  clear hR
  rename NI (n * t + R + A * d) _ _ => hq
  obtain ⟨p2, l2, k2', rfl, hq3⟩ := num_shape hq
  replace hq3 := Lib.hid hq3
  clear hq
  clear k1 f1 k2 f2 k3 f3
  have k1 := b1.cell
  have f1 := b1.frozen
  have k2 := b2.cell
  have f2 := b2.frozen
  have k3 := b3.cell
  have f3 := b3.frozen
  have y_1 := b1.lt
  have y_2 := b2.lt
  have y_3 := b3.lt
  obtain ⟨B, hB⟩ : ∃ B, B = (decide (n * t + R + A * d < 0)) := ⟨_, rfl⟩
  rw [← hB]
  replace hB := Lib.hid hB
  go_wp2
  refine bodyPost_ret (v := .agg #[.bool B, .slice p2 l2 k2']) (by simp [results, Tryz.results82, go_sem, k1, f1, k2, f2, k3, f3, y_1, y_2, y_3]) rfl ⟨_, rfl, ⟨_, by rw [hB.out], ?_⟩, by exact belowAny⟩
  have hS := hq3.out.store b2 (.bool B) (.slice p2 l2 k2')
  simpa using hS
end Go.Proofs.YtbanjolokkghdaaGreatDoor
