/- Parts of the proof that follows: The references' numbers: Add. | The references' numbers: Value. | The references' numbers: Wide. | The references' numbers: Div. | The references' numbers: Div, below 0 with a rest. -/
import Derived.Test.YtbanjolokkghdaaGreatDoorMz16
set_option maxRecDepth 100000
set_option maxHeartbeats 8000000
set_option linter.unusedSimpArgs false
set_option linter.unusedVariables false
namespace Go.Proofs.YtbanjolokkghdaaGreatDoor
open Go.RowKit
attribute [local simp] Oper.looksAt Op.operands Call.operands envOf Det GDet
theorem add_same (sa : Bool) (pa pb : Option Addr) (la ca lb cb m n : Nat) (w : World) (ha : Bits w (.slice pa la ca) m) (hb : Bits w (.slice pb lb cb) n) (hm : m < 2 ^ 900) (hn : n < 2 ^ 900) :
  Calls Tryz.prog 120 #[.agg #[.bool sa, .slice pa la ca], .agg #[.bool (sa), .slice pb lb cb]] w fun e w' => ∃ sz, e = .returned (.agg #[.bool ((sa) && decide (0 < m + n)), sz]) /\ Bits w' sz (m + n) /\ Below w.heap.size w w' := by
 go_enter Tryz.func120, Tryz.ntmps120
 go_upto_region 2 with (fail)
 refine wp_facts (fun W' => Below w.heap.size w W' /\ Blk W' w.heap.size #[.bool sa, .slice pa la ca] 140 /\ Blk W' (w.heap.size + 1) #[.bool sa, .slice pb lb cb] 140 /\ Blk W' (w.heap.size + 2) #[.bool false, .slice none 0 0] 140 /\ Bits W' (.slice pa la ca) m /\ Bits W' (.slice pb lb cb) n) ⟨by exact belowAny, by exact blkAny, by exact blkAny, by exact blkAny, by exact ha.below belowAny, by exact hb.below belowAny⟩ ?_
 rintro W1 ⟨hW, b1, b2, b3, b4, b5⟩
 have z2 := hW.size
 have z3 := b1.lt
 have z4 := b2.lt
 have z5 := b3.lt
 refine wp_region_nd 8 39 [] (fun W' => Rex [] W1 W' /\ Blk W' w.heap.size #[.bool sa, .slice pa la ca] 140 /\ Blk W' (w.heap.size + 1) #[.bool sa, .slice pb lb cb] 140 /\ Blk W' (w.heap.size + 2) #[.bool false, .slice none 0 0] 140 /\ Bits W' (.slice pa la ca) m /\ Bits W' (.slice pb lb cb) n) mixed (by kernel_rfl) rfl ⟨(Rex.refl _ _).drew, b1, b2, b3, b4.drew, b5.drew⟩ (fun w w' ⟨h0, h1, h2, h3, h4, h5⟩ hr => ⟨h0.trans hr, h1.rex hr (by simp <;> omega), h2.rex hr (by simp <;> omega), h3.rex hr (by simp <;> omega), h4.rex hr (by simp <;> omega), h5.rex hr (by simp <;> omega)⟩) (fun c a d v w h => by cases d <;> exact h) ?_
 iterate 6
  apply nd_det (hg := rfl) (hal := rfl)
  ·intro a W' hC hE
   obtain ⟨_, k1, k2, k3, k4, k5⟩ := hC
   have k1 := k1.cell
   have k2 := k2.cell
   first
    | (simp at hE; simp [go_sem, Act.eval, IntWalk.i64_left, hE, k1, k2, k3, k4, k5]; try rfl)
    | (clear hE; simp [go_sem, Act.eval, IntWalk.i64_left, k1, k2, k3, k4, k5]; try rfl)
 apply nd_call (BS (m + n)) (hg := rfl) (hal := rfl)
 ·exact BS.closed _
 ·intro a W' hC hE
  refine ⟨_, _, ?_, (c_plus (.slice pa la ca) (.slice pb lb cb) m n W' hC.2.2.2.2.1 hC.2.2.2.2.2 hm hn).mono ?_⟩
  ·simp at hE
   simp [go_sem, Act.eval, hE]
   try rfl
  ·rintro e w' ⟨v, rfl, hB, hR⟩
   exact ⟨_, rfl, hR, hB⟩
 apply nd_call (NS sa (m + n)) (hg := rfl) (hal := rfl)
 ·exact NS.closed _ _
 ·intro a W' hC hE
  simp at hE
  refine ⟨_, _, ?_, (c_refmade sa _ (m + n) W' hE.2).mono ?_⟩
  ·simp [go_sem, Act.eval, hE.1]
   try rfl
  ·rintro e w' ⟨rfl, hR⟩
   have hb := BS.below hE.2 hR
   exact ⟨_, rfl, hR, _, rfl, hb⟩
 rintro W2 ⟨hR, d1, d2, d3, d4, d5⟩
 simp only [ndFinR, Det, forall_eq]
 intros
 repeat (rename GDet _ _ _ _ => hgd; clear hgd)
 simp only [Act.put, List.setIfInBounds_toArray, List.set_cons_zero, List.set_cons_succ, List.drop_succ_cons, List.drop_zero]
 clear b1 b2 b3 b4 b5
 have b1 := d1
 have b2 := d2
 have b3 := d3
 clear d1 d2 d3 d4 d5
 obtain ⟨sz, rfl, hq⟩ := ‹NS _ _ _ _›
 obtain ⟨p1, l1, k1', rfl, _, hl1⟩ := bits_len hq
 replace hq := Lib.hid hq
 replace hW := hW.trans (hR.of_priv hW.size)
 clear hR
 have k1 := b1.cell
 have f1 := b1.frozen
 have k2 := b2.cell
 have f2 := b2.frozen
 have k3 := b3.cell
 have f3 := b3.frozen
 have y_1 := b1.lt
 have y_2 := b2.lt
 have y_3 := b3.lt
 obtain ⟨B, hB⟩ : ∃ B, B = (sa && decide (0 < (m + n))) := ⟨_, rfl⟩
 rw [<- hB]
 replace hB := Lib.hid hB
 go_wp2
 refine bodyPost_ret (v := .agg #[.bool B, .slice p1 l1.length k1']) (by simp [results, Tryz.results120, go_sem, k1, f1, k2, f2, k3, f3, y_1, y_2, y_3]) rfl ⟨_, by rw [hB.out], ?_, by exact belowAny⟩
 have hS := hq.out.store b3 (.bool B) (.slice p1 l1.length k1')
 simpa using hS
theorem add_less (sa : Bool) (pa pb : Option Addr) (la ca lb cb m n : Nat) (w : World) (ha : Bits w (.slice pa la ca) m) (hb : Bits w (.slice pb lb cb) n) (hm : m < 2 ^ 900) (hn : n < 2 ^ 900) (hle : m <= n) (e1 : decide (m < n) = true) :
  Calls Tryz.prog 120 #[.agg #[.bool sa, .slice pa la ca], .agg #[.bool (!sa), .slice pb lb cb]] w fun e w' => ∃ sz, e = .returned (.agg #[.bool ((!sa) && decide (0 < n - m)), sz]) /\ Bits w' sz (n - m) /\ Below w.heap.size w w' := by
 have H_e1 := Lib.hid e1
 clear e1
 go_enter Tryz.func120, Tryz.ntmps120
 go_wp2_with fail
 refine (c_less (.slice pa la ca) (.slice pb lb cb) m n _ (ha.below belowAny) (hb.below belowAny) hm hn).mono ?_
 rintro e w1 ⟨rfl, hb1⟩
 have z2 := hb1.size
 try simp at z2
 have b1 : Blk w1 w.heap.size #[.bool sa, .slice pa la ca] 140 := blkAny
 have b2 : Blk w1 (w.heap.size + 1) #[.bool (!sa), .slice pb lb cb] 140 := blkAny
 have b3 : Blk w1 (w.heap.size + 2) #[.bool false, .slice none 0 0] 140 := blkAny
 have hW : Below w.heap.size w w1 := belowAny
 have z3 := b1.lt
 have z4 := b2.lt
 have z5 := b3.lt
 clear hb1
 have k1 := b1.cell
 have f1 := b1.frozen
 have k2 := b2.cell
 have f2 := b2.frozen
 have k3 := b3.cell
 have f3 := b3.frozen
 rw [H_e1.out]
 go_upto_region 4 with (fail)
 clear k1 f1 k2 f2 k3 f3
 refine wp_facts (fun W' => Below w.heap.size w W' /\ Blk W' w.heap.size #[.bool sa, .slice pa la ca] 140 /\ Blk W' (w.heap.size + 1) #[.bool (!sa), .slice pb lb cb] 140 /\ Blk W' (w.heap.size + 2) #[.bool false, .slice none 0 0] 140 /\ Bits W' (.slice pa la ca) m /\ Bits W' (.slice pb lb cb) n) ⟨by exact belowAny, by exact blkAny, by exact blkAny, by exact blkAny, by exact ha.below belowAny, by exact hb.below belowAny⟩ ?_
 clear b1 b2 b3 hW
 rintro W6 ⟨hW, b1, b2, b3, b4, b5⟩
 have z7 := hW.size
 have z8 := b1.lt
 have z9 := b2.lt
 have z10 := b3.lt
 refine wp_region_nd 8 39 [] (fun W' => Rex [] W6 W' /\ Blk W' w.heap.size #[.bool sa, .slice pa la ca] 140 /\ Blk W' (w.heap.size + 1) #[.bool (!sa), .slice pb lb cb] 140 /\ Blk W' (w.heap.size + 2) #[.bool false, .slice none 0 0] 140 /\ Bits W' (.slice pa la ca) m /\ Bits W' (.slice pb lb cb) n) mixed (by kernel_rfl) rfl ⟨(Rex.refl _ _).drew, b1, b2, b3, b4.drew, b5.drew⟩ (fun w w' ⟨h0, h1, h2, h3, h4, h5⟩ hr => ⟨h0.trans hr, h1.rex hr (by simp <;> omega), h2.rex hr (by simp <;> omega), h3.rex hr (by simp <;> omega), h4.rex hr (by simp <;> omega), h5.rex hr (by simp <;> omega)⟩) (fun c a d v w h => by cases d <;> exact h) ?_
 iterate 6
  apply nd_det (hg := rfl) (hal := rfl)
  ·intro a W' hC hE
   obtain ⟨_, k1, k2, k3, k4, k5⟩ := hC
   have k1 := k1.cell
   have k2 := k2.cell
   first
    | (simp at hE; simp [go_sem, Act.eval, IntWalk.i64_left, hE, k1, k2, k3, k4, k5]; try rfl)
    | (clear hE; simp [go_sem, Act.eval, IntWalk.i64_left, k1, k2, k3, k4, k5]; try rfl)
 apply nd_call (BS (n - m)) (hg := rfl) (hal := rfl)
 ·exact BS.closed _
 ·intro a W' hC hE
  refine ⟨_, _, ?_, (c_minus (.slice pb lb cb) (.slice pa la ca) n m W' hC.2.2.2.2.2 hC.2.2.2.2.1 hn hle).mono ?_⟩
  ·simp at hE
   simp [go_sem, Act.eval, hE]
   try rfl
  ·rintro e w' ⟨v, rfl, hB, hR⟩
   exact ⟨_, rfl, hR, hB⟩
 apply nd_call (NS (!sa) (n - m)) (hg := rfl) (hal := rfl)
 ·exact NS.closed _ _
 ·intro a W' hC hE
  simp at hE
  refine ⟨_, _, ?_, (c_refmade (!sa) _ (n - m) W' hE.2).mono ?_⟩
  ·simp [go_sem, Act.eval, hE.1]
   try rfl
  ·rintro e w' ⟨rfl, hR⟩
   have hb := BS.below hE.2 hR
   exact ⟨_, rfl, hR, _, rfl, hb⟩
 rintro W2 ⟨hR, d1, d2, d3, d4, d5⟩
 simp only [ndFinR, Det, forall_eq]
 intros
 repeat (rename GDet _ _ _ _ => hgd; clear hgd)
 simp only [Act.put, List.setIfInBounds_toArray, List.set_cons_zero, List.set_cons_succ, List.drop_succ_cons, List.drop_zero]
 clear b1 b2 b3 b4 b5
 have b1 := d1
 have b2 := d2
 have b3 := d3
 clear d1 d2 d3 d4 d5
 obtain ⟨sz, rfl, hq⟩ := ‹NS _ _ _ _›
 obtain ⟨p1, l1, k1', rfl, _, hl1⟩ := bits_len hq
 replace hq := Lib.hid hq
 replace hW := hW.trans (hR.of_priv hW.size)
 clear hR
 have k1 := b1.cell
 have f1 := b1.frozen
 have k2 := b2.cell
 have f2 := b2.frozen
 have k3 := b3.cell
 have f3 := b3.frozen
 have y_1 := b1.lt
 have y_2 := b2.lt
 have y_3 := b3.lt
 obtain ⟨B, hB⟩ : ∃ B, B = ((!sa) && decide (0 < (n - m))) := ⟨_, rfl⟩
 rw [<- hB]
 replace hB := Lib.hid hB
 go_wp2
 refine bodyPost_ret (v := .agg #[.bool B, .slice p1 l1.length k1']) (by simp [results, Tryz.results120, go_sem, k1, f1, k2, f2, k3, f3, y_1, y_2, y_3]) rfl ⟨_, by rw [hB.out], ?_, by exact belowAny⟩
 have hS := hq.out.store b3 (.bool B) (.slice p1 l1.length k1')
 simpa using hS
theorem add_more (sa : Bool) (pa pb : Option Addr) (la ca lb cb m n : Nat) (w : World) (ha : Bits w (.slice pa la ca) m) (hb : Bits w (.slice pb lb cb) n) (hm : m < 2 ^ 900) (hn : n < 2 ^ 900) (hle : n <= m) (e1 : decide (m < n) = false) :
  Calls Tryz.prog 120 #[.agg #[.bool sa, .slice pa la ca], .agg #[.bool (!sa), .slice pb lb cb]] w fun e w' => ∃ sz, e = .returned (.agg #[.bool ((sa) && decide (0 < m - n)), sz]) /\ Bits w' sz (m - n) /\ Below w.heap.size w w' := by
 have H_e1 := Lib.hid e1
 clear e1
 go_enter Tryz.func120, Tryz.ntmps120
 go_wp2_with fail
 refine (c_less (.slice pa la ca) (.slice pb lb cb) m n _ (ha.below belowAny) (hb.below belowAny) hm hn).mono ?_
 rintro e w1 ⟨rfl, hb1⟩
 have z2 := hb1.size
 try simp at z2
 have b1 : Blk w1 w.heap.size #[.bool sa, .slice pa la ca] 140 := blkAny
 have b2 : Blk w1 (w.heap.size + 1) #[.bool (!sa), .slice pb lb cb] 140 := blkAny
 have b3 : Blk w1 (w.heap.size + 2) #[.bool false, .slice none 0 0] 140 := blkAny
 have hW : Below w.heap.size w w1 := belowAny
 have z3 := b1.lt
 have z4 := b2.lt
 have z5 := b3.lt
 clear hb1
 have k1 := b1.cell
 have f1 := b1.frozen
 have k2 := b2.cell
 have f2 := b2.frozen
 have k3 := b3.cell
 have f3 := b3.frozen
 rw [H_e1.out]
 go_upto_region 5 with (fail)
 clear k1 f1 k2 f2 k3 f3
 refine wp_facts (fun W' => Below w.heap.size w W' /\ Blk W' w.heap.size #[.bool sa, .slice pa la ca] 140 /\ Blk W' (w.heap.size + 1) #[.bool (!sa), .slice pb lb cb] 140 /\ Blk W' (w.heap.size + 2) #[.bool false, .slice none 0 0] 140 /\ Bits W' (.slice pa la ca) m /\ Bits W' (.slice pb lb cb) n) ⟨by exact belowAny, by exact blkAny, by exact blkAny, by exact blkAny, by exact ha.below belowAny, by exact hb.below belowAny⟩ ?_
 clear b1 b2 b3 hW
 rintro W6 ⟨hW, b1, b2, b3, b4, b5⟩
 have z7 := hW.size
 have z8 := b1.lt
 have z9 := b2.lt
 have z10 := b3.lt
 refine wp_region_nd 8 39 [] (fun W' => Rex [] W6 W' /\ Blk W' w.heap.size #[.bool sa, .slice pa la ca] 140 /\ Blk W' (w.heap.size + 1) #[.bool (!sa), .slice pb lb cb] 140 /\ Blk W' (w.heap.size + 2) #[.bool false, .slice none 0 0] 140 /\ Bits W' (.slice pa la ca) m /\ Bits W' (.slice pb lb cb) n) mixed (by kernel_rfl) rfl ⟨(Rex.refl _ _).drew, b1, b2, b3, b4.drew, b5.drew⟩ (fun w w' ⟨h0, h1, h2, h3, h4, h5⟩ hr => ⟨h0.trans hr, h1.rex hr (by simp <;> omega), h2.rex hr (by simp <;> omega), h3.rex hr (by simp <;> omega), h4.rex hr (by simp <;> omega), h5.rex hr (by simp <;> omega)⟩) (fun c a d v w h => by cases d <;> exact h) ?_
 iterate 6
  apply nd_det (hg := rfl) (hal := rfl)
  ·intro a W' hC hE
   obtain ⟨_, k1, k2, k3, k4, k5⟩ := hC
   have k1 := k1.cell
   have k2 := k2.cell
   first
    | (simp at hE; simp [go_sem, Act.eval, IntWalk.i64_left, hE, k1, k2, k3, k4, k5]; try rfl)
    | (clear hE; simp [go_sem, Act.eval, IntWalk.i64_left, k1, k2, k3, k4, k5]; try rfl)
 apply nd_call (BS (m - n)) (hg := rfl) (hal := rfl)
 ·exact BS.closed _
 ·intro a W' hC hE
  refine ⟨_, _, ?_, (c_minus (.slice pa la ca) (.slice pb lb cb) m n W' hC.2.2.2.2.1 hC.2.2.2.2.2 hm hle).mono ?_⟩
  ·simp at hE
   simp [go_sem, Act.eval, hE]
   try rfl
  ·rintro e w' ⟨v, rfl, hB, hR⟩
   exact ⟨_, rfl, hR, hB⟩
 apply nd_call (NS sa (m - n)) (hg := rfl) (hal := rfl)
 ·exact NS.closed _ _
 ·intro a W' hC hE
  simp at hE
  refine ⟨_, _, ?_, (c_refmade sa _ (m - n) W' hE.2).mono ?_⟩
  ·simp [go_sem, Act.eval, hE.1]
   try rfl
  ·rintro e w' ⟨rfl, hR⟩
   have hb := BS.below hE.2 hR
   exact ⟨_, rfl, hR, _, rfl, hb⟩
 rintro W2 ⟨hR, d1, d2, d3, d4, d5⟩
 simp only [ndFinR, Det, forall_eq]
 intros
 repeat (rename GDet _ _ _ _ => hgd; clear hgd)
 simp only [Act.put, List.setIfInBounds_toArray, List.set_cons_zero, List.set_cons_succ, List.drop_succ_cons, List.drop_zero]
 clear b1 b2 b3 b4 b5
 have b1 := d1
 have b2 := d2
 have b3 := d3
 clear d1 d2 d3 d4 d5
 obtain ⟨sz, rfl, hq⟩ := ‹NS _ _ _ _›
 obtain ⟨p1, l1, k1', rfl, _, hl1⟩ := bits_len hq
 replace hq := Lib.hid hq
 replace hW := hW.trans (hR.of_priv hW.size)
 clear hR
 have k1 := b1.cell
 have f1 := b1.frozen
 have k2 := b2.cell
 have f2 := b2.frozen
 have k3 := b3.cell
 have f3 := b3.frozen
 have y_1 := b1.lt
 have y_2 := b2.lt
 have y_3 := b3.lt
 obtain ⟨B, hB⟩ : ∃ B, B = (sa && decide (0 < (m - n))) := ⟨_, rfl⟩
 rw [<- hB]
 replace hB := Lib.hid hB
 go_wp2
 refine bodyPost_ret (v := .agg #[.bool B, .slice p1 l1.length k1']) (by simp [results, Tryz.results120, go_sem, k1, f1, k2, f2, k3, f3, y_1, y_2, y_3]) rfl ⟨_, by rw [hB.out], ?_, by exact belowAny⟩
 have hS := hq.out.store b3 (.bool B) (.slice p1 l1.length k1')
 simpa using hS
theorem num_made {w : World} {sz : Value} {b : Bool} {k : Nat} {z : Int} (h : Bits w sz k) (hk : k = z.natAbs) (hb : (b && decide (0 < k)) = decide (z < 0)) : NumIs w (.agg #[.bool (b && decide (0 < k)), sz]) z :=
 ⟨sz, by rw [hb], hk ▸ h⟩
theorem c_refAdd (va vb : Value) (x y : Int) (w : World) (ha : NumIs w va x) (hb : NumIs w vb y) (hx : x.natAbs < 2 ^ 900) (hy : y.natAbs < 2 ^ 900) :
  Calls Tryz.prog 120 #[va, vb] w fun e w' => ∃ v, e = .returned v /\ NumIs w' v (x + y) /\ Below w.heap.size w w' := by
 obtain ⟨pa, la, ca, rfl, ha'⟩ := num_shape ha
 obtain ⟨pb, lb, cb, rfl, hb'⟩ := num_shape hb
 by_cases hs : decide (x < 0) = decide (y < 0)
 ·rw [<- hs]
  refine (add_same _ pa pb la ca lb cb _ _ w ha' hb' hx hy).mono ?_
  rintro e w' ⟨sz, rfl, h, hB⟩
  refine ⟨_, rfl, num_made h ?_ ?_, hB⟩
  ·by_cases h1 : x < 0 <;> by_cases h2 : y < 0 <;> simp [h1, h2] at hs <;> omega
  ·by_cases h1 : x < 0 <;> by_cases h2 : y < 0 <;> simp [h1, h2] at hs
   ·rw [decide_eq_true h1, decide_eq_true (show 0 < x.natAbs + y.natAbs by omega), decide_eq_true (show x + y < 0 by omega)]; rfl
   ·rw [decide_eq_false h1, decide_eq_false (show ¬ x + y < 0 by omega)]; rfl
 ·have hs' : decide (y < 0) = !decide (x < 0) := by
   cases h1 : decide (x < 0) <;> cases h2 : decide (y < 0) <;> simp [h1, h2] at hs ⊢
  rw [hs']
  rcases Nat.lt_or_ge x.natAbs y.natAbs with hl | hl
  ·refine (add_less _ pa pb la ca lb cb _ _ w ha' hb' hx hy (by omega) (by simp; omega)).mono ?_
   rintro e w' ⟨sz, rfl, h, hB⟩
   refine ⟨_, rfl, num_made h ?_ ?_, hB⟩
   ·by_cases h1 : x < 0 <;> by_cases h2 : y < 0 <;> simp [h1, h2] at hs' <;> omega
   ·rw [<- hs']
    by_cases h1 : x < 0 <;> by_cases h2 : y < 0 <;> simp [h1, h2] at hs'
    ·rw [decide_eq_false h2, decide_eq_false (show ¬ x + y < 0 by omega)]; rfl
    ·rw [decide_eq_true h2, decide_eq_true (show 0 < y.natAbs - x.natAbs by omega), decide_eq_true (show x + y < 0 by omega)]; rfl
  ·refine (add_more _ pa pb la ca lb cb _ _ w ha' hb' hx hy hl (by simp; omega)).mono ?_
   rintro e w' ⟨sz, rfl, h, hB⟩
   refine ⟨_, rfl, num_made h ?_ ?_, hB⟩
   ·by_cases h1 : x < 0 <;> by_cases h2 : y < 0 <;> simp [h1, h2] at hs' <;> omega
   ·by_cases h1 : x < 0 <;> by_cases h2 : y < 0 <;> simp [h1, h2] at hs'
    ·rcases Nat.eq_or_lt_of_le hl with h3 | h3
     ·rw [decide_eq_false (show ¬ 0 < x.natAbs - y.natAbs by omega), decide_eq_false (show ¬ x + y < 0 by omega)]; simp
     ·rw [decide_eq_true h1, decide_eq_true (show 0 < x.natAbs - y.natAbs by omega), decide_eq_true (show x + y < 0 by omega)]; rfl
    ·rw [decide_eq_false h1, decide_eq_false (show ¬ x + y < 0 by omega)]; rfl
end Go.Proofs.YtbanjolokkghdaaGreatDoor
namespace Go.Proofs.YtbanjolokkghdaaGreatDoor
open Go.RowKit
theorem value_no (sa : Bool) (pa : Option Addr) (la ca : Nat) (z : Int) (w : World) (F : Bool)
  (cF : ∀ W, Below w.heap.size w W -> Calls Tryz.prog 123 #[.agg #[.bool sa, .slice pa la ca], .int .i64 64] W fun e w' => e = .returned (.bool F) /\ Below W.heap.size W w') (e1 : Hid (F = false)) :
  Calls Tryz.prog 84 #[.agg #[.bool sa, .slice pa la ca]] w fun e w' => e = .returned (.tuple #[.int .i64 0, .bool false]) /\ Below w.heap.size w w' := by
 go_enter Tryz.func84, Tryz.ntmps84
 go_wp2_with fail
 refine (cF _ belowAny).mono ?_
 rintro e w1 ⟨rfl, hb1⟩
 have z2 := hb1.size
 try simp at z2
 refine haveB w w1 (Bc w.heap.size #[.bool sa, .slice pa la ca] 140 <| Bz) ?_
 rintro hW z3 ⟨⟨b1, yb1, k1, f1⟩, -⟩
 clear hb1
 rw [e1.out]
 go_wp2
 refine bodyPost_ret (v := .tuple #[.int .i64 0, .bool false]) (by simp [results, Tryz.results84, go_sem]) rfl ⟨rfl, by exact belowAny⟩
theorem value_pos (pa : Option Addr) (la ca m : Nat) (z : Int) (w : World) (F : Bool) (ha : Hid (Bits w (.slice pa la ca) m))
  (cF : ∀ W, Below w.heap.size w W -> Calls Tryz.prog 123 #[.agg #[.bool false, .slice pa la ca], .int .i64 64] W fun e w' => e = .returned (.bool F) /\ Below W.heap.size W w') (e1 : Hid (F = true)) (hm63 : m < 9223372036854775808)
  (e2 : Hid (m / 2 ^ 0 % 2 ^ 64 = m)) :
  Calls Tryz.prog 84 #[.agg #[.bool false, .slice pa la ca]] w fun e w' => e = .returned (.tuple #[.int .i64 (m : Int), .bool true]) /\ Below w.heap.size w w' := by
 go_enter Tryz.func84, Tryz.ntmps84
 go_wp2_with fail
 refine (cF _ belowAny).mono ?_
 rintro e w1 ⟨rfl, hb1⟩
 have z2 := hb1.size
 try simp at z2
 refine haveB w w1 (Bc w.heap.size #[.bool false, .slice pa la ca] 140 <| Bz) ?_
 rintro hW z3 ⟨⟨b1, yb1, k1, f1⟩, -⟩
 clear hb1
 rw [e1.out]
 have hq := Lib.hid (ha.out.below (show Below w.heap.size w w1 from belowAny))
 go_wp2_with fail
 refine (c_word _ _ 0 _ hq.out (by omega)).mono ?_
 rintro e w4 ⟨rfl, hb4⟩
 have z5 := hb4.size
 try simp at z5
 clear k1 f1
 refine haveB w w4 (Bc w.heap.size #[.bool false, .slice pa la ca] 140 <| Bz) ?_
 clear b1 hW
 rintro hW z6 ⟨⟨b1, yb1, k1, f1⟩, -⟩
 clear hb4
 rw [e2.out]
 go_wp2
 refine bodyPost_ret (v := .tuple #[.int .i64 (m : Int), .bool true]) (by simp [results, Tryz.results84, go_sem]) rfl ⟨rfl, by exact belowAny⟩
theorem value_neg (pa : Option Addr) (la ca m s : Nat) (w : World) (F : Bool) (ha : Hid (Bits w (.slice pa la ca) m))
  (cF : ∀ W, Below w.heap.size w W -> Calls Tryz.prog 123 #[.agg #[.bool true, .slice pa la ca], .int .i64 64] W fun e w' => e = .returned (.bool F) /\ Below W.heap.size W w') (e1 : Hid (F = true)) (hm64 : Hid (m <= 2 ^ 64))
  (e2 : Hid ((2 ^ 64 - m) / 2 ^ 0 % 2 ^ 64 = s)) (e3 : Hid (wrap64 (s : Int) = -(m : Int))) :
  Calls Tryz.prog 84 #[.agg #[.bool true, .slice pa la ca]] w fun e w' => e = .returned (.tuple #[.int .i64 (-(m : Int)), .bool true]) /\ Below w.heap.size w w' := by
 go_enter Tryz.func84, Tryz.ntmps84
 go_wp2_with fail
 refine (cF _ belowAny).mono ?_
 rintro e w1 ⟨rfl, hb1⟩
 have z2 := hb1.size
 try simp at z2
 refine haveB w w1 (Bc w.heap.size #[.bool true, .slice pa la ca] 140 <| Bz) ?_
 rintro hW z3 ⟨⟨b1, yb1, k1, f1⟩, -⟩
 clear hb1
 rw [e1.out]
 have hq := Lib.hid (ha.out.below (show Below w.heap.size w w1 from belowAny))
 go_wp2_with fail
 refine (c_power 64 _ (by omega)).mono ?_
 rintro e w4 ⟨v2, rfl, hq2, hb4⟩
 have z5 := hb4.size
 try simp at z5
 clear k1 f1
 refine haveB w w4 (Bc w.heap.size #[.bool true, .slice pa la ca] 140 <| Bz) ?_
 clear b1 hW
 rintro hW z6 ⟨⟨b1, yb1, k1, f1⟩, -⟩
 replace hq2 := Lib.hid hq2
 replace hq := Lib.hid (hq.out.below hb4)
 have cm := Lib.hid (c_minus _ _ (2 ^ 64) m w4 hq2.out hq.out (pow_lt2 64 900 (by omega)) hm64.out)
 go_wp2_with fail
 refine (cm.out).mono ?_
 rintro e w7 ⟨v3, rfl, hq3, hb7⟩
 have z8 := hb7.size
 try simp at z8
 clear k1 f1
 refine haveB w w7 (Bc w.heap.size #[.bool true, .slice pa la ca] 140 <| Bz) ?_
 clear b1 hW
 rintro hW z9 ⟨⟨b1, yb1, k1, f1⟩, -⟩
 replace hq3 := Lib.hid hq3
 go_wp2_with fail
 refine (c_word _ _ 0 _ hq3.out (by omega)).mono ?_
 rintro e w10 ⟨rfl, hb10⟩
 have z11 := hb10.size
 try simp at z11
 clear k1 f1
 refine haveB w w10 (Bc w.heap.size #[.bool true, .slice pa la ca] 140 <| Bz) ?_
 clear b1 hW
 rintro hW z12 ⟨⟨b1, yb1, k1, f1⟩, -⟩
 clear hb10
 rw [e2.out]
 go_wp2
 refine bodyPost_ret (v := .tuple #[.int .i64 (-(m : Int)), .bool true]) (by simp [results, Tryz.results84, go_sem, e3.out]) rfl ⟨rfl, by exact belowAny⟩
theorem fits64 {va : Value} {z : Int} {w : World} (h : NumIs w va z) (hz : z.natAbs < 2 ^ 900) :
  ∀ W, Below w.heap.size w W -> Calls Tryz.prog 123 #[va, .int .i64 64] W fun e w' => e = .returned (.bool (decide (-9223372036854775808 <= z /\ z < 9223372036854775808))) /\ Below W.heap.size W w' :=
 fun W hW => c_refFits va z 63 W (h.below hW) hz (by omega)
theorem c_refValue_no (va : Value) (z : Int) (w : World) (h : NumIs w va z) (hz : z.natAbs < 2 ^ 900) (ho : ¬ (-9223372036854775808 <= z /\ z < 9223372036854775808)) :
  Calls Tryz.prog 84 #[va] w fun e w' => e = .returned (.tuple #[.int .i64 0, .bool false]) /\ Below w.heap.size w w' := by
 obtain ⟨pa, la, ca, rfl, h'⟩ := num_shape h
 exact value_no _ pa la ca z w _ (fits64 h hz) (Lib.hid (decide_eq_false ho))
theorem c_refValue (va : Value) (z : Int) (w : World) (h : NumIs w va z) (h1 : -9223372036854775808 <= z) (h2 : z < 9223372036854775808) :
  Calls Tryz.prog 84 #[va] w fun e w' => e = .returned (.tuple #[.int .i64 z, .bool true]) /\ Below w.heap.size w w' := by
 obtain ⟨pa, la, ca, rfl, h'⟩ := num_shape h
 have hz : z.natAbs < 2 ^ 900 := lt_pow2 64 900 (show z.natAbs < 2 ^ 64 by omega) (by omega)
 have hF := fits64 h hz
 by_cases hn : z < 0
 ·obtain ⟨m, rfl⟩ : ∃ m : Nat, z = -(m : Int) := ⟨z.natAbs, by omega⟩
  rw [decide_eq_true hn] at hF ⊢
  rw [show (-(m : Int)).natAbs = m by omega] at h'
  refine value_neg pa la ca m (18446744073709551616 - m) w _ (Lib.hid h') hF (Lib.hid (decide_eq_true ⟨h1, h2⟩)) (Lib.hid (by omega)) (Lib.hid (by omega)) (Lib.hid (by unfold wrap64; omega))
 ·obtain ⟨m, rfl⟩ : ∃ m : Nat, z = (m : Int) := ⟨z.toNat, by omega⟩
  rw [decide_eq_false hn] at hF ⊢
  rw [show ((m : Int)).natAbs = m by omega] at h'
  exact value_pos pa la ca m 0 w _ (Lib.hid h') hF (Lib.hid (decide_eq_true ⟨h1, h2⟩)) (by omega) (Lib.hid (by omega))

theorem div_plain (sa : Bool) (pa pb : Option Addr) (la ca lb cb m n Q R : Nat) (w : World) (ha : Bits w (.slice pa la ca) m) (hb : Bits w (.slice pb lb cb) n) (hm : m < 2 ^ 800) (hQ : Hid (m / n = Q)) (hR : Hid (m % n = R)) (hn0 : 0 < n) (hn : n < 2 ^ 800) (hs : sa = false) :
  Calls Tryz.prog 81 #[.agg #[.bool sa, .slice pa la ca], .agg #[.bool false, .slice pb lb cb]] w fun e w' => ∃ s1 s2, e = .returned (.tuple #[.agg #[.bool (sa && decide (0 < Q)), s1], .agg #[.bool false, s2]]) /\ Bits w' s1 Q /\ Bits w' s2 R /\ Below w.heap.size w w' := by
 subst hs
 go_enter Tryz.func81, Tryz.ntmps81
 go_wp2_with fail
 refine (c_refparts (.slice pa la ca) (.slice pb lb cb) m n _ (ha.below belowAny) (hb.below belowAny) hm hn0 hn).mono ?_
 rintro e w1 ⟨v1, v2, rfl, hq1, hq2, hb1⟩
 have z2 := hb1.size
 try simp at z2
 refine haveB w w1 (Bc w.heap.size #[.bool false, .slice pa la ca] 140 <| Bc (w.heap.size + 1) #[.bool false, .slice pb lb cb] 140 <| Bc (w.heap.size + 2) #[.bool false, .slice none 0 0] 140 <| Bc (w.heap.size + 3) #[.bool false, .slice none 0 0] 140 <| Bz) ?_
 rintro hW z3 ⟨⟨b1, yb1, k1, f1⟩, ⟨b2, yb2, k2, f2⟩, ⟨b3, yb3, k3, f3⟩, ⟨b4, yb4, k4, f4⟩, -⟩
 rw [hQ.out] at hq1
 rw [hR.out] at hq2
 obtain ⟨p1, l1, k1', rfl, _, hl1⟩ := bits_len hq1
 obtain ⟨p2, l2, k2', rfl, hpos, hl2⟩ := bits_len hq2
 replace hq1 := Lib.hid hq1
 replace hq2 := Lib.hid hq2
 replace hpos := Lib.hid hpos
 go_wp2_with fail
 refine (c_refmade false _ Q _ hq1.out).mono ?_
 rintro e w4 ⟨rfl, hb4⟩
 have z5 := hb4.size
 try simp at z5
 clear k1 f1 k2 f2 k3 f3 k4 f4
 refine haveB w w4 (Bc w.heap.size #[.bool false, .slice pa la ca] 140 <| Bc (w.heap.size + 1) #[.bool false, .slice pb lb cb] 140 <| Bc (w.heap.size + 2) #[.bool false, .slice none 0 0] 140 <| Bc (w.heap.size + 3) #[.bool false, .slice none 0 0] 140 <| Bz) ?_
 clear b1 b2 b3 b4 hW
 rintro hW z6 ⟨⟨b1, yb1, k1, f1⟩, ⟨b2, yb2, k2, f2⟩, ⟨b3, yb3, k3, f3⟩, ⟨b4, yb4, k4, f4⟩, -⟩
 replace hq1 := Lib.hid (hq1.out.below hb4)
 replace hq2 := Lib.hid (hq2.out.below hb4)
 go_wp2_with fail
 refine (c_refmade false _ R _ hq2.out).mono ?_
 rintro e w7 ⟨rfl, hb7⟩
 have z8 := hb7.size
 try simp at z8
 clear k1 f1 k2 f2 k3 f3 k4 f4
 refine haveB w w7 (Bc w.heap.size #[.bool false, .slice pa la ca] 140 <| Bc (w.heap.size + 1) #[.bool false, .slice pb lb cb] 140 <| Bc (w.heap.size + 2) #[.bool false, .slice none 0 0] 140 <| Bc (w.heap.size + 3) #[.bool false, .slice none 0 0] 140 <| Bz) ?_
 clear b1 b2 b3 b4 hW
 rintro hW z9 ⟨⟨b1, yb1, k1, f1⟩, ⟨b2, yb2, k2, f2⟩, ⟨b3, yb3, k3, f3⟩, ⟨b4, yb4, k4, f4⟩, -⟩
 replace hq1 := Lib.hid (hq1.out.below hb7)
 replace hq2 := Lib.hid (hq2.out.below hb7)
 go_wp2
 have y_1 := b1.lt
 have y_2 := b2.lt
 have y_3 := b3.lt
 have y_4 := b4.lt
 refine bodyPost_ret (v := .tuple #[.agg #[.bool false, .slice p1 l1.length k1'], .agg #[.bool false, .slice p2 l2.length k2']]) (by simp [results, Tryz.results81, go_sem, k1, f1, k2, f2, k3, f3, k4, f4, y_1, y_2, y_3, y_4]) rfl ⟨.slice p1 l1.length k1', .slice p2 l2.length k2', by simp, ?_, ?_, by exact belowAny⟩
 ·have hS := (hq1.out.store b3 (.bool false) (.slice p1 l1.length k1')).store (show Blk _ (w.heap.size + 3) #[.bool false, .slice none 0 0] 140 from (b4.setO (by omega) 0 _).setO (by omega) 1 _) (.bool false) (.slice p2 l2.length k2')
  simpa using hS
 ·have hS := (hq2.out.store b3 (.bool false) (.slice p1 l1.length k1')).store (show Blk _ (w.heap.size + 3) #[.bool false, .slice none 0 0] 140 from (b4.setO (by omega) 0 _).setO (by omega) 1 _) (.bool false) (.slice p2 l2.length k2')
  simpa using hS
theorem div_zero (pa pb : Option Addr) (la ca lb cb m n Q R : Nat) (w : World) (ha : Bits w (.slice pa la ca) m) (hb : Bits w (.slice pb lb cb) n) (hm : m < 2 ^ 800) (hQ : Hid (m / n = Q)) (hR : Hid (m % n = R)) (hn0 : 0 < n) (hn : n < 2 ^ 800) (hr : R = 0) :
  Calls Tryz.prog 81 #[.agg #[.bool true, .slice pa la ca], .agg #[.bool false, .slice pb lb cb]] w fun e w' => ∃ s1 s2, e = .returned (.tuple #[.agg #[.bool (true && decide (0 < Q)), s1], .agg #[.bool false, s2]]) /\ Bits w' s1 Q /\ Bits w' s2 R /\ Below w.heap.size w w' := by
 go_enter Tryz.func81, Tryz.ntmps81
 go_wp2_with fail
 refine (c_refparts (.slice pa la ca) (.slice pb lb cb) m n _ (ha.below belowAny) (hb.below belowAny) hm hn0 hn).mono ?_
 rintro e w1 ⟨v1, v2, rfl, hq1, hq2, hb1⟩
 have z2 := hb1.size
 try simp at z2
 refine haveB w w1 (Bc w.heap.size #[.bool true, .slice pa la ca] 140 <| Bc (w.heap.size + 1) #[.bool false, .slice pb lb cb] 140 <| Bc (w.heap.size + 2) #[.bool false, .slice none 0 0] 140 <| Bc (w.heap.size + 3) #[.bool false, .slice none 0 0] 140 <| Bz) ?_
 rintro hW z3 ⟨⟨b1, yb1, k1, f1⟩, ⟨b2, yb2, k2, f2⟩, ⟨b3, yb3, k3, f3⟩, ⟨b4, yb4, k4, f4⟩, -⟩
 rw [hQ.out] at hq1
 rw [hR.out] at hq2
 obtain ⟨p1, l1, k1', rfl, _, hl1⟩ := bits_len hq1
 obtain ⟨p2, l2, k2', rfl, hpos, hl2⟩ := bits_len hq2
 replace hq1 := Lib.hid hq1
 replace hq2 := Lib.hid hq2
 replace hpos := Lib.hid hpos
 obtain rfl : l2 = [] := List.length_eq_zero_iff.1 (by have := hpos.out; omega)
 clear hpos hr
 go_wp2_with fail
 refine (c_refmade true _ Q _ hq1.out).mono ?_
 rintro e w4 ⟨rfl, hb4⟩
 have z5 := hb4.size
 try simp at z5
 clear k1 f1 k2 f2 k3 f3 k4 f4
 refine haveB w w4 (Bc w.heap.size #[.bool true, .slice pa la ca] 140 <| Bc (w.heap.size + 1) #[.bool false, .slice pb lb cb] 140 <| Bc (w.heap.size + 2) #[.bool false, .slice none 0 0] 140 <| Bc (w.heap.size + 3) #[.bool false, .slice none 0 0] 140 <| Bz) ?_
 clear b1 b2 b3 b4 hW
 rintro hW z6 ⟨⟨b1, yb1, k1, f1⟩, ⟨b2, yb2, k2, f2⟩, ⟨b3, yb3, k3, f3⟩, ⟨b4, yb4, k4, f4⟩, -⟩
 replace hq1 := Lib.hid (hq1.out.below hb4)
 replace hq2 := Lib.hid (hq2.out.below hb4)
 go_wp2_with fail
 refine (c_refmade false _ R _ hq2.out).mono ?_
 rintro e w7 ⟨rfl, hb7⟩
 have z8 := hb7.size
 try simp at z8
 clear k1 f1 k2 f2 k3 f3 k4 f4
 refine haveB w w7 (Bc w.heap.size #[.bool true, .slice pa la ca] 140 <| Bc (w.heap.size + 1) #[.bool false, .slice pb lb cb] 140 <| Bc (w.heap.size + 2) #[.bool false, .slice none 0 0] 140 <| Bc (w.heap.size + 3) #[.bool false, .slice none 0 0] 140 <| Bz) ?_
 clear b1 b2 b3 b4 hW
 rintro hW z9 ⟨⟨b1, yb1, k1, f1⟩, ⟨b2, yb2, k2, f2⟩, ⟨b3, yb3, k3, f3⟩, ⟨b4, yb4, k4, f4⟩, -⟩
 replace hq1 := Lib.hid (hq1.out.below hb7)
 replace hq2 := Lib.hid (hq2.out.below hb7)
 obtain ⟨B, hB⟩ : ∃ B, B = (true && decide (0 < Q)) := ⟨_, rfl⟩
 try rw [<- hB]
 try rw [Bool.true_and] at hB
 try rw [<- hB]
 replace hB := Lib.hid hB
 go_wp2
 have y_1 := b1.lt
 have y_2 := b2.lt
 have y_3 := b3.lt
 have y_4 := b4.lt
 refine bodyPost_ret (v := .tuple #[.agg #[.bool B, .slice p1 l1.length k1'], .agg #[.bool false, .slice p2 0 k2']]) (by simp [results, Tryz.results81, go_sem, k1, f1, k2, f2, k3, f3, k4, f4, y_1, y_2, y_3, y_4]) rfl ⟨.slice p1 l1.length k1', .slice p2 0 k2', by rw [<- hB.out, Bool.true_and], ?_, ?_, by exact belowAny⟩
 ·have hS := (hq1.out.store b3 (.bool B) (.slice p1 l1.length k1')).store (show Blk _ (w.heap.size + 3) #[.bool false, .slice none 0 0] 140 from (b4.setO (by omega) 0 _).setO (by omega) 1 _) (.bool false) (.slice p2 0 k2')
  simpa using hS
 ·have hS := (hq2.out.store b3 (.bool B) (.slice p1 l1.length k1')).store (show Blk _ (w.heap.size + 3) #[.bool false, .slice none 0 0] 140 from (b4.setO (by omega) 0 _).setO (by omega) 1 _) (.bool false) (.slice p2 0 k2')
  simpa using hS
attribute [local simp] Oper.looksAt Op.operands Call.operands envOf Det GDet
theorem div_rest (pa pb : Option Addr) (la ca lb cb m n Q R : Nat) (w : World) (ha : Bits w (.slice pa la ca) m) (hb : Bits w (.slice pb lb cb) n) (hm : m < 2 ^ 800) (hQ : Hid (m / n = Q)) (hR : Hid (m % n = R)) (hn0 : 0 < n) (hn : n < 2 ^ 800) (hr : 0 < R) (hQ9 : Q < 2 ^ 900) (hn9 : n < 2 ^ 900) (hRn : R <= n) :
  Calls Tryz.prog 81 #[.agg #[.bool true, .slice pa la ca], .agg #[.bool false, .slice pb lb cb]] w fun e w' => ∃ s1 s2, e = .returned (.tuple #[.agg #[.bool true, s1], .agg #[.bool false, s2]]) /\ Bits w' s1 (Q + 1) /\ Bits w' s2 (n - R) /\ Below w.heap.size w w' := by
 go_enter Tryz.func81, Tryz.ntmps81
 go_wp2_with fail
 refine (c_refparts (.slice pa la ca) (.slice pb lb cb) m n _ (ha.below belowAny) (hb.below belowAny) hm hn0 hn).mono ?_
 rintro e w1 ⟨v1, v2, rfl, hq1, hq2, hb1⟩
 have z2 := hb1.size
 try simp at z2
 have b1 : Blk w1 w.heap.size #[.bool true, .slice pa la ca] 140 := blkAny
 have b2 : Blk w1 (w.heap.size + 1) #[.bool false, .slice pb lb cb] 140 := blkAny
 have b3 : Blk w1 (w.heap.size + 2) #[.bool false, .slice none 0 0] 140 := blkAny
 have b4 : Blk w1 (w.heap.size + 3) #[.bool false, .slice none 0 0] 140 := blkAny
 have hW : Below w.heap.size w w1 := belowAny
 have z3 := b1.lt
 have z4 := b2.lt
 have z5 := b3.lt
 have z6 := b4.lt
 have k1 := b1.cell
 have f1 := b1.frozen
 have k2 := b2.cell
 have f2 := b2.frozen
 have k3 := b3.cell
 have f3 := b3.frozen
 have k4 := b4.cell
 have f4 := b4.frozen
 rw [hQ.out] at hq1
 rw [hR.out] at hq2
 obtain ⟨p1, l1, k1', rfl, _, hl1⟩ := bits_len hq1
 obtain ⟨p2, l2, k2', rfl, hpos, hl2⟩ := bits_len hq2
 obtain ⟨j, hj⟩ : ∃ j, l2.length = j + 1 := ⟨l2.length - 1, by omega⟩
 rw [hj] at hq2
 rw [hj]
 clear hpos hl2 hl1 hj
 have hnn := hb.below (show Below w.heap.size w w1 from by exact belowAny)
 replace hq1 := Lib.hid hq1
 replace hq2 := Lib.hid hq2
 replace hnn := Lib.hid hnn
 go_upto_region 3 with (fail)
 clear k1 f1 k2 f2 k3 f3 k4 f4
 refine wp_facts (fun W' => Below w.heap.size w W' /\ Blk W' w.heap.size #[.bool true, .slice pa la ca] 140 /\ Blk W' (w.heap.size + 1) #[.bool false, .slice pb lb cb] 140 /\ Blk W' (w.heap.size + 2) #[.bool false, .slice none 0 0] 140 /\ Blk W' (w.heap.size + 3) #[.bool false, .slice none 0 0] 140 /\ Bits W' (.slice p1 l1.length k1') Q /\ Bits W' (.slice p2 (j + 1) k2') R /\ Bits W' (.slice pb lb cb) n) ⟨by exact belowAny, by exact blkAny, by exact blkAny, by exact blkAny, by exact blkAny, by exact hq1.out.below belowAny, by exact hq2.out.below belowAny, by exact hnn.out.below belowAny⟩ ?_
 clear b1 b2 b3 b4 hW
 rintro W7 ⟨hW, b1, b2, b3, b4, b5, b6, b7⟩
 have z8 := hW.size
 have z9 := b1.lt
 have z10 := b2.lt
 have z11 := b3.lt
 have z12 := b4.lt
 clear hq1 hq2 hnn
 refine wp_region_nd 9 38 [] (fun W' => Rex [] W7 W' /\ Blk W' w.heap.size #[.bool true, .slice pa la ca] 140 /\ Blk W' (w.heap.size + 1) #[.bool false, .slice pb lb cb] 140 /\ Blk W' (w.heap.size + 2) #[.bool false, .slice none 0 0] 140 /\ Blk W' (w.heap.size + 3) #[.bool false, .slice none 0 0] 140 /\ Bits W' (.slice p1 l1.length k1') Q /\ Bits W' (.slice p2 (j + 1) k2') R /\ Bits W' (.slice pb lb cb) n) mixed (by kernel_rfl) rfl ⟨(Rex.refl _ _).drew, b1, b2, b3, b4, b5.drew, b6.drew, b7.drew⟩ (fun w w' ⟨h0, h1, h2, h3, h4, h5, h6, h7⟩ hr => ⟨h0.trans hr, h1.rex hr (by simp <;> omega), h2.rex hr (by simp <;> omega), h3.rex hr (by simp <;> omega), h4.rex hr (by simp <;> omega), h5.rex hr (by simp <;> omega), h6.rex hr (by simp <;> omega), h7.rex hr (by simp <;> omega)⟩) (fun c a d v w h => by cases d <;> exact h) ?_
 iterate 1
  apply nd_det (hg := rfl) (hal := rfl)
  ·intro a W' hC hE
   obtain ⟨_, k1, k2, k3, k4, k5, k6, k7⟩ := hC
   have k1 := k1.cell
   have k2 := k2.cell
   first
    | (simp at hE; simp [go_sem, Act.eval, IntWalk.i64_left, hE, k1, k2, k3, k4, k5, k6, k7]; try rfl)
    | (clear hE; simp [go_sem, Act.eval, IntWalk.i64_left, k1, k2, k3, k4, k5, k6, k7]; try rfl)
 apply nd_call (BS 1) (hg := rfl) (hal := rfl)
 ·exact BS.closed _
 ·intro a W' hC hE
  clear hE
  refine ⟨_, _, ?_, (c_Size 1 W' (by omega)).mono ?_⟩
  ·simp [go_sem, Act.eval]
   try rfl
  ·rintro e w' ⟨v, rfl, hB, hR⟩
   exact ⟨_, rfl, hR, hB⟩
 apply nd_call (BS (Q + 1)) (hg := rfl) (hal := rfl)
 ·exact BS.closed _
 ·intro a W' hC hE
  simp at hE
  refine ⟨_, _, ?_, (c_plus (.slice p1 l1.length k1') _ Q 1 W' hC.2.2.2.2.2.1 hE.2 hQ9 (by omega)).mono ?_⟩
  ·simp [go_sem, Act.eval, hE.1]
   try rfl
  ·rintro e w' ⟨v, rfl, hB, hR⟩
   exact ⟨_, rfl, hR, hB⟩
 apply nd_call (NS true (Q + 1)) (hg := rfl) (hal := rfl)
 ·exact NS.closed _ _
 ·intro a W' hC hE
  simp at hE
  refine ⟨_, _, ?_, (c_refmade true _ (Q + 1) W' hE).mono ?_⟩
  ·simp [go_sem, Act.eval]
   try rfl
  ·rintro e w' ⟨rfl, hR⟩
   have hb := BS.below hE hR
   exact ⟨_, rfl, hR, _, rfl, hb⟩
 iterate 3
  apply nd_det (hg := rfl) (hal := rfl)
  ·intro a W' hC hE
   obtain ⟨_, k1, k2, k3, k4, k5, k6, k7⟩ := hC
   have k1 := k1.cell
   have k2 := k2.cell
   first
    | (simp at hE; simp [go_sem, Act.eval, IntWalk.i64_left, hE, k1, k2, k3, k4, k5, k6, k7]; try rfl)
    | (clear hE; simp [go_sem, Act.eval, IntWalk.i64_left, k1, k2, k3, k4, k5, k6, k7]; try rfl)
 apply nd_call (BS (n - R)) (hg := rfl) (hal := rfl)
 ·exact BS.closed _
 ·intro a W' hC hE
  simp at hE
  refine ⟨_, _, ?_, (c_minus (.slice pb lb cb) (.slice p2 (j + 1) k2') n R W' hC.2.2.2.2.2.2.2 hC.2.2.2.2.2.2.1 hn9 hRn).mono ?_⟩
  ·simp [go_sem, Act.eval, hE]
   try rfl
  ·rintro e w' ⟨v, rfl, hB, hR⟩
   exact ⟨_, rfl, hR, hB⟩
 apply nd_call (NS false (n - R)) (hg := rfl) (hal := rfl)
 ·exact NS.closed _ _
 ·intro a W' hC hE
  simp at hE
  refine ⟨_, _, ?_, (c_refmade false _ (n - R) W' hE).mono ?_⟩
  ·simp [go_sem, Act.eval]
   try rfl
  ·rintro e w' ⟨rfl, hR⟩
   have hb := BS.below hE hR
   exact ⟨_, rfl, hR, _, rfl, hb⟩
 rintro W2 ⟨hR', d1, d2, d3, d4, d5, d6, d7⟩
 simp only [ndFinR, Det, forall_eq]
 intros
 repeat (rename GDet _ _ _ _ => hgd; clear hgd)
 simp only [Act.put, List.setIfInBounds_toArray, List.set_cons_zero, List.set_cons_succ, List.drop_succ_cons, List.drop_zero]
 clear b1 b2 b3 b4 b5 b6 b7
 have b1 := d1
 have b2 := d2
 have b3 := d3
 have b4 := d4
 clear d1 d2 d3 d4 d5 d6 d7
 obtain ⟨sz1, rfl, hy1⟩ := ‹NS true _ _ _›
 obtain ⟨sz2, rfl, hy2⟩ := ‹NS false _ _ _›
 obtain ⟨p3, l3, k3', rfl, _, hl3⟩ := bits_len hy1
 obtain ⟨p4, l4, k4', rfl, _, hl4⟩ := bits_len hy2
 replace hy1 := Lib.hid hy1
 replace hy2 := Lib.hid hy2
 replace hW := hW.trans (hR'.of_priv hW.size)
 clear hR' hl3 hl4
 have k1 := b1.cell
 have f1 := b1.frozen
 have k2 := b2.cell
 have f2 := b2.frozen
 have k3 := b3.cell
 have f3 := b3.frozen
 have k4 := b4.cell
 have f4 := b4.frozen
 have y_1 := b1.lt
 have y_2 := b2.lt
 have y_3 := b3.lt
 have y_4 := b4.lt
 obtain ⟨B, hB⟩ : ∃ B, B = (true && decide (0 < Q + 1)) := ⟨_, rfl⟩
 rw [<- hB]
 replace hB := Lib.hid hB
 obtain ⟨C, hC⟩ : ∃ C, C = (false && decide (0 < n - R)) := ⟨_, rfl⟩
 rw [<- hC]
 replace hC := Lib.hid hC
 go_wp2
 refine bodyPost_ret (v := .tuple #[.agg #[.bool B, .slice p3 l3.length k3'], .agg #[.bool C, .slice p4 l4.length k4']]) (by simp [results, Tryz.results81, go_sem, k1, f1, k2, f2, k3, f3, k4, f4, y_1, y_2, y_3, y_4]) rfl ⟨.slice p3 l3.length k3', .slice p4 l4.length k4', by rw [hB.out, hC.out]; simp, ?_, ?_, by exact belowAny⟩
 ·have hS := (hy1.out.store b3 (.bool B) (.slice p3 l3.length k3')).store (show Blk _ (w.heap.size + 3) #[.bool false, .slice none 0 0] 140 from (b4.setO (by omega) 0 _).setO (by omega) 1 _) (.bool C) (.slice p4 l4.length k4')
  simpa using hS
 ·have hS := (hy2.out.store b3 (.bool B) (.slice p3 l3.length k3')).store (show Blk _ (w.heap.size + 3) #[.bool false, .slice none 0 0] 140 from (b4.setO (by omega) 0 _).setO (by omega) 1 _) (.bool C) (.slice p4 l4.length k4')
  simpa using hS
end Go.Proofs.YtbanjolokkghdaaGreatDoor
