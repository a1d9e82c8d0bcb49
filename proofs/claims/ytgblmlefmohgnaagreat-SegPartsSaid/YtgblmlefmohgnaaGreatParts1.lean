/- For every segment that comes in, whatever is in it, and all a, b: SegParts returns true; the arguments read as before. No condition. -/
import Derived.Test.YtgblmlefmohgnaaGreatBk14
set_option linter.unusedSimpArgs false
set_option linter.unusedVariables false
namespace Go.Proofs.YtgblmlefmohgnaaGreat
open Go.RowKit
def rfoRel (w : World) (g8 : Nat) (p : Option Addr) (cap : Nat) (P : List (Int × Int)) (a b : Int) (a' : Act) (W : World) : Prop :=
  Below w.heap.size w W ∧ ∃ (i : Nat) (Q : List Int) (ps : Option Addr) (ls cs : Nat), (∃ u : Nat → Value, a' = { tmps := #[.slice p P.length cap, .int .i64 a, .int .i64 b, u 3, u 4, u 5, .pointer (some ⟨w.heap.size, 0, none⟩), .pointer (some ⟨w.heap.size + 1, 0, none⟩), .pointer (some ⟨g8, 0, none⟩), .int .i64 (i : Int), u 10, u 11, u 12, u 13, u 14, u 15, u 16, u 17, u 18, u 19, u 20, u 21, u 22, u 23, u 24, u 25, u 26, u 27, u 28, u 29, u 30, u 31, u 32, u 33, u 34, u 35, u 36, u 37, u 38, u 39, u 40, u 41, u 42, u 43, u 44, u 45, u 46, u 47, u 48, u 49, u 50, u 51, u 52, u 53, u 54, u 55, u 56, u 57, u 58, u 59, u 60, u 61, u 62, u 63, u 64, u 65, u 66, u 67, u 68, u 69, u 70, u 71, u 72, u 73, u 74, u 75, u 76, u 77, u 78, u 79, u 80, u 81, u 82, u 83, u 84, u 85, u 86, u 87, u 88, u 89, u 90], defers := [] }) ∧ Q = selL a b (P.take i) ∧ i ≤ P.length ∧ w.heap.size + 1 < g8 ∧
    Blk W (w.heap.size + 1) #[.int .i64 ((Q).length : Int), .int .i64 (minL (Q)), .int .i64 (maxL (Q)), .int .i64 0, .int .u64 0] 34 ∧ Blk W g8 #[.bool (decide (lsum Q < 0)), .slice ps ls cs] 94 ∧ Blk W w.heap.size #[.int .i64 0, .int .i64 0, .int .i64 0, .int .i64 0, .int .u64 0] 34 ∧ Bits W (.slice ps ls cs) (lsum Q).natAbs
set_option maxRecDepth 100000 in
set_option maxHeartbeats 8000000 in
theorem reffold_w (p : Option Addr) (cap : Nat) (P : List (Int × Int)) (a b : Int) (w : World) (hlen : P.length ≤ 300) (hback : ∀ x, x ∈ P → -2305844108725321728 ≤ x.2 ∧ x.2 ≤ 2305844108725321728) (hP0 : PtsIn w p P) :
    Calls Tryz.prog 15 #[.slice p P.length cap, .int .i64 a, .int .i64 b] w fun e w' => e = .returned (.agg (partA (selL a b P))) ∧ Below w.heap.size w w' := by
  replace hback := Lib.hid hback
  go_enter Tryz.func15, Tryz.ntmps15
  go_wp2_with fail
  refine (c_refInt 0 _ (by omega) (by omega)).mono ?_
  rintro e w1 ⟨v0, rfl, hn0, hb1⟩
  have z2 := hb1.size
  try simp at z2
  have b1 : Blk w1 w.heap.size #[.int .i64 0, .int .i64 0, .int .i64 0, .int .i64 0, .int .u64 0] 34 := by exact blkAny2
  have b2 : Blk w1 (w.heap.size + 1) #[.int .i64 0, .int .i64 0, .int .i64 0, .int .i64 0, .int .u64 0] 34 := by exact blkAny2
  have hW : Below w.heap.size w w1 := by exact belowAny
  have z3 := b1.lt
  have z4 := b2.lt
  have k1 := b1.cell
  have f1 := b1.frozen
  have k2 := b2.cell
  have f2 := b2.frozen
  obtain ⟨ps, ls, cs, rfl, hq0⟩ := num_shape hn0
  clear hn0
  replace hq0 := Lib.hid hq0
  rw [show decide ((0 : Int) < 0) = false by rfl]
  go_wp2
  refine wp_loop (rfoRel w w1.heap.size p cap P a b) (fun a' _ => P.length - (intAt (a'.tmps.getD 9 undef)).toNat) ?_ ?_
  · unfold rfoRel
    exact ⟨belowAny, 0, [], ps, ls, cs, frame_ex rfl, rfl, by omega, by omega, (show Blk _ _ #[.int .i64 0, .int .i64 0, .int .i64 0, .int .i64 0, .int .u64 0] 34 from by exact blkAny2), by exact blkAny2, by exact blkAny2, hq0.out.below belowAny⟩
  · rintro a' W ⟨hW0, i, Q, ps, ls, cs, ⟨u, rfl⟩, hQ, hi', hg8, b1, b2, b3, hq⟩
    have hz := hW0.size
    have zb1 := b1.lt
    have zb2 := b2.lt
    have zb3 := b3.lt
    replace hq := Lib.hid hq
    rcases Nat.lt_or_ge i P.length with hlt | hge
    · obtain ⟨⟨t, v⟩, tx⟩ : ∃ x, P[i]? = some x := ⟨P[i]'(by omega), List.getElem?_eq_getElem (by omega)⟩
      obtain ⟨bp, op, rfl, -⟩ := hP0.at' i _ tx
      have hP : PtsP W bp op P := ⟨hP0.below hW0⟩
      have bv := hback.out _ (List.mem_of_getElem? tx)
      have htk := Lib.hid (show P.take (i + 1) = P.take i ++ [(t, v)] by rw [List.take_add_one, tx]; rfl)
      replace tx := Lib.hid tx
      have l1 := hlt
      by_cases hin : t < a ∨ b < t
      · have hQ' := Lib.hid (show Q = selL a b (P.take (i + 1)) by rw [htk.out, selL_out _ hin, hQ])
        clear hQ
        obtain ⟨q1, q2⟩ := hP.cellAt tx.out
        rcases hin with hin | hin
        · go_wp2
          rw [show (i : Int) + 1 = ((i + 1 : Nat) : Int) by omega]
          refine ⟨?_, by simp [intAt]; omega⟩
          unfold rfoRel
          exact ⟨hW0, i + 1, Q, ps, ls, cs, frame_ex rfl, hQ'.out, by omega, hg8, b1, b2, b3, hq.out⟩
        · by_cases hta : t < a
          · go_wp2
            rw [show (i : Int) + 1 = ((i + 1 : Nat) : Int) by omega]
            refine ⟨?_, by simp [intAt]; omega⟩
            unfold rfoRel
            exact ⟨hW0, i + 1, Q, ps, ls, cs, frame_ex rfl, hQ'.out, by omega, hg8, b1, b2, b3, hq.out⟩
          · go_wp2
            rw [show (i : Int) + 1 = ((i + 1 : Nat) : Int) by omega]
            refine ⟨?_, by simp [intAt]; omega⟩
            unfold rfoRel
            exact ⟨hW0, i + 1, Q, ps, ls, cs, frame_ex rfl, hQ'.out, by omega, hg8, b1, b2, b3, hq.out⟩
      · have hta : ¬ t < a := fun h => hin (.inl h)
        have htb : ¬ b < t := fun h => hin (.inr h)
        have hQ' := Lib.hid (show Q ++ [v] = selL a b (P.take (i + 1)) by rw [htk.out, selL_in _ (show a ≤ (t, v).1 by simp; omega) (show (t, v).1 ≤ b by simp; omega), hQ])
        have hs := Lib.hid (show lsum (Q ++ [v]) = lsum Q + v by rw [lsum_append]; simp [lsum])
        have hmem := Lib.hid (show ∀ x, x ∈ Q → -2305844108725321728 ≤ x ∧ x ≤ 2305844108725321728 from fun x hx => by
          rw [hQ] at hx
          unfold selL at hx
          simp only [List.mem_map, List.mem_filter] at hx
          obtain ⟨y, ⟨hy, _⟩, rfl⟩ := hx
          exact hback.out _ (List.mem_of_mem_take hy))
        have hQl : Q.length ≤ 300 := by
          have := congrArg List.length hQ
          unfold selL at this
          rw [List.length_map] at this
          have h2 := List.length_filter_le (selB a b) (P.take i)
          rw [List.length_take] at h2
          omega
        have hs9 : (lsum Q).natAbs < 2 ^ 900 := by
          have h1 := lsum_bd hmem.out
          exact lt_pow2 128 900 (show (lsum Q).natAbs < 2 ^ 128 by omega) (by omega)
        have hv9 : v.natAbs < 2 ^ 900 := lt_pow2 128 900 (show v.natAbs < 2 ^ 128 by simp at bv; omega) (by omega)
        simp at bv
        clear hQ hin
        cases hQe : Q with
        | nil =>
          subst hQe
          have hO := Lib.hid (show (#[.int .i64 (([] ++ [v]).length : Int), .int .i64 (minL ([] ++ [v])), .int .i64 (maxL ([] ++ [v])), .int .i64 0, .int .u64 0] : Array Value) = #[.int .i64 1, .int .i64 v, .int .i64 v, .int .i64 0, .int .u64 0] from rfl)
          have b4 := hP
          have b5 := hq.out
          have hW := hW0
          clear hP hq hW0
          have b1' : Blk W (w.heap.size + 1) #[.int .i64 0, .int .i64 0, .int .i64 0, .int .i64 0, .int .u64 0] 34 := b1
          clear b1
          have b1 := b1'
          clear b1'
          have k1 := b1.cell
          have f1 := b1.frozen
          have k2 := b2.cell
          have f2 := b2.frozen
          have k3 := b3.cell
          have f3 := b3.frozen
          obtain ⟨q1, q2⟩ := b4.cellAt tx.out
          have zt := cell_lt q1
          try simp at zt
          go_upto_region 7 with (fail)
          clear k1 f1 k2 f2 k3 f3
          refine wp_facts (fun W' => Below w.heap.size w W' ∧ Blk W' (w.heap.size + 1) #[.int .i64 0, .int .i64 0, .int .i64 0, .int .i64 0, .int .u64 0] 34 ∧ Blk W' w1.heap.size #[.bool (decide (lsum [] < 0)), .slice ps ls cs] 94 ∧ Blk W' w.heap.size #[.int .i64 0, .int .i64 0, .int .i64 0, .int .i64 0, .int .u64 0] 34 ∧ PtsP W' bp op P ∧ Bits W' (.slice ps ls cs) (lsum []).natAbs) ⟨by exact belowAny, by exact blkAny2, by exact blkAny2, by exact blkAny2, by exact ⟨hP0.below belowAny⟩, by first | exact b5 | exact b5.setT b1 (by decide) _ _⟩ ?_
          clear b1 b2 b3 b4 b5 hW
          rintro W31 ⟨hW, b1, b2, b3, b4, b5⟩
          have z32 := hW.size
          have z33 := b1.lt
          have z34 := b2.lt
          have z35 := b3.lt
          refine wp_region_ndQ 13 91 [] (fun W' => Rex [] W31 W' ∧ Blk W' (w.heap.size + 1) #[.int .i64 0, .int .i64 0, .int .i64 0, .int .i64 0, .int .u64 0] 34 ∧ Blk W' w1.heap.size #[.bool (decide (lsum [] < 0)), .slice ps ls cs] 94 ∧ Blk W' w.heap.size #[.int .i64 0, .int .i64 0, .int .i64 0, .int .i64 0, .int .u64 0] 34 ∧ PtsP W' bp op P ∧ Bits W' (.slice ps ls cs) (lsum []).natAbs) mixed (by kernel_rfl) rfl ⟨(Rex.refl _ _).drew, b1, b2, b3, b4.drew, b5.drew⟩ (fun w w' ⟨h0, h1, h2, h3, h4, h5⟩ hr => ⟨h0.trans hr, h1.rex hr (by simp <;> omega), h2.rex hr (by simp <;> omega), h3.rex hr (by simp <;> omega), h4.rex hr (by simp <;> omega), h5.rex hr (by simp <;> omega)⟩) rfl ?_
          iterate 4
            apply nd_det (hg := rfl) (hal := rfl)
            · intro a W' hC hE
              obtain ⟨_, k1, k2, k3, k4, k5⟩ := hC
              have k1 := k1.cell
              first
                | (simp [Oper.looksAt, Op.operands, Call.operands, envOf, Det] at hE; simp [go_sem, Act.eval, IntWalk.i64_left, hE, k1, k2, k3, k4, k5]; try rfl)
                | (clear hE; simp [go_sem, Act.eval, IntWalk.i64_left, k1, k2, k3, k4, k5]; try rfl)
          apply nd_detg (p := true) (c := undef) (hg := rfl) (hd := rfl) (hal := rfl)
          · intro v W' h
            simp [envOf, Det] at h
            simp
            exact h
          · intro hp hx
            exact absurd hx (by decide)
          apply nd_detg (p := true) (c := undef) (hg := rfl) (hd := rfl) (hal := rfl)
          · intro v W' h
            simp [envOf, Det] at h
            simp
            exact h
          · intro hp hx
            exact absurd hx (by decide)
          apply nd_detg (p := true) (c := undef) (hg := rfl) (hd := rfl) (hal := rfl)
          · intro v W' h
            simp [envOf, Det] at h
            simp
            exact h
          · intro hp hx
            exact absurd hx (by decide)
          apply nd_detg (p := true) (c := undef) (hg := rfl) (hd := rfl) (hal := rfl)
          · intro v W' h
            simp [envOf, Det] at h
            simp
            exact h
          · intro hp hx
            exact absurd hx (by decide)
          apply nd_detg (p := true) (c := undef) (hg := rfl) (hd := rfl) (hal := rfl)
          · intro v W' h
            simp [envOf, Det] at h
            simp
            exact h
          · intro hp hx
            exact absurd hx (by decide)
          apply nd_detg (p := true) (c := undef) (hg := rfl) (hd := rfl) (hal := rfl)
          · intro v W' h
            simp [envOf, Det] at h
            simp
            exact h
          · intro hp hx
            exact absurd hx (by decide)
          apply nd_detg (p := true) (c := undef) (hg := rfl) (hd := rfl) (hal := rfl)
          · intro v W' h
            simp [envOf, Det] at h
            simp
            exact h
          · intro hp hx
            exact absurd hx (by decide)
          apply nd_detg (p := true) (c := undef) (hg := rfl) (hd := rfl) (hal := rfl)
          · intro v W' h
            simp [envOf, Det] at h
            simp
            exact h
          · intro hp hx
            exact absurd hx (by decide)
          apply nd_pick_or (y := false) (ho := rfl) (hg := rfl)
          · intro v W' h
            simp [envOf, Det] at h
            exact h
          · intro v W' h hx
            exact absurd hx (by decide)
          rintro W36 ⟨hR, d1, d2, d3, d4, d5⟩
          simp only [ndFinR, Det, forall_eq]
          intros
          repeat (rename GDet _ _ _ _ => hgd; clear hgd)
          simp only [Act.put, List.setIfInBounds_toArray, List.set_cons_zero, List.set_cons_succ]
          refine wpList_nil ?_
          replace hW := hW.trans (hR.of_priv hW.size)
          clear hR
          try clear b1 b2 b3 b4 b5
          have b1 := d1
          clear d1
          have b2 := d2
          clear d2
          have b3 := d3
          clear d3
          have b4 := d4
          clear d4
          have b5 := d5
          clear d5
          have k1 := b1.cell
          have f1 := b1.frozen
          have k2 := b2.cell
          have f2 := b2.frozen
          have k3 := b3.cell
          have f3 := b3.frozen
          obtain ⟨q1, q2⟩ := b4.cellAt tx.out
          have z37 := hW.size
          have z38 := b1.lt
          have z39 := b2.lt
          have z40 := b3.lt
          go_upto_region 9 with (fail)
          clear k1 f1 k2 f2 k3 f3
          refine wp_facts (fun W' => Below w.heap.size w W' ∧ Blk W' (w.heap.size + 1) #[.int .i64 0, .int .i64 v, .int .i64 0, .int .i64 0, .int .u64 0] 34 ∧ Blk W' w1.heap.size #[.bool (decide (lsum [] < 0)), .slice ps ls cs] 94 ∧ Blk W' w.heap.size #[.int .i64 0, .int .i64 0, .int .i64 0, .int .i64 0, .int .u64 0] 34 ∧ PtsP W' bp op P ∧ Bits W' (.slice ps ls cs) (lsum []).natAbs) ⟨by exact belowAny, by exact blkAny2, by exact blkAny2, by exact blkAny2, by exact ⟨hP0.below belowAny⟩, by first | exact b5 | exact b5.setT b1 (by decide) _ _⟩ ?_
          clear b1 b2 b3 b4 b5 hW
          rintro W41 ⟨hW, b1, b2, b3, b4, b5⟩
          have z42 := hW.size
          have z43 := b1.lt
          have z44 := b2.lt
          have z45 := b3.lt
          refine wp_region_ndQ 13 91 [] (fun W' => Rex [] W41 W' ∧ Blk W' (w.heap.size + 1) #[.int .i64 0, .int .i64 v, .int .i64 0, .int .i64 0, .int .u64 0] 34 ∧ Blk W' w1.heap.size #[.bool (decide (lsum [] < 0)), .slice ps ls cs] 94 ∧ Blk W' w.heap.size #[.int .i64 0, .int .i64 0, .int .i64 0, .int .i64 0, .int .u64 0] 34 ∧ PtsP W' bp op P ∧ Bits W' (.slice ps ls cs) (lsum []).natAbs) mixed (by kernel_rfl) rfl ⟨(Rex.refl _ _).drew, b1, b2, b3, b4.drew, b5.drew⟩ (fun w w' ⟨h0, h1, h2, h3, h4, h5⟩ hr => ⟨h0.trans hr, h1.rex hr (by simp <;> omega), h2.rex hr (by simp <;> omega), h3.rex hr (by simp <;> omega), h4.rex hr (by simp <;> omega), h5.rex hr (by simp <;> omega)⟩) rfl ?_
          iterate 4
            apply nd_det (hg := rfl) (hal := rfl)
            · intro a W' hC hE
              obtain ⟨_, k1, k2, k3, k4, k5⟩ := hC
              have k1 := k1.cell
              first
                | (simp [Oper.looksAt, Op.operands, Call.operands, envOf, Det] at hE; simp [go_sem, Act.eval, IntWalk.i64_left, hE, k1, k2, k3, k4, k5]; try rfl)
                | (clear hE; simp [go_sem, Act.eval, IntWalk.i64_left, k1, k2, k3, k4, k5]; try rfl)
          apply nd_detg (p := true) (c := undef) (hg := rfl) (hd := rfl) (hal := rfl)
          · intro v W' h
            simp [envOf, Det] at h
            simp
            exact h
          · intro hp hx
            exact absurd hx (by decide)
          apply nd_detg (p := true) (c := undef) (hg := rfl) (hd := rfl) (hal := rfl)
          · intro v W' h
            simp [envOf, Det] at h
            simp
            exact h
          · intro hp hx
            exact absurd hx (by decide)
          apply nd_detg (p := true) (c := undef) (hg := rfl) (hd := rfl) (hal := rfl)
          · intro v W' h
            simp [envOf, Det] at h
            simp
            exact h
          · intro hp hx
            exact absurd hx (by decide)
          apply nd_detg (p := true) (c := undef) (hg := rfl) (hd := rfl) (hal := rfl)
          · intro v W' h
            simp [envOf, Det] at h
            simp
            exact h
          · intro hp hx
            exact absurd hx (by decide)
          apply nd_detg (p := true) (c := undef) (hg := rfl) (hd := rfl) (hal := rfl)
          · intro v W' h
            simp [envOf, Det] at h
            simp
            exact h
          · intro hp hx
            exact absurd hx (by decide)
          apply nd_detg (p := true) (c := undef) (hg := rfl) (hd := rfl) (hal := rfl)
          · intro v W' h
            simp [envOf, Det] at h
            simp
            exact h
          · intro hp hx
            exact absurd hx (by decide)
          apply nd_detg (p := true) (c := undef) (hg := rfl) (hd := rfl) (hal := rfl)
          · intro v W' h
            simp [envOf, Det] at h
            simp
            exact h
          · intro hp hx
            exact absurd hx (by decide)
          apply nd_detg (p := true) (c := undef) (hg := rfl) (hd := rfl) (hal := rfl)
          · intro v W' h
            simp [envOf, Det] at h
            simp
            exact h
          · intro hp hx
            exact absurd hx (by decide)
          apply nd_pick_or (y := false) (ho := rfl) (hg := rfl)
          · intro v W' h
            simp [envOf, Det] at h
            exact h
          · intro v W' h hx
            exact absurd hx (by decide)
          rintro W46 ⟨hR, d1, d2, d3, d4, d5⟩
          simp only [ndFinR, Det, forall_eq]
          intros
          repeat (rename GDet _ _ _ _ => hgd; clear hgd)
          simp only [Act.put, List.setIfInBounds_toArray, List.set_cons_zero, List.set_cons_succ]
          refine wpList_nil ?_
          replace hW := hW.trans (hR.of_priv hW.size)
          clear hR
          try clear b1 b2 b3 b4 b5
          have b1 := d1
          clear d1
          have b2 := d2
          clear d2
          have b3 := d3
          clear d3
          have b4 := d4
          clear d4
          have b5 := d5
          clear d5
          have k1 := b1.cell
          have f1 := b1.frozen
          have k2 := b2.cell
          have f2 := b2.frozen
          have k3 := b3.cell
          have f3 := b3.frozen
          obtain ⟨q1, q2⟩ := b4.cellAt tx.out
          have z47 := hW.size
          have z48 := b1.lt
          have z49 := b2.lt
          have z50 := b3.lt
          go_upto_region 11 with (fail)
          clear k1 f1 k2 f2 k3 f3
          refine wp_facts (fun W' => Below w.heap.size w W' ∧ Blk W' (w.heap.size + 1) #[.int .i64 0, .int .i64 v, .int .i64 v, .int .i64 0, .int .u64 0] 34 ∧ Blk W' w1.heap.size #[.bool (decide (lsum [] < 0)), .slice ps ls cs] 94 ∧ Blk W' w.heap.size #[.int .i64 0, .int .i64 0, .int .i64 0, .int .i64 0, .int .u64 0] 34 ∧ PtsP W' bp op P ∧ Bits W' (.slice ps ls cs) (lsum []).natAbs) ⟨by exact belowAny, by exact blkAny2, by exact blkAny2, by exact blkAny2, by exact ⟨hP0.below belowAny⟩, by first | exact b5 | exact b5.setT b1 (by decide) _ _⟩ ?_
          clear b1 b2 b3 b4 b5 hW
          rintro W51 ⟨hW, b1, b2, b3, b4, b5⟩
          have z52 := hW.size
          have z53 := b1.lt
          have z54 := b2.lt
          have z55 := b3.lt
          have k1 := b1.cell
          have f1 := b1.frozen
          have k2 := b2.cell
          have f2 := b2.frozen
          have k3 := b3.cell
          have f3 := b3.frozen
          go_upto_region 12 with (fail)
          clear k1 f1 k2 f2 k3 f3
          refine wp_facts (fun W' => Below w.heap.size w W' ∧ Blk W' (w.heap.size + 1) #[.int .i64 1, .int .i64 v, .int .i64 v, .int .i64 0, .int .u64 0] 34 ∧ Blk W' w1.heap.size #[.bool (decide (lsum [] < 0)), .slice ps ls cs] 94 ∧ Blk W' w.heap.size #[.int .i64 0, .int .i64 0, .int .i64 0, .int .i64 0, .int .u64 0] 34 ∧ PtsP W' bp op P ∧ Bits W' (.slice ps ls cs) (lsum []).natAbs) ⟨by exact belowAny, by exact blkAny2, by exact blkAny2, by exact blkAny2, by exact ⟨hP0.below belowAny⟩, by first | exact b5 | exact b5.setT b1 (by decide) _ _⟩ ?_
          clear b1 b2 b3 b4 b5 hW
          rintro W56 ⟨hW, b1, b2, b3, b4, b5⟩
          have z57 := hW.size
          have z58 := b1.lt
          have z59 := b2.lt
          have z60 := b3.lt
          refine wp_region_nd 8 91 [] (fun W' => Rex [] W56 W' ∧ Blk W' (w.heap.size + 1) #[.int .i64 1, .int .i64 v, .int .i64 v, .int .i64 0, .int .u64 0] 34 ∧ Blk W' w1.heap.size #[.bool (decide (lsum [] < 0)), .slice ps ls cs] 94 ∧ Blk W' w.heap.size #[.int .i64 0, .int .i64 0, .int .i64 0, .int .i64 0, .int .u64 0] 34 ∧ PtsP W' bp op P ∧ Bits W' (.slice ps ls cs) (lsum []).natAbs) mixed (by kernel_rfl) rfl ⟨(Rex.refl _ _).drew, b1, b2, b3, b4.drew, b5.drew⟩ (fun w w' ⟨h0, h1, h2, h3, h4, h5⟩ hr => ⟨h0.trans hr, h1.rex hr (by simp <;> omega), h2.rex hr (by simp <;> omega), h3.rex hr (by simp <;> omega), h4.rex hr (by simp <;> omega), h5.rex hr (by simp <;> omega)⟩) (fun c a d v w h => by cases d <;> exact h) ?_
          iterate 6
            apply nd_det (hg := rfl) (hal := rfl)
            · intro a W' hC hE
              obtain ⟨_, k1, k2, k3, k4, k5⟩ := hC
              have k2 := k2.cell
              obtain ⟨q1, q2⟩ := k4.cellAt tx.out
              first
                | (simp [Oper.looksAt, Op.operands, Call.operands, envOf, Det] at hE; simp [go_sem, Act.eval, IntWalk.i64_left, hE, k1, k2, k3, k4, k5, q1, q2, l1]; try rfl)
                | (clear hE; simp [go_sem, Act.eval, IntWalk.i64_left, k1, k2, k3, k4, k5, q1, q2, l1]; try rfl)
          apply nd_call (NI v) (hg := rfl) (hal := rfl)
          · exact NI.closed _
          · intro a W' hC hE
            simp [Oper.looksAt, Op.operands, Call.operands, envOf, Det] at hE
            refine ⟨_, _, ?_, (c_refInt v W' (by omega) (by omega)).mono ?_⟩
            · simp [go_sem, Act.eval, hE]
              try rfl
            · rintro e w' ⟨v, rfl, hB, hR⟩
              exact ⟨_, rfl, hR, hB⟩
          apply nd_call (NI (lsum [] + v)) (hg := rfl) (hal := rfl)
          · exact NI.closed _
          · intro a W' hC hE
            simp [Oper.looksAt, Op.operands, Call.operands, envOf, Det] at hE
            refine ⟨_, _, ?_, (c_refAdd (.agg #[.bool (decide (lsum [] < 0)), .slice ps ls cs]) _ (lsum []) v W' ⟨_, rfl, hC.2.2.2.2.2⟩ hE.2 hs9 hv9).mono ?_⟩
            · simp [go_sem, Act.eval, hE.1]
              try rfl
            · rintro e w' ⟨v, rfl, hB, hR⟩
              exact ⟨_, rfl, hR, hB⟩
          rintro W50 ⟨hR, d1, d2, d3, d4, d5⟩
          simp only [ndFinR, Det, forall_eq]
          intros
          repeat (rename GDet _ _ _ _ => hgd; clear hgd)
          simp only [Act.put, List.setIfInBounds_toArray, List.set_cons_zero, List.set_cons_succ, List.drop_succ_cons, List.drop_zero]
          clear b1 b2 b3 b4 b5
          have b1 := d1
          have b2 := d2
          have b3 := d3
          clear d1 d2 d3 d4 d5
          replace hW := hW.trans (hR.of_priv hW.size)
          clear hR
          rename NI (lsum [] + v) _ _ => hi1
          obtain ⟨p1, l2, k9, rfl, hq1⟩ := num_shape hi1
          clear hi1
          replace hq1 := Lib.hid hq1
          have k1 := b1.cell
          have f1 := b1.frozen
          have k2 := b2.cell
          have f2 := b2.frozen
          have k3 := b3.cell
          have f3 := b3.frozen
          have z91 := hW.size
          have z92 := b1.lt
          have z93 := b2.lt
          have z94 := b3.lt
          obtain ⟨B, hB⟩ : ∃ B, B = (decide (lsum [] + v < 0)) := ⟨_, rfl⟩
          rw [← hB]
          replace hB := Lib.hid hB
          have hS := Lib.hid (hq1.out.store b2 (.bool B) (.slice p1 l2 k9))
          go_wp2
          rw [show (i : Int) + 1 = ((i + 1 : Nat) : Int) by omega]
          refine ⟨?_, by simp [intAt]; omega⟩
          unfold rfoRel
          exact ⟨by exact belowAny, i + 1, [] ++ [v], p1, l2, k9, frame_ex rfl, hQ'.out, by omega, hg8, by rw [hO.out]; exact blkAny2, by rw [hs.out, ← hB.out]; exact blkAny2, by exact blkAny2, by rw [hs.out]; exact hS.out⟩
        | cons q0 Q1 =>
          have hne : Q ≠ [] := by rw [hQe]; simp
          have hQ0 := Lib.hid (show ((Q.length : Int) == 0) = false by rw [hQe]; simp; omega)
          clear hQe
          have hmn := minL_append hne (show [v] ≠ [] by simp)
          have hmx := maxL_append hne (show [v] ≠ [] by simp)
          have hle : minL Q ≤ maxL Q := (minL_is hne).2 _ (maxL_is hne).1
          rw [show minL [v] = v from rfl] at hmn
          rw [show maxL [v] = v from rfl] at hmx
          replace hmn := Lib.hid hmn
          replace hmx := Lib.hid hmx
          clear hne
          by_cases hlo : v < minL Q
          · have e1 := Lib.hid (show decide (v < minL Q) = true by simp [hlo])
            have e2 := Lib.hid (show decide (maxL Q < v) = false by simp; omega)
            have hO := Lib.hid (show (#[.int .i64 ((Q ++ [v]).length : Int), .int .i64 (minL (Q ++ [v])), .int .i64 (maxL (Q ++ [v])), .int .i64 0, .int .u64 0] : Array Value) = #[.int .i64 ((Q.length : Int) + 1), .int .i64 v, .int .i64 (maxL Q), .int .i64 0, .int .u64 0] by rw [hmn.out, hmx.out, show min (minL Q) v = v by omega, show max (maxL Q) v = maxL Q by omega, List.length_append]; rfl)
            clear hlo hle
            have b4 := hP
            have b5 := hq.out
            have hW := hW0
            clear hP hq hW0
            have k1 := b1.cell
            have f1 := b1.frozen
            have k2 := b2.cell
            have f2 := b2.frozen
            have k3 := b3.cell
            have f3 := b3.frozen
            obtain ⟨q1, q2⟩ := b4.cellAt tx.out
            have zt := cell_lt q1
            try simp at zt
            go_upto_region 7 with (fail)
            clear k1 f1 k2 f2 k3 f3
            refine wp_facts (fun W' => Below w.heap.size w W' ∧ Blk W' (w.heap.size + 1) #[.int .i64 (Q.length : Int), .int .i64 (minL Q), .int .i64 (maxL Q), .int .i64 0, .int .u64 0] 34 ∧ Blk W' w1.heap.size #[.bool (decide (lsum Q < 0)), .slice ps ls cs] 94 ∧ Blk W' w.heap.size #[.int .i64 0, .int .i64 0, .int .i64 0, .int .i64 0, .int .u64 0] 34 ∧ PtsP W' bp op P ∧ Bits W' (.slice ps ls cs) (lsum Q).natAbs) ⟨by exact belowAny, by exact blkAny2, by exact blkAny2, by exact blkAny2, by exact ⟨hP0.below belowAny⟩, by first | exact b5 | exact b5.setT b1 (by decide) _ _⟩ ?_
            clear b1 b2 b3 b4 b5 hW
            rintro W31 ⟨hW, b1, b2, b3, b4, b5⟩
            have z32 := hW.size
            have z33 := b1.lt
            have z34 := b2.lt
            have z35 := b3.lt
            refine wp_region_ndQ 13 91 [] (fun W' => Rex [] W31 W' ∧ Blk W' (w.heap.size + 1) #[.int .i64 (Q.length : Int), .int .i64 (minL Q), .int .i64 (maxL Q), .int .i64 0, .int .u64 0] 34 ∧ Blk W' w1.heap.size #[.bool (decide (lsum Q < 0)), .slice ps ls cs] 94 ∧ Blk W' w.heap.size #[.int .i64 0, .int .i64 0, .int .i64 0, .int .i64 0, .int .u64 0] 34 ∧ PtsP W' bp op P ∧ Bits W' (.slice ps ls cs) (lsum Q).natAbs) mixed (by kernel_rfl) rfl ⟨(Rex.refl _ _).drew, b1, b2, b3, b4.drew, b5.drew⟩ (fun w w' ⟨h0, h1, h2, h3, h4, h5⟩ hr => ⟨h0.trans hr, h1.rex hr (by simp <;> omega), h2.rex hr (by simp <;> omega), h3.rex hr (by simp <;> omega), h4.rex hr (by simp <;> omega), h5.rex hr (by simp <;> omega)⟩) rfl ?_
            iterate 4
              apply nd_det (hg := rfl) (hal := rfl)
              · intro a W' hC hE
                obtain ⟨_, k1, k2, k3, k4, k5⟩ := hC
                have k1 := k1.cell
                obtain ⟨q1, q2⟩ := k4.cellAt tx.out
                first
                  | (simp [Oper.looksAt, Op.operands, Call.operands, envOf, Det] at hE; simp [go_sem, Act.eval, IntWalk.i64_left, hE, k1, k2, k3, k4, k5, q1, q2, l1, hQ0.out, e1.out]; try rfl)
                  | (clear hE; simp [go_sem, Act.eval, IntWalk.i64_left, k1, k2, k3, k4, k5, q1, q2, l1, hQ0.out, e1.out]; try rfl)
            iterate 8
              apply nd_detg (p := true) (hg := rfl) (hd := rfl) (hal := rfl)
              · intro v W' h
                simp [envOf, Det] at h
                simp
                exact h
              · intro hp hx a W' hC hE
                obtain ⟨_, k1, k2, k3, k4, k5⟩ := hC
                have k1 := k1.cell
                obtain ⟨q1, q2⟩ := k4.cellAt tx.out
                simp [Oper.looksAt, Op.operands, Call.operands, envOf, Det, GDet, hx] at hE
                simp [go_sem, Act.eval, IntWalk.i64_left, hE, k1, k2, k3, k4, k5, q1, q2, l1, hQ0.out, e1.out]
                try rfl
            apply nd_pick_or (ho := rfl) (hg := rfl)
            · intro v W' h
              simp [envOf, Det] at h
              exact h
            · intro v W' h hx
              simp [envOf, GDet, hx] at h
              exact h
            rintro W36 ⟨hR, d1, d2, d3, d4, d5⟩
            simp only [ndFinR, Det, forall_eq]
            intros
            repeat (rename GDet _ _ _ _ => hgd; clear hgd)
            simp only [Act.put, List.setIfInBounds_toArray, List.set_cons_zero, List.set_cons_succ]
            refine wpList_nil ?_
            replace hW := hW.trans (hR.of_priv hW.size)
            clear hR
            try clear b1 b2 b3 b4 b5
            have b1 := d1
            clear d1
            have b2 := d2
            clear d2
            have b3 := d3
            clear d3
            have b4 := d4
            clear d4
            have b5 := d5
            clear d5
            have k1 := b1.cell
            have f1 := b1.frozen
            have k2 := b2.cell
            have f2 := b2.frozen
            have k3 := b3.cell
            have f3 := b3.frozen
            obtain ⟨q1, q2⟩ := b4.cellAt tx.out
            have z37 := hW.size
            have z38 := b1.lt
            have z39 := b2.lt
            have z40 := b3.lt
            go_upto_region 9 with (fail)
            clear k1 f1 k2 f2 k3 f3
            refine wp_facts (fun W' => Below w.heap.size w W' ∧ Blk W' (w.heap.size + 1) #[.int .i64 (Q.length : Int), .int .i64 v, .int .i64 (maxL Q), .int .i64 0, .int .u64 0] 34 ∧ Blk W' w1.heap.size #[.bool (decide (lsum Q < 0)), .slice ps ls cs] 94 ∧ Blk W' w.heap.size #[.int .i64 0, .int .i64 0, .int .i64 0, .int .i64 0, .int .u64 0] 34 ∧ PtsP W' bp op P ∧ Bits W' (.slice ps ls cs) (lsum Q).natAbs) ⟨by exact belowAny, by exact blkAny2, by exact blkAny2, by exact blkAny2, by exact ⟨hP0.below belowAny⟩, by first | exact b5 | exact b5.setT b1 (by decide) _ _⟩ ?_
            clear b1 b2 b3 b4 b5 hW
            rintro W41 ⟨hW, b1, b2, b3, b4, b5⟩
            have z42 := hW.size
            have z43 := b1.lt
            have z44 := b2.lt
            have z45 := b3.lt
            refine wp_region_ndQ 13 91 [] (fun W' => Rex [] W41 W' ∧ Blk W' (w.heap.size + 1) #[.int .i64 (Q.length : Int), .int .i64 v, .int .i64 (maxL Q), .int .i64 0, .int .u64 0] 34 ∧ Blk W' w1.heap.size #[.bool (decide (lsum Q < 0)), .slice ps ls cs] 94 ∧ Blk W' w.heap.size #[.int .i64 0, .int .i64 0, .int .i64 0, .int .i64 0, .int .u64 0] 34 ∧ PtsP W' bp op P ∧ Bits W' (.slice ps ls cs) (lsum Q).natAbs) mixed (by kernel_rfl) rfl ⟨(Rex.refl _ _).drew, b1, b2, b3, b4.drew, b5.drew⟩ (fun w w' ⟨h0, h1, h2, h3, h4, h5⟩ hr => ⟨h0.trans hr, h1.rex hr (by simp <;> omega), h2.rex hr (by simp <;> omega), h3.rex hr (by simp <;> omega), h4.rex hr (by simp <;> omega), h5.rex hr (by simp <;> omega)⟩) rfl ?_
            iterate 4
              apply nd_det (hg := rfl) (hal := rfl)
              · intro a W' hC hE
                obtain ⟨_, k1, k2, k3, k4, k5⟩ := hC
                have k1 := k1.cell
                obtain ⟨q1, q2⟩ := k4.cellAt tx.out
                first
                  | (simp [Oper.looksAt, Op.operands, Call.operands, envOf, Det] at hE; simp [go_sem, Act.eval, IntWalk.i64_left, hE, k1, k2, k3, k4, k5, q1, q2, l1, hQ0.out, e2.out]; try rfl)
                  | (clear hE; simp [go_sem, Act.eval, IntWalk.i64_left, k1, k2, k3, k4, k5, q1, q2, l1, hQ0.out, e2.out]; try rfl)
            iterate 8
              apply nd_detg (p := true) (hg := rfl) (hd := rfl) (hal := rfl)
              · intro v W' h
                simp [envOf, Det] at h
                simp
                exact h
              · intro hp hx a W' hC hE
                obtain ⟨_, k1, k2, k3, k4, k5⟩ := hC
                have k1 := k1.cell
                obtain ⟨q1, q2⟩ := k4.cellAt tx.out
                simp [Oper.looksAt, Op.operands, Call.operands, envOf, Det, GDet, hx] at hE
                simp [go_sem, Act.eval, IntWalk.i64_left, hE, k1, k2, k3, k4, k5, q1, q2, l1, hQ0.out, e2.out]
                try rfl
            apply nd_pick_or (ho := rfl) (hg := rfl)
            · intro v W' h
              simp [envOf, Det] at h
              exact h
            · intro v W' h hx
              simp [envOf, GDet, hx] at h
              exact h
            rintro W46 ⟨hR, d1, d2, d3, d4, d5⟩
            simp only [ndFinR, Det, forall_eq]
            intros
            repeat (rename GDet _ _ _ _ => hgd; clear hgd)
            simp only [Act.put, List.setIfInBounds_toArray, List.set_cons_zero, List.set_cons_succ]
            refine wpList_nil ?_
            replace hW := hW.trans (hR.of_priv hW.size)
            clear hR
            try clear b1 b2 b3 b4 b5
            have b1 := d1
            clear d1
            have b2 := d2
            clear d2
            have b3 := d3
            clear d3
            have b4 := d4
            clear d4
            have b5 := d5
            clear d5
            have k1 := b1.cell
            have f1 := b1.frozen
            have k2 := b2.cell
            have f2 := b2.frozen
            have k3 := b3.cell
            have f3 := b3.frozen
            obtain ⟨q1, q2⟩ := b4.cellAt tx.out
            have z47 := hW.size
            have z48 := b1.lt
            have z49 := b2.lt
            have z50 := b3.lt
            go_upto_region 11 with (fail)
            clear k1 f1 k2 f2 k3 f3
            refine wp_facts (fun W' => Below w.heap.size w W' ∧ Blk W' (w.heap.size + 1) #[.int .i64 (Q.length : Int), .int .i64 v, .int .i64 (maxL Q), .int .i64 0, .int .u64 0] 34 ∧ Blk W' w1.heap.size #[.bool (decide (lsum Q < 0)), .slice ps ls cs] 94 ∧ Blk W' w.heap.size #[.int .i64 0, .int .i64 0, .int .i64 0, .int .i64 0, .int .u64 0] 34 ∧ PtsP W' bp op P ∧ Bits W' (.slice ps ls cs) (lsum Q).natAbs) ⟨by exact belowAny, by exact blkAny2, by exact blkAny2, by exact blkAny2, by exact ⟨hP0.below belowAny⟩, by first | exact b5 | exact b5.setT b1 (by decide) _ _⟩ ?_
            clear b1 b2 b3 b4 b5 hW
            rintro W51 ⟨hW, b1, b2, b3, b4, b5⟩
            have z52 := hW.size
            have z53 := b1.lt
            have z54 := b2.lt
            have z55 := b3.lt
            have k1 := b1.cell
            have f1 := b1.frozen
            have k2 := b2.cell
            have f2 := b2.frozen
            have k3 := b3.cell
            have f3 := b3.frozen
            go_upto_region 12 with (fail)
            clear k1 f1 k2 f2 k3 f3
            refine wp_facts (fun W' => Below w.heap.size w W' ∧ Blk W' (w.heap.size + 1) #[.int .i64 ((Q.length : Int) + 1), .int .i64 v, .int .i64 (maxL Q), .int .i64 0, .int .u64 0] 34 ∧ Blk W' w1.heap.size #[.bool (decide (lsum Q < 0)), .slice ps ls cs] 94 ∧ Blk W' w.heap.size #[.int .i64 0, .int .i64 0, .int .i64 0, .int .i64 0, .int .u64 0] 34 ∧ PtsP W' bp op P ∧ Bits W' (.slice ps ls cs) (lsum Q).natAbs) ⟨by exact belowAny, by exact blkAny2, by exact blkAny2, by exact blkAny2, by exact ⟨hP0.below belowAny⟩, by first | exact b5 | exact b5.setT b1 (by decide) _ _⟩ ?_
            clear b1 b2 b3 b4 b5 hW
            rintro W56 ⟨hW, b1, b2, b3, b4, b5⟩
            have z57 := hW.size
            have z58 := b1.lt
            have z59 := b2.lt
            have z60 := b3.lt
            refine wp_region_nd 8 91 [] (fun W' => Rex [] W56 W' ∧ Blk W' (w.heap.size + 1) #[.int .i64 ((Q.length : Int) + 1), .int .i64 v, .int .i64 (maxL Q), .int .i64 0, .int .u64 0] 34 ∧ Blk W' w1.heap.size #[.bool (decide (lsum Q < 0)), .slice ps ls cs] 94 ∧ Blk W' w.heap.size #[.int .i64 0, .int .i64 0, .int .i64 0, .int .i64 0, .int .u64 0] 34 ∧ PtsP W' bp op P ∧ Bits W' (.slice ps ls cs) (lsum Q).natAbs) mixed (by kernel_rfl) rfl ⟨(Rex.refl _ _).drew, b1, b2, b3, b4.drew, b5.drew⟩ (fun w w' ⟨h0, h1, h2, h3, h4, h5⟩ hr => ⟨h0.trans hr, h1.rex hr (by simp <;> omega), h2.rex hr (by simp <;> omega), h3.rex hr (by simp <;> omega), h4.rex hr (by simp <;> omega), h5.rex hr (by simp <;> omega)⟩) (fun c a d v w h => by cases d <;> exact h) ?_
            iterate 6
              apply nd_det (hg := rfl) (hal := rfl)
              · intro a W' hC hE
                obtain ⟨_, k1, k2, k3, k4, k5⟩ := hC
                have k2 := k2.cell
                obtain ⟨q1, q2⟩ := k4.cellAt tx.out
                first
                  | (simp [Oper.looksAt, Op.operands, Call.operands, envOf, Det] at hE; simp [go_sem, Act.eval, IntWalk.i64_left, hE, k1, k2, k3, k4, k5, q1, q2, l1]; try rfl)
                  | (clear hE; simp [go_sem, Act.eval, IntWalk.i64_left, k1, k2, k3, k4, k5, q1, q2, l1]; try rfl)
            apply nd_call (NI v) (hg := rfl) (hal := rfl)
            · exact NI.closed _
            · intro a W' hC hE
              simp [Oper.looksAt, Op.operands, Call.operands, envOf, Det] at hE
              refine ⟨_, _, ?_, (c_refInt v W' (by omega) (by omega)).mono ?_⟩
              · simp [go_sem, Act.eval, hE]
                try rfl
              · rintro e w' ⟨v, rfl, hB, hR⟩
                exact ⟨_, rfl, hR, hB⟩
            apply nd_call (NI (lsum Q + v)) (hg := rfl) (hal := rfl)
            · exact NI.closed _
            · intro a W' hC hE
              simp [Oper.looksAt, Op.operands, Call.operands, envOf, Det] at hE
              refine ⟨_, _, ?_, (c_refAdd (.agg #[.bool (decide (lsum Q < 0)), .slice ps ls cs]) _ (lsum Q) v W' ⟨_, rfl, hC.2.2.2.2.2⟩ hE.2 hs9 hv9).mono ?_⟩
              · simp [go_sem, Act.eval, hE.1]
                try rfl
              · rintro e w' ⟨v, rfl, hB, hR⟩
                exact ⟨_, rfl, hR, hB⟩
            rintro W50 ⟨hR, d1, d2, d3, d4, d5⟩
            simp only [ndFinR, Det, forall_eq]
            intros
            repeat (rename GDet _ _ _ _ => hgd; clear hgd)
            simp only [Act.put, List.setIfInBounds_toArray, List.set_cons_zero, List.set_cons_succ, List.drop_succ_cons, List.drop_zero]
            clear b1 b2 b3 b4 b5
            have b1 := d1
            have b2 := d2
            have b3 := d3
            clear d1 d2 d3 d4 d5
            replace hW := hW.trans (hR.of_priv hW.size)
            clear hR
            rename NI (lsum Q + v) _ _ => hi1
            obtain ⟨p1, l2, k9, rfl, hq1⟩ := num_shape hi1
            clear hi1
            replace hq1 := Lib.hid hq1
            have k1 := b1.cell
            have f1 := b1.frozen
            have k2 := b2.cell
            have f2 := b2.frozen
            have k3 := b3.cell
            have f3 := b3.frozen
            have z91 := hW.size
            have z92 := b1.lt
            have z93 := b2.lt
            have z94 := b3.lt
            obtain ⟨B, hB⟩ : ∃ B, B = (decide (lsum Q + v < 0)) := ⟨_, rfl⟩
            rw [← hB]
            replace hB := Lib.hid hB
            have hS := Lib.hid (hq1.out.store b2 (.bool B) (.slice p1 l2 k9))
            go_wp2
            rw [show (i : Int) + 1 = ((i + 1 : Nat) : Int) by omega]
            refine ⟨?_, by simp [intAt]; omega⟩
            unfold rfoRel
            exact ⟨by exact belowAny, i + 1, Q ++ [v], p1, l2, k9, frame_ex rfl, hQ'.out, by omega, hg8, by rw [hO.out]; exact blkAny2, by rw [hs.out, ← hB.out]; exact blkAny2, by exact blkAny2, by rw [hs.out]; exact hS.out⟩
          · by_cases hhi : maxL Q < v
            · have e1 := Lib.hid (show decide (v < minL Q) = false by simp; omega)
              have e2 := Lib.hid (show decide (maxL Q < v) = true by simp [hhi])
              have hO := Lib.hid (show (#[.int .i64 ((Q ++ [v]).length : Int), .int .i64 (minL (Q ++ [v])), .int .i64 (maxL (Q ++ [v])), .int .i64 0, .int .u64 0] : Array Value) = #[.int .i64 ((Q.length : Int) + 1), .int .i64 (minL Q), .int .i64 v, .int .i64 0, .int .u64 0] by rw [hmn.out, hmx.out, show min (minL Q) v = minL Q by omega, show max (maxL Q) v = v by omega, List.length_append]; rfl)
              clear hlo hle hhi
              have b4 := hP
              have b5 := hq.out
              have hW := hW0
              clear hP hq hW0
              have k1 := b1.cell
              have f1 := b1.frozen
              have k2 := b2.cell
              have f2 := b2.frozen
              have k3 := b3.cell
              have f3 := b3.frozen
              obtain ⟨q1, q2⟩ := b4.cellAt tx.out
              have zt := cell_lt q1
              try simp at zt
              go_upto_region 7 with (fail)
              clear k1 f1 k2 f2 k3 f3
              refine wp_facts (fun W' => Below w.heap.size w W' ∧ Blk W' (w.heap.size + 1) #[.int .i64 (Q.length : Int), .int .i64 (minL Q), .int .i64 (maxL Q), .int .i64 0, .int .u64 0] 34 ∧ Blk W' w1.heap.size #[.bool (decide (lsum Q < 0)), .slice ps ls cs] 94 ∧ Blk W' w.heap.size #[.int .i64 0, .int .i64 0, .int .i64 0, .int .i64 0, .int .u64 0] 34 ∧ PtsP W' bp op P ∧ Bits W' (.slice ps ls cs) (lsum Q).natAbs) ⟨by exact belowAny, by exact blkAny2, by exact blkAny2, by exact blkAny2, by exact ⟨hP0.below belowAny⟩, by first | exact b5 | exact b5.setT b1 (by decide) _ _⟩ ?_
              clear b1 b2 b3 b4 b5 hW
              rintro W31 ⟨hW, b1, b2, b3, b4, b5⟩
              have z32 := hW.size
              have z33 := b1.lt
              have z34 := b2.lt
              have z35 := b3.lt
              refine wp_region_ndQ 13 91 [] (fun W' => Rex [] W31 W' ∧ Blk W' (w.heap.size + 1) #[.int .i64 (Q.length : Int), .int .i64 (minL Q), .int .i64 (maxL Q), .int .i64 0, .int .u64 0] 34 ∧ Blk W' w1.heap.size #[.bool (decide (lsum Q < 0)), .slice ps ls cs] 94 ∧ Blk W' w.heap.size #[.int .i64 0, .int .i64 0, .int .i64 0, .int .i64 0, .int .u64 0] 34 ∧ PtsP W' bp op P ∧ Bits W' (.slice ps ls cs) (lsum Q).natAbs) mixed (by kernel_rfl) rfl ⟨(Rex.refl _ _).drew, b1, b2, b3, b4.drew, b5.drew⟩ (fun w w' ⟨h0, h1, h2, h3, h4, h5⟩ hr => ⟨h0.trans hr, h1.rex hr (by simp <;> omega), h2.rex hr (by simp <;> omega), h3.rex hr (by simp <;> omega), h4.rex hr (by simp <;> omega), h5.rex hr (by simp <;> omega)⟩) rfl ?_
              iterate 4
                apply nd_det (hg := rfl) (hal := rfl)
                · intro a W' hC hE
                  obtain ⟨_, k1, k2, k3, k4, k5⟩ := hC
                  have k1 := k1.cell
                  obtain ⟨q1, q2⟩ := k4.cellAt tx.out
                  first
                    | (simp [Oper.looksAt, Op.operands, Call.operands, envOf, Det] at hE; simp [go_sem, Act.eval, IntWalk.i64_left, hE, k1, k2, k3, k4, k5, q1, q2, l1, hQ0.out, e1.out]; try rfl)
                    | (clear hE; simp [go_sem, Act.eval, IntWalk.i64_left, k1, k2, k3, k4, k5, q1, q2, l1, hQ0.out, e1.out]; try rfl)
              iterate 8
                apply nd_detg (p := true) (hg := rfl) (hd := rfl) (hal := rfl)
                · intro v W' h
                  simp [envOf, Det] at h
                  simp
                  exact h
                · intro hp hx a W' hC hE
                  obtain ⟨_, k1, k2, k3, k4, k5⟩ := hC
                  have k1 := k1.cell
                  obtain ⟨q1, q2⟩ := k4.cellAt tx.out
                  simp [Oper.looksAt, Op.operands, Call.operands, envOf, Det, GDet, hx] at hE
                  simp [go_sem, Act.eval, IntWalk.i64_left, hE, k1, k2, k3, k4, k5, q1, q2, l1, hQ0.out, e1.out]
                  try rfl
              apply nd_pick_or (ho := rfl) (hg := rfl)
              · intro v W' h
                simp [envOf, Det] at h
                exact h
              · intro v W' h hx
                simp [envOf, GDet, hx] at h
                exact h
              rintro W36 ⟨hR, d1, d2, d3, d4, d5⟩
              simp only [ndFinR, Det, forall_eq]
              intros
              repeat (rename GDet _ _ _ _ => hgd; clear hgd)
              simp only [Act.put, List.setIfInBounds_toArray, List.set_cons_zero, List.set_cons_succ]
              refine wpList_nil ?_
              replace hW := hW.trans (hR.of_priv hW.size)
              clear hR
              try clear b1 b2 b3 b4 b5
              have b1 := d1
              clear d1
              have b2 := d2
              clear d2
              have b3 := d3
              clear d3
              have b4 := d4
              clear d4
              have b5 := d5
              clear d5
              have k1 := b1.cell
              have f1 := b1.frozen
              have k2 := b2.cell
              have f2 := b2.frozen
              have k3 := b3.cell
              have f3 := b3.frozen
              obtain ⟨q1, q2⟩ := b4.cellAt tx.out
              have z37 := hW.size
              have z38 := b1.lt
              have z39 := b2.lt
              have z40 := b3.lt
              go_upto_region 9 with (fail)
              clear k1 f1 k2 f2 k3 f3
              refine wp_facts (fun W' => Below w.heap.size w W' ∧ Blk W' (w.heap.size + 1) #[.int .i64 (Q.length : Int), .int .i64 (minL Q), .int .i64 (maxL Q), .int .i64 0, .int .u64 0] 34 ∧ Blk W' w1.heap.size #[.bool (decide (lsum Q < 0)), .slice ps ls cs] 94 ∧ Blk W' w.heap.size #[.int .i64 0, .int .i64 0, .int .i64 0, .int .i64 0, .int .u64 0] 34 ∧ PtsP W' bp op P ∧ Bits W' (.slice ps ls cs) (lsum Q).natAbs) ⟨by exact belowAny, by exact blkAny2, by exact blkAny2, by exact blkAny2, by exact ⟨hP0.below belowAny⟩, by first | exact b5 | exact b5.setT b1 (by decide) _ _⟩ ?_
              clear b1 b2 b3 b4 b5 hW
              rintro W41 ⟨hW, b1, b2, b3, b4, b5⟩
              have z42 := hW.size
              have z43 := b1.lt
              have z44 := b2.lt
              have z45 := b3.lt
              refine wp_region_ndQ 13 91 [] (fun W' => Rex [] W41 W' ∧ Blk W' (w.heap.size + 1) #[.int .i64 (Q.length : Int), .int .i64 (minL Q), .int .i64 (maxL Q), .int .i64 0, .int .u64 0] 34 ∧ Blk W' w1.heap.size #[.bool (decide (lsum Q < 0)), .slice ps ls cs] 94 ∧ Blk W' w.heap.size #[.int .i64 0, .int .i64 0, .int .i64 0, .int .i64 0, .int .u64 0] 34 ∧ PtsP W' bp op P ∧ Bits W' (.slice ps ls cs) (lsum Q).natAbs) mixed (by kernel_rfl) rfl ⟨(Rex.refl _ _).drew, b1, b2, b3, b4.drew, b5.drew⟩ (fun w w' ⟨h0, h1, h2, h3, h4, h5⟩ hr => ⟨h0.trans hr, h1.rex hr (by simp <;> omega), h2.rex hr (by simp <;> omega), h3.rex hr (by simp <;> omega), h4.rex hr (by simp <;> omega), h5.rex hr (by simp <;> omega)⟩) rfl ?_
              iterate 4
                apply nd_det (hg := rfl) (hal := rfl)
                · intro a W' hC hE
                  obtain ⟨_, k1, k2, k3, k4, k5⟩ := hC
                  have k1 := k1.cell
                  obtain ⟨q1, q2⟩ := k4.cellAt tx.out
                  first
                    | (simp [Oper.looksAt, Op.operands, Call.operands, envOf, Det] at hE; simp [go_sem, Act.eval, IntWalk.i64_left, hE, k1, k2, k3, k4, k5, q1, q2, l1, hQ0.out, e2.out]; try rfl)
                    | (clear hE; simp [go_sem, Act.eval, IntWalk.i64_left, k1, k2, k3, k4, k5, q1, q2, l1, hQ0.out, e2.out]; try rfl)
              iterate 8
                apply nd_detg (p := true) (hg := rfl) (hd := rfl) (hal := rfl)
                · intro v W' h
                  simp [envOf, Det] at h
                  simp
                  exact h
                · intro hp hx a W' hC hE
                  obtain ⟨_, k1, k2, k3, k4, k5⟩ := hC
                  have k1 := k1.cell
                  obtain ⟨q1, q2⟩ := k4.cellAt tx.out
                  simp [Oper.looksAt, Op.operands, Call.operands, envOf, Det, GDet, hx] at hE
                  simp [go_sem, Act.eval, IntWalk.i64_left, hE, k1, k2, k3, k4, k5, q1, q2, l1, hQ0.out, e2.out]
                  try rfl
              apply nd_pick_or (ho := rfl) (hg := rfl)
              · intro v W' h
                simp [envOf, Det] at h
                exact h
              · intro v W' h hx
                simp [envOf, GDet, hx] at h
                exact h
              rintro W46 ⟨hR, d1, d2, d3, d4, d5⟩
              simp only [ndFinR, Det, forall_eq]
              intros
              repeat (rename GDet _ _ _ _ => hgd; clear hgd)
              simp only [Act.put, List.setIfInBounds_toArray, List.set_cons_zero, List.set_cons_succ]
              refine wpList_nil ?_
              replace hW := hW.trans (hR.of_priv hW.size)
              clear hR
              try clear b1 b2 b3 b4 b5
              have b1 := d1
              clear d1
              have b2 := d2
              clear d2
              have b3 := d3
              clear d3
              have b4 := d4
              clear d4
              have b5 := d5
              clear d5
              have k1 := b1.cell
              have f1 := b1.frozen
              have k2 := b2.cell
              have f2 := b2.frozen
              have k3 := b3.cell
              have f3 := b3.frozen
              obtain ⟨q1, q2⟩ := b4.cellAt tx.out
              have z47 := hW.size
              have z48 := b1.lt
              have z49 := b2.lt
              have z50 := b3.lt
              go_upto_region 11 with (fail)
              clear k1 f1 k2 f2 k3 f3
              refine wp_facts (fun W' => Below w.heap.size w W' ∧ Blk W' (w.heap.size + 1) #[.int .i64 (Q.length : Int), .int .i64 (minL Q), .int .i64 v, .int .i64 0, .int .u64 0] 34 ∧ Blk W' w1.heap.size #[.bool (decide (lsum Q < 0)), .slice ps ls cs] 94 ∧ Blk W' w.heap.size #[.int .i64 0, .int .i64 0, .int .i64 0, .int .i64 0, .int .u64 0] 34 ∧ PtsP W' bp op P ∧ Bits W' (.slice ps ls cs) (lsum Q).natAbs) ⟨by exact belowAny, by exact blkAny2, by exact blkAny2, by exact blkAny2, by exact ⟨hP0.below belowAny⟩, by first | exact b5 | exact b5.setT b1 (by decide) _ _⟩ ?_
              clear b1 b2 b3 b4 b5 hW
              rintro W51 ⟨hW, b1, b2, b3, b4, b5⟩
              have z52 := hW.size
              have z53 := b1.lt
              have z54 := b2.lt
              have z55 := b3.lt
              have k1 := b1.cell
              have f1 := b1.frozen
              have k2 := b2.cell
              have f2 := b2.frozen
              have k3 := b3.cell
              have f3 := b3.frozen
              go_upto_region 12 with (fail)
              clear k1 f1 k2 f2 k3 f3
              refine wp_facts (fun W' => Below w.heap.size w W' ∧ Blk W' (w.heap.size + 1) #[.int .i64 ((Q.length : Int) + 1), .int .i64 (minL Q), .int .i64 v, .int .i64 0, .int .u64 0] 34 ∧ Blk W' w1.heap.size #[.bool (decide (lsum Q < 0)), .slice ps ls cs] 94 ∧ Blk W' w.heap.size #[.int .i64 0, .int .i64 0, .int .i64 0, .int .i64 0, .int .u64 0] 34 ∧ PtsP W' bp op P ∧ Bits W' (.slice ps ls cs) (lsum Q).natAbs) ⟨by exact belowAny, by exact blkAny2, by exact blkAny2, by exact blkAny2, by exact ⟨hP0.below belowAny⟩, by first | exact b5 | exact b5.setT b1 (by decide) _ _⟩ ?_
              clear b1 b2 b3 b4 b5 hW
              rintro W56 ⟨hW, b1, b2, b3, b4, b5⟩
              have z57 := hW.size
              have z58 := b1.lt
              have z59 := b2.lt
              have z60 := b3.lt
              refine wp_region_nd 8 91 [] (fun W' => Rex [] W56 W' ∧ Blk W' (w.heap.size + 1) #[.int .i64 ((Q.length : Int) + 1), .int .i64 (minL Q), .int .i64 v, .int .i64 0, .int .u64 0] 34 ∧ Blk W' w1.heap.size #[.bool (decide (lsum Q < 0)), .slice ps ls cs] 94 ∧ Blk W' w.heap.size #[.int .i64 0, .int .i64 0, .int .i64 0, .int .i64 0, .int .u64 0] 34 ∧ PtsP W' bp op P ∧ Bits W' (.slice ps ls cs) (lsum Q).natAbs) mixed (by kernel_rfl) rfl ⟨(Rex.refl _ _).drew, b1, b2, b3, b4.drew, b5.drew⟩ (fun w w' ⟨h0, h1, h2, h3, h4, h5⟩ hr => ⟨h0.trans hr, h1.rex hr (by simp <;> omega), h2.rex hr (by simp <;> omega), h3.rex hr (by simp <;> omega), h4.rex hr (by simp <;> omega), h5.rex hr (by simp <;> omega)⟩) (fun c a d v w h => by cases d <;> exact h) ?_
              iterate 6
                apply nd_det (hg := rfl) (hal := rfl)
                · intro a W' hC hE
                  obtain ⟨_, k1, k2, k3, k4, k5⟩ := hC
                  have k2 := k2.cell
                  obtain ⟨q1, q2⟩ := k4.cellAt tx.out
                  first
                    | (simp [Oper.looksAt, Op.operands, Call.operands, envOf, Det] at hE; simp [go_sem, Act.eval, IntWalk.i64_left, hE, k1, k2, k3, k4, k5, q1, q2, l1]; try rfl)
                    | (clear hE; simp [go_sem, Act.eval, IntWalk.i64_left, k1, k2, k3, k4, k5, q1, q2, l1]; try rfl)
              apply nd_call (NI v) (hg := rfl) (hal := rfl)
              · exact NI.closed _
              · intro a W' hC hE
                simp [Oper.looksAt, Op.operands, Call.operands, envOf, Det] at hE
                refine ⟨_, _, ?_, (c_refInt v W' (by omega) (by omega)).mono ?_⟩
                · simp [go_sem, Act.eval, hE]
                  try rfl
                · rintro e w' ⟨v, rfl, hB, hR⟩
                  exact ⟨_, rfl, hR, hB⟩
              apply nd_call (NI (lsum Q + v)) (hg := rfl) (hal := rfl)
              · exact NI.closed _
              · intro a W' hC hE
                simp [Oper.looksAt, Op.operands, Call.operands, envOf, Det] at hE
                refine ⟨_, _, ?_, (c_refAdd (.agg #[.bool (decide (lsum Q < 0)), .slice ps ls cs]) _ (lsum Q) v W' ⟨_, rfl, hC.2.2.2.2.2⟩ hE.2 hs9 hv9).mono ?_⟩
                · simp [go_sem, Act.eval, hE.1]
                  try rfl
                · rintro e w' ⟨v, rfl, hB, hR⟩
                  exact ⟨_, rfl, hR, hB⟩
              rintro W50 ⟨hR, d1, d2, d3, d4, d5⟩
              simp only [ndFinR, Det, forall_eq]
              intros
              repeat (rename GDet _ _ _ _ => hgd; clear hgd)
              simp only [Act.put, List.setIfInBounds_toArray, List.set_cons_zero, List.set_cons_succ, List.drop_succ_cons, List.drop_zero]
              clear b1 b2 b3 b4 b5
              have b1 := d1
              have b2 := d2
              have b3 := d3
              clear d1 d2 d3 d4 d5
              replace hW := hW.trans (hR.of_priv hW.size)
              clear hR
              rename NI (lsum Q + v) _ _ => hi1
              obtain ⟨p1, l2, k9, rfl, hq1⟩ := num_shape hi1
              clear hi1
              replace hq1 := Lib.hid hq1
              have k1 := b1.cell
              have f1 := b1.frozen
              have k2 := b2.cell
              have f2 := b2.frozen
              have k3 := b3.cell
              have f3 := b3.frozen
              have z91 := hW.size
              have z92 := b1.lt
              have z93 := b2.lt
              have z94 := b3.lt
              obtain ⟨B, hB⟩ : ∃ B, B = (decide (lsum Q + v < 0)) := ⟨_, rfl⟩
              rw [← hB]
              replace hB := Lib.hid hB
              have hS := Lib.hid (hq1.out.store b2 (.bool B) (.slice p1 l2 k9))
              go_wp2
              rw [show (i : Int) + 1 = ((i + 1 : Nat) : Int) by omega]
              refine ⟨?_, by simp [intAt]; omega⟩
              unfold rfoRel
              exact ⟨by exact belowAny, i + 1, Q ++ [v], p1, l2, k9, frame_ex rfl, hQ'.out, by omega, hg8, by rw [hO.out]; exact blkAny2, by rw [hs.out, ← hB.out]; exact blkAny2, by exact blkAny2, by rw [hs.out]; exact hS.out⟩
            · have e1 := Lib.hid (show decide (v < minL Q) = false by simp; omega)
              have e2 := Lib.hid (show decide (maxL Q < v) = false by simp; omega)
              have hO := Lib.hid (show (#[.int .i64 ((Q ++ [v]).length : Int), .int .i64 (minL (Q ++ [v])), .int .i64 (maxL (Q ++ [v])), .int .i64 0, .int .u64 0] : Array Value) = #[.int .i64 ((Q.length : Int) + 1), .int .i64 (minL Q), .int .i64 (maxL Q), .int .i64 0, .int .u64 0] by rw [hmn.out, hmx.out, show min (minL Q) v = minL Q by omega, show max (maxL Q) v = maxL Q by omega, List.length_append]; rfl)
              clear hlo hle hhi
              have b4 := hP
              have b5 := hq.out
              have hW := hW0
              clear hP hq hW0
              have k1 := b1.cell
              have f1 := b1.frozen
              have k2 := b2.cell
              have f2 := b2.frozen
              have k3 := b3.cell
              have f3 := b3.frozen
              obtain ⟨q1, q2⟩ := b4.cellAt tx.out
              have zt := cell_lt q1
              try simp at zt
              go_upto_region 7 with (fail)
              clear k1 f1 k2 f2 k3 f3
              refine wp_facts (fun W' => Below w.heap.size w W' ∧ Blk W' (w.heap.size + 1) #[.int .i64 (Q.length : Int), .int .i64 (minL Q), .int .i64 (maxL Q), .int .i64 0, .int .u64 0] 34 ∧ Blk W' w1.heap.size #[.bool (decide (lsum Q < 0)), .slice ps ls cs] 94 ∧ Blk W' w.heap.size #[.int .i64 0, .int .i64 0, .int .i64 0, .int .i64 0, .int .u64 0] 34 ∧ PtsP W' bp op P ∧ Bits W' (.slice ps ls cs) (lsum Q).natAbs) ⟨by exact belowAny, by exact blkAny2, by exact blkAny2, by exact blkAny2, by exact ⟨hP0.below belowAny⟩, by first | exact b5 | exact b5.setT b1 (by decide) _ _⟩ ?_
              clear b1 b2 b3 b4 b5 hW
              rintro W31 ⟨hW, b1, b2, b3, b4, b5⟩
              have z32 := hW.size
              have z33 := b1.lt
              have z34 := b2.lt
              have z35 := b3.lt
              refine wp_region_ndQ 13 91 [] (fun W' => Rex [] W31 W' ∧ Blk W' (w.heap.size + 1) #[.int .i64 (Q.length : Int), .int .i64 (minL Q), .int .i64 (maxL Q), .int .i64 0, .int .u64 0] 34 ∧ Blk W' w1.heap.size #[.bool (decide (lsum Q < 0)), .slice ps ls cs] 94 ∧ Blk W' w.heap.size #[.int .i64 0, .int .i64 0, .int .i64 0, .int .i64 0, .int .u64 0] 34 ∧ PtsP W' bp op P ∧ Bits W' (.slice ps ls cs) (lsum Q).natAbs) mixed (by kernel_rfl) rfl ⟨(Rex.refl _ _).drew, b1, b2, b3, b4.drew, b5.drew⟩ (fun w w' ⟨h0, h1, h2, h3, h4, h5⟩ hr => ⟨h0.trans hr, h1.rex hr (by simp <;> omega), h2.rex hr (by simp <;> omega), h3.rex hr (by simp <;> omega), h4.rex hr (by simp <;> omega), h5.rex hr (by simp <;> omega)⟩) rfl ?_
              iterate 4
                apply nd_det (hg := rfl) (hal := rfl)
                · intro a W' hC hE
                  obtain ⟨_, k1, k2, k3, k4, k5⟩ := hC
                  have k1 := k1.cell
                  obtain ⟨q1, q2⟩ := k4.cellAt tx.out
                  first
                    | (simp [Oper.looksAt, Op.operands, Call.operands, envOf, Det] at hE; simp [go_sem, Act.eval, IntWalk.i64_left, hE, k1, k2, k3, k4, k5, q1, q2, l1, hQ0.out, e1.out]; try rfl)
                    | (clear hE; simp [go_sem, Act.eval, IntWalk.i64_left, k1, k2, k3, k4, k5, q1, q2, l1, hQ0.out, e1.out]; try rfl)
              iterate 8
                apply nd_detg (p := true) (hg := rfl) (hd := rfl) (hal := rfl)
                · intro v W' h
                  simp [envOf, Det] at h
                  simp
                  exact h
                · intro hp hx a W' hC hE
                  obtain ⟨_, k1, k2, k3, k4, k5⟩ := hC
                  have k1 := k1.cell
                  obtain ⟨q1, q2⟩ := k4.cellAt tx.out
                  simp [Oper.looksAt, Op.operands, Call.operands, envOf, Det, GDet, hx] at hE
                  simp [go_sem, Act.eval, IntWalk.i64_left, hE, k1, k2, k3, k4, k5, q1, q2, l1, hQ0.out, e1.out]
                  try rfl
              apply nd_pick_or (ho := rfl) (hg := rfl)
              · intro v W' h
                simp [envOf, Det] at h
                exact h
              · intro v W' h hx
                simp [envOf, GDet, hx] at h
                exact h
              rintro W36 ⟨hR, d1, d2, d3, d4, d5⟩
              simp only [ndFinR, Det, forall_eq]
              intros
              repeat (rename GDet _ _ _ _ => hgd; clear hgd)
              simp only [Act.put, List.setIfInBounds_toArray, List.set_cons_zero, List.set_cons_succ]
              refine wpList_nil ?_
              replace hW := hW.trans (hR.of_priv hW.size)
              clear hR
              try clear b1 b2 b3 b4 b5
              have b1 := d1
              clear d1
              have b2 := d2
              clear d2
              have b3 := d3
              clear d3
              have b4 := d4
              clear d4
              have b5 := d5
              clear d5
              have k1 := b1.cell
              have f1 := b1.frozen
              have k2 := b2.cell
              have f2 := b2.frozen
              have k3 := b3.cell
              have f3 := b3.frozen
              obtain ⟨q1, q2⟩ := b4.cellAt tx.out
              have z37 := hW.size
              have z38 := b1.lt
              have z39 := b2.lt
              have z40 := b3.lt
              go_upto_region 9 with (fail)
              clear k1 f1 k2 f2 k3 f3
              refine wp_facts (fun W' => Below w.heap.size w W' ∧ Blk W' (w.heap.size + 1) #[.int .i64 (Q.length : Int), .int .i64 (minL Q), .int .i64 (maxL Q), .int .i64 0, .int .u64 0] 34 ∧ Blk W' w1.heap.size #[.bool (decide (lsum Q < 0)), .slice ps ls cs] 94 ∧ Blk W' w.heap.size #[.int .i64 0, .int .i64 0, .int .i64 0, .int .i64 0, .int .u64 0] 34 ∧ PtsP W' bp op P ∧ Bits W' (.slice ps ls cs) (lsum Q).natAbs) ⟨by exact belowAny, by exact blkAny2, by exact blkAny2, by exact blkAny2, by exact ⟨hP0.below belowAny⟩, by first | exact b5 | exact b5.setT b1 (by decide) _ _⟩ ?_
              clear b1 b2 b3 b4 b5 hW
              rintro W41 ⟨hW, b1, b2, b3, b4, b5⟩
              have z42 := hW.size
              have z43 := b1.lt
              have z44 := b2.lt
              have z45 := b3.lt
              refine wp_region_ndQ 13 91 [] (fun W' => Rex [] W41 W' ∧ Blk W' (w.heap.size + 1) #[.int .i64 (Q.length : Int), .int .i64 (minL Q), .int .i64 (maxL Q), .int .i64 0, .int .u64 0] 34 ∧ Blk W' w1.heap.size #[.bool (decide (lsum Q < 0)), .slice ps ls cs] 94 ∧ Blk W' w.heap.size #[.int .i64 0, .int .i64 0, .int .i64 0, .int .i64 0, .int .u64 0] 34 ∧ PtsP W' bp op P ∧ Bits W' (.slice ps ls cs) (lsum Q).natAbs) mixed (by kernel_rfl) rfl ⟨(Rex.refl _ _).drew, b1, b2, b3, b4.drew, b5.drew⟩ (fun w w' ⟨h0, h1, h2, h3, h4, h5⟩ hr => ⟨h0.trans hr, h1.rex hr (by simp <;> omega), h2.rex hr (by simp <;> omega), h3.rex hr (by simp <;> omega), h4.rex hr (by simp <;> omega), h5.rex hr (by simp <;> omega)⟩) rfl ?_
              iterate 4
                apply nd_det (hg := rfl) (hal := rfl)
                · intro a W' hC hE
                  obtain ⟨_, k1, k2, k3, k4, k5⟩ := hC
                  have k1 := k1.cell
                  obtain ⟨q1, q2⟩ := k4.cellAt tx.out
                  first
                    | (simp [Oper.looksAt, Op.operands, Call.operands, envOf, Det] at hE; simp [go_sem, Act.eval, IntWalk.i64_left, hE, k1, k2, k3, k4, k5, q1, q2, l1, hQ0.out, e2.out]; try rfl)
                    | (clear hE; simp [go_sem, Act.eval, IntWalk.i64_left, k1, k2, k3, k4, k5, q1, q2, l1, hQ0.out, e2.out]; try rfl)
              iterate 8
                apply nd_detg (p := true) (hg := rfl) (hd := rfl) (hal := rfl)
                · intro v W' h
                  simp [envOf, Det] at h
                  simp
                  exact h
                · intro hp hx a W' hC hE
                  obtain ⟨_, k1, k2, k3, k4, k5⟩ := hC
                  have k1 := k1.cell
                  obtain ⟨q1, q2⟩ := k4.cellAt tx.out
                  simp [Oper.looksAt, Op.operands, Call.operands, envOf, Det, GDet, hx] at hE
                  simp [go_sem, Act.eval, IntWalk.i64_left, hE, k1, k2, k3, k4, k5, q1, q2, l1, hQ0.out, e2.out]
                  try rfl
              apply nd_pick_or (ho := rfl) (hg := rfl)
              · intro v W' h
                simp [envOf, Det] at h
                exact h
              · intro v W' h hx
                simp [envOf, GDet, hx] at h
                exact h
              rintro W46 ⟨hR, d1, d2, d3, d4, d5⟩
              simp only [ndFinR, Det, forall_eq]
              intros
              repeat (rename GDet _ _ _ _ => hgd; clear hgd)
              simp only [Act.put, List.setIfInBounds_toArray, List.set_cons_zero, List.set_cons_succ]
              refine wpList_nil ?_
              replace hW := hW.trans (hR.of_priv hW.size)
              clear hR
              try clear b1 b2 b3 b4 b5
              have b1 := d1
              clear d1
              have b2 := d2
              clear d2
              have b3 := d3
              clear d3
              have b4 := d4
              clear d4
              have b5 := d5
              clear d5
              have k1 := b1.cell
              have f1 := b1.frozen
              have k2 := b2.cell
              have f2 := b2.frozen
              have k3 := b3.cell
              have f3 := b3.frozen
              obtain ⟨q1, q2⟩ := b4.cellAt tx.out
              have z47 := hW.size
              have z48 := b1.lt
              have z49 := b2.lt
              have z50 := b3.lt
              go_upto_region 11 with (fail)
              clear k1 f1 k2 f2 k3 f3
              refine wp_facts (fun W' => Below w.heap.size w W' ∧ Blk W' (w.heap.size + 1) #[.int .i64 (Q.length : Int), .int .i64 (minL Q), .int .i64 (maxL Q), .int .i64 0, .int .u64 0] 34 ∧ Blk W' w1.heap.size #[.bool (decide (lsum Q < 0)), .slice ps ls cs] 94 ∧ Blk W' w.heap.size #[.int .i64 0, .int .i64 0, .int .i64 0, .int .i64 0, .int .u64 0] 34 ∧ PtsP W' bp op P ∧ Bits W' (.slice ps ls cs) (lsum Q).natAbs) ⟨by exact belowAny, by exact blkAny2, by exact blkAny2, by exact blkAny2, by exact ⟨hP0.below belowAny⟩, by first | exact b5 | exact b5.setT b1 (by decide) _ _⟩ ?_
              clear b1 b2 b3 b4 b5 hW
              rintro W51 ⟨hW, b1, b2, b3, b4, b5⟩
              have z52 := hW.size
              have z53 := b1.lt
              have z54 := b2.lt
              have z55 := b3.lt
              have k1 := b1.cell
              have f1 := b1.frozen
              have k2 := b2.cell
              have f2 := b2.frozen
              have k3 := b3.cell
              have f3 := b3.frozen
              go_upto_region 12 with (fail)
              clear k1 f1 k2 f2 k3 f3
              refine wp_facts (fun W' => Below w.heap.size w W' ∧ Blk W' (w.heap.size + 1) #[.int .i64 ((Q.length : Int) + 1), .int .i64 (minL Q), .int .i64 (maxL Q), .int .i64 0, .int .u64 0] 34 ∧ Blk W' w1.heap.size #[.bool (decide (lsum Q < 0)), .slice ps ls cs] 94 ∧ Blk W' w.heap.size #[.int .i64 0, .int .i64 0, .int .i64 0, .int .i64 0, .int .u64 0] 34 ∧ PtsP W' bp op P ∧ Bits W' (.slice ps ls cs) (lsum Q).natAbs) ⟨by exact belowAny, by exact blkAny2, by exact blkAny2, by exact blkAny2, by exact ⟨hP0.below belowAny⟩, by first | exact b5 | exact b5.setT b1 (by decide) _ _⟩ ?_
              clear b1 b2 b3 b4 b5 hW
              rintro W56 ⟨hW, b1, b2, b3, b4, b5⟩
              have z57 := hW.size
              have z58 := b1.lt
              have z59 := b2.lt
              have z60 := b3.lt
              refine wp_region_nd 8 91 [] (fun W' => Rex [] W56 W' ∧ Blk W' (w.heap.size + 1) #[.int .i64 ((Q.length : Int) + 1), .int .i64 (minL Q), .int .i64 (maxL Q), .int .i64 0, .int .u64 0] 34 ∧ Blk W' w1.heap.size #[.bool (decide (lsum Q < 0)), .slice ps ls cs] 94 ∧ Blk W' w.heap.size #[.int .i64 0, .int .i64 0, .int .i64 0, .int .i64 0, .int .u64 0] 34 ∧ PtsP W' bp op P ∧ Bits W' (.slice ps ls cs) (lsum Q).natAbs) mixed (by kernel_rfl) rfl ⟨(Rex.refl _ _).drew, b1, b2, b3, b4.drew, b5.drew⟩ (fun w w' ⟨h0, h1, h2, h3, h4, h5⟩ hr => ⟨h0.trans hr, h1.rex hr (by simp <;> omega), h2.rex hr (by simp <;> omega), h3.rex hr (by simp <;> omega), h4.rex hr (by simp <;> omega), h5.rex hr (by simp <;> omega)⟩) (fun c a d v w h => by cases d <;> exact h) ?_
              iterate 6
                apply nd_det (hg := rfl) (hal := rfl)
                · intro a W' hC hE
                  obtain ⟨_, k1, k2, k3, k4, k5⟩ := hC
                  have k2 := k2.cell
                  obtain ⟨q1, q2⟩ := k4.cellAt tx.out
                  first
                    | (simp [Oper.looksAt, Op.operands, Call.operands, envOf, Det] at hE; simp [go_sem, Act.eval, IntWalk.i64_left, hE, k1, k2, k3, k4, k5, q1, q2, l1]; try rfl)
                    | (clear hE; simp [go_sem, Act.eval, IntWalk.i64_left, k1, k2, k3, k4, k5, q1, q2, l1]; try rfl)
              apply nd_call (NI v) (hg := rfl) (hal := rfl)
              · exact NI.closed _
              · intro a W' hC hE
                simp [Oper.looksAt, Op.operands, Call.operands, envOf, Det] at hE
                refine ⟨_, _, ?_, (c_refInt v W' (by omega) (by omega)).mono ?_⟩
                · simp [go_sem, Act.eval, hE]
                  try rfl
                · rintro e w' ⟨v, rfl, hB, hR⟩
                  exact ⟨_, rfl, hR, hB⟩
              apply nd_call (NI (lsum Q + v)) (hg := rfl) (hal := rfl)
              · exact NI.closed _
              · intro a W' hC hE
                simp [Oper.looksAt, Op.operands, Call.operands, envOf, Det] at hE
                refine ⟨_, _, ?_, (c_refAdd (.agg #[.bool (decide (lsum Q < 0)), .slice ps ls cs]) _ (lsum Q) v W' ⟨_, rfl, hC.2.2.2.2.2⟩ hE.2 hs9 hv9).mono ?_⟩
                · simp [go_sem, Act.eval, hE.1]
                  try rfl
                · rintro e w' ⟨v, rfl, hB, hR⟩
                  exact ⟨_, rfl, hR, hB⟩
              rintro W50 ⟨hR, d1, d2, d3, d4, d5⟩
              simp only [ndFinR, Det, forall_eq]
              intros
              repeat (rename GDet _ _ _ _ => hgd; clear hgd)
              simp only [Act.put, List.setIfInBounds_toArray, List.set_cons_zero, List.set_cons_succ, List.drop_succ_cons, List.drop_zero]
              clear b1 b2 b3 b4 b5
              have b1 := d1
              have b2 := d2
              have b3 := d3
              clear d1 d2 d3 d4 d5
              replace hW := hW.trans (hR.of_priv hW.size)
              clear hR
              rename NI (lsum Q + v) _ _ => hi1
              obtain ⟨p1, l2, k9, rfl, hq1⟩ := num_shape hi1
              clear hi1
              replace hq1 := Lib.hid hq1
              have k1 := b1.cell
              have f1 := b1.frozen
              have k2 := b2.cell
              have f2 := b2.frozen
              have k3 := b3.cell
              have f3 := b3.frozen
              have z91 := hW.size
              have z92 := b1.lt
              have z93 := b2.lt
              have z94 := b3.lt
              obtain ⟨B, hB⟩ : ∃ B, B = (decide (lsum Q + v < 0)) := ⟨_, rfl⟩
              rw [← hB]
              replace hB := Lib.hid hB
              have hS := Lib.hid (hq1.out.store b2 (.bool B) (.slice p1 l2 k9))
              go_wp2
              rw [show (i : Int) + 1 = ((i + 1 : Nat) : Int) by omega]
              refine ⟨?_, by simp [intAt]; omega⟩
              unfold rfoRel
              exact ⟨by exact belowAny, i + 1, Q ++ [v], p1, l2, k9, frame_ex rfl, hQ'.out, by omega, hg8, by rw [hO.out]; exact blkAny2, by rw [hs.out, ← hB.out]; exact blkAny2, by exact blkAny2, by rw [hs.out]; exact hS.out⟩
    · obtain rfl : i = P.length := by omega
      rw [List.take_length] at hQ
      have hQl : Q.length ≤ 300 := by
        have := congrArg List.length hQ
        unfold selL at this
        rw [List.length_map] at this
        have h2 := List.length_filter_le (selB a b) P
        omega
      have hsb := Lib.hid (show -590296091833682362368 * 2 ≤ lsum Q ∧ lsum Q ≤ 590296091833682362368 * 2 by
        have h1 := lsum_bd (l := Q) (B := 2305844108725321728) fun x hx => by
          rw [hQ] at hx
          unfold selL at hx
          simp only [List.mem_map, List.mem_filter] at hx
          obtain ⟨y, ⟨hy, _⟩, rfl⟩ := hx
          exact hback.out _ hy
        omega)
      have hQP := Lib.hid hQ
      clear hQ
      have hW := hW0
      clear hW0
      have k1 := b1.cell
      have f1 := b1.frozen
      have k2 := b2.cell
      have f2 := b2.frozen
      have k3 := b3.cell
      have f3 := b3.frozen
      have cw := Lib.hid (c_refWide (.agg #[.bool (decide (lsum Q < 0)), .slice ps ls cs]) (lsum Q) W ⟨_, rfl, hq.out⟩ (by have := hsb.out; omega) (by have := hsb.out; omega))
      go_wp2_with fail
      refine (cw.out).mono ?_
      rintro e w31 ⟨rfl, hb31⟩
      have z32 := hb31.size
      try simp at z32
      clear k1 f1 k2 f2 k3 f3
      have b1 : Blk w31 (w.heap.size + 1) #[.int .i64 ((Q).length : Int), .int .i64 (minL (Q)), .int .i64 (maxL (Q)), .int .i64 0, .int .u64 0] 34 := by exact blkAny2
      have b2 : Blk w31 w1.heap.size #[.bool (decide (lsum Q < 0)), .slice ps ls cs] 94 := by exact blkAny2
      have b3 : Blk w31 w.heap.size #[.int .i64 0, .int .i64 0, .int .i64 0, .int .i64 0, .int .u64 0] 34 := by exact blkAny2
      have hW : Below w.heap.size w w31 := by exact belowAny
      have z33 := b1.lt
      have z34 := b2.lt
      have z35 := b3.lt
      clear hb31
      have k1 := b1.cell
      have f1 := b1.frozen
      have k2 := b2.cell
      have f2 := b2.frozen
      have k3 := b3.cell
      have f3 := b3.frozen
      go_wp2
      have y_1 := b1.lt
      have y_2 := b2.lt
      have y_3 := b3.lt
      refine bodyPost_ret (v := .agg #[.int .i64 (Q.length : Int), .int .i64 (minL Q), .int .i64 (maxL Q), .int .i64 (lsum Q / 18446744073709551616), .int .u64 (lsum Q % 18446744073709551616)]) (by simp [results, Tryz.results15, go_sem, k1, f1, k2, f2, k3, f3, y_1, y_2, y_3]) rfl ⟨by rw [← hQP.out]; rfl, by exact belowAny⟩
end Go.Proofs.YtgblmlefmohgnaaGreat
namespace Go.Proofs.YtgblmlefmohgnaaGreat
open Go.RowKit
set_option maxRecDepth 100000 in
set_option maxHeartbeats 2000000 in
theorem parts_no (K A R n d E : Int) (p q : Option Addr) (len cap m vc : Nat) (w : World) (len2 m2 : Nat) (s' : SegT) (a b : Int)
    (c1 : ∀ W, Below w.heap.size w W → Calls Tryz.prog 10 #[] W fun e w' => e = .returned (.bool true) ∧ Below W.heap.size W w')
    (c2 : ∀ W, Below w.heap.size w W → Calls Tryz.prog 11 #[.agg #[.int .i64 K, .slice p len cap, .int .i64 A, .int .i64 R, .int .i64 n, .int .i64 d, .slice q m vc, .int .i64 E]] W fun e w' => ∃ p' cap' q' vc', e = .returned (.agg #[.int .i64 K, .slice p' len2 cap', .int .i64 A, .int .i64 R, .int .i64 n, .int .i64 d, .slice q' m2 vc', .int .i64 E]) ∧ Below W.heap.size W w' ∧ SegIn w' s' p' q' ∧ m2 ≤ vc')
    (c3 : ∀ W p' q' cap' vc', SegIn W s' p' q' → m2 ≤ vc' → Calls Tryz.prog 12 #[.agg #[.int .i64 K, .slice p' len2 cap', .int .i64 A, .int .i64 R, .int .i64 n, .int .i64 d, .slice q' m2 vc', .int .i64 E], .int .i64 a, .int .i64 b] W fun e w' => e = .returned (.tuple #[.agg #[.int .i64 0, .int .i64 0, .int .i64 0, .int .i64 0, .int .u64 0], .int .i64 210]) ∧ Below W.heap.size W w')
    (c4 : ∀ W p' q' cap' vc', SegIn W s' p' q' → m2 ≤ vc' → Calls Tryz.prog 13 #[.agg #[.int .i64 K, .slice p' len2 cap', .int .i64 A, .int .i64 R, .int .i64 n, .int .i64 d, .slice q' m2 vc', .int .i64 E]] W fun e w' => e = .returned (.bool false) ∧ Below W.heap.size W w') :
    Calls Tryz.prog 3 #[.agg #[.int .i64 K, .slice p len cap, .int .i64 A, .int .i64 R, .int .i64 n, .int .i64 d, .slice q m vc, .int .i64 E], .int .i64 a, .int .i64 b] w fun e w' => e = .returned (.bool true) ∧ Below w.heap.size w w' := by
  have H_c1 := Lib.hid c1
  clear c1
  have H_c2 := Lib.hid c2
  clear c2
  have H_c3 := Lib.hid c3
  clear c3
  have H_c4 := Lib.hid c4
  clear c4
  go_enter Tryz.func3, Tryz.ntmps3
  go_upto_region 1 with (fail)
  refine wp_facts (fun W' => Below w.heap.size w W' ∧ Blk W' w.heap.size #[.int .i64 K, .slice p len cap, .int .i64 A, .int .i64 R, .int .i64 n, .int .i64 d, .slice q m vc, .int .i64 E] 27) ⟨by exact belowAny, by exact blkAny2⟩ ?_
  rintro W1 ⟨hW, b1⟩
  have z2 := hW.size
  have z3 := b1.lt
  have k1 := b1.cell
  have f1 := b1.frozen
  have c1 := H_c1.out
  go_wp2_with fail
  refine (c1 _ (belowAny)).mono ?_
  rintro e w4 ⟨rfl, hb4⟩
  clear c1
  have z5 := hb4.size
  try simp at z5
  clear k1 f1
  have b1 : Blk w4 w.heap.size #[.int .i64 K, .slice p len cap, .int .i64 A, .int .i64 R, .int .i64 n, .int .i64 d, .slice q m vc, .int .i64 E] 27 := by exact blkAny2
  have hW : Below w.heap.size w w4 := by exact belowAny
  have z6 := b1.lt
  clear hb4
  have k1 := b1.cell
  have f1 := b1.frozen
  have c2 := H_c2.out
  go_wp2_with fail
  refine (c2 _ (belowAny)).mono ?_
  rintro e w7 ⟨p', cap', q', vc', rfl, hb7, hS, hvc⟩
  clear c2
  have z8 := hb7.size
  try simp at z8
  clear k1 f1
  have b1 : Blk w7 w.heap.size #[.int .i64 K, .slice p len cap, .int .i64 A, .int .i64 R, .int .i64 n, .int .i64 d, .slice q m vc, .int .i64 E] 27 := by exact blkAny2
  have hW : Below w.heap.size w w7 := by exact belowAny
  have z9 := b1.lt
  have k1 := b1.cell
  have f1 := b1.frozen
  have b2 : SegP _ _ _ _ := ⟨hS⟩
  clear hS
  have c3 := H_c3.out
  go_wp2_with fail
  refine (c3 _ p' q' cap' vc' segNow hvc).mono ?_
  rintro e w10 ⟨rfl, hb10⟩
  clear c3
  have z11 := hb10.size
  try simp at z11
  clear k1 f1
  have b1 : Blk w10 w.heap.size #[.int .i64 K, .slice p len cap, .int .i64 A, .int .i64 R, .int .i64 n, .int .i64 d, .slice q m vc, .int .i64 E] 27 := by exact blkAny2
  have b2 : SegP w10 s' p' q' := by exact segPAny
  have b3 : Blk w10 w7.heap.size #[.int .i64 K, .slice p' len2 cap', .int .i64 A, .int .i64 R, .int .i64 n, .int .i64 d, .slice q' m2 vc', .int .i64 E] 27 := by exact blkAny2
  have hW : Below w.heap.size w w10 := by exact belowAny
  have z12 := b1.lt
  have z13 := b3.lt
  clear hb10
  have k1 := b1.cell
  have f1 := b1.frozen
  have k3 := b3.cell
  have f3 := b3.frozen
  have c4 := H_c4.out
  go_wp2_with fail
  refine (c4 _ p' q' cap' vc' segNow hvc).mono ?_
  rintro e w14 ⟨rfl, hb14⟩
  clear c4
  have z15 := hb14.size
  try simp at z15
  clear k1 f1 k3 f3
  have b1 : Blk w14 w.heap.size #[.int .i64 K, .slice p len cap, .int .i64 A, .int .i64 R, .int .i64 n, .int .i64 d, .slice q m vc, .int .i64 E] 27 := by exact blkAny2
  have b2 : SegP w14 s' p' q' := by exact segPAny
  have b3 : Blk w14 w7.heap.size #[.int .i64 K, .slice p' len2 cap', .int .i64 A, .int .i64 R, .int .i64 n, .int .i64 d, .slice q' m2 vc', .int .i64 E] 27 := by exact blkAny2
  have b4 : Blk w14 w10.heap.size #[.int .i64 0, .int .i64 0, .int .i64 0, .int .i64 0, .int .u64 0] 34 := by exact blkAny2
  have hW : Below w.heap.size w w14 := by exact belowAny
  have z16 := b1.lt
  have z17 := b3.lt
  have z18 := b4.lt
  clear hb14
  have k1 := b1.cell
  have f1 := b1.frozen
  have k3 := b3.cell
  have f3 := b3.frozen
  have k4 := b4.cell
  have f4 := b4.frozen
  go_wp2
  have y_1 := b1.lt
  have y_3 := b3.lt
  have y_4 := b4.lt
  refine bodyPost_ret (v := .bool true) (by simp [results, Tryz.results3, go_sem, k1, f1, k3, f3, k4, f4, y_1, y_3, y_4]) rfl ⟨rfl, by exact belowAny⟩
set_option maxRecDepth 100000 in
set_option maxHeartbeats 2000000 in
theorem parts_none (K A R n d E : Int) (p q : Option Addr) (len cap m vc : Nat) (w : World) (len2 m2 : Nat) (s' : SegT) (a b : Int) (P : List (Int × Int))
    (c1 : ∀ W, Below w.heap.size w W → Calls Tryz.prog 10 #[] W fun e w' => e = .returned (.bool true) ∧ Below W.heap.size W w')
    (c2 : ∀ W, Below w.heap.size w W → Calls Tryz.prog 11 #[.agg #[.int .i64 K, .slice p len cap, .int .i64 A, .int .i64 R, .int .i64 n, .int .i64 d, .slice q m vc, .int .i64 E]] W fun e w' => ∃ p' cap' q' vc', e = .returned (.agg #[.int .i64 K, .slice p' len2 cap', .int .i64 A, .int .i64 R, .int .i64 n, .int .i64 d, .slice q' m2 vc', .int .i64 E]) ∧ Below W.heap.size W w' ∧ SegIn w' s' p' q' ∧ m2 ≤ vc')
    (c3 : ∀ W p' q' cap' vc', SegIn W s' p' q' → m2 ≤ vc' → Calls Tryz.prog 12 #[.agg #[.int .i64 K, .slice p' len2 cap', .int .i64 A, .int .i64 R, .int .i64 n, .int .i64 d, .slice q' m2 vc', .int .i64 E], .int .i64 a, .int .i64 b] W fun e w' => e = .returned (.tuple #[.agg #[.int .i64 0, .int .i64 0, .int .i64 0, .int .i64 0, .int .u64 0], .int .i64 9]) ∧ Below W.heap.size W w')
    (c4 : ∀ W p' q' cap' vc', SegIn W s' p' q' → m2 ≤ vc' → Calls Tryz.prog 13 #[.agg #[.int .i64 K, .slice p' len2 cap', .int .i64 A, .int .i64 R, .int .i64 n, .int .i64 d, .slice q' m2 vc', .int .i64 E]] W fun e w' => e = .returned (.bool true) ∧ Below W.heap.size W w')
    (c5 : ∀ W p' q' cap' vc', SegIn W s' p' q' → Calls Tryz.prog 14 #[.agg #[.int .i64 K, .slice p' len2 cap', .int .i64 A, .int .i64 R, .int .i64 n, .int .i64 d, .slice q' m2 vc', .int .i64 E]] W fun e w' => ∃ g cp, e = .returned (.tuple #[.slice (some ⟨g, 0, none⟩) P.length cp, .bool true]) ∧ Below W.heap.size W w' ∧ PtsIn w' (some ⟨g, 0, none⟩) P)
    (c6 : ∀ W g cp, PtsIn W (some ⟨g, 0, none⟩) P → Calls Tryz.prog 15 #[.slice (some ⟨g, 0, none⟩) P.length cp, .int .i64 a, .int .i64 b] W fun e w' => e = .returned (.agg #[.int .i64 0, .int .i64 0, .int .i64 0, .int .i64 0, .int .u64 0]) ∧ Below W.heap.size W w') :
    Calls Tryz.prog 3 #[.agg #[.int .i64 K, .slice p len cap, .int .i64 A, .int .i64 R, .int .i64 n, .int .i64 d, .slice q m vc, .int .i64 E], .int .i64 a, .int .i64 b] w fun e w' => e = .returned (.bool true) ∧ Below w.heap.size w w' := by
  have H_c1 := Lib.hid c1
  clear c1
  have H_c2 := Lib.hid c2
  clear c2
  have H_c3 := Lib.hid c3
  clear c3
  have H_c4 := Lib.hid c4
  clear c4
  have H_c5 := Lib.hid c5
  clear c5
  have H_c6 := Lib.hid c6
  clear c6
  go_enter Tryz.func3, Tryz.ntmps3
  go_upto_region 1 with (fail)
  refine wp_facts (fun W' => Below w.heap.size w W' ∧ Blk W' w.heap.size #[.int .i64 K, .slice p len cap, .int .i64 A, .int .i64 R, .int .i64 n, .int .i64 d, .slice q m vc, .int .i64 E] 27) ⟨by exact belowAny, by exact blkAny2⟩ ?_
  rintro W1 ⟨hW, b1⟩
  have z2 := hW.size
  have z3 := b1.lt
  have k1 := b1.cell
  have f1 := b1.frozen
  have c1 := H_c1.out
  go_wp2_with fail
  refine (c1 _ (belowAny)).mono ?_
  rintro e w4 ⟨rfl, hb4⟩
  clear c1
  have z5 := hb4.size
  try simp at z5
  clear k1 f1
  have b1 : Blk w4 w.heap.size #[.int .i64 K, .slice p len cap, .int .i64 A, .int .i64 R, .int .i64 n, .int .i64 d, .slice q m vc, .int .i64 E] 27 := by exact blkAny2
  have hW : Below w.heap.size w w4 := by exact belowAny
  have z6 := b1.lt
  clear hb4
  have k1 := b1.cell
  have f1 := b1.frozen
  have c2 := H_c2.out
  go_wp2_with fail
  refine (c2 _ (belowAny)).mono ?_
  rintro e w7 ⟨p', cap', q', vc', rfl, hb7, hS, hvc⟩
  clear c2
  have z8 := hb7.size
  try simp at z8
  clear k1 f1
  have b1 : Blk w7 w.heap.size #[.int .i64 K, .slice p len cap, .int .i64 A, .int .i64 R, .int .i64 n, .int .i64 d, .slice q m vc, .int .i64 E] 27 := by exact blkAny2
  have hW : Below w.heap.size w w7 := by exact belowAny
  have z9 := b1.lt
  have k1 := b1.cell
  have f1 := b1.frozen
  have b2 : SegP _ _ _ _ := ⟨hS⟩
  clear hS
  have c3 := H_c3.out
  go_wp2_with fail
  refine (c3 _ p' q' cap' vc' segNow hvc).mono ?_
  rintro e w10 ⟨rfl, hb10⟩
  clear c3
  have z11 := hb10.size
  try simp at z11
  clear k1 f1
  have b1 : Blk w10 w.heap.size #[.int .i64 K, .slice p len cap, .int .i64 A, .int .i64 R, .int .i64 n, .int .i64 d, .slice q m vc, .int .i64 E] 27 := by exact blkAny2
  have b2 : SegP w10 s' p' q' := by exact segPAny
  have b3 : Blk w10 w7.heap.size #[.int .i64 K, .slice p' len2 cap', .int .i64 A, .int .i64 R, .int .i64 n, .int .i64 d, .slice q' m2 vc', .int .i64 E] 27 := by exact blkAny2
  have hW : Below w.heap.size w w10 := by exact belowAny
  have z12 := b1.lt
  have z13 := b3.lt
  clear hb10
  have k1 := b1.cell
  have f1 := b1.frozen
  have k3 := b3.cell
  have f3 := b3.frozen
  have c4 := H_c4.out
  go_wp2_with fail
  refine (c4 _ p' q' cap' vc' segNow hvc).mono ?_
  rintro e w14 ⟨rfl, hb14⟩
  clear c4
  have z15 := hb14.size
  try simp at z15
  clear k1 f1 k3 f3
  have b1 : Blk w14 w.heap.size #[.int .i64 K, .slice p len cap, .int .i64 A, .int .i64 R, .int .i64 n, .int .i64 d, .slice q m vc, .int .i64 E] 27 := by exact blkAny2
  have b2 : SegP w14 s' p' q' := by exact segPAny
  have b3 : Blk w14 w7.heap.size #[.int .i64 K, .slice p' len2 cap', .int .i64 A, .int .i64 R, .int .i64 n, .int .i64 d, .slice q' m2 vc', .int .i64 E] 27 := by exact blkAny2
  have b4 : Blk w14 w10.heap.size #[.int .i64 0, .int .i64 0, .int .i64 0, .int .i64 0, .int .u64 0] 34 := by exact blkAny2
  have hW : Below w.heap.size w w14 := by exact belowAny
  have z16 := b1.lt
  have z17 := b3.lt
  have z18 := b4.lt
  clear hb14
  have k1 := b1.cell
  have f1 := b1.frozen
  have k3 := b3.cell
  have f3 := b3.frozen
  have k4 := b4.cell
  have f4 := b4.frozen
  have c5 := H_c5.out
  go_wp2_with fail
  refine (c5 _ p' q' cap' vc' segNow).mono ?_
  rintro e w19 ⟨g, cp, rfl, hb19, hP⟩
  clear c5
  have z20 := hb19.size
  try simp at z20
  clear k1 f1 k3 f3 k4 f4
  have b1 : Blk w19 w.heap.size #[.int .i64 K, .slice p len cap, .int .i64 A, .int .i64 R, .int .i64 n, .int .i64 d, .slice q m vc, .int .i64 E] 27 := by exact blkAny2
  have b2 : SegP w19 s' p' q' := by exact segPAny
  have b3 : Blk w19 w7.heap.size #[.int .i64 K, .slice p' len2 cap', .int .i64 A, .int .i64 R, .int .i64 n, .int .i64 d, .slice q' m2 vc', .int .i64 E] 27 := by exact blkAny2
  have b4 : Blk w19 w10.heap.size #[.int .i64 0, .int .i64 0, .int .i64 0, .int .i64 0, .int .u64 0] 34 := by exact blkAny2
  have hW : Below w.heap.size w w19 := by exact belowAny
  have z21 := b1.lt
  have z22 := b3.lt
  have z23 := b4.lt
  have k1 := b1.cell
  have f1 := b1.frozen
  have k3 := b3.cell
  have f3 := b3.frozen
  have k4 := b4.cell
  have f4 := b4.frozen
  have b5 := hP
  clear hP
  have c6 := H_c6.out
  go_wp2_with fail
  refine (c6 _ g cp ptsAny).mono ?_
  rintro e w24 ⟨rfl, hb24⟩
  clear c6
  have z25 := hb24.size
  try simp at z25
  clear k1 f1 k3 f3 k4 f4
  have b1 : Blk w24 w.heap.size #[.int .i64 K, .slice p len cap, .int .i64 A, .int .i64 R, .int .i64 n, .int .i64 d, .slice q m vc, .int .i64 E] 27 := by exact blkAny2
  have b2 : SegP w24 s' p' q' := by exact segPAny
  have b3 : Blk w24 w7.heap.size #[.int .i64 K, .slice p' len2 cap', .int .i64 A, .int .i64 R, .int .i64 n, .int .i64 d, .slice q' m2 vc', .int .i64 E] 27 := by exact blkAny2
  have b4 : Blk w24 w10.heap.size #[.int .i64 0, .int .i64 0, .int .i64 0, .int .i64 0, .int .u64 0] 34 := by exact blkAny2
  have b5 : PtsIn w24 (some ⟨g, 0, none⟩) P := by exact ptsAny
  have hW : Below w.heap.size w w24 := by exact belowAny
  have z26 := b1.lt
  have z27 := b3.lt
  have z28 := b4.lt
  clear hb24
  have k1 := b1.cell
  have f1 := b1.frozen
  have k3 := b3.cell
  have f3 := b3.frozen
  have k4 := b4.cell
  have f4 := b4.frozen
  -- fold
  go_wp2
  have y_1 := b1.lt
  have y_3 := b3.lt
  have y_4 := b4.lt
  refine bodyPost_ret (v := .bool true) (by simp [results, Tryz.results3, go_sem, k1, f1, k3, f3, k4, f4, y_1, y_3, y_4]) rfl ⟨rfl, by exact belowAny⟩
set_option maxRecDepth 100000 in
set_option maxHeartbeats 2000000 in
theorem parts_some (K A R n d E : Int) (p q : Option Addr) (len cap m vc : Nat) (w : World) (len2 m2 : Nat) (s' : SegT) (a b : Int) (x0 x1 x2 x3 x4 : Int) (P : List (Int × Int)) (hx : (x0 == 0) = false)
    (c1 : ∀ W, Below w.heap.size w W → Calls Tryz.prog 10 #[] W fun e w' => e = .returned (.bool true) ∧ Below W.heap.size W w')
    (c2 : ∀ W, Below w.heap.size w W → Calls Tryz.prog 11 #[.agg #[.int .i64 K, .slice p len cap, .int .i64 A, .int .i64 R, .int .i64 n, .int .i64 d, .slice q m vc, .int .i64 E]] W fun e w' => ∃ p' cap' q' vc', e = .returned (.agg #[.int .i64 K, .slice p' len2 cap', .int .i64 A, .int .i64 R, .int .i64 n, .int .i64 d, .slice q' m2 vc', .int .i64 E]) ∧ Below W.heap.size W w' ∧ SegIn w' s' p' q' ∧ m2 ≤ vc')
    (c3 : ∀ W p' q' cap' vc', SegIn W s' p' q' → m2 ≤ vc' → Calls Tryz.prog 12 #[.agg #[.int .i64 K, .slice p' len2 cap', .int .i64 A, .int .i64 R, .int .i64 n, .int .i64 d, .slice q' m2 vc', .int .i64 E], .int .i64 a, .int .i64 b] W fun e w' => e = .returned (.tuple #[.agg #[.int .i64 x0, .int .i64 x1, .int .i64 x2, .int .i64 x3, .int .u64 x4], .int .i64 0]) ∧ Below W.heap.size W w')
    (c4 : ∀ W p' q' cap' vc', SegIn W s' p' q' → m2 ≤ vc' → Calls Tryz.prog 13 #[.agg #[.int .i64 K, .slice p' len2 cap', .int .i64 A, .int .i64 R, .int .i64 n, .int .i64 d, .slice q' m2 vc', .int .i64 E]] W fun e w' => e = .returned (.bool true) ∧ Below W.heap.size W w')
    (c5 : ∀ W p' q' cap' vc', SegIn W s' p' q' → Calls Tryz.prog 14 #[.agg #[.int .i64 K, .slice p' len2 cap', .int .i64 A, .int .i64 R, .int .i64 n, .int .i64 d, .slice q' m2 vc', .int .i64 E]] W fun e w' => ∃ g cp, e = .returned (.tuple #[.slice (some ⟨g, 0, none⟩) P.length cp, .bool true]) ∧ Below W.heap.size W w' ∧ PtsIn w' (some ⟨g, 0, none⟩) P)
    (c6 : ∀ W g cp, PtsIn W (some ⟨g, 0, none⟩) P → Calls Tryz.prog 15 #[.slice (some ⟨g, 0, none⟩) P.length cp, .int .i64 a, .int .i64 b] W fun e w' => e = .returned (.agg #[.int .i64 x0, .int .i64 x1, .int .i64 x2, .int .i64 x3, .int .u64 x4]) ∧ Below W.heap.size W w') :
    Calls Tryz.prog 3 #[.agg #[.int .i64 K, .slice p len cap, .int .i64 A, .int .i64 R, .int .i64 n, .int .i64 d, .slice q m vc, .int .i64 E], .int .i64 a, .int .i64 b] w fun e w' => e = .returned (.bool true) ∧ Below w.heap.size w w' := by
  have H_c1 := Lib.hid c1
  clear c1
  have H_c2 := Lib.hid c2
  clear c2
  have H_c3 := Lib.hid c3
  clear c3
  have H_c4 := Lib.hid c4
  clear c4
  have H_c5 := Lib.hid c5
  clear c5
  have H_c6 := Lib.hid c6
  clear c6
  go_enter Tryz.func3, Tryz.ntmps3
  go_upto_region 1 with (fail)
  refine wp_facts (fun W' => Below w.heap.size w W' ∧ Blk W' w.heap.size #[.int .i64 K, .slice p len cap, .int .i64 A, .int .i64 R, .int .i64 n, .int .i64 d, .slice q m vc, .int .i64 E] 27) ⟨by exact belowAny, by exact blkAny2⟩ ?_
  rintro W1 ⟨hW, b1⟩
  have z2 := hW.size
  have z3 := b1.lt
  have k1 := b1.cell
  have f1 := b1.frozen
  have c1 := H_c1.out
  go_wp2_with fail
  refine (c1 _ (belowAny)).mono ?_
  rintro e w4 ⟨rfl, hb4⟩
  clear c1
  have z5 := hb4.size
  try simp at z5
  clear k1 f1
  have b1 : Blk w4 w.heap.size #[.int .i64 K, .slice p len cap, .int .i64 A, .int .i64 R, .int .i64 n, .int .i64 d, .slice q m vc, .int .i64 E] 27 := by exact blkAny2
  have hW : Below w.heap.size w w4 := by exact belowAny
  have z6 := b1.lt
  clear hb4
  have k1 := b1.cell
  have f1 := b1.frozen
  have c2 := H_c2.out
  go_wp2_with fail
  refine (c2 _ (belowAny)).mono ?_
  rintro e w7 ⟨p', cap', q', vc', rfl, hb7, hS, hvc⟩
  clear c2
  have z8 := hb7.size
  try simp at z8
  clear k1 f1
  have b1 : Blk w7 w.heap.size #[.int .i64 K, .slice p len cap, .int .i64 A, .int .i64 R, .int .i64 n, .int .i64 d, .slice q m vc, .int .i64 E] 27 := by exact blkAny2
  have hW : Below w.heap.size w w7 := by exact belowAny
  have z9 := b1.lt
  have k1 := b1.cell
  have f1 := b1.frozen
  have b2 : SegP _ _ _ _ := ⟨hS⟩
  clear hS
  have c3 := H_c3.out
  go_wp2_with fail
  refine (c3 _ p' q' cap' vc' segNow hvc).mono ?_
  rintro e w10 ⟨rfl, hb10⟩
  clear c3
  have z11 := hb10.size
  try simp at z11
  clear k1 f1
  have b1 : Blk w10 w.heap.size #[.int .i64 K, .slice p len cap, .int .i64 A, .int .i64 R, .int .i64 n, .int .i64 d, .slice q m vc, .int .i64 E] 27 := by exact blkAny2
  have b2 : SegP w10 s' p' q' := by exact segPAny
  have b3 : Blk w10 w7.heap.size #[.int .i64 K, .slice p' len2 cap', .int .i64 A, .int .i64 R, .int .i64 n, .int .i64 d, .slice q' m2 vc', .int .i64 E] 27 := by exact blkAny2
  have hW : Below w.heap.size w w10 := by exact belowAny
  have z12 := b1.lt
  have z13 := b3.lt
  clear hb10
  have k1 := b1.cell
  have f1 := b1.frozen
  have k3 := b3.cell
  have f3 := b3.frozen
  have c4 := H_c4.out
  go_wp2_with fail
  refine (c4 _ p' q' cap' vc' segNow hvc).mono ?_
  rintro e w14 ⟨rfl, hb14⟩
  clear c4
  have z15 := hb14.size
  try simp at z15
  clear k1 f1 k3 f3
  have b1 : Blk w14 w.heap.size #[.int .i64 K, .slice p len cap, .int .i64 A, .int .i64 R, .int .i64 n, .int .i64 d, .slice q m vc, .int .i64 E] 27 := by exact blkAny2
  have b2 : SegP w14 s' p' q' := by exact segPAny
  have b3 : Blk w14 w7.heap.size #[.int .i64 K, .slice p' len2 cap', .int .i64 A, .int .i64 R, .int .i64 n, .int .i64 d, .slice q' m2 vc', .int .i64 E] 27 := by exact blkAny2
  have b4 : Blk w14 w10.heap.size #[.int .i64 x0, .int .i64 x1, .int .i64 x2, .int .i64 x3, .int .u64 x4] 34 := by exact blkAny2
  have hW : Below w.heap.size w w14 := by exact belowAny
  have z16 := b1.lt
  have z17 := b3.lt
  have z18 := b4.lt
  clear hb14
  have k1 := b1.cell
  have f1 := b1.frozen
  have k3 := b3.cell
  have f3 := b3.frozen
  have k4 := b4.cell
  have f4 := b4.frozen
  have c5 := H_c5.out
  go_wp2_with fail
  refine (c5 _ p' q' cap' vc' segNow).mono ?_
  rintro e w19 ⟨g, cp, rfl, hb19, hP⟩
  clear c5
  have z20 := hb19.size
  try simp at z20
  clear k1 f1 k3 f3 k4 f4
  have b1 : Blk w19 w.heap.size #[.int .i64 K, .slice p len cap, .int .i64 A, .int .i64 R, .int .i64 n, .int .i64 d, .slice q m vc, .int .i64 E] 27 := by exact blkAny2
  have b2 : SegP w19 s' p' q' := by exact segPAny
  have b3 : Blk w19 w7.heap.size #[.int .i64 K, .slice p' len2 cap', .int .i64 A, .int .i64 R, .int .i64 n, .int .i64 d, .slice q' m2 vc', .int .i64 E] 27 := by exact blkAny2
  have b4 : Blk w19 w10.heap.size #[.int .i64 x0, .int .i64 x1, .int .i64 x2, .int .i64 x3, .int .u64 x4] 34 := by exact blkAny2
  have hW : Below w.heap.size w w19 := by exact belowAny
  have z21 := b1.lt
  have z22 := b3.lt
  have z23 := b4.lt
  have k1 := b1.cell
  have f1 := b1.frozen
  have k3 := b3.cell
  have f3 := b3.frozen
  have k4 := b4.cell
  have f4 := b4.frozen
  have b5 := hP
  clear hP
  have c6 := H_c6.out
  go_wp2_with fail
  refine (c6 _ g cp ptsAny).mono ?_
  rintro e w24 ⟨rfl, hb24⟩
  clear c6
  have z25 := hb24.size
  try simp at z25
  clear k1 f1 k3 f3 k4 f4
  have b1 : Blk w24 w.heap.size #[.int .i64 K, .slice p len cap, .int .i64 A, .int .i64 R, .int .i64 n, .int .i64 d, .slice q m vc, .int .i64 E] 27 := by exact blkAny2
  have b2 : SegP w24 s' p' q' := by exact segPAny
  have b3 : Blk w24 w7.heap.size #[.int .i64 K, .slice p' len2 cap', .int .i64 A, .int .i64 R, .int .i64 n, .int .i64 d, .slice q' m2 vc', .int .i64 E] 27 := by exact blkAny2
  have b4 : Blk w24 w10.heap.size #[.int .i64 x0, .int .i64 x1, .int .i64 x2, .int .i64 x3, .int .u64 x4] 34 := by exact blkAny2
  have b5 : PtsIn w24 (some ⟨g, 0, none⟩) P := by exact ptsAny
  have hW : Below w.heap.size w w24 := by exact belowAny
  have z26 := b1.lt
  have z27 := b3.lt
  have z28 := b4.lt
  clear hb24
  have k1 := b1.cell
  have f1 := b1.frozen
  have k3 := b3.cell
  have f3 := b3.frozen
  have k4 := b4.cell
  have f4 := b4.frozen
  -- fold
  go_wp2
  have y_1 := b1.lt
  have y_3 := b3.lt
  have y_4 := b4.lt
  refine bodyPost_ret (v := .bool true) (by simp [results, Tryz.results3, go_sem, k1, f1, k3, f3, k4, f4, y_1, y_3, y_4]) rfl ⟨rfl, by exact belowAny⟩
end Go.Proofs.YtgblmlefmohgnaaGreat
namespace Go.Proofs.YtgblmlefmohgnaaGreat
open Go.ChangeShapes Go.WideShapes Go.ChangeAt Go.RowKit
theorem OwnR.pts {w : World} {B n : Nat} {t : TypeId} {v : Value} {l : List (Int × Int)} (h : OwnR w B t 2 v n (flatPts l)) (hn : 0 < n) : ∃ g cp, v = .slice (some ⟨g, 0, none⟩) n cp ∧ PtsIn w (some ⟨g, 0, none⟩) l := by
  rcases h.own.2 with ⟨_, h0⟩ | ⟨g, cap, cur, rfl, _, hb, _, _, _, ht⟩
  · omega
  · exact ⟨g, cap, rfl, pts_in hb ht⟩
theorem Came.calls {w w' : World} {s : SegT} {p q : Option Addr} {cap vc : Nat} (h : Came w s p q cap vc) (hb : Below w.heap.size w w') : Came w' s p q cap vc := ⟨h.runs.below hb, h.raw.below hb, h.nilR, h.nilV, h.capR, h.capV, h.maxR, h.maxV⟩
theorem partOut_bad {s : SegT} (h : segB s = false) (a b : Int) : partOut s a b = (#[.int .i64 0, .int .i64 0, .int .i64 0, .int .i64 0, .int .u64 0], 210) := by unfold partOut; rw [h]; rfl
theorem c_refPointsIn (s : SegT) (p q : Option Addr) (cap vc : Nat) (w : World) (h : SegIn w s p q) (hs : segB s = true) :
    Calls Tryz.prog 14 #[.agg (segA s p q cap vc)] w fun e w' => ∃ g cp, e = .returned (.tuple #[.slice (some ⟨g, 0, none⟩) (ptsL s).length cp, .bool true]) ∧ Below w.heap.size w w' ∧ PtsIn w' (some ⟨g, 0, none⟩) (ptsL s) := by
  refine (c_refPoints s p q cap vc w h hs).mono ?_
  rintro e w' ⟨v, rfl, hv, hB⟩
  have hn := length_pts hs
  have hc := cnt_pos (segB_runs hs)
  obtain ⟨g, cp, rfl, hp⟩ := hv.pts (by omega)
  exact ⟨g, cp, rfl, hB, hp⟩
theorem pts_bk {s : SegT} (hs : segB s = true) {x : Int × Int} (hx : x ∈ ptsL s) : -2305844108725321728 ≤ x.2 ∧ x.2 ≤ 2305844108725321728 := vals_back hs (by rw [← map_pts hs]; exact List.mem_map_of_mem hx)
theorem c_refFold {s : SegT} (hs : segB s = true) (a b : Int) (W : World) (g cp : Nat) (h : PtsIn W (some ⟨g, 0, none⟩) (ptsL s)) :
    Calls Tryz.prog 15 #[.slice (some ⟨g, 0, none⟩) (ptsL s).length cp, .int .i64 a, .int .i64 b] W fun e w' => e = .returned (.agg (partA (selL a b (ptsL s)))) ∧ Below W.heap.size W w' := by
  have hn := length_pts hs
  have hc := cnt_pos (segB_runs hs)
  exact reffold_w (some ⟨g, 0, none⟩) cp (ptsL s) a b W (by omega) (fun x hx => pts_bk hs hx) h
theorem c_segPartsLaw (s : SegT) (p q : Option Addr) (cap vc : Nat) (a b : Int) (w : World) (h : Came w s p q cap vc) (hb : I64 b) :
    Calls Tryz.prog 3 #[.agg (segA s p q cap vc), .int .i64 a, .int .i64 b] w fun e w' => e = .returned (.bool true) ∧ Below w.heap.size w w' := by
  have c1 := fun W (_ : Below w.heap.size w W) => c_wakes W
  have c2 := fun W (hW : Below w.heap.size w W) => c_own s p q cap vc W (h.calls hW)
  have key : ∀ (R : Array Value) (er : Int), partOut (ownS s) a b = (R, er) → ∀ W p' q' cap' vc', SegIn W (ownS s) p' q' → (ownS s).raw.length ≤ vc' → Calls Tryz.prog 12 #[.agg (segA (ownS s) p' q' cap' vc'), .int .i64 a, .int .i64 b] W fun e w' => e = .returned (.tuple #[.agg R, .int .i64 er]) ∧ Below W.heap.size W w' := by
    intro R er he W p' q' cap' vc' h1 h2
    have := c_Part (ownS s) p' q' cap' vc' a b W h1 h2 hb.1
    rw [he] at this
    exact this
  cases hs : segB (ownS s) with
  | false => exact parts_no _ _ _ _ _ _ p q _ cap _ vc w _ _ (ownS s) a b c1 c2 (key _ _ (partOut_bad hs _ _)) (fun W p' q' cap' vc' h1 _ => by have := c_refRight (ownS s) p' q' cap' vc' W h1; rw [hs] at this; exact this)
  | true =>
    have hsel := partOut_sel hs a b
    have c4 := fun (W : World) (p' q' : Option Addr) (cap' vc' : Nat) (h1 : SegIn W (ownS s) p' q') (_ : (ownS s).raw.length ≤ vc') => by have := c_refRight (ownS s) p' q' cap' vc' W h1; rw [hs] at this; exact this
    have c5 := fun (W : World) (p' q' : Option Addr) (cap' vc' : Nat) (h1 : SegIn W (ownS s) p' q') => c_refPointsIn (ownS s) p' q' cap' vc' W h1 hs
    have c6 := fun (W : World) (g cp : Nat) (hp : PtsIn W (some ⟨g, 0, none⟩) (ptsL (ownS s))) => c_refFold hs a b W g cp hp
    by_cases he : selL a b (ptsL (ownS s)) = []
    · rw [if_pos he] at hsel
      rw [he] at c6
      exact parts_none _ _ _ _ _ _ p q _ cap _ vc w _ _ (ownS s) a b (ptsL (ownS s)) c1 c2 (key _ _ hsel) c4 c5 c6
    · rw [if_neg he] at hsel
      exact parts_some _ _ _ _ _ _ p q _ cap _ vc w _ _ (ownS s) a b _ _ _ _ _ (ptsL (ownS s)) (by simpa using he) c1 c2 (key _ _ hsel) c4 c5 c6
set_option maxRecDepth 100000 in
theorem parts_lifted (os : Os) (started : os.Started) (H : Type) (enc : TypeId × Value → H) :
    ReturnsInHanded {} Tryz.checked os 3 .any (Rows.segPartsSpec.pre6 enc Tryz.prog Tryz.f3 Rows.segPartsRow.domain false) (Rows.segPartsSpec.post enc Tryz.prog Tryz.f3 false true false false) := by
  refine returnsInHanded_of_change (C := Tryz.checked) Tryz.ownKnob started (by kernel_rfl) Tryz.func3
    (ChangeSpec.witness6 (enc := enc) (C := Tryz.checked) false ⟨#[], #[.agg #[.int .i64 0, .slice none 0 0, .int .i64 0, .int .i64 0, .int .i64 0, .int .i64 0, .slice none 0 0, .int .i64 0], .int .i64 0, .int .i64 0], []⟩ 8 (by kernel_rfl) (by kernel_rfl) (by kernel_rfl) (by kernel_rfl)) ?_
  intro W base args ds gs before hval0 hW hcnd _
  have hval : ∀ (j : Nat) t v, Tryz.f3.params[j]? = some t → args[j]? = some v → Value.okWide Tryz.prog W .any base t v := hval0
  have hW' := hW
  obtain ⟨p, q, hA0, hV, rfl, hfz, hnd⟩ := hW
  have hA : DataW.TrodAll enc Tryz.prog W 0 (fun _ => true) true Tryz.f3.params.toList args.toList ds p := hA0
  rw [Tryz.params3] at hA hval
  obtain ⟨v0, v1, v2, d0, d1, d2, p0, p1, p2, rfl, rfl, rfl, h0, h1, h2⟩ := trodAll_three hA
  obtain ⟨rfl, rfl⟩ := trodVars_none hV
  obtain ⟨s, p', q', cap, vc, rfl, hs, _⟩ := open_seg (hval 0 _ v0 rfl rfl) h0
  obtain ⟨a, rfl, rfl, rfl, wa⟩ := open_int Tryz.isInt64.1 (hval 1 _ v1 rfl rfl) h1
  obtain ⟨b, rfl, rfl, rfl, wb⟩ := open_int Tryz.isInt64.1 (hval 2 _ v2 rfl rfl) h2
  clear hA0 hval0
  refine (c_segPartsLaw s p' q' cap vc a b W hs (wf_I64 wb)).mono fun e W' ⟨he, hb⟩ => ?_
  subst he
  exact ⟨_, rfl, law_post Tryz.laidOut (pars_ok (by kernel_rfl)) rfl (by kernel_rfl) rfl hW' hb rfl⟩
theorem segParts_holds : Rows.SegPartsSaid :=
  OpenClaim.holds_of_wide 3 Tryz.f3 rfl rfl rfl rfl rfl rfl rfl ⟨rfl, rfl, rfl, rfl, rfl⟩ rfl rfl rfl rfl rfl (by kernel_rfl) Tryz.func3 (by kernel_rfl)
    (of_decide_eq_true (by kernel_rfl)) (by unfold Func.isWrapper; first | (rw [if_pos (by decide +kernel)]; kernel_rfl) | (rw [if_neg (by decide +kernel)]; exact ⟨rfl, rfl⟩))
    (fun os started H enc _ => parts_lifted os started H enc)
end Go.Proofs.YtgblmlefmohgnaaGreat
