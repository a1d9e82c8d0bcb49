/- Parts of the proof that follows: Layer line: over. | Layer line: over, value, Check, timeIs, At. | Layer line: Check, timeIs, At. | Layer line: both, Ends. | Layer line: Ends, told of lines. | Plain law: sums of fractions that are each rounded down. No program in sight. | Layer fsum: pairs, term. | Layer fsum: small. | Layer fsum: the walk of small. -/
import Derived.Laws.EntriesVeiled
import Derived.Test.YtidfcoooccblaaaGreatTogether2
set_option maxRecDepth 100000
set_option maxHeartbeats 8000000
set_option linter.unusedSimpArgs false
set_option linter.unusedVariables false
namespace Go.Proofs.YtidfcoooccblaaaGreat
open Go.RowKit
attribute [local simp] Oper.looksAt Op.operands Call.operands envOf Det GDet
theorem over_w (A R n d t ph pl rh rl sh sl qh ql ah al oh ol rest e1 e2 : Int) (w : World)
  (c1 : ∀ w, Calls Tryz.prog 157 #[n, t] w fun e w' => e = .returned (.agg #[ph, .int .u64 pl]) /\ Below w.heap.size w w')
  (c2 : ∀ w, Calls Tryz.prog 117 #[R] w fun e w' => e = .returned (.agg #[rh, .int .u64 rl]) /\ Below w.heap.size w w')
  (c3 : ∀ w, Calls Tryz.prog 16 #[.agg #[ph, .int .u64 pl], .agg #[rh, .int .u64 rl]] w fun e w' => e = .returned (.tuple #[.agg #[sh, .int .u64 sl], e1]) /\ Below w.heap.size w w')
  (c4 : ∀ w, Calls Tryz.prog 61 #[.agg #[sh, .int .u64 sl], d] w fun e w' => e = .returned (.tuple #[.agg #[qh, .int .u64 ql], rest, .int .i64 0]) /\ Below w.heap.size w w')
  (c5 : ∀ w, Calls Tryz.prog 117 #[A] w fun e w' => e = .returned (.agg #[ah, .int .u64 al]) /\ Below w.heap.size w w')
  (c6 : ∀ w, Calls Tryz.prog 16 #[.agg #[qh, .int .u64 ql], .agg #[ah, .int .u64 al]] w fun e w' => e = .returned (.tuple #[.agg #[oh, .int .u64 ol], e2]) /\ Below w.heap.size w w') :
  Calls Tryz.prog 227 #[.agg #[A, R, n, d], t] w fun e w' => e = .returned (.tuple #[.agg #[oh, .int .u64 ol], rest]) /\ Below w.heap.size w w' := by
 have H1 := Lib.hid c1
 have H2 := Lib.hid c2
 have H3 := Lib.hid c3
 have H4 := Lib.hid c4
 have H5 := Lib.hid c5
 have H6 := Lib.hid c6
 clear c1 c2 c3 c4 c5 c6
 go_enter Tryz.func227, Tryz.ntmps227
 go_upto_region 1 with (fail)
 refine wp_facts (fun W => Below w.heap.size w W /\ Blk W w.heap.size #[A, R, n, d] 282 /\ Blk W (w.heap.size + 1) #[.int .i64 0, .int .u64 0] 36) ⟨?_, (by repeat (first | (refine Blk.new' ?_; simp; done) | refine Blk.alloc ?_ _)), (by repeat (first | (refine Blk.new' ?_; simp; done) | refine Blk.alloc ?_ _))⟩ ?_
 ·exact (have hUp := (Below.refl w.heap.size w); belowAny)
 rintro W ⟨hW, b1, b2⟩
 have c1 := H1.out
 have c2 := H2.out
 have c3 := H3.out
 refine wp_region_nd 14 46 [] (fun W' => Rex [] W W' /\ Blk W' w.heap.size #[A, R, n, d] 282 /\ Blk W' (w.heap.size + 1) #[.int .i64 0, .int .u64 0] 36) mixed (by kernel_rfl) rfl ⟨(Rex.refl _ _).drew, b1, b2⟩ (fun w w' ⟨h0, h1, h2⟩ hr => ⟨h0.trans hr, h1.rex hr (by simp <;> omega), h2.rex hr (by simp <;> omega)⟩) (fun c a d v w h => by cases d <;> exact h) ?_
 iterate 4
  apply nd_det (hg := rfl) (hal := rfl)
  ·intro a W' hC hE
   obtain ⟨_, k1, k2⟩ := hC
   have k1 := k1.cell
   first
    | (simp at hE; simp [go_sem, Act.eval, IntWalk.i64_left, hE, k1, k2]; try rfl)
    | (clear hE; simp [go_sem, Act.eval, IntWalk.i64_left, k1, k2]; try rfl)
 refine nd_callv2 rfl rfl (fun W' hC => c1 W') (fun a W' hC hE => ?_) ?_
 ·obtain ⟨_, k1, k2⟩ := hC
  have k1 := k1.cell
  first
   | (simp at hE; simp [go_sem, Act.eval, IntWalk.i64_left, hE, k1, k2]; try rfl)
   | (clear hE; simp [go_sem, Act.eval, IntWalk.i64_left, k1, k2]; try rfl)
 iterate 3
  apply nd_det (hg := rfl) (hal := rfl)
  ·intro a W' hC hE
   obtain ⟨_, k1, k2⟩ := hC
   have k1 := k1.cell
   first
    | (simp at hE; simp [go_sem, Act.eval, IntWalk.i64_left, hE, k1, k2]; try rfl)
    | (clear hE; simp [go_sem, Act.eval, IntWalk.i64_left, k1, k2]; try rfl)
 refine nd_callv2 rfl rfl (fun W' hC => c2 W') (fun a W' hC hE => ?_) ?_
 ·obtain ⟨_, k1, k2⟩ := hC
  have k1 := k1.cell
  first
   | (simp at hE; simp [go_sem, Act.eval, IntWalk.i64_left, hE, k1, k2]; try rfl)
   | (clear hE; simp [go_sem, Act.eval, IntWalk.i64_left, k1, k2]; try rfl)
 refine nd_callv2 rfl rfl (fun W' hC => c3 W') (fun a W' hC hE => ?_) ?_
 ·obtain ⟨_, k1, k2⟩ := hC
  have k1 := k1.cell
  first
   | (simp at hE; simp [go_sem, Act.eval, IntWalk.i64_left, hE, k1, k2]; try rfl)
   | (clear hE; simp [go_sem, Act.eval, IntWalk.i64_left, k1, k2]; try rfl)
 iterate 3
  apply nd_det (hg := rfl) (hal := rfl)
  ·intro a W' hC hE
   obtain ⟨_, k1, k2⟩ := hC
   have k1 := k1.cell
   first
    | (simp at hE; simp [go_sem, Act.eval, IntWalk.i64_left, hE, k1, k2]; try rfl)
    | (clear hE; simp [go_sem, Act.eval, IntWalk.i64_left, k1, k2]; try rfl)
 apply nd_alloc W.heap.size #[.int .i64 0, .int .u64 0] 36 rfl rfl
 ·exact fun W' hC => hC.1.size
 ·simp [others] <;> omega
 ·intro w; kernel_rfl
 rintro W1 ⟨hR, c1, c2⟩
 simp only [ndFinR, Det, forall_eq]
 intros
 repeat (rename GDet _ _ _ _ => hgd; clear hgd)
 simp only [Act.put, List.setIfInBounds_toArray, List.set_cons_zero, List.set_cons_succ, List.drop_succ_cons, List.drop_zero]
 clear c3
 obtain ⟨g1, rfl, hg1, n1⟩ := ‹NewVar _ _ _ _ _›
 have kn := n1.cell
 have fn := n1.frozen
 go_upto_region 2 with (fail)
 clear kn fn
 have hW1 := hW.trans (hR.of_priv hW.size)
 have hz := hW.size
 have y1 := b1.lt
 have y2 := b2.lt
 refine wp_facts (fun W => Below w.heap.size w W /\ Blk W w.heap.size #[A, R, n, d] 282 /\ Blk W (w.heap.size + 1) #[.int .i64 0, .int .u64 0] 36 /\ Blk W g1 #[sh, .int .u64 sl] 36) ⟨?_, ?_, ?_, (n1.set 0 _).set 1 _⟩ ?_
 ·exact (have hUp := hW1; belowAny)
 ·exact (have hUp := c1; blkAny)
 ·exact (have hUp := c2; blkAny)
 clear hW1 c1 c2 n1 hR hW b1 b2
 rintro W2 ⟨hW, b1, b2, b3⟩
 have k1 := b1.cell
 have k3 := b3.cell
 have c4 := H4.out
 go_wp2_with fail
 refine (c4 _).mono ?_
 rintro e w4 ⟨rfl, hb4⟩
 clear c4 k1 k3
 go_upto_region 3 with (fail)
 have d1 := b1.calls hb4
 have d2 := b2.calls hb4
 have z4 := hb4.size
 have z3 := hW.size
 refine wp_facts (fun W => Below w.heap.size w W /\ Blk W w.heap.size #[A, R, n, d] 282 /\ Blk W (w.heap.size + 1) #[.int .i64 0, .int .u64 0] 36 /\ Blk W w4.heap.size #[qh, .int .u64 ql] 36) ⟨?_, ?_, ?_, Blk.new' rfl⟩ ?_
 ·exact (have hUp := (hW.trans (hb4.mono (by have := hW.size; omega))); belowAny)
 ·exact (have hUp := d1; blkAny)
 ·exact (have hUp := d2; blkAny)
 have y4 : w.heap.size + 1 < w4.heap.size := d2.lt
 clear hW b1 b2 b3 hb4 d1 d2 z4 z3
 rintro W ⟨hW, b1, b2, b3⟩
 have c5 := H5.out
 have c6 := H6.out
 refine wp_region_nd 10 46 [] (fun W' => Rex [] W W' /\ Blk W' w.heap.size #[A, R, n, d] 282 /\ Blk W' (w.heap.size + 1) #[.int .i64 0, .int .u64 0] 36 /\ Blk W' w4.heap.size #[qh, .int .u64 ql] 36) mixed (by kernel_rfl) rfl ⟨(Rex.refl _ _).drew, b1, b2, b3⟩ (fun w w' ⟨h0, h1, h2, h3⟩ hr => ⟨h0.trans hr, h1.rex hr (by simp <;> omega), h2.rex hr (by simp <;> omega), h3.rex hr (by simp <;> omega)⟩) (fun c a d v w h => by cases d <;> exact h) ?_
 iterate 4
  apply nd_det (hg := rfl) (hal := rfl)
  ·intro a W' hC hE
   obtain ⟨_, k1, k2, k3⟩ := hC
   have k1 := k1.cell
   have k3 := k3.cell
   first
    | (simp at hE; simp [go_sem, Act.eval, IntWalk.i64_left, hE, k1, k2, k3]; try rfl)
    | (clear hE; simp [go_sem, Act.eval, IntWalk.i64_left, k1, k2, k3]; try rfl)
 refine nd_callv2 rfl rfl (fun W' hC => c5 W') (fun a W' hC hE => ?_) ?_
 ·obtain ⟨_, k1, k2, k3⟩ := hC
  have k1 := k1.cell
  have k3 := k3.cell
  first
   | (simp at hE; simp [go_sem, Act.eval, IntWalk.i64_left, hE, k1, k2, k3]; try rfl)
   | (clear hE; simp [go_sem, Act.eval, IntWalk.i64_left, k1, k2, k3]; try rfl)
 refine nd_callv2 rfl rfl (fun W' hC => c6 W') (fun a W' hC hE => ?_) ?_
 ·obtain ⟨_, k1, k2, k3⟩ := hC
  have k1 := k1.cell
  have k3 := k3.cell
  first
   | (simp at hE; simp [go_sem, Act.eval, IntWalk.i64_left, hE, k1, k2, k3]; try rfl)
   | (clear hE; simp [go_sem, Act.eval, IntWalk.i64_left, k1, k2, k3]; try rfl)
 iterate 3
  apply nd_det (hg := rfl) (hal := rfl)
  ·intro a W' hC hE
   obtain ⟨_, k1, k2, k3⟩ := hC
   have k1 := k1.cell
   have k3 := k3.cell
   first
    | (simp at hE; simp [go_sem, Act.eval, IntWalk.i64_left, hE, k1, k2, k3]; try rfl)
    | (clear hE; simp [go_sem, Act.eval, IntWalk.i64_left, k1, k2, k3]; try rfl)
 apply nd_alloc W.heap.size #[.int .i64 0, .int .u64 0] 36 rfl rfl
 ·exact fun W' hC => hC.1.size
 ·simp [others] <;> omega
 ·intro w; kernel_rfl
 rintro W1 ⟨hR, c1, c2, c3⟩
 simp only [ndFinR, Det, forall_eq]
 intros
 repeat (rename GDet _ _ _ _ => hgd; clear hgd)
 simp only [Act.put, List.setIfInBounds_toArray, List.set_cons_zero, List.set_cons_succ, List.drop_succ_cons, List.drop_zero]
 obtain ⟨g2, rfl, hg2, n2⟩ := ‹NewVar _ _ _ _ _›
 have kn := n2.cell
 have fn := n2.frozen
 have k2 := c2.cell
 have f2 := c2.frozen
 have y5 := b2.lt
 have y6 : w.heap.size + 1 ≠ g2 := by omega
 clear c5 c6
 go_wp2
 refine bodyPost_ret (v := .tuple #[.agg #[oh, .int .u64 ol], rest]) (by simp [results, Tryz.results227, go_sem, k2, f2, y6]) rfl ⟨rfl, ?_⟩
 have hR' := hW.trans (hR.of_priv hW.size)
 have hz' := hW.size
 exact (have hUp := hR'; belowAny)
def lineVal (A R n d t : Int) : Int := (n * t + R) / d + A
def lineRest (R n d t : Int) : Int := (n * t + R) % d
structure LineOk (A R n d : Int) : Prop where
 A0 : -2305844108725321728 <= A
 A1 : A <= 2305844108725321728
 n0 : -4611688217450643456 <= n
 n1 : n <= 4611688217450643456
 d0 : 1 <= d
 d1 : d <= 281474976710656
 g : gcdI n d = 1
 R0 : 0 <= R
 R1 : R < d
theorem isLine_ok {A R n d : Int} : isLine A R n d = true ↔ LineOk A R n d := by
 unfold isLine isBack isSlope
 simp
 constructor
 ·rintro ⟨⟨⟨⟨⟨_, _⟩, ⟨⟨_, _⟩, _⟩, _⟩, _⟩, _⟩, _⟩; constructor <;> assumption
 ·rintro ⟨_, _, _, _, _, _, _, _, _⟩; refine ⟨⟨⟨⟨⟨?_, ?_⟩, ⟨⟨?_, ?_⟩, ?_⟩, ?_⟩, ?_⟩, ?_⟩, ?_⟩ <;> assumption
theorem div_abs (s : Int) {d : Int} (hd : 1 <= d) : (s <= s / d /\ s / d <= 0) ∨ (0 <= s / d /\ s / d <= s) := by
 rcases Int.lt_or_le s 0 with k | k
 ·have h1 : s / d < 0 := Int.ediv_neg_of_neg_of_pos k (by omega)
  have h2 : s <= s / d := Int.le_ediv_of_mul_le (by omega) (by have := Int.mul_le_mul_of_nonneg_left (a := 1) (b := d) (c := -s) hd (by omega); rw [Int.neg_mul, Int.neg_mul] at this; omega)
  exact .inl ⟨h2, by omega⟩
 ·exact .inr ⟨Int.ediv_nonneg k (by omega), Int.ediv_le_self _ k⟩
theorem div_W128 {s d : Int} (h : W128 s) (hd : 1 <= d) : W128 (s / d) := by
 obtain ⟨_, _⟩ := h; have := div_abs s hd; exact ⟨by omega, by omega⟩
theorem c_over (A R n d t : Int) (w : World) (h : LineOk A R n d) (ht : 0 <= t) (ht' : t <= 281474976710656) :
  Calls Tryz.prog 227 #[.agg #[A, R, n, d], t] w fun e w' => e = .returned (.tuple #[wideV (lineVal A R n d t), .int .i64 (lineRest R n d t)]) /\ Below w.heap.size w w' := by
 have hA0 := h.A0; have hA1 := h.A1; have hn0 := h.n0; have hn1 := h.n1; have hd0 := h.d0; have hd1 := h.d1; have hR0 := h.R0; have hR1 := h.R1
 have m0 : (n * t).natAbs <= 4611688217450643456 * 281474976710656 := by
  rw [Int.natAbs_mul]; exact Nat.mul_le_mul (by omega) (by omega)
 have p1 : -1298074833603726549822761531867136 <= n * t /\ n * t <= 1298074833603726549822761531867136 := by omega
 have w1 : W128 (n * t + R) := ⟨by omega, by omega⟩
 have q1 := div_W128 w1 hd0
 have q2 : -1298074833603726549822761531867136 * 1 - 1 <= (n * t + R) / d /\ (n * t + R) / d <= 1298074833603726549822761531867136 * 2 := by
  have := div_abs (n * t + R) hd0; omega
 have w2 : W128 ((n * t + R) / d + A) := ⟨by omega, by omega⟩
 have z1 : I64 n := ⟨by omega, by omega⟩
 have z2 : I64 t := ⟨by omega, by omega⟩
 have z3 : I64 R := ⟨by omega, by omega⟩
 have z4 : I64 A := ⟨by omega, by omega⟩
 have c3 := fun w => c_Add (n * t) R w (W128_mul z1 z2) z3.w
 have c6 := fun w => c_Add ((n * t + R) / d) A w q1 z4.w
 rw [inW_in w1, wrapW_in w1] at c3
 rw [inW_in w2, wrapW_in w2] at c6
 exact over_w A R n d t _ _ _ _ _ _ _ _ _ _ _ _ _ _ _ w (fun w => c_Mul n t w z1 z2) (fun w => c_Of R w z3) c3 (fun w => c_Div (n * t + R) d w w1 hd0 (by omega)) (fun w => c_Of A w z4) c6
theorem value_ok (A R n d t oh ol rest v : Int) (w : World)
  (c1 : ∀ w, Calls Tryz.prog 227 #[.agg #[A, R, n, d], t] w fun e w' => e = .returned (.tuple #[.agg #[oh, .int .u64 ol], rest]) /\ Below w.heap.size w w')
  (c2 : ∀ w, Calls Tryz.prog 60 #[.agg #[oh, .int .u64 ol]] w fun e' w' => e' = .returned (.tuple #[v, .int .i64 0]) /\ Below w.heap.size w w')
  (c3 : ∀ w, Calls Tryz.prog 224 #[v] w fun e w' => e = .returned (.bool true) /\ Below w.heap.size w w') :
  Calls Tryz.prog 206 #[.agg #[A, R, n, d], t] w fun e w' => e = .returned (.tuple #[v, .int .i64 0]) /\ Below w.heap.size w w' := by
 have H_c1 := Lib.hid c1
 clear c1
 have H_c2 := Lib.hid c2
 clear c2
 have H_c3 := Lib.hid c3
 clear c3
 go_enter Tryz.func206, Tryz.ntmps206
 go_upto_region 1 with (fail)
 refine wp_facts (fun W' => Below w.heap.size w W' /\ Blk W' w.heap.size #[A, R, n, d] 282) ⟨by exact belowAny, by exact blkAny⟩ ?_
 rintro W1 ⟨hW, b1⟩
 have z2 := hW.size
 have z3 := b1.lt
 have k1 := b1.cell
 have f1 := b1.frozen
 have c1 := H_c1.out
 go_wp2_with fail
 refine (c1 _).mono ?_
 rintro e w4 ⟨rfl, hb4⟩
 clear c1
 have z5 := hb4.size
 try simp at z5
 clear k1 f1
 have b1 : Blk w4 w.heap.size #[A, R, n, d] 282 := blkAny
 have hW : Below w.heap.size w w4 := belowAny
 have z6 := b1.lt
 clear hb4
 have k1 := b1.cell
 have f1 := b1.frozen
 have c2 := H_c2.out
 go_wp2_with fail
 refine (c2 _).mono ?_
 rintro e w7 ⟨rfl, hb7⟩
 clear c2
 have z8 := hb7.size
 try simp at z8
 clear k1 f1
 have b1 : Blk w7 w.heap.size #[A, R, n, d] 282 := blkAny
 have hW : Below w.heap.size w w7 := belowAny
 have z9 := b1.lt
 clear hb7
 have k1 := b1.cell
 have f1 := b1.frozen
 go_upto_region 3 with (fail)
 clear k1 f1
 refine wp_facts (fun W' => Below w.heap.size w W' /\ Blk W' w.heap.size #[A, R, n, d] 282) ⟨by exact belowAny, by exact blkAny⟩ ?_
 clear b1 hW
 rintro W10 ⟨hW, b1⟩
 have z11 := hW.size
 have z12 := b1.lt
 have c3 := H_c3.out
 refine wp_region_sq 7 29 [] (fun W' => Rex [] W10 W' /\ Blk W' w.heap.size #[A, R, n, d] 282) (by kernel_rfl) rfl ⟨(Rex.refl _ _), b1⟩ (fun w w' ⟨h0, h1⟩ hr => ⟨h0.trans hr, h1.rex hr (by simp <;> omega)⟩) ?_
 iterate 3
  apply nd_det (hg := rfl) (hal := rfl)
  ·intro a W' hC hE
   obtain ⟨_, k1⟩ := hC
   first
    | (simp at hE; simp [go_sem, Act.eval, IntWalk.i64_left, hE, k1]; try rfl)
    | (clear hE; simp [go_sem, Act.eval, IntWalk.i64_left, k1]; try rfl)
 iterate 1
  apply nd_detg (p := true) (hg := rfl) (hd := rfl) (hal := rfl)
  ·intro v W' h
   simp at h
   simp
   exact h
  ·intro hp hx a W' hC hE
   obtain ⟨_, k1⟩ := hC
   simp [hx] at hE
   simp [go_sem, Act.eval, IntWalk.i64_left, hE, k1]
   try rfl
 apply nd_callvg2 (p := true) (hg := rfl) (hd := rfl) (hal := rfl)
 ·intro v W' h
  simp at h
  simp
  exact h
 ·intro hp hx W' hC
  exact c3 W'
 ·intro hp hx a W' hC hE
  obtain ⟨_, k1⟩ := hC
  first
   | (simp [hx] at hE; simp [go_sem, Act.eval, IntWalk.i64_left, hE, k1]; try rfl)
   | (clear hE; simp [go_sem, Act.eval, IntWalk.i64_left, k1]; try rfl)
 iterate 1
  apply nd_detg (p := true) (hg := rfl) (hd := rfl) (hal := rfl)
  ·intro v W' h
   simp at h
   simp
   exact h
  ·intro hp hx a W' hC hE
   obtain ⟨_, k1⟩ := hC
   simp [hx] at hE
   simp [go_sem, Act.eval, IntWalk.i64_left, hE, k1]
   try rfl
 apply nd_pick_or (ho := rfl) (hg := rfl)
 ·intro v W' h
  simp at h
  exact h
 ·intro v W' h hx
  simp [hx] at h
  exact h
 rintro W13 ⟨hR, d1⟩
 simp only [ndFinR, Det, forall_eq]
 intros
 repeat (rename GDet _ _ _ _ => hgd; clear hgd)
 simp only [Act.put, List.setIfInBounds_toArray, List.set_cons_zero, List.set_cons_succ]
 refine wpList_nil ?_
 replace hW := hW.trans (hR.of_priv hW.size)
 clear hR
 clear c3
 try clear b1
 have b1 := d1
 clear d1
 go_wp2
 have y_1 := b1.lt
 refine bodyPost_ret (v := .tuple #[v, .int .i64 0]) (by simp [results, Tryz.results206, go_sem, y_1]) rfl ⟨rfl, by exact belowAny⟩
theorem value_over (A R n d t oh ol rest v : Int) (w : World)
  (c1 : ∀ w, Calls Tryz.prog 227 #[.agg #[A, R, n, d], t] w fun e w' => e = .returned (.tuple #[.agg #[oh, .int .u64 ol], rest]) /\ Below w.heap.size w w')
  (c2 : ∀ w, Calls Tryz.prog 60 #[.agg #[oh, .int .u64 ol]] w fun e' w' => e' = .returned (.tuple #[v, .int .i64 0]) /\ Below w.heap.size w w')
  (c3 : ∀ w, Calls Tryz.prog 224 #[v] w fun e w' => e = .returned (.bool false) /\ Below w.heap.size w w') :
  Calls Tryz.prog 206 #[.agg #[A, R, n, d], t] w fun e w' => e = .returned (.tuple #[.int .i64 0, .int .i64 5]) /\ Below w.heap.size w w' := by
 have H_c1 := Lib.hid c1
 clear c1
 have H_c2 := Lib.hid c2
 clear c2
 have H_c3 := Lib.hid c3
 clear c3
 go_enter Tryz.func206, Tryz.ntmps206
 go_upto_region 1 with (fail)
 refine wp_facts (fun W' => Below w.heap.size w W' /\ Blk W' w.heap.size #[A, R, n, d] 282) ⟨by exact belowAny, by exact blkAny⟩ ?_
 rintro W1 ⟨hW, b1⟩
 have z2 := hW.size
 have z3 := b1.lt
 have k1 := b1.cell
 have f1 := b1.frozen
 have c1 := H_c1.out
 go_wp2_with fail
 refine (c1 _).mono ?_
 rintro e w4 ⟨rfl, hb4⟩
 clear c1
 have z5 := hb4.size
 try simp at z5
 clear k1 f1
 have b1 : Blk w4 w.heap.size #[A, R, n, d] 282 := blkAny
 have hW : Below w.heap.size w w4 := belowAny
 have z6 := b1.lt
 clear hb4
 have k1 := b1.cell
 have f1 := b1.frozen
 have c2 := H_c2.out
 go_wp2_with fail
 refine (c2 _).mono ?_
 rintro e w7 ⟨rfl, hb7⟩
 clear c2
 have z8 := hb7.size
 try simp at z8
 clear k1 f1
 have b1 : Blk w7 w.heap.size #[A, R, n, d] 282 := blkAny
 have hW : Below w.heap.size w w7 := belowAny
 have z9 := b1.lt
 clear hb7
 have k1 := b1.cell
 have f1 := b1.frozen
 go_upto_region 3 with (fail)
 clear k1 f1
 refine wp_facts (fun W' => Below w.heap.size w W' /\ Blk W' w.heap.size #[A, R, n, d] 282) ⟨by exact belowAny, by exact blkAny⟩ ?_
 clear b1 hW
 rintro W10 ⟨hW, b1⟩
 have z11 := hW.size
 have z12 := b1.lt
 have c3 := H_c3.out
 refine wp_region_sq 7 29 [] (fun W' => Rex [] W10 W' /\ Blk W' w.heap.size #[A, R, n, d] 282) (by kernel_rfl) rfl ⟨(Rex.refl _ _), b1⟩ (fun w w' ⟨h0, h1⟩ hr => ⟨h0.trans hr, h1.rex hr (by simp <;> omega)⟩) ?_
 iterate 3
  apply nd_det (hg := rfl) (hal := rfl)
  ·intro a W' hC hE
   obtain ⟨_, k1⟩ := hC
   first
    | (simp at hE; simp [go_sem, Act.eval, IntWalk.i64_left, hE, k1]; try rfl)
    | (clear hE; simp [go_sem, Act.eval, IntWalk.i64_left, k1]; try rfl)
 iterate 1
  apply nd_detg (p := true) (hg := rfl) (hd := rfl) (hal := rfl)
  ·intro v W' h
   simp at h
   simp
   exact h
  ·intro hp hx a W' hC hE
   obtain ⟨_, k1⟩ := hC
   simp [hx] at hE
   simp [go_sem, Act.eval, IntWalk.i64_left, hE, k1]
   try rfl
 apply nd_callvg2 (p := true) (hg := rfl) (hd := rfl) (hal := rfl)
 ·intro v W' h
  simp at h
  simp
  exact h
 ·intro hp hx W' hC
  exact c3 W'
 ·intro hp hx a W' hC hE
  obtain ⟨_, k1⟩ := hC
  first
   | (simp [hx] at hE; simp [go_sem, Act.eval, IntWalk.i64_left, hE, k1]; try rfl)
   | (clear hE; simp [go_sem, Act.eval, IntWalk.i64_left, k1]; try rfl)
 iterate 1
  apply nd_detg (p := true) (hg := rfl) (hd := rfl) (hal := rfl)
  ·intro v W' h
   simp at h
   simp
   exact h
  ·intro hp hx a W' hC hE
   obtain ⟨_, k1⟩ := hC
   simp [hx] at hE
   simp [go_sem, Act.eval, IntWalk.i64_left, hE, k1]
   try rfl
 apply nd_pick_or (ho := rfl) (hg := rfl)
 ·intro v W' h
  simp at h
  exact h
 ·intro v W' h hx
  simp [hx] at h
  exact h
 rintro W13 ⟨hR, d1⟩
 simp only [ndFinR, Det, forall_eq]
 intros
 repeat (rename GDet _ _ _ _ => hgd; clear hgd)
 simp only [Act.put, List.setIfInBounds_toArray, List.set_cons_zero, List.set_cons_succ]
 refine wpList_nil ?_
 replace hW := hW.trans (hR.of_priv hW.size)
 clear hR
 clear c3
 try clear b1
 have b1 := d1
 clear d1
 go_wp2
 have y_1 := b1.lt
 refine bodyPost_ret (v := .tuple #[.int .i64 0, .int .i64 5]) (by simp [results, Tryz.results206, go_sem, y_1]) rfl ⟨rfl, by exact belowAny⟩
theorem value_wide (A R n d t oh ol rest v : Int) (w : World)
  (c1 : ∀ w, Calls Tryz.prog 227 #[.agg #[A, R, n, d], t] w fun e w' => e = .returned (.tuple #[.agg #[oh, .int .u64 ol], rest]) /\ Below w.heap.size w w')
  (c2 : ∀ w, Calls Tryz.prog 60 #[.agg #[oh, .int .u64 ol]] w fun e' w' => e' = .returned (.tuple #[v, .int .i64 5]) /\ Below w.heap.size w w')
  (c3 : ∀ w, Calls Tryz.prog 224 #[v] w fun e w' => e = .returned (.bool true) /\ Below w.heap.size w w') :
  Calls Tryz.prog 206 #[.agg #[A, R, n, d], t] w fun e w' => e = .returned (.tuple #[.int .i64 0, .int .i64 5]) /\ Below w.heap.size w w' := by
 have H_c1 := Lib.hid c1
 clear c1
 have H_c2 := Lib.hid c2
 clear c2
 have H_c3 := Lib.hid c3
 clear c3
 go_enter Tryz.func206, Tryz.ntmps206
 go_upto_region 1 with (fail)
 refine wp_facts (fun W' => Below w.heap.size w W' /\ Blk W' w.heap.size #[A, R, n, d] 282) ⟨by exact belowAny, by exact blkAny⟩ ?_
 rintro W1 ⟨hW, b1⟩
 have z2 := hW.size
 have z3 := b1.lt
 have k1 := b1.cell
 have f1 := b1.frozen
 have c1 := H_c1.out
 go_wp2_with fail
 refine (c1 _).mono ?_
 rintro e w4 ⟨rfl, hb4⟩
 clear c1
 have z5 := hb4.size
 try simp at z5
 clear k1 f1
 have b1 : Blk w4 w.heap.size #[A, R, n, d] 282 := blkAny
 have hW : Below w.heap.size w w4 := belowAny
 have z6 := b1.lt
 clear hb4
 have k1 := b1.cell
 have f1 := b1.frozen
 have c2 := H_c2.out
 go_wp2_with fail
 refine (c2 _).mono ?_
 rintro e w7 ⟨rfl, hb7⟩
 clear c2
 have z8 := hb7.size
 try simp at z8
 clear k1 f1
 have b1 : Blk w7 w.heap.size #[A, R, n, d] 282 := blkAny
 have hW : Below w.heap.size w w7 := belowAny
 have z9 := b1.lt
 clear hb7
 have k1 := b1.cell
 have f1 := b1.frozen
 go_wp2
 have y_1 := b1.lt
 refine bodyPost_ret (v := .tuple #[.int .i64 0, .int .i64 5]) (by simp [results, Tryz.results206, go_sem, k1, f1, y_1]) rfl ⟨rfl, by exact belowAny⟩
theorem back_in {o : Int} (h : isBack o = true) : I64 o := by unfold isBack at h; simp at h; unfold I64; omega
theorem lineVal_W128 {A R n d t : Int} (h : LineOk A R n d) (ht : 0 <= t) (ht' : t <= 281474976710656) : W128 (lineVal A R n d t) := by
 have hA0 := h.A0; have hA1 := h.A1; have hn0 := h.n0; have hn1 := h.n1; have hd0 := h.d0; have hd1 := h.d1; have hR0 := h.R0; have hR1 := h.R1
 have m0 : (n * t).natAbs <= 4611688217450643456 * 281474976710656 := by
  rw [Int.natAbs_mul]; exact Nat.mul_le_mul (by omega) (by omega)
 have := div_abs (n * t + R) hd0
 unfold lineVal
 exact ⟨by omega, by omega⟩
theorem c_value (A R n d t : Int) (w : World) (h : LineOk A R n d) (ht : 0 <= t) (ht' : t <= 281474976710656) :
  Calls Tryz.prog 206 #[.agg #[A, R, n, d], t] w fun e w' => e = .returned (.tuple #[.int .i64 (wv (isBack (lineVal A R n d t)) (lineVal A R n d t)), .int .i64 (we (isBack (lineVal A R n d t)))]) /\ Below w.heap.size w w' := by
 have c1 := fun w => c_over A R n d t w h ht ht'
 have c2 := fun w => c_Int (lineVal A R n d t) w (lineVal_W128 h ht ht')
 have c3 := fun w => c_back (lineVal A R n d t) w
 cases hb : isBack (lineVal A R n d t) with
 | true =>
  rw [inI_in (back_in hb)] at c2
  rw [hb] at c3
  exact value_ok A R n d t _ _ _ _ w c1 c2 c3
 | false =>
  cases hi : inI (lineVal A R n d t) with
  | true =>
   rw [hi] at c2
   rw [hb] at c3
   exact value_over A R n d t _ _ _ _ w c1 c2 c3
  | false =>
   rw [hi] at c2
   exact value_wide A R n d t _ _ _ _ w c1 c2 (fun w => c_back 0 w)
def isTime (t : Int) : Bool := decide (0 <= t) && decide (t <= 281474976710656)
theorem isTime_iff {t : Int} : isTime t = true ↔ 0 <= t /\ t <= 281474976710656 := by unfold isTime; simp
theorem c_timeIs (t : Int) (w : World) : Calls Tryz.prog 205 #[t] w fun e w' => e = .returned (.bool (isTime t)) /\ Below w.heap.size w w' := by
 unfold isTime
 go_enter Tryz.func205, Tryz.ntmps205
 go_upto_region 1 with (fail)
 refine wp_facts (fun W' => Below w.heap.size w W' /\ True) ⟨by exact belowAny, trivial⟩ ?_
 rintro W1 ⟨hW, _⟩
 have z2 := hW.size
 refine wp_region_sq 7 9 [] (fun W' => Rex [] W1 W') (by kernel_rfl) rfl (Rex.refl _ _) (fun w w' h0 hr => h0.trans hr) ?_
 iterate 3
  apply nd_det (hg := rfl) (hal := rfl)
  ·intro a W' hC hE
   obtain _ := hC
   first
    | (simp at hE; simp [go_sem, Act.eval, IntWalk.i64_left, hE]; try rfl)
    | (clear hE; simp [go_sem, Act.eval, IntWalk.i64_left]; try rfl)
 iterate 2
  apply nd_detg (p := true) (hg := rfl) (hd := rfl) (hal := rfl)
  ·intro v W' h
   simp at h
   simp
   exact h
  ·intro hp hx a W' hC hE
   obtain _ := hC
   simp [hx] at hE
   simp [go_sem, Act.eval, IntWalk.i64_left, hE]
   try rfl
 apply nd_pick_and (ho := rfl) (hg := rfl)
 ·intro v W' h
  simp at h
  exact h
 ·intro v W' h hx
  simp [hx] at h
  exact h
 iterate 1
  apply nd_det (hg := rfl) (hal := rfl)
  ·intro a W' hC hE
   obtain _ := hC
   first
    | (simp at hE; simp [go_sem, Act.eval, IntWalk.i64_left, hE]; try rfl)
    | (clear hE; simp [go_sem, Act.eval, IntWalk.i64_left]; try rfl)
 rintro W3 hR
 simp only [ndFinR, Det, forall_eq]
 intros
 repeat (rename GDet _ _ _ _ => hgd; clear hgd)
 simp only [Act.put, List.setIfInBounds_toArray, List.set_cons_zero, List.set_cons_succ]
 refine wpList_nil ?_
 replace hW := hW.trans (hR.of_priv hW.size)
 clear hR
 go_wp2
 refine bodyPost_ret (v := .bool (decide (0 <= t) && decide (t <= 281474976710656))) (by simp [results, Tryz.results205, go_sem]) rfl ⟨rfl, by exact belowAny⟩
theorem check_ok (A R n d : Int) (w : World)
  (c1 : ∀ w, Calls Tryz.prog 204 #[.agg #[A, R, n, d]] w fun e' w' => e' = .returned (.bool true) /\ Below w.heap.size w w') :
  Calls Tryz.prog 233 #[.agg #[A, R, n, d]] w fun e' w' => e' = .returned (.int .i64 0) /\ Below w.heap.size w w' := by
 have H_c1 := Lib.hid c1
 clear c1
 go_enter Tryz.func233, Tryz.ntmps233
 have c1 := H_c1.out
 go_wp2_with fail
 refine (c1 _).mono ?_
 rintro e w1 ⟨rfl, hb1⟩
 clear c1
 have z2 := hb1.size
 try simp at z2
 have hW : Below w.heap.size w w1 := belowAny
 clear hb1
 go_wp2
 refine bodyPost_ret (v := .int .i64 0) (by simp [results, Tryz.results233, go_sem]) rfl ⟨rfl, by exact belowAny⟩
theorem check_no (A R n d : Int) (w : World)
  (c1 : ∀ w, Calls Tryz.prog 204 #[.agg #[A, R, n, d]] w fun e' w' => e' = .returned (.bool false) /\ Below w.heap.size w w') :
  Calls Tryz.prog 233 #[.agg #[A, R, n, d]] w fun e' w' => e' = .returned (.int .i64 150) /\ Below w.heap.size w w' := by
 have H_c1 := Lib.hid c1
 clear c1
 go_enter Tryz.func233, Tryz.ntmps233
 have c1 := H_c1.out
 go_wp2_with fail
 refine (c1 _).mono ?_
 rintro e w1 ⟨rfl, hb1⟩
 clear c1
 have z2 := hb1.size
 try simp at z2
 have hW : Below w.heap.size w w1 := belowAny
 clear hb1
 go_wp2
 refine bodyPost_ret (v := .int .i64 150) (by simp [results, Tryz.results233, go_sem]) rfl ⟨rfl, by exact belowAny⟩
def eLine (b : Bool) : Int := if b = true then 0 else 150
theorem c_Check (A R n d : Int) (w : World) : Calls Tryz.prog 233 #[.agg #[A, R, n, d]] w fun e' w' => e' = .returned (.int .i64 (eLine (isLine A R n d))) /\ Below w.heap.size w w' := by
 have c1 := fun w => c_is A R n d w
 cases h : isLine A R n d with
 | true => rw [h] at c1; exact check_ok A R n d w c1
 | false => rw [h] at c1; exact check_no A R n d w c1
end Go.Proofs.YtidfcoooccblaaaGreat
namespace Go.Proofs.YtidfcoooccblaaaGreat
open Go.RowKit
theorem c_ends1 (A R n d t v e : Int) (g : Nat) (w : World) (hg : Blk w g #[.func (.func 206) #[.agg #[A, R, n, d]] #[]] 283)
  (c1 : ∀ w, Calls Tryz.prog 206 #[.agg #[A, R, n, d], t] w fun e' w' => e' = .returned (.tuple #[v, e]) /\ Below w.heap.size w w') :
  Calls Tryz.prog 230 #[t, .pointer (some ⟨g, 0, none⟩)] w fun e' w' => e' = .returned (.tuple #[v, e]) /\ Below w.heap.size w w' := by
 have H_c1 := Lib.hid c1
 clear c1
 have b1 := hg
 go_enter Tryz.func230, Tryz.ntmps230
 go_upto_region 1 with (fail)
 refine wp_facts (fun W' => Below w.heap.size w W' /\ Blk W' g #[.func (.func 206) #[.agg #[A, R, n, d]] #[]] 283) ⟨by exact belowAny, by exact blkAny⟩ ?_
 clear b1
 rintro W1 ⟨hW, b1⟩
 have z2 := hW.size
 have z3 := b1.lt
 have k1 := b1.cell
 have f1 := b1.frozen
 have c1 := H_c1.out
 go_wp2_with fail
 refine (c1 _).mono ?_
 rintro e w4 ⟨rfl, hb4⟩
 clear c1
 have z5 := hb4.size
 try simp at z5
 clear k1 f1
 have b1 : Blk w4 g #[.func (.func 206) #[.agg #[A, R, n, d]] #[]] 283 := blkAny
 have hW : Below w.heap.size w w4 := belowAny
 have z6 := b1.lt
 clear hb4
 have k1 := b1.cell
 have f1 := b1.frozen
 go_wp2
 have y_1 := b1.lt
 refine bodyPost_ret (v := .tuple #[v, e]) (by simp [results, Tryz.results230, go_sem, k1, f1, y_1]) rfl ⟨rfl, by exact belowAny⟩
theorem both_ok (A R n d a b va vb : Int) (g : Nat) (w : World) (hg : Blk w g #[.func (.func 206) #[.agg #[A, R, n, d]] #[]] 283)
  (c1 : ∀ w, Blk w g #[.func (.func 206) #[.agg #[A, R, n, d]] #[]] 283 -> Calls Tryz.prog 230 #[a, .pointer (some ⟨g, 0, none⟩)] w fun e' w' => e' = .returned (.tuple #[va, .int .i64 0]) /\ Below w.heap.size w w')
  (c2 : ∀ w, Blk w g #[.func (.func 206) #[.agg #[A, R, n, d]] #[]] 283 -> Calls Tryz.prog 230 #[b, .pointer (some ⟨g, 0, none⟩)] w fun e' w' => e' = .returned (.tuple #[vb, .int .i64 0]) /\ Below w.heap.size w w') :
  Calls Tryz.prog 229 #[.agg #[a, b], .func (.func 230) #[] #[.pointer (some ⟨g, 0, none⟩)]] w fun e' w' => e' = .returned (.tuple #[.agg #[va, vb], .int .i64 0]) /\ Below w.heap.size w w' := by
 have y0 := hg.lt
 have hix0 : ∀ (x y : Int) (w : World), (Instr.index 101 (.agg #[x, y]) (.int .i64 0)).run Tryz.prog w = .ok (x) w := by intros; kernel_rfl
 have hix1 : ∀ (x y : Int) (w : World), (Instr.index 101 (.agg #[x, y]) (.int .i64 1)).run Tryz.prog w = .ok (y) w := by intros; kernel_rfl
 have H_c1 := Lib.hid c1
 clear c1
 have H_c2 := Lib.hid c2
 clear c2
 go_enter Tryz.func229, Tryz.ntmps229
 go_wp2
 go_step3
 go_upto_region 2 with (fail)
 refine wp_facts (fun W' => Below w.heap.size w W' /\ Blk W' w.heap.size #[a, b] 101 /\ Blk W' (w.heap.size + 1) #[.int .i64 0, .int .i64 0] 101 /\ Blk W' (w.heap.size + 2) #[.int .i64 0, .int .i64 0] 101 /\ Blk W' g #[.func (.func 206) #[.agg #[A, R, n, d]] #[]] 283) ⟨by exact belowAny, by exact blkAny, by exact blkAny, by exact blkAny, by exact blkAny⟩ ?_
 rintro W1 ⟨hW, b1, b2, b3, b4⟩
 have z2 := hW.size
 have z3 := b1.lt
 have z4 := b2.lt
 have z5 := b3.lt
 have z6 := b4.lt
 have k1 := b1.cell
 have f1 := b1.frozen
 have k2 := b2.cell
 have f2 := b2.frozen
 have k3 := b3.cell
 have f3 := b3.frozen
 have k4 := b4.cell
 have f4 := b4.frozen
 go_wp2
 go_step3
 go_wp2
 refine wp_loop_rounds 3 ?_
 rw [rounds_succ]
 have c1 := H_c1.out
 go_wp2_with fail
 refine (c1 _ (blkAny)).mono ?_
 rintro e w7 ⟨rfl, hb7⟩
 clear c1
 have z8 := hb7.size
 try simp at z8
 clear k1 f1 k2 f2 k3 f3 k4 f4
 have b1 : Blk w7 w.heap.size #[a, b] 101 := blkAny
 have b2 : Blk w7 (w.heap.size + 1) #[.int .i64 0, .int .i64 0] 101 := blkAny
 have b3 : Blk w7 (w.heap.size + 2) #[.int .i64 0, .int .i64 0] 101 := blkAny
 have b4 : Blk w7 g #[.func (.func 206) #[.agg #[A, R, n, d]] #[]] 283 := blkAny
 have hW : Below w.heap.size w w7 := belowAny
 have z9 := b1.lt
 have z10 := b2.lt
 have z11 := b3.lt
 have z12 := b4.lt
 clear hb7
 have k1 := b1.cell
 have f1 := b1.frozen
 have k2 := b2.cell
 have f2 := b2.frozen
 have k3 := b3.cell
 have f3 := b3.frozen
 have k4 := b4.cell
 have f4 := b4.frozen
 go_upto_region 6 with (fail)
 clear k1 f1 k2 f2 k3 f3 k4 f4
 refine wp_facts (fun W' => Below w.heap.size w W' /\ Blk W' w.heap.size #[a, b] 101 /\ Blk W' (w.heap.size + 1) #[.int .i64 0, .int .i64 0] 101 /\ Blk W' (w.heap.size + 2) #[.int .i64 0, .int .i64 0] 101 /\ Blk W' g #[.func (.func 206) #[.agg #[A, R, n, d]] #[]] 283) ⟨by exact belowAny, by exact blkAny, by exact blkAny, by exact blkAny, by exact blkAny⟩ ?_
 clear b1 b2 b3 b4 hW
 rintro W13 ⟨hW, b1, b2, b3, b4⟩
 have z14 := hW.size
 have z15 := b1.lt
 have z16 := b2.lt
 have z17 := b3.lt
 have z18 := b4.lt
 have k1 := b1.cell
 have f1 := b1.frozen
 have k2 := b2.cell
 have f2 := b2.frozen
 have k3 := b3.cell
 have f3 := b3.frozen
 have k4 := b4.cell
 have f4 := b4.frozen
 go_wp2
 rw [rounds_succ]
 have c2 := H_c2.out
 go_wp2_with fail
 refine (c2 _ (blkAny)).mono ?_
 rintro e w19 ⟨rfl, hb19⟩
 clear c2
 have z20 := hb19.size
 try simp at z20
 clear k1 f1 k2 f2 k3 f3 k4 f4
 have b1 : Blk w19 w.heap.size #[a, b] 101 := blkAny
 have b2 : Blk w19 (w.heap.size + 1) #[.int .i64 0, .int .i64 0] 101 := blkAny
 have b3 : Blk w19 (w.heap.size + 2) #[va, .int .i64 0] 101 := blkAny
 have b4 : Blk w19 g #[.func (.func 206) #[.agg #[A, R, n, d]] #[]] 283 := blkAny
 have hW : Below w.heap.size w w19 := belowAny
 have z21 := b1.lt
 have z22 := b2.lt
 have z23 := b3.lt
 have z24 := b4.lt
 clear hb19
 have k1 := b1.cell
 have f1 := b1.frozen
 have k2 := b2.cell
 have f2 := b2.frozen
 have k3 := b3.cell
 have f3 := b3.frozen
 have k4 := b4.cell
 have f4 := b4.frozen
 go_wp2
 rw [rounds_succ]
 go_wp2
 rw [Exit.noGoto_ret]
 have y_1 := b1.lt
 have y_2 := b2.lt
 have y_3 := b3.lt
 have y_4 := b4.lt
 refine bodyPost_ret (v := .tuple #[.agg #[va, vb], .int .i64 0]) (by simp [results, Tryz.results229, go_sem, k1, f1, k2, f2, k3, f3, k4, f4, y_1, y_2, y_3, y_4]) rfl ⟨rfl, by exact belowAny⟩
theorem both_first (A R n d a b va vb : Int) (g : Nat) (w : World) (hg : Blk w g #[.func (.func 206) #[.agg #[A, R, n, d]] #[]] 283)
  (c1 : ∀ w, Blk w g #[.func (.func 206) #[.agg #[A, R, n, d]] #[]] 283 -> Calls Tryz.prog 230 #[a, .pointer (some ⟨g, 0, none⟩)] w fun e' w' => e' = .returned (.tuple #[.int .i64 0, .int .i64 5]) /\ Below w.heap.size w w')
   :
  Calls Tryz.prog 229 #[.agg #[a, b], .func (.func 230) #[] #[.pointer (some ⟨g, 0, none⟩)]] w fun e' w' => e' = .returned (.tuple #[.agg #[.int .i64 0, .int .i64 0], .int .i64 5]) /\ Below w.heap.size w w' := by
 have y0 := hg.lt
 have hix0 : ∀ (x y : Int) (w : World), (Instr.index 101 (.agg #[x, y]) (.int .i64 0)).run Tryz.prog w = .ok (x) w := by intros; kernel_rfl
 have hix1 : ∀ (x y : Int) (w : World), (Instr.index 101 (.agg #[x, y]) (.int .i64 1)).run Tryz.prog w = .ok (y) w := by intros; kernel_rfl
 have H_c1 := Lib.hid c1
 clear c1
 go_enter Tryz.func229, Tryz.ntmps229
 go_wp2
 go_step3
 go_upto_region 2 with (fail)
 refine wp_facts (fun W' => Below w.heap.size w W' /\ Blk W' w.heap.size #[a, b] 101 /\ Blk W' (w.heap.size + 1) #[.int .i64 0, .int .i64 0] 101 /\ Blk W' (w.heap.size + 2) #[.int .i64 0, .int .i64 0] 101 /\ Blk W' g #[.func (.func 206) #[.agg #[A, R, n, d]] #[]] 283) ⟨by exact belowAny, by exact blkAny, by exact blkAny, by exact blkAny, by exact blkAny⟩ ?_
 rintro W1 ⟨hW, b1, b2, b3, b4⟩
 have z2 := hW.size
 have z3 := b1.lt
 have z4 := b2.lt
 have z5 := b3.lt
 have z6 := b4.lt
 have k1 := b1.cell
 have f1 := b1.frozen
 have k2 := b2.cell
 have f2 := b2.frozen
 have k3 := b3.cell
 have f3 := b3.frozen
 have k4 := b4.cell
 have f4 := b4.frozen
 go_wp2
 go_step3
 go_wp2
 refine wp_loop_rounds 3 ?_
 rw [rounds_succ]
 have c1 := H_c1.out
 go_wp2_with fail
 refine (c1 _ (blkAny)).mono ?_
 rintro e w7 ⟨rfl, hb7⟩
 clear c1
 have z8 := hb7.size
 try simp at z8
 clear k1 f1 k2 f2 k3 f3 k4 f4
 have b1 : Blk w7 w.heap.size #[a, b] 101 := blkAny
 have b2 : Blk w7 (w.heap.size + 1) #[.int .i64 0, .int .i64 0] 101 := blkAny
 have b3 : Blk w7 (w.heap.size + 2) #[.int .i64 0, .int .i64 0] 101 := blkAny
 have b4 : Blk w7 g #[.func (.func 206) #[.agg #[A, R, n, d]] #[]] 283 := blkAny
 have hW : Below w.heap.size w w7 := belowAny
 have z9 := b1.lt
 have z10 := b2.lt
 have z11 := b3.lt
 have z12 := b4.lt
 clear hb7
 have k1 := b1.cell
 have f1 := b1.frozen
 have k2 := b2.cell
 have f2 := b2.frozen
 have k3 := b3.cell
 have f3 := b3.frozen
 have k4 := b4.cell
 have f4 := b4.frozen
 go_wp2
 rw [Exit.noGoto_ret]
 have y_1 := b1.lt
 have y_2 := b2.lt
 have y_3 := b3.lt
 have y_4 := b4.lt
 refine bodyPost_ret (v := .tuple #[.agg #[.int .i64 0, .int .i64 0], .int .i64 5]) (by simp [results, Tryz.results229, go_sem, k1, f1, k2, f2, k3, f3, k4, f4, y_1, y_2, y_3, y_4]) rfl ⟨rfl, by exact belowAny⟩
theorem both_second (A R n d a b va vb : Int) (g : Nat) (w : World) (hg : Blk w g #[.func (.func 206) #[.agg #[A, R, n, d]] #[]] 283)
  (c1 : ∀ w, Blk w g #[.func (.func 206) #[.agg #[A, R, n, d]] #[]] 283 -> Calls Tryz.prog 230 #[a, .pointer (some ⟨g, 0, none⟩)] w fun e' w' => e' = .returned (.tuple #[va, .int .i64 0]) /\ Below w.heap.size w w')
  (c2 : ∀ w, Blk w g #[.func (.func 206) #[.agg #[A, R, n, d]] #[]] 283 -> Calls Tryz.prog 230 #[b, .pointer (some ⟨g, 0, none⟩)] w fun e' w' => e' = .returned (.tuple #[.int .i64 0, .int .i64 5]) /\ Below w.heap.size w w') :
  Calls Tryz.prog 229 #[.agg #[a, b], .func (.func 230) #[] #[.pointer (some ⟨g, 0, none⟩)]] w fun e' w' => e' = .returned (.tuple #[.agg #[.int .i64 0, .int .i64 0], .int .i64 5]) /\ Below w.heap.size w w' := by
 have y0 := hg.lt
 have hix0 : ∀ (x y : Int) (w : World), (Instr.index 101 (.agg #[x, y]) (.int .i64 0)).run Tryz.prog w = .ok (x) w := by intros; kernel_rfl
 have hix1 : ∀ (x y : Int) (w : World), (Instr.index 101 (.agg #[x, y]) (.int .i64 1)).run Tryz.prog w = .ok (y) w := by intros; kernel_rfl
 have H_c1 := Lib.hid c1
 clear c1
 have H_c2 := Lib.hid c2
 clear c2
 go_enter Tryz.func229, Tryz.ntmps229
 go_wp2
 go_step3
 go_upto_region 2 with (fail)
 refine wp_facts (fun W' => Below w.heap.size w W' /\ Blk W' w.heap.size #[a, b] 101 /\ Blk W' (w.heap.size + 1) #[.int .i64 0, .int .i64 0] 101 /\ Blk W' (w.heap.size + 2) #[.int .i64 0, .int .i64 0] 101 /\ Blk W' g #[.func (.func 206) #[.agg #[A, R, n, d]] #[]] 283) ⟨by exact belowAny, by exact blkAny, by exact blkAny, by exact blkAny, by exact blkAny⟩ ?_
 rintro W1 ⟨hW, b1, b2, b3, b4⟩
 have z2 := hW.size
 have z3 := b1.lt
 have z4 := b2.lt
 have z5 := b3.lt
 have z6 := b4.lt
 have k1 := b1.cell
 have f1 := b1.frozen
 have k2 := b2.cell
 have f2 := b2.frozen
 have k3 := b3.cell
 have f3 := b3.frozen
 have k4 := b4.cell
 have f4 := b4.frozen
 go_wp2
 go_step3
 go_wp2
 refine wp_loop_rounds 3 ?_
 rw [rounds_succ]
 have c1 := H_c1.out
 go_wp2_with fail
 refine (c1 _ (blkAny)).mono ?_
 rintro e w7 ⟨rfl, hb7⟩
 clear c1
 have z8 := hb7.size
 try simp at z8
 clear k1 f1 k2 f2 k3 f3 k4 f4
 have b1 : Blk w7 w.heap.size #[a, b] 101 := blkAny
 have b2 : Blk w7 (w.heap.size + 1) #[.int .i64 0, .int .i64 0] 101 := blkAny
 have b3 : Blk w7 (w.heap.size + 2) #[.int .i64 0, .int .i64 0] 101 := blkAny
 have b4 : Blk w7 g #[.func (.func 206) #[.agg #[A, R, n, d]] #[]] 283 := blkAny
 have hW : Below w.heap.size w w7 := belowAny
 have z9 := b1.lt
 have z10 := b2.lt
 have z11 := b3.lt
 have z12 := b4.lt
 clear hb7
 have k1 := b1.cell
 have f1 := b1.frozen
 have k2 := b2.cell
 have f2 := b2.frozen
 have k3 := b3.cell
 have f3 := b3.frozen
 have k4 := b4.cell
 have f4 := b4.frozen
 go_upto_region 6 with (fail)
 clear k1 f1 k2 f2 k3 f3 k4 f4
 refine wp_facts (fun W' => Below w.heap.size w W' /\ Blk W' w.heap.size #[a, b] 101 /\ Blk W' (w.heap.size + 1) #[.int .i64 0, .int .i64 0] 101 /\ Blk W' (w.heap.size + 2) #[.int .i64 0, .int .i64 0] 101 /\ Blk W' g #[.func (.func 206) #[.agg #[A, R, n, d]] #[]] 283) ⟨by exact belowAny, by exact blkAny, by exact blkAny, by exact blkAny, by exact blkAny⟩ ?_
 clear b1 b2 b3 b4 hW
 rintro W13 ⟨hW, b1, b2, b3, b4⟩
 have z14 := hW.size
 have z15 := b1.lt
 have z16 := b2.lt
 have z17 := b3.lt
 have z18 := b4.lt
 have k1 := b1.cell
 have f1 := b1.frozen
 have k2 := b2.cell
 have f2 := b2.frozen
 have k3 := b3.cell
 have f3 := b3.frozen
 have k4 := b4.cell
 have f4 := b4.frozen
 go_wp2
 rw [rounds_succ]
 have c2 := H_c2.out
 go_wp2_with fail
 refine (c2 _ (blkAny)).mono ?_
 rintro e w19 ⟨rfl, hb19⟩
 clear c2
 have z20 := hb19.size
 try simp at z20
 clear k1 f1 k2 f2 k3 f3 k4 f4
 have b1 : Blk w19 w.heap.size #[a, b] 101 := blkAny
 have b2 : Blk w19 (w.heap.size + 1) #[.int .i64 0, .int .i64 0] 101 := blkAny
 have b3 : Blk w19 (w.heap.size + 2) #[va, .int .i64 0] 101 := blkAny
 have b4 : Blk w19 g #[.func (.func 206) #[.agg #[A, R, n, d]] #[]] 283 := blkAny
 have hW : Below w.heap.size w w19 := belowAny
 have z21 := b1.lt
 have z22 := b2.lt
 have z23 := b3.lt
 have z24 := b4.lt
 clear hb19
 have k1 := b1.cell
 have f1 := b1.frozen
 have k2 := b2.cell
 have f2 := b2.frozen
 have k3 := b3.cell
 have f3 := b3.frozen
 have k4 := b4.cell
 have f4 := b4.frozen
 go_wp2
 rw [Exit.noGoto_ret]
 have y_1 := b1.lt
 have y_2 := b2.lt
 have y_3 := b3.lt
 have y_4 := b4.lt
 refine bodyPost_ret (v := .tuple #[.agg #[.int .i64 0, .int .i64 0], .int .i64 5]) (by simp [results, Tryz.results229, go_sem, k1, f1, k2, f2, k3, f3, k4, f4, y_1, y_2, y_3, y_4]) rfl ⟨rfl, by exact belowAny⟩
theorem ends_no (A R n d a b va vb e : Int) (w : World)
  (c1 : ∀ w, Calls Tryz.prog 204 #[.agg #[A, R, n, d]] w fun e' w' => e' = .returned (.bool false) /\ Below w.heap.size w w')
   :
  Calls Tryz.prog 215 #[.agg #[A, R, n, d], a, b] w fun e' w' => e' = .returned (.tuple #[.agg #[.int .i64 0, .int .i64 0], .int .i64 150]) /\ Below w.heap.size w w' := by
 have hmf : ∀ (fn : Fn) (first cap : Array Value) (w : World), (Instr.makeFunc fn first cap).run Tryz.prog w = .ok (.func fn first cap) w := fun _ _ _ _ => rfl
 have H_c1 := Lib.hid c1
 clear c1
 go_enter Tryz.func215, Tryz.ntmps215
 go_upto_region 1 with (fail)
 refine wp_facts (fun W' => Below w.heap.size w W' /\ Blk W' w.heap.size #[A, R, n, d] 95 /\ Blk W' (w.heap.size + 1) #[.int .i64 0, .int .i64 0] 33) ⟨by exact belowAny, by exact blkAny, by exact blkAny⟩ ?_
 rintro W1 ⟨hW, b1, b2⟩
 have z2 := hW.size
 have z3 := b1.lt
 have z4 := b2.lt
 have k1 := b1.cell
 have f1 := b1.frozen
 have k2 := b2.cell
 have f2 := b2.frozen
 have c1 := H_c1.out
 go_wp2_with fail
 refine (c1 _).mono ?_
 rintro e w5 ⟨rfl, hb5⟩
 clear c1
 have z6 := hb5.size
 try simp at z6
 clear k1 f1 k2 f2
 have b1 : Blk w5 w.heap.size #[A, R, n, d] 95 := blkAny
 have b2 : Blk w5 (w.heap.size + 1) #[.int .i64 0, .int .i64 0] 33 := blkAny
 have b3 : Blk w5 W1.heap.size #[A, R, n, d] 282 := blkAny
 have hW : Below w.heap.size w w5 := belowAny
 have z7 := b1.lt
 have z8 := b2.lt
 have z9 := b3.lt
 clear hb5
 have k1 := b1.cell
 have f1 := b1.frozen
 have k2 := b2.cell
 have f2 := b2.frozen
 have k3 := b3.cell
 have f3 := b3.frozen
 go_wp2
 have y_1 := b1.lt
 have y_2 := b2.lt
 have y_3 := b3.lt
 refine bodyPost_ret (v := .tuple #[.agg #[.int .i64 0, .int .i64 0], .int .i64 150]) (by simp [results, Tryz.results215, go_sem, k1, f1, k2, f2, k3, f3, y_1, y_2, y_3]) rfl ⟨rfl, by exact belowAny⟩
theorem ends_lt (A R n d a b va vb e : Int) (w : World) (hle : decide (b < a) = false) (h : va < vb)
  (c1 : ∀ w, Calls Tryz.prog 204 #[.agg #[A, R, n, d]] w fun e' w' => e' = .returned (.bool true) /\ Below w.heap.size w w')
  (c2 : ∀ w, Calls Tryz.prog 205 #[a] w fun e w' => e = .returned (.bool true) /\ Below w.heap.size w w')
  (c3 : ∀ w, Calls Tryz.prog 205 #[b] w fun e w' => e = .returned (.bool true) /\ Below w.heap.size w w')
  (c4 : ∀ w g, Blk w g #[.func (.func 206) #[.agg #[A, R, n, d]] #[]] 283 -> Calls Tryz.prog 229 #[.agg #[a, b], .func (.func 230) #[] #[.pointer (some ⟨g, 0, none⟩)]] w fun e' w' => e' = .returned (.tuple #[.agg #[va, vb], e]) /\ Below w.heap.size w w') :
  Calls Tryz.prog 215 #[.agg #[A, R, n, d], a, b] w fun e' w' => e' = .returned (.tuple #[.agg #[va, vb], e]) /\ Below w.heap.size w w' := by
 have hmf : ∀ (fn : Fn) (first cap : Array Value) (w : World), (Instr.makeFunc fn first cap).run Tryz.prog w = .ok (.func fn first cap) w := fun _ _ _ _ => rfl
 have H_c1 := Lib.hid c1
 clear c1
 have H_c2 := Lib.hid c2
 clear c2
 have H_c3 := Lib.hid c3
 clear c3
 have H_c4 := Lib.hid c4
 clear c4
 go_enter Tryz.func215, Tryz.ntmps215
 go_upto_region 1 with (fail)
 refine wp_facts (fun W' => Below w.heap.size w W' /\ Blk W' w.heap.size #[A, R, n, d] 95 /\ Blk W' (w.heap.size + 1) #[.int .i64 0, .int .i64 0] 33) ⟨by exact belowAny, by exact blkAny, by exact blkAny⟩ ?_
 rintro W1 ⟨hW, b1, b2⟩
 have z2 := hW.size
 have z3 := b1.lt
 have z4 := b2.lt
 have k1 := b1.cell
 have f1 := b1.frozen
 have k2 := b2.cell
 have f2 := b2.frozen
 have c1 := H_c1.out
 go_wp2_with fail
 refine (c1 _).mono ?_
 rintro e w5 ⟨rfl, hb5⟩
 clear c1
 have z6 := hb5.size
 try simp at z6
 clear k1 f1 k2 f2
 have b1 : Blk w5 w.heap.size #[A, R, n, d] 95 := blkAny
 have b2 : Blk w5 (w.heap.size + 1) #[.int .i64 0, .int .i64 0] 33 := blkAny
 have b3 : Blk w5 W1.heap.size #[A, R, n, d] 282 := blkAny
 have hW : Below w.heap.size w w5 := belowAny
 have z7 := b1.lt
 have z8 := b2.lt
 have z9 := b3.lt
 clear hb5
 have k1 := b1.cell
 have f1 := b1.frozen
 have k2 := b2.cell
 have f2 := b2.frozen
 have k3 := b3.cell
 have f3 := b3.frozen
 have c2 := H_c2.out
 go_wp2_with fail
 refine (c2 _).mono ?_
 rintro e w10 ⟨rfl, hb10⟩
 clear c2
 have z11 := hb10.size
 try simp at z11
 clear k1 f1 k2 f2 k3 f3
 have b1 : Blk w10 w.heap.size #[A, R, n, d] 95 := blkAny
 have b2 : Blk w10 (w.heap.size + 1) #[.int .i64 0, .int .i64 0] 33 := blkAny
 have b3 : Blk w10 W1.heap.size #[A, R, n, d] 282 := blkAny
 have hW : Below w.heap.size w w10 := belowAny
 have z12 := b1.lt
 have z13 := b2.lt
 have z14 := b3.lt
 clear hb10
 have k1 := b1.cell
 have f1 := b1.frozen
 have k2 := b2.cell
 have f2 := b2.frozen
 have k3 := b3.cell
 have f3 := b3.frozen
 have c3 := H_c3.out
 go_wp2_with fail
 refine (c3 _).mono ?_
 rintro e w15 ⟨rfl, hb15⟩
 clear c3
 have z16 := hb15.size
 try simp at z16
 clear k1 f1 k2 f2 k3 f3
 have b1 : Blk w15 w.heap.size #[A, R, n, d] 95 := blkAny
 have b2 : Blk w15 (w.heap.size + 1) #[.int .i64 0, .int .i64 0] 33 := blkAny
 have b3 : Blk w15 W1.heap.size #[A, R, n, d] 282 := blkAny
 have hW : Below w.heap.size w w15 := belowAny
 have z17 := b1.lt
 have z18 := b2.lt
 have z19 := b3.lt
 clear hb15
 have k1 := b1.cell
 have f1 := b1.frozen
 have k2 := b2.cell
 have f2 := b2.frozen
 have k3 := b3.cell
 have f3 := b3.frozen
 go_upto_region 6 with (fail)
 clear k1 f1 k2 f2 k3 f3
 refine wp_facts (fun W' => Below w.heap.size w W' /\ Blk W' w.heap.size #[A, R, n, d] 95 /\ Blk W' (w.heap.size + 1) #[.int .i64 0, .int .i64 0] 33 /\ Blk W' W1.heap.size #[A, R, n, d] 282) ⟨by exact belowAny, by exact blkAny, by exact blkAny, by exact blkAny⟩ ?_
 clear b1 b2 b3 hW
 rintro W20 ⟨hW, b1, b2, b3⟩
 have z21 := hW.size
 have z22 := b1.lt
 have z23 := b2.lt
 have z24 := b3.lt
 have k1 := b1.cell
 have f1 := b1.frozen
 have k2 := b2.cell
 have f2 := b2.frozen
 have k3 := b3.cell
 have f3 := b3.frozen
 go_upto_region 7 with (fail)
 clear k1 f1 k2 f2 k3 f3
 refine wp_facts (fun W' => Below w.heap.size w W' /\ Blk W' w.heap.size #[A, R, n, d] 95 /\ Blk W' (w.heap.size + 1) #[.int .i64 0, .int .i64 0] 33 /\ Blk W' W1.heap.size #[A, R, n, d] 282 /\ Blk W' W20.heap.size #[.func (.func 206) #[.agg #[A, R, n, d]] #[]] 283) ⟨by exact belowAny, by exact blkAny, by exact blkAny, by exact blkAny, by exact blkAny⟩ ?_
 clear b1 b2 b3 hW
 rintro W25 ⟨hW, b1, b2, b3, b4⟩
 have z26 := hW.size
 have z27 := b1.lt
 have z28 := b2.lt
 have z29 := b3.lt
 have z30 := b4.lt
 have k1 := b1.cell
 have f1 := b1.frozen
 have k2 := b2.cell
 have f2 := b2.frozen
 have k3 := b3.cell
 have f3 := b3.frozen
 have k4 := b4.cell
 have f4 := b4.frozen
 have c4 := H_c4.out
 go_wp2_with fail
 refine (c4 _ _ (blkAny)).mono ?_
 rintro e w31 ⟨rfl, hb31⟩
 clear c4
 have z32 := hb31.size
 try simp at z32
 clear k1 f1 k2 f2 k3 f3 k4 f4
 have b1 : Blk w31 w.heap.size #[A, R, n, d] 95 := blkAny
 have b2 : Blk w31 (w.heap.size + 1) #[.int .i64 0, .int .i64 0] 33 := blkAny
 have b3 : Blk w31 W1.heap.size #[A, R, n, d] 282 := blkAny
 have b4 : Blk w31 W20.heap.size #[.func (.func 206) #[.agg #[A, R, n, d]] #[]] 283 := blkAny
 have hW : Below w.heap.size w w31 := belowAny
 have z33 := b1.lt
 have z34 := b2.lt
 have z35 := b3.lt
 have z36 := b4.lt
 clear hb31
 have k1 := b1.cell
 have f1 := b1.frozen
 have k2 := b2.cell
 have f2 := b2.frozen
 have k3 := b3.cell
 have f3 := b3.frozen
 have k4 := b4.cell
 have f4 := b4.frozen
 go_wp2
 have y_1 := b1.lt
 have y_2 := b2.lt
 have y_3 := b3.lt
 have y_4 := b4.lt
 refine bodyPost_ret (v := .tuple #[.agg #[va, vb], e]) (by simp [results, Tryz.results215, go_sem, k1, f1, k2, f2, k3, f3, k4, f4, y_1, y_2, y_3, y_4]) rfl ⟨rfl, by exact belowAny⟩
theorem ends_gt (A R n d a b va vb e : Int) (w : World) (hle : decide (b < a) = false) (h : vb < va)
  (c1 : ∀ w, Calls Tryz.prog 204 #[.agg #[A, R, n, d]] w fun e' w' => e' = .returned (.bool true) /\ Below w.heap.size w w')
  (c2 : ∀ w, Calls Tryz.prog 205 #[a] w fun e w' => e = .returned (.bool true) /\ Below w.heap.size w w')
  (c3 : ∀ w, Calls Tryz.prog 205 #[b] w fun e w' => e = .returned (.bool true) /\ Below w.heap.size w w')
  (c4 : ∀ w g, Blk w g #[.func (.func 206) #[.agg #[A, R, n, d]] #[]] 283 -> Calls Tryz.prog 229 #[.agg #[a, b], .func (.func 230) #[] #[.pointer (some ⟨g, 0, none⟩)]] w fun e' w' => e' = .returned (.tuple #[.agg #[va, vb], e]) /\ Below w.heap.size w w') :
  Calls Tryz.prog 215 #[.agg #[A, R, n, d], a, b] w fun e' w' => e' = .returned (.tuple #[.agg #[vb, va], e]) /\ Below w.heap.size w w' := by
 have hmf : ∀ (fn : Fn) (first cap : Array Value) (w : World), (Instr.makeFunc fn first cap).run Tryz.prog w = .ok (.func fn first cap) w := fun _ _ _ _ => rfl
 have H_c1 := Lib.hid c1
 clear c1
 have H_c2 := Lib.hid c2
 clear c2
 have H_c3 := Lib.hid c3
 clear c3
 have H_c4 := Lib.hid c4
 clear c4
 go_enter Tryz.func215, Tryz.ntmps215
 go_upto_region 1 with (fail)
 refine wp_facts (fun W' => Below w.heap.size w W' /\ Blk W' w.heap.size #[A, R, n, d] 95 /\ Blk W' (w.heap.size + 1) #[.int .i64 0, .int .i64 0] 33) ⟨by exact belowAny, by exact blkAny, by exact blkAny⟩ ?_
 rintro W1 ⟨hW, b1, b2⟩
 have z2 := hW.size
 have z3 := b1.lt
 have z4 := b2.lt
 have k1 := b1.cell
 have f1 := b1.frozen
 have k2 := b2.cell
 have f2 := b2.frozen
 have c1 := H_c1.out
 go_wp2_with fail
 refine (c1 _).mono ?_
 rintro e w5 ⟨rfl, hb5⟩
 clear c1
 have z6 := hb5.size
 try simp at z6
 clear k1 f1 k2 f2
 have b1 : Blk w5 w.heap.size #[A, R, n, d] 95 := blkAny
 have b2 : Blk w5 (w.heap.size + 1) #[.int .i64 0, .int .i64 0] 33 := blkAny
 have b3 : Blk w5 W1.heap.size #[A, R, n, d] 282 := blkAny
 have hW : Below w.heap.size w w5 := belowAny
 have z7 := b1.lt
 have z8 := b2.lt
 have z9 := b3.lt
 clear hb5
 have k1 := b1.cell
 have f1 := b1.frozen
 have k2 := b2.cell
 have f2 := b2.frozen
 have k3 := b3.cell
 have f3 := b3.frozen
 have c2 := H_c2.out
 go_wp2_with fail
 refine (c2 _).mono ?_
 rintro e w10 ⟨rfl, hb10⟩
 clear c2
 have z11 := hb10.size
 try simp at z11
 clear k1 f1 k2 f2 k3 f3
 have b1 : Blk w10 w.heap.size #[A, R, n, d] 95 := blkAny
 have b2 : Blk w10 (w.heap.size + 1) #[.int .i64 0, .int .i64 0] 33 := blkAny
 have b3 : Blk w10 W1.heap.size #[A, R, n, d] 282 := blkAny
 have hW : Below w.heap.size w w10 := belowAny
 have z12 := b1.lt
 have z13 := b2.lt
 have z14 := b3.lt
 clear hb10
 have k1 := b1.cell
 have f1 := b1.frozen
 have k2 := b2.cell
 have f2 := b2.frozen
 have k3 := b3.cell
 have f3 := b3.frozen
 have c3 := H_c3.out
 go_wp2_with fail
 refine (c3 _).mono ?_
 rintro e w15 ⟨rfl, hb15⟩
 clear c3
 have z16 := hb15.size
 try simp at z16
 clear k1 f1 k2 f2 k3 f3
 have b1 : Blk w15 w.heap.size #[A, R, n, d] 95 := blkAny
 have b2 : Blk w15 (w.heap.size + 1) #[.int .i64 0, .int .i64 0] 33 := blkAny
 have b3 : Blk w15 W1.heap.size #[A, R, n, d] 282 := blkAny
 have hW : Below w.heap.size w w15 := belowAny
 have z17 := b1.lt
 have z18 := b2.lt
 have z19 := b3.lt
 clear hb15
 have k1 := b1.cell
 have f1 := b1.frozen
 have k2 := b2.cell
 have f2 := b2.frozen
 have k3 := b3.cell
 have f3 := b3.frozen
 go_upto_region 6 with (fail)
 clear k1 f1 k2 f2 k3 f3
 refine wp_facts (fun W' => Below w.heap.size w W' /\ Blk W' w.heap.size #[A, R, n, d] 95 /\ Blk W' (w.heap.size + 1) #[.int .i64 0, .int .i64 0] 33 /\ Blk W' W1.heap.size #[A, R, n, d] 282) ⟨by exact belowAny, by exact blkAny, by exact blkAny, by exact blkAny⟩ ?_
 clear b1 b2 b3 hW
 rintro W20 ⟨hW, b1, b2, b3⟩
 have z21 := hW.size
 have z22 := b1.lt
 have z23 := b2.lt
 have z24 := b3.lt
 have k1 := b1.cell
 have f1 := b1.frozen
 have k2 := b2.cell
 have f2 := b2.frozen
 have k3 := b3.cell
 have f3 := b3.frozen
 go_upto_region 7 with (fail)
 clear k1 f1 k2 f2 k3 f3
 refine wp_facts (fun W' => Below w.heap.size w W' /\ Blk W' w.heap.size #[A, R, n, d] 95 /\ Blk W' (w.heap.size + 1) #[.int .i64 0, .int .i64 0] 33 /\ Blk W' W1.heap.size #[A, R, n, d] 282 /\ Blk W' W20.heap.size #[.func (.func 206) #[.agg #[A, R, n, d]] #[]] 283) ⟨by exact belowAny, by exact blkAny, by exact blkAny, by exact blkAny, by exact blkAny⟩ ?_
 clear b1 b2 b3 hW
 rintro W25 ⟨hW, b1, b2, b3, b4⟩
 have z26 := hW.size
 have z27 := b1.lt
 have z28 := b2.lt
 have z29 := b3.lt
 have z30 := b4.lt
 have k1 := b1.cell
 have f1 := b1.frozen
 have k2 := b2.cell
 have f2 := b2.frozen
 have k3 := b3.cell
 have f3 := b3.frozen
 have k4 := b4.cell
 have f4 := b4.frozen
 have c4 := H_c4.out
 go_wp2_with fail
 refine (c4 _ _ (blkAny)).mono ?_
 rintro e w31 ⟨rfl, hb31⟩
 clear c4
 have z32 := hb31.size
 try simp at z32
 clear k1 f1 k2 f2 k3 f3 k4 f4
 have b1 : Blk w31 w.heap.size #[A, R, n, d] 95 := blkAny
 have b2 : Blk w31 (w.heap.size + 1) #[.int .i64 0, .int .i64 0] 33 := blkAny
 have b3 : Blk w31 W1.heap.size #[A, R, n, d] 282 := blkAny
 have b4 : Blk w31 W20.heap.size #[.func (.func 206) #[.agg #[A, R, n, d]] #[]] 283 := blkAny
 have hW : Below w.heap.size w w31 := belowAny
 have z33 := b1.lt
 have z34 := b2.lt
 have z35 := b3.lt
 have z36 := b4.lt
 clear hb31
 have k1 := b1.cell
 have f1 := b1.frozen
 have k2 := b2.cell
 have f2 := b2.frozen
 have k3 := b3.cell
 have f3 := b3.frozen
 have k4 := b4.cell
 have f4 := b4.frozen
 go_wp2
 have y_1 := b1.lt
 have y_2 := b2.lt
 have y_3 := b3.lt
 have y_4 := b4.lt
 refine bodyPost_ret (v := .tuple #[.agg #[vb, va], e]) (by simp [results, Tryz.results215, go_sem, k1, f1, k2, f2, k3, f3, k4, f4, y_1, y_2, y_3, y_4]) rfl ⟨rfl, by exact belowAny⟩
theorem ends_eq (A R n d a b va vb e : Int) (w : World) (hle : decide (b < a) = false)
  (c1 : ∀ w, Calls Tryz.prog 204 #[.agg #[A, R, n, d]] w fun e' w' => e' = .returned (.bool true) /\ Below w.heap.size w w')
  (c2 : ∀ w, Calls Tryz.prog 205 #[a] w fun e w' => e = .returned (.bool true) /\ Below w.heap.size w w')
  (c3 : ∀ w, Calls Tryz.prog 205 #[b] w fun e w' => e = .returned (.bool true) /\ Below w.heap.size w w')
  (c4 : ∀ w g, Blk w g #[.func (.func 206) #[.agg #[A, R, n, d]] #[]] 283 -> Calls Tryz.prog 229 #[.agg #[a, b], .func (.func 230) #[] #[.pointer (some ⟨g, 0, none⟩)]] w fun e' w' => e' = .returned (.tuple #[.agg #[va, va], e]) /\ Below w.heap.size w w') :
  Calls Tryz.prog 215 #[.agg #[A, R, n, d], a, b] w fun e' w' => e' = .returned (.tuple #[.agg #[va, va], e]) /\ Below w.heap.size w w' := by
 have hmf : ∀ (fn : Fn) (first cap : Array Value) (w : World), (Instr.makeFunc fn first cap).run Tryz.prog w = .ok (.func fn first cap) w := fun _ _ _ _ => rfl
 have H_c1 := Lib.hid c1
 clear c1
 have H_c2 := Lib.hid c2
 clear c2
 have H_c3 := Lib.hid c3
 clear c3
 have H_c4 := Lib.hid c4
 clear c4
 go_enter Tryz.func215, Tryz.ntmps215
 go_upto_region 1 with (fail)
 refine wp_facts (fun W' => Below w.heap.size w W' /\ Blk W' w.heap.size #[A, R, n, d] 95 /\ Blk W' (w.heap.size + 1) #[.int .i64 0, .int .i64 0] 33) ⟨by exact belowAny, by exact blkAny, by exact blkAny⟩ ?_
 rintro W1 ⟨hW, b1, b2⟩
 have z2 := hW.size
 have z3 := b1.lt
 have z4 := b2.lt
 have k1 := b1.cell
 have f1 := b1.frozen
 have k2 := b2.cell
 have f2 := b2.frozen
 have c1 := H_c1.out
 go_wp2_with fail
 refine (c1 _).mono ?_
 rintro e w5 ⟨rfl, hb5⟩
 clear c1
 have z6 := hb5.size
 try simp at z6
 clear k1 f1 k2 f2
 have b1 : Blk w5 w.heap.size #[A, R, n, d] 95 := blkAny
 have b2 : Blk w5 (w.heap.size + 1) #[.int .i64 0, .int .i64 0] 33 := blkAny
 have b3 : Blk w5 W1.heap.size #[A, R, n, d] 282 := blkAny
 have hW : Below w.heap.size w w5 := belowAny
 have z7 := b1.lt
 have z8 := b2.lt
 have z9 := b3.lt
 clear hb5
 have k1 := b1.cell
 have f1 := b1.frozen
 have k2 := b2.cell
 have f2 := b2.frozen
 have k3 := b3.cell
 have f3 := b3.frozen
 have c2 := H_c2.out
 go_wp2_with fail
 refine (c2 _).mono ?_
 rintro e w10 ⟨rfl, hb10⟩
 clear c2
 have z11 := hb10.size
 try simp at z11
 clear k1 f1 k2 f2 k3 f3
 have b1 : Blk w10 w.heap.size #[A, R, n, d] 95 := blkAny
 have b2 : Blk w10 (w.heap.size + 1) #[.int .i64 0, .int .i64 0] 33 := blkAny
 have b3 : Blk w10 W1.heap.size #[A, R, n, d] 282 := blkAny
 have hW : Below w.heap.size w w10 := belowAny
 have z12 := b1.lt
 have z13 := b2.lt
 have z14 := b3.lt
 clear hb10
 have k1 := b1.cell
 have f1 := b1.frozen
 have k2 := b2.cell
 have f2 := b2.frozen
 have k3 := b3.cell
 have f3 := b3.frozen
 have c3 := H_c3.out
 go_wp2_with fail
 refine (c3 _).mono ?_
 rintro e w15 ⟨rfl, hb15⟩
 clear c3
 have z16 := hb15.size
 try simp at z16
 clear k1 f1 k2 f2 k3 f3
 have b1 : Blk w15 w.heap.size #[A, R, n, d] 95 := blkAny
 have b2 : Blk w15 (w.heap.size + 1) #[.int .i64 0, .int .i64 0] 33 := blkAny
 have b3 : Blk w15 W1.heap.size #[A, R, n, d] 282 := blkAny
 have hW : Below w.heap.size w w15 := belowAny
 have z17 := b1.lt
 have z18 := b2.lt
 have z19 := b3.lt
 clear hb15
 have k1 := b1.cell
 have f1 := b1.frozen
 have k2 := b2.cell
 have f2 := b2.frozen
 have k3 := b3.cell
 have f3 := b3.frozen
 go_upto_region 6 with (fail)
 clear k1 f1 k2 f2 k3 f3
 refine wp_facts (fun W' => Below w.heap.size w W' /\ Blk W' w.heap.size #[A, R, n, d] 95 /\ Blk W' (w.heap.size + 1) #[.int .i64 0, .int .i64 0] 33 /\ Blk W' W1.heap.size #[A, R, n, d] 282) ⟨by exact belowAny, by exact blkAny, by exact blkAny, by exact blkAny⟩ ?_
 clear b1 b2 b3 hW
 rintro W20 ⟨hW, b1, b2, b3⟩
 have z21 := hW.size
 have z22 := b1.lt
 have z23 := b2.lt
 have z24 := b3.lt
 have k1 := b1.cell
 have f1 := b1.frozen
 have k2 := b2.cell
 have f2 := b2.frozen
 have k3 := b3.cell
 have f3 := b3.frozen
 go_upto_region 7 with (fail)
 clear k1 f1 k2 f2 k3 f3
 refine wp_facts (fun W' => Below w.heap.size w W' /\ Blk W' w.heap.size #[A, R, n, d] 95 /\ Blk W' (w.heap.size + 1) #[.int .i64 0, .int .i64 0] 33 /\ Blk W' W1.heap.size #[A, R, n, d] 282 /\ Blk W' W20.heap.size #[.func (.func 206) #[.agg #[A, R, n, d]] #[]] 283) ⟨by exact belowAny, by exact blkAny, by exact blkAny, by exact blkAny, by exact blkAny⟩ ?_
 clear b1 b2 b3 hW
 rintro W25 ⟨hW, b1, b2, b3, b4⟩
 have z26 := hW.size
 have z27 := b1.lt
 have z28 := b2.lt
 have z29 := b3.lt
 have z30 := b4.lt
 have k1 := b1.cell
 have f1 := b1.frozen
 have k2 := b2.cell
 have f2 := b2.frozen
 have k3 := b3.cell
 have f3 := b3.frozen
 have k4 := b4.cell
 have f4 := b4.frozen
 have c4 := H_c4.out
 go_wp2_with fail
 refine (c4 _ _ (blkAny)).mono ?_
 rintro e w31 ⟨rfl, hb31⟩
 clear c4
 have z32 := hb31.size
 try simp at z32
 clear k1 f1 k2 f2 k3 f3 k4 f4
 have b1 : Blk w31 w.heap.size #[A, R, n, d] 95 := blkAny
 have b2 : Blk w31 (w.heap.size + 1) #[.int .i64 0, .int .i64 0] 33 := blkAny
 have b3 : Blk w31 W1.heap.size #[A, R, n, d] 282 := blkAny
 have b4 : Blk w31 W20.heap.size #[.func (.func 206) #[.agg #[A, R, n, d]] #[]] 283 := blkAny
 have hW : Below w.heap.size w w31 := belowAny
 have z33 := b1.lt
 have z34 := b2.lt
 have z35 := b3.lt
 have z36 := b4.lt
 clear hb31
 have k1 := b1.cell
 have f1 := b1.frozen
 have k2 := b2.cell
 have f2 := b2.frozen
 have k3 := b3.cell
 have f3 := b3.frozen
 have k4 := b4.cell
 have f4 := b4.frozen
 go_wp2
 have y_1 := b1.lt
 have y_2 := b2.lt
 have y_3 := b3.lt
 have y_4 := b4.lt
 refine bodyPost_ret (v := .tuple #[.agg #[va, va], e]) (by simp [results, Tryz.results215, go_sem, k1, f1, k2, f2, k3, f3, k4, f4, y_1, y_2, y_3, y_4]) rfl ⟨rfl, by exact belowAny⟩
def endsOk (A R n d a b : Int) : Bool := isBack (lineVal A R n d a) && isBack (lineVal A R n d b)
theorem c_Ends_no (A R n d a b : Int) (w : World) (h : isLine A R n d = false) :
  Calls Tryz.prog 215 #[.agg #[A, R, n, d], a, b] w fun e' w' => e' = .returned (.tuple #[.agg #[.int .i64 0, .int .i64 0], .int .i64 150]) /\ Below w.heap.size w w' := by
 have c1 := fun w => c_is A R n d w
 rw [h] at c1
 exact ends_no A R n d a b 0 0 0 w c1
theorem c_Ends (A R n d a b : Int) (w : World) (h : LineOk A R n d) (ha : 0 <= a) (hab : a <= b) (hb : b <= 281474976710656) :
  Calls Tryz.prog 215 #[.agg #[A, R, n, d], a, b] w fun e' w' => e' = .returned (.tuple #[.agg #[.int .i64 (wv (endsOk A R n d a b) (min (lineVal A R n d a) (lineVal A R n d b))), .int .i64 (wv (endsOk A R n d a b) (max (lineVal A R n d a) (lineVal A R n d b)))], .int .i64 (we (endsOk A R n d a b))]) /\ Below w.heap.size w w' := by
 have c1 := fun w => c_is A R n d w
 rw [isLine_ok.2 h] at c1
 have c2 := fun w => c_timeIs a w
 rw [isTime_iff.2 ⟨ha, by omega⟩] at c2
 have c3 := fun w => c_timeIs b w
 rw [isTime_iff.2 ⟨by omega, hb⟩] at c3
 have va := fun w => c_value A R n d a w h ha (by omega)
 have vb := fun w => c_value A R n d b w h (by omega) hb
 have hle : decide (b < a) = false := by simp; omega
 unfold endsOk
 generalize lineVal A R n d a = x at *
 generalize lineVal A R n d b = y at *
 cases hx : isBack x with
 | false =>
  rw [hx] at va
  exact ends_eq A R n d a b 0 0 5 w hle c1 c2 c3 (fun w g hg => both_first A R n d a b 0 0 g w hg (fun w hg => c_ends1 A R n d a 0 5 g w hg va))
 | true =>
  rw [hx] at va
  cases hy : isBack y with
  | false =>
   rw [hy] at vb
   exact ends_eq A R n d a b 0 0 5 w hle c1 c2 c3 (fun w g hg => both_second A R n d a b x 0 g w hg (fun w hg => c_ends1 A R n d a x 0 g w hg va) (fun w hg => c_ends1 A R n d b 0 5 g w hg vb))
  | true =>
   rw [hy] at vb
   have c4 := fun w g hg => both_ok A R n d a b x y g w hg (fun w hg => c_ends1 A R n d a x 0 g w hg va) (fun w hg => c_ends1 A R n d b y 0 g w hg vb)
   show Calls _ _ _ _ fun e' w' => e' = .returned (.tuple #[.agg #[.int .i64 (min x y), .int .i64 (max x y)], .int .i64 0]) /\ Below w.heap.size w w'
   rcases Int.lt_trichotomy x y with k | k | k
   ·rw [show min x y = x by omega, show max x y = y by omega]
    exact ends_lt A R n d a b x y 0 w hle k c1 c2 c3 c4
   ·subst k
    rw [show min x x = x by omega, show max x x = x by omega]
    exact ends_eq A R n d a b x 0 0 w hle c1 c2 c3 c4
   ·rw [show min x y = y by omega, show max x y = x by omega]
    exact ends_gt A R n d a b x y 0 w hle k c1 c2 c3 c4
end Go.Proofs.YtidfcoooccblaaaGreat
namespace Go.Proofs.YtidfcoooccblaaaGreat
def sumTo (f : Nat -> Nat) : Nat -> Nat
 | 0 => 0
 | n + 1 => sumTo f n + f n
theorem sumTo_congr {f g : Nat -> Nat} : ∀ n, (∀ i, i < n -> f i = g i) -> sumTo f n = sumTo g n
 | 0, _ => rfl
 | n + 1, h => by simp only [sumTo]; rw [sumTo_congr n fun i hi => h i (by omega), h n (by omega)]
theorem sumTo_zero : ∀ n, sumTo (fun _ => 0) n = 0
 | 0 => rfl
 | n + 1 => by simp only [sumTo]; rw [sumTo_zero n]
theorem sumTo_add (f g : Nat -> Nat) : ∀ n, sumTo (fun i => f i + g i) n = sumTo f n + sumTo g n
 | 0 => rfl
 | n + 1 => by simp only [sumTo]; rw [sumTo_add f g n]; omega
theorem sumTo_swap (f : Nat -> Nat -> Nat) (m : Nat) : ∀ n, sumTo (fun i => sumTo (f i) m) n = sumTo (fun j => sumTo (fun i => f i j) n) m
 | 0 => by simp only [sumTo]; rw [sumTo_zero]
 | n + 1 => by simp only [sumTo]; rw [sumTo_swap f m n, sumTo_add]
theorem sumTo_first (f : Nat -> Nat) : ∀ n, sumTo f (n + 1) = f 0 + sumTo (fun i => f (i + 1)) n
 | 0 => by simp [sumTo]
 | n + 1 => by rw [sumTo, sumTo_first f n, sumTo]; omega
theorem sumTo_back (f : Nat -> Nat) : ∀ n, sumTo f n = sumTo (fun i => f (n - 1 - i)) n
 | 0 => rfl
 | n + 1 => by
  rw [sumTo_first (fun i => f (n + 1 - 1 - i)) n, sumTo, sumTo_back f n]
  rw [sumTo_congr (g := fun i => f (n + 1 - 1 - (i + 1))) n (fun i hi => by congr 1; omega)]
  have : f (n + 1 - 1 - 0) = f n := by congr 1
  omega
theorem sumTo_le {f g : Nat -> Nat} : ∀ n, (∀ i, i < n -> f i <= g i) -> sumTo f n <= sumTo g n
 | 0, _ => Nat.le_refl _
 | n + 1, h => by simp only [sumTo]; have := sumTo_le n fun i hi => h i (by omega); have := h n (by omega); omega
theorem sumTo_id : ∀ n, sumTo (fun i => i) n = n * (n - 1) / 2
 | 0 => rfl
 | n + 1 => by
  simp only [sumTo]
  rw [sumTo_id n]
  cases n with
  | zero => rfl
  | succ n =>
   have e : (n + 1 + 1) * (n + 1 + 1 - 1) = (n + 1) * (n + 1 - 1) + 2 * (n + 1) := by
    simp only [Nat.add_sub_cancel]; rw [Nat.mul_comm (n + 1 + 1)]; exact (Nat.mul_add (n + 1) n 2).trans (by rw [Nat.mul_comm (n + 1) 2])
   rw [e]; omega
theorem sumTo_mul (c : Nat) (f : Nat -> Nat) : ∀ n, sumTo (fun i => c * f i) n = c * sumTo f n
 | 0 => rfl
 | n + 1 => by simp only [sumTo]; rw [sumTo_mul c f n, Nat.mul_add]
theorem sumTo_const (c : Nat) : ∀ n, sumTo (fun _ => c) n = c * n
 | 0 => rfl
 | n + 1 => by simp only [sumTo]; rw [sumTo_const c n, Nat.mul_add_one]
theorem count_div (x m : Nat) (hm : 0 < m) : ∀ Y, sumTo (fun j => if m * (j + 1) <= x then 1 else 0) Y = min Y (x / m)
 | 0 => by simp [sumTo]
 | Y + 1 => by
  simp only [sumTo]
  rw [count_div x m hm Y]
  have : m * (Y + 1) <= x ↔ Y + 1 <= x / m := by rw [Nat.le_div_iff_mul_le hm, Nat.mul_comm]
  split <;> omega
theorem count_steps (a b c : Nat) (ha : 0 < a) (hb : b < c) : ∀ n, sumTo (fun i => if c <= a * i + b then 1 else 0) n = (a * n + b - c) / a
 | 0 => by simp [sumTo]; rw [Nat.div_eq_of_lt]; omega
 | n + 1 => by
  simp only [sumTo]
  rw [count_steps a b c ha hb n, Nat.mul_add_one]
  by_cases h : c <= a * n + b
  ·rw [if_pos h, show a * n + a + b - c = (a * n + b - c) + a by omega, Nat.add_div_right _ ha]
  ·rw [if_neg h, show a * n + b - c = 0 by omega, Nat.zero_div, Nat.div_eq_of_lt (by omega)]
def floSum (n a b m : Nat) : Nat := sumTo (fun i => (a * i + b) / m) n
theorem floSum_split (n a b m : Nat) (hm : 0 < m) : floSum n a b m = a / m * (n * (n - 1) / 2) + b / m * n + floSum n (a % m) (b % m) m := by
 unfold floSum
 rw [<- sumTo_id, <- sumTo_mul, <- sumTo_const, <- sumTo_add, <- sumTo_add]
 refine sumTo_congr n fun i _ => ?_
 have e : a * i + b = m * (a / m * i + b / m) + (a % m * i + b % m) := by
  have e1 := Nat.div_add_mod a m
  have e2 := Nat.div_add_mod b m
  have e3 : a * i = m * (a / m * i) + a % m * i := by
   rw [<- Nat.mul_assoc, <- Nat.add_mul, e1]
  rw [Nat.mul_add]; omega
 rw [e, Nat.mul_add_div hm]
theorem floSum_small (n a b m : Nat) (hm : 0 < m) (h : a * n + b < m) : floSum n a b m = 0 := by
 unfold floSum
 rw [<- sumTo_zero n]
 refine sumTo_congr n fun i hi => Nat.div_eq_of_lt ?_
 have := Nat.mul_le_mul_left a (Nat.le_of_lt hi)
 omega
theorem floSum_turn (n a b m : Nat) (ha : 0 < a) (hm : 0 < m) (hb : b < m) : floSum n a b m = floSum ((a * n + b) / m) m ((a * n + b) % m) a := by
 have hY : ∀ i, i < n -> (a * i + b) / m <= (a * n + b) / m := fun i hi => Nat.div_le_div_right (by have := Nat.mul_le_mul_left a (Nat.le_of_lt hi); omega)
 unfold floSum
 rw [sumTo_congr (g := fun i => sumTo (fun j => if m * (j + 1) <= a * i + b then 1 else 0) ((a * n + b) / m)) n fun i hi => by rw [count_div _ m hm]; have := hY i hi; omega]
 rw [sumTo_swap, sumTo_back]
 refine sumTo_congr _ fun j hj => ?_
 generalize hq : (a * n + b) / m = Y at *
 have e0 := Nat.div_add_mod (a * n + b) m
 rw [hq] at e0
 rw [count_steps a b _ ha (by rw [Nat.mul_add_one]; omega)]
 congr 1
 have e1 : m * (Y - 1 - j + 1) + m * j = m * Y := by rw [<- Nat.mul_add]; congr 1; omega
 omega
theorem floSum_le (n a b m : Nat) (hm : 0 < m) (ha : a < m) (hb : b < m) : floSum n a b m <= (n + 1) * n := by
 unfold floSum
 rw [<- sumTo_const]
 refine sumTo_le n fun i hi => ?_
 rw [Nat.div_le_iff_le_mul_add_pred hm]
 have h1 : a * i <= m * i := Nat.mul_le_mul_right i (by omega)
 have h2 : m * i <= m * n := Nat.mul_le_mul_left m (by omega)
 rw [Nat.mul_add_one]; omega
end Go.Proofs.YtidfcoooccblaaaGreat
namespace Go.Proofs.YtidfcoooccblaaaGreat
open Go.RowKit
theorem c_pairs (n : Int) (w : World) (h0 : 0 <= n) (h1 : n <= 1000000) : Calls Tryz.prog 243 #[n] w fun e w' => e = .returned (.int .i64 (n * (n - 1) / 2)) /\ Below w.heap.size w w' := by
 have m0 : (n * (n - 1)).natAbs <= 1000000 * 1000000 := by rw [Int.natAbs_mul]; exact Nat.mul_le_mul (by omega) (by omega)
 have m1 : 0 <= n * (n - 1) := by
  rcases Int.lt_or_le 0 n with h | h
  ·exact Int.mul_nonneg h0 (by omega)
  ·have : n = 0 := by omega
   subst this; decide
 have e1 : wrap64 (n - 1) = n - 1 := by rw [wrap64_eq]; omega
 have e2 : wrap64 (n * (n - 1)) = n * (n - 1) := by rw [wrap64_eq]; omega
 have e3 : wrap64 ((n * (n - 1)).tdiv 2) = n * (n - 1) / 2 := by rw [Int.tdiv_eq_ediv_of_nonneg m1, wrap64_eq]; omega
 clear m0 m1 h0 h1
 go_enter Tryz.func243, Tryz.ntmps243
 go_wp2
 refine bodyPost_ret (v := .int .i64 (n * (n - 1) / 2)) (by simp [results, Tryz.results243, go_sem, e3]) rfl ⟨rfl, by exact belowAny⟩
theorem term_ok (ah al e1 e2 : Int) (w : World) (he1 : decide (e1 <= 0) = true) (he2 : decide (0 <= e2) = true)
  (c1 : ∀ w, Calls Tryz.prog 242 #[.agg #[ah, .int .u64 al], .agg #[.int .i64 140737488355328, .int .u64 0]] w fun e w' => e = .returned (e1) /\ Below w.heap.size w w')
  (c2 : ∀ w, Calls Tryz.prog 242 #[.agg #[ah, .int .u64 al], .agg #[.int .i64 (-140737488355328), .int .u64 0]] w fun e w' => e = .returned (e2) /\ Below w.heap.size w w') :
  Calls Tryz.prog 239 #[.agg #[ah, .int .u64 al]] w fun e w' => e = .returned (.bool true) /\ Below w.heap.size w w' := by
 have H_c1 := Lib.hid c1
 clear c1
 have H_c2 := Lib.hid c2
 clear c2
 go_enter Tryz.func239, Tryz.ntmps239
 go_upto_region 1 with (fail)
 refine wp_facts (fun W' => Below w.heap.size w W' /\ Blk W' w.heap.size #[ah, .int .u64 al] 36) ⟨by exact belowAny, by exact blkAny⟩ ?_
 rintro W1 ⟨hW, b1⟩
 have z2 := hW.size
 have z3 := b1.lt
 have k1 := b1.cell
 have f1 := b1.frozen
 have c1 := H_c1.out
 go_wp2_with fail
 refine (c1 _).mono ?_
 rintro e w4 ⟨rfl, hb4⟩
 clear c1
 have z5 := hb4.size
 try simp at z5
 clear k1 f1
 have b1 : Blk w4 w.heap.size #[ah, .int .u64 al] 36 := blkAny
 have hW : Below w.heap.size w w4 := belowAny
 have z6 := b1.lt
 clear hb4
 have k1 := b1.cell
 have f1 := b1.frozen
 have c2 := H_c2.out
 go_wp2_with fail
 refine (c2 _).mono ?_
 rintro e w7 ⟨rfl, hb7⟩
 clear c2
 have z8 := hb7.size
 try simp at z8
 clear k1 f1
 have b1 : Blk w7 w.heap.size #[ah, .int .u64 al] 36 := blkAny
 have hW : Below w.heap.size w w7 := belowAny
 have z9 := b1.lt
 clear hb7
 have k1 := b1.cell
 have f1 := b1.frozen
 go_wp2
 have y_1 := b1.lt
 refine bodyPost_ret (v := .bool true) (by simp [results, Tryz.results239, go_sem, k1, f1, y_1]) rfl ⟨rfl, by exact belowAny⟩
theorem c_term (a : Int) (w : World) (h : -2596148429267413814265248164610048 <= a /\ a <= 2596148429267413814265248164610048) : Calls Tryz.prog 239 #[wideV a] w fun e w' => e = .returned (.bool true) /\ Below w.heap.size w w' := by
 refine term_ok (hiW a) (loW a) (cmpI a 2596148429267413814265248164610048) (cmpI a (-2596148429267413814265248164610048)) w ?_ ?_ (fun w => c_Compare a 2596148429267413814265248164610048 w) (fun w => c_Compare a (-2596148429267413814265248164610048) w)
 ·rw [decide_eq_true_eq]; unfold cmpI; split <;> (try split) <;> omega
 ·rw [decide_eq_true_eq]; unfold cmpI; split <;> (try split) <;> omega
def floI (n a b m : Int) : Int := (floSum n.toNat a.toNat b.toNat m.toNat : Int)
structure SmallAt (F n a b m t : Int) : Prop where
 n0 : 0 <= n
 n1 : n <= 256
 a0 : 0 <= a
 a1 : a <= 281474976710656
 b0 : 0 <= b
 b1 : b <= 281474976710656
 m0 : 1 <= m
 m1 : m <= 281474976710656
 t0 : 0 <= t
 eq : t + floI n a b m = F
 F1 : F <= 100000
structure SmallStep (F n a b m t : Int) : Prop where
 p0 : 0 <= n * (n - 1) / 2
 e1 : wrap64 (a.tdiv m) = a / m
 e2 : wrap64 (b.tdiv m) = b / m
 e3 : wrap64 (a / m * (n * (n - 1) / 2)) = a / m * (n * (n - 1) / 2)
 e4 : wrap64 (b / m * n) = b / m * n
 e5 : wrap64 (a / m * (n * (n - 1) / 2) + b / m * n) = a / m * (n * (n - 1) / 2) + b / m * n
 e6 : wrap64 (t + (a / m * (n * (n - 1) / 2) + b / m * n)) = t + (a / m * (n * (n - 1) / 2) + b / m * n)
 e7 : a.tmod m = a % m
 e8 : b.tmod m = b % m
 e9 : wrap64 (a % m * n) = a % m * n
 e10 : wrap64 (a % m * n + b % m) = a % m * n + b % m
 e11 : wrap64 ((a % m * n + b % m).tdiv m) = (a % m * n + b % m) / m
 e12 : (a % m * n + b % m).tmod m = (a % m * n + b % m) % m
 done : a % m * n + b % m < m -> t + (a / m * (n * (n - 1) / 2) + b / m * n) = F
 next : m <= a % m * n + b % m -> SmallAt F ((a % m * n + b % m) / m) m ((a % m * n + b % m) % m) (a % m) (t + (a / m * (n * (n - 1) / 2) + b / m * n)) /\ (a % m).toNat < m.toNat
theorem SmallAt.step {F n a b m t : Int} (h : SmallAt F n a b m t) : SmallStep F n a b m t := by
 obtain ⟨n0, n1, a0, a1, b0, b1, m0, m1, t0, eq, F1⟩ := h
 obtain ⟨n, rfl⟩ := Int.eq_ofNat_of_zero_le n0
 obtain ⟨a, rfl⟩ := Int.eq_ofNat_of_zero_le a0
 obtain ⟨b, rfl⟩ := Int.eq_ofNat_of_zero_le b0
 obtain ⟨m, rfl⟩ := Int.eq_ofNat_of_zero_le (show 0 <= m by omega)
 have hm : 0 < m := by omega
 have hp : (n : Int) * ((n : Int) - 1) / 2 = ((n * (n - 1) / 2 : Nat) : Int) := by
  cases n with
  | zero => rfl
  | succ n => simp
 have hs := floSum_split n a b m hm
 have q1 : (a : Int) / m = ((a / m : Nat) : Int) := rfl
 have q2 : (b : Int) / m = ((b / m : Nat) : Int) := rfl
 have r1 : (a : Int) % m = ((a % m : Nat) : Int) := rfl
 have r2 : (b : Int) % m = ((b % m : Nat) : Int) := rfl
 have g1 := Nat.mod_lt a hm
 have g2 := Nat.mod_lt b hm
 have ef : floI n a b m = (floSum n a b m : Int) := rfl
 rw [ef, hs] at eq
 have k1 : a % m * n <= m * n := Nat.mul_le_mul_right n (by omega)
 have k2 : m * n <= 281474976710656 * 256 := Nat.mul_le_mul (by omega) (by omega)
 have l1 : ((a % m * n + b % m : Nat) : Int) / m = (((a % m * n + b % m) / m : Nat) : Int) := rfl
 have l2 : ((a % m * n + b % m : Nat) : Int) % m = (((a % m * n + b % m) % m : Nat) : Int) := rfl
 have l3 : (a % m * n + b % m) / m <= n := by
  rw [Nat.div_le_iff_le_mul_add_pred hm]; omega
 have l4 := Nat.mod_lt (a % m * n + b % m) hm
 have d1 : a / m <= a := Nat.div_le_self _ _
 have d2 : b / m <= b := Nat.div_le_self _ _
 have c1 : (((a % m : Nat) : Int) * (n : Int) + ((b % m : Nat) : Int)) = ((a % m * n + b % m : Nat) : Int) := by simp
 have c2 : ((a / m : Nat) : Int) * ((n * (n - 1) / 2 : Nat) : Int) = ((a / m * (n * (n - 1) / 2) : Nat) : Int) := by simp
 have c3 : ((b / m : Nat) : Int) * (n : Int) = ((b / m * n : Nat) : Int) := by simp
 have c4 : ((a % m : Nat) : Int) * (n : Int) = ((a % m * n : Nat) : Int) := by simp
 have w64 : ∀ x : Nat, x <= 100000000000000000 -> wrap64 (x : Int) = x := fun x h => by rw [wrap64_eq]; omega
 have c5 : floSum n (a % m) (b % m) m = floSum ((a % m * n + b % m) / m) m ((a % m * n + b % m) % m) (a % m) ∨ a % m * n + b % m < m := by
  rcases Nat.lt_or_ge (a % m * n + b % m) m with h | h
  ·exact .inr h
  ·refine .inl (floSum_turn n (a % m) (b % m) m ?_ hm g2)
   rcases Nat.eq_zero_or_pos (a % m) with h0 | h0
   ·rw [h0] at h; omega
   ·exact h0
 have c6 : a % m * n + b % m < m -> floSum n (a % m) (b % m) m = 0 := floSum_small n (a % m) (b % m) m hm
 constructor
 ·rw [hp]; exact Int.natCast_nonneg _
 ·rw [Int.tdiv_eq_ediv_of_nonneg (by omega), q1]; exact w64 _ (by omega)
 ·rw [Int.tdiv_eq_ediv_of_nonneg (by omega), q2]; exact w64 _ (by omega)
 ·rw [hp, q1, c2]; exact w64 _ (by omega)
 ·rw [q2, c3]; exact w64 _ (by omega)
 ·rw [hp, q1, c2, q2, c3]; rw [wrap64_eq]; omega
 ·rw [hp, q1, c2, q2, c3]; rw [wrap64_eq]; omega
 ·exact Int.tmod_eq_emod_of_nonneg (by omega)
 ·exact Int.tmod_eq_emod_of_nonneg (by omega)
 ·rw [r1, c4]; exact w64 _ (by omega)
 ·rw [r1, r2, c1]; exact w64 _ (by omega)
 ·rw [r1, r2, c1, Int.tdiv_eq_ediv_of_nonneg (by omega), l1]; exact w64 _ (by omega)
 ·rw [r1, r2, c1]; exact Int.tmod_eq_emod_of_nonneg (by omega)
 ·intro h
  rw [r1, r2, c1] at h
  have := c6 (by omega)
  rw [hp, q1, c2, q2, c3]; omega
 ·intro h
  rw [r1, r2, c1] at h
  rw [hp, q1, c2, q2, c3, r1, r2, c1, l1, l2]
  refine ⟨⟨Int.natCast_nonneg _, Int.ofNat_le.2 (show _ <= 256 by omega), Int.natCast_nonneg _, m1, Int.natCast_nonneg _, Int.ofNat_le.2 (show _ <= 281474976710656 by omega), ?_, Int.ofNat_le.2 (show _ <= 281474976710656 by omega), ?_, ?_, F1⟩, ?_⟩
  ·rcases Nat.eq_zero_or_pos (a % m) with h0 | h0
   ·rw [h0] at h; omega
   ·exact Int.ofNat_le.2 (show 1 <= _ from h0)
  ·have := Int.natCast_nonneg (a / m * (n * (n - 1) / 2)); have := Int.natCast_nonneg (b / m * n); omega
  ·have e : floI (((a % m * n + b % m) / m : Nat) : Int) (m : Int) (((a % m * n + b % m) % m : Nat) : Int) ((a % m : Nat) : Int) = (floSum ((a % m * n + b % m) / m) m ((a % m * n + b % m) % m) (a % m) : Int) := rfl
   rw [e]
   rcases c5 with h5 | h5
   ·rw [<- h5]; omega
   ·omega
  ·show a % m < m; exact g1
attribute [local simp] Oper.looksAt Op.operands Call.operands envOf Det GDet
theorem c_small (n0 a0 b0 m0 F : Int) (w : World) (h : SmallAt F n0 a0 b0 m0 0) : Calls Tryz.prog 244 #[n0, a0, b0, m0] w fun e w' => e = .returned (F) /\ Below w.heap.size w w' := by
 go_enter Tryz.func244, Tryz.ntmps244
 go_wp2
 refine wp_scope_jumps2 0 (fun a' W' => Below w.heap.size w W' /\ ∃ (n a b m t : Int) (u4 u5 u6 u7 u10 u11 u12 u13 u14 u15 u16 u17 u18 u19 u20 u21 u22 u23 u24 u25 u26 u27 u28 u29 u30 u31 u32 u33 u34 u35 u36 u37 u38 u39 u40 u41 u42 u43 u44 u45 u46 u47 : Value), a' = { tmps := #[n, a, b, m, u4, u5, u6, u7, .int .i64 0, t, u10, u11, u12, u13, u14, u15, u16, u17, u18, u19, u20, u21, u22, u23, u24, u25, u26, u27, u28, u29, u30, u31, u32, u33, u34, u35, u36, u37, u38, u39, u40, u41, u42, u43, u44, u45, u46, u47], defers := [] } /\ SmallAt F n a b m t) (fun a' _ => (intAt (a'.tmps.getD 3 undef)).toNat) rfl ?_ ?_
 ·intro hpass
  go_wp2
  go_step3
  rename_i hK
  refine hK _ _ (hpass _ _ ⟨Below.refl _ _, n0, a0, b0, m0, 0, _, _, _, _, _, _, _, _, _, _, _, _, _, _, _, _, _, _, _, _, _, _, _, _, _, _, _, _, _, _, _, _, _, _, _, _, _, _, _, _, _, _, rfl, h⟩)
 ·rintro a' W0 ⟨hW, n, a, b, m, t, u4, u5, u6, u7, u10, u11, u12, u13, u14, u15, u16, u17, u18, u19, u20, u21, u22, u23, u24, u25, u26, u27, u28, u29, u30, u31, u32, u33, u34, u35, u36, u37, u38, u39, u40, u41, u42, u43, u44, u45, u46, u47, rfl, hs⟩
  obtain ⟨p0, e1, e2, e3, e4, e5, e6, e7, e8, e9, e10, e11, e12, hd, hx⟩ := hs.step
  have hn0 := hs.n0
  have hn1 : n <= 1000000 := by have := hs.n1; omega
  have hm : ¬ m = 0 := by have := hs.m0; omega
  clear hs
  rcases Int.lt_or_le (a % m * n + b % m) m with hl | hl
  ·have hd := hd hl
   have hl' : decide (m <= a % m * n + b % m) = false := by simp; omega
   clear hx
   go_upto_region 2 with (fail)
   refine wp_facts (fun W' => Below w.heap.size w W' /\ True) ⟨by exact belowAny, trivial⟩ ?_
   clear hW
   rintro W1 ⟨hW, _⟩
   have z2 := hW.size
   refine wp_region_nd 15 48 [] (fun W' => Rex [] W1 W') mixed (by kernel_rfl) rfl (Rex.refl _ _).drew (fun w w' h0 hr => h0.trans hr) (fun c a d v w h => by cases d <;> exact h) ?_
   iterate 5
    apply nd_det (hg := rfl) (hal := rfl)
    ·intro a W' hC hE
     obtain _ := hC
     first
      | (simp at hE; simp [go_sem, Act.eval, IntWalk.i64_left, hE, e1, e2, e3, e4, e5, e6, e7, e8, e9, e10, hm]; try rfl)
      | (clear hE; simp [go_sem, Act.eval, IntWalk.i64_left, e1, e2, e3, e4, e5, e6, e7, e8, e9, e10, hm]; try rfl)
   refine nd_callv2 rfl rfl (fun W' hC => c_pairs n W' hn0 hn1) (fun a W' hC hE => ?_) ?_
   ·obtain _ := hC
    first
     | (simp at hE; simp [go_sem, Act.eval, IntWalk.i64_left, hE, e1, e2, e3, e4, e5, e6, e7, e8, e9, e10, hm]; try rfl)
     | (clear hE; simp [go_sem, Act.eval, IntWalk.i64_left, e1, e2, e3, e4, e5, e6, e7, e8, e9, e10, hm]; try rfl)
   iterate 9
    apply nd_det (hg := rfl) (hal := rfl)
    ·intro a W' hC hE
     obtain _ := hC
     first
      | (simp at hE; simp [go_sem, Act.eval, IntWalk.i64_left, hE, e1, e2, e3, e4, e5, e6, e7, e8, e9, e10, hm]; try rfl)
      | (clear hE; simp [go_sem, Act.eval, IntWalk.i64_left, e1, e2, e3, e4, e5, e6, e7, e8, e9, e10, hm]; try rfl)
   rintro W3 hR
   simp only [ndFinR, Det, forall_eq]
   intros
   repeat (rename GDet _ _ _ _ => hgd; clear hgd)
   simp only [Act.put, List.setIfInBounds_toArray, List.set_cons_zero, List.set_cons_succ]
   refine wpList_nil ?_
   replace hW := hW.trans (hR.of_priv hW.size)
   clear hR
   go_upto_region 3 with (fail)
   refine wp_facts (fun W' => Below w.heap.size w W' /\ True) ⟨by exact belowAny, trivial⟩ ?_
   clear hW
   rintro W4 ⟨hW, _⟩
   have z5 := hW.size
   refine wp_region_nd 8 48 [] (fun W' => Rex [] W4 W') mixed (by kernel_rfl) rfl (Rex.refl _ _).drew (fun w w' h0 hr => h0.trans hr) (fun c a d v w h => by cases d <;> exact h) ?_
   iterate 8
    apply nd_det (hg := rfl) (hal := rfl)
    ·intro a W' hC hE
     obtain _ := hC
     first
      | (simp at hE; simp [go_sem, Act.eval, IntWalk.i64_left, hE, e1, e2, e3, e4, e5, e6, e7, e8, e9, e10, hm]; try rfl)
      | (clear hE; simp [go_sem, Act.eval, IntWalk.i64_left, e1, e2, e3, e4, e5, e6, e7, e8, e9, e10, hm]; try rfl)
   rintro W6 hR
   simp only [ndFinR, Det, forall_eq]
   intros
   repeat (rename GDet _ _ _ _ => hgd; clear hgd)
   simp only [Act.put, List.setIfInBounds_toArray, List.set_cons_zero, List.set_cons_succ]
   refine wpList_nil ?_
   replace hW := hW.trans (hR.of_priv hW.size)
   clear hR
   go_upto_region 4 with (fail)
   refine wp_facts (fun W' => Below w.heap.size w W' /\ True) ⟨by exact belowAny, trivial⟩ ?_
   clear hW
   rintro W7 ⟨hW, _⟩
   have z8 := hW.size
   go_wp2
   simp only [Exit.jump]
   go_ret
   exact ⟨rfl, hW⟩
  ·have hx := hx hl
   have hl' : decide (m <= a % m * n + b % m) = true := by simp; omega
   clear hd
   go_upto_region 2 with (fail)
   refine wp_facts (fun W' => Below w.heap.size w W' /\ True) ⟨by exact belowAny, trivial⟩ ?_
   clear hW
   rintro W1 ⟨hW, _⟩
   have z2 := hW.size
   refine wp_region_nd 15 48 [] (fun W' => Rex [] W1 W') mixed (by kernel_rfl) rfl (Rex.refl _ _).drew (fun w w' h0 hr => h0.trans hr) (fun c a d v w h => by cases d <;> exact h) ?_
   iterate 5
    apply nd_det (hg := rfl) (hal := rfl)
    ·intro a W' hC hE
     obtain _ := hC
     first
      | (simp at hE; simp [go_sem, Act.eval, IntWalk.i64_left, hE, e1, e2, e3, e4, e5, e6, e7, e8, e9, e10, hm]; try rfl)
      | (clear hE; simp [go_sem, Act.eval, IntWalk.i64_left, e1, e2, e3, e4, e5, e6, e7, e8, e9, e10, hm]; try rfl)
   refine nd_callv2 rfl rfl (fun W' hC => c_pairs n W' hn0 hn1) (fun a W' hC hE => ?_) ?_
   ·obtain _ := hC
    first
     | (simp at hE; simp [go_sem, Act.eval, IntWalk.i64_left, hE, e1, e2, e3, e4, e5, e6, e7, e8, e9, e10, hm]; try rfl)
     | (clear hE; simp [go_sem, Act.eval, IntWalk.i64_left, e1, e2, e3, e4, e5, e6, e7, e8, e9, e10, hm]; try rfl)
   iterate 9
    apply nd_det (hg := rfl) (hal := rfl)
    ·intro a W' hC hE
     obtain _ := hC
     first
      | (simp at hE; simp [go_sem, Act.eval, IntWalk.i64_left, hE, e1, e2, e3, e4, e5, e6, e7, e8, e9, e10, hm]; try rfl)
      | (clear hE; simp [go_sem, Act.eval, IntWalk.i64_left, e1, e2, e3, e4, e5, e6, e7, e8, e9, e10, hm]; try rfl)
   rintro W3 hR
   simp only [ndFinR, Det, forall_eq]
   intros
   repeat (rename GDet _ _ _ _ => hgd; clear hgd)
   simp only [Act.put, List.setIfInBounds_toArray, List.set_cons_zero, List.set_cons_succ]
   refine wpList_nil ?_
   replace hW := hW.trans (hR.of_priv hW.size)
   clear hR
   go_upto_region 3 with (fail)
   refine wp_facts (fun W' => Below w.heap.size w W' /\ True) ⟨by exact belowAny, trivial⟩ ?_
   clear hW
   rintro W4 ⟨hW, _⟩
   have z5 := hW.size
   refine wp_region_nd 8 48 [] (fun W' => Rex [] W4 W') mixed (by kernel_rfl) rfl (Rex.refl _ _).drew (fun w w' h0 hr => h0.trans hr) (fun c a d v w h => by cases d <;> exact h) ?_
   iterate 8
    apply nd_det (hg := rfl) (hal := rfl)
    ·intro a W' hC hE
     obtain _ := hC
     first
      | (simp at hE; simp [go_sem, Act.eval, IntWalk.i64_left, hE, e1, e2, e3, e4, e5, e6, e7, e8, e9, e10, hm]; try rfl)
      | (clear hE; simp [go_sem, Act.eval, IntWalk.i64_left, e1, e2, e3, e4, e5, e6, e7, e8, e9, e10, hm]; try rfl)
   rintro W6 hR
   simp only [ndFinR, Det, forall_eq]
   intros
   repeat (rename GDet _ _ _ _ => hgd; clear hgd)
   simp only [Act.put, List.setIfInBounds_toArray, List.set_cons_zero, List.set_cons_succ]
   refine wpList_nil ?_
   replace hW := hW.trans (hR.of_priv hW.size)
   clear hR
   go_upto_region 4 with (fail)
   refine wp_facts (fun W' => Below w.heap.size w W' /\ True) ⟨by exact belowAny, trivial⟩ ?_
   clear hW
   rintro W7 ⟨hW, _⟩
   have z8 := hW.size
   go_upto_region 6 with (fail)
   refine wp_facts (fun W' => Below w.heap.size w W' /\ True) ⟨by exact belowAny, trivial⟩ ?_
   clear hW
   rintro W9 ⟨hW, _⟩
   have z10 := hW.size
   refine wp_region_nd 8 48 [] (fun W' => Rex [] W9 W') mixed (by kernel_rfl) rfl (Rex.refl _ _).drew (fun w w' h0 hr => h0.trans hr) (fun c a d v w h => by cases d <;> exact h) ?_
   iterate 8
    apply nd_det (hg := rfl) (hal := rfl)
    ·intro a W' hC hE
     obtain _ := hC
     first
      | (simp at hE; simp [go_sem, Act.eval, IntWalk.i64_left, hE, e11, e12, hm]; try rfl)
      | (clear hE; simp [go_sem, Act.eval, IntWalk.i64_left, e11, e12, hm]; try rfl)
   rintro W11 hR
   simp only [ndFinR, Det, forall_eq]
   intros
   repeat (rename GDet _ _ _ _ => hgd; clear hgd)
   simp only [Act.put, List.setIfInBounds_toArray, List.set_cons_zero, List.set_cons_succ]
   refine wpList_nil ?_
   replace hW := hW.trans (hR.of_priv hW.size)
   clear hR
   go_wp2
   go_step3
   simp only [e10, e11, e12]
   exact ⟨rfl, ⟨hW, _, _, _, _, _, _, _, _, _, _, _, _, _, _, _, _, _, _, _, _, _, _, _, _, _, _, _, _, _, _, _, _, _, _, _, _, _, _, _, _, _, _, _, _, _, _, _, rfl, hx.1⟩, by simpa [intAt] using hx.2⟩
end Go.Proofs.YtidfcoooccblaaaGreat
