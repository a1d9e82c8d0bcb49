/- Parts of the proof that follows: Layer wide: Div, Scale. Every number of 128 bits; the divisor from 1 on. | Layer wide: Div and Scale, told of numbers of 128 bits. | Layer line: back, slopeIs, divisor, slope. | Layer line: lowest, slope, is. -/
import Derived.WalkMore
import Derived.ScopeJumps
import Derived.Test.YtbanjolokkghdaaGreatDoorWz3
set_option linter.unusedSimpArgs false
set_option linter.unusedVariables false
namespace Go.Proofs.YtbanjolokkghdaaGreatDoor
open Go.RowKit

/-- What the long division of the size gives. -/
structure DivOut (a m q1 q0 rest : Int) : Prop where
  q1b : 0 ≤ q1 ∧ q1 < 18446744073709551616
  q0b : 0 ≤ q0 ∧ q0 < 18446744073709551616
  rb : 0 ≤ rest ∧ rest < m
  eq : (q1 * 18446744073709551616 + q0) * m + rest = (if 0 ≤ a then a else -a)

theorem div_out (a m : Int) (ha : W128 a) (hm : 1 ≤ m) (hm' : m ≤ 9223372036854775807) : DivOut a m (szHi a / m) (ptQ (szHi a) (szLo a) m) (ptR (szHi a) (szLo a) m) := by
  obtain ⟨⟨h1, h2⟩, h3, h4⟩ := sz_bd a ha
  have e : szHi a * 18446744073709551616 + szLo a = (if 0 ≤ a then a else -a) := by unfold szHi szLo; omega
  unfold ptQ ptR
  generalize szHi a = H at *
  generalize szLo a = L at *
  have a1 := Int.emod_add_mul_ediv H m
  have a2 := Int.emod_nonneg H (show m ≠ 0 by omega)
  have a3 := Int.emod_lt_of_pos H (show 0 < m by omega)
  have b1 := Int.emod_add_mul_ediv (H % m * 18446744073709551616 + L) m
  have b2 := Int.emod_nonneg (H % m * 18446744073709551616 + L) (show m ≠ 0 by omega)
  have b3 := Int.emod_lt_of_pos (H % m * 18446744073709551616 + L) (show 0 < m by omega)
  have c1 : 0 ≤ H / m := Int.ediv_nonneg h1 (by omega)
  have c2 : H / m ≤ H := Int.ediv_le_self _ h1
  refine ⟨⟨c1, by omega⟩, ⟨Int.ediv_nonneg (by omega) (by omega), Int.ediv_lt_of_lt_mul (by omega) (by omega)⟩, ⟨b2, b3⟩, ?_⟩
  rw [← e, Int.add_mul, Int.mul_right_comm, Int.mul_comm (H / m) m, Int.mul_comm _ m]
  omega

theorem div_floor {a m q r : Int} (hm : 1 ≤ m) (h : m * q + r = a) (h0 : 0 ≤ r) (h1 : r < m) : q = a / m ∧ r = a % m := by
  subst h
  refine ⟨?_, ?_⟩
  · rw [Int.add_comm, Int.add_mul_ediv_left _ _ (by omega), Int.ediv_eq_zero_of_lt h0 h1]; omega
  · rw [Int.add_comm, Int.add_mul_emod_self_left, Int.emod_eq_of_lt h0 h1]

theorem DivOut.pos {a m q1 q0 rest : Int} (D : DivOut a m q1 q0 rest) (ha : W128 a) (hm : 1 ≤ m) (h : 0 ≤ a) : wrapW (sgn false (q1 * 18446744073709551616 + q0)) = a / m ∧ rest = a % m := by
  have e := D.eq
  rw [if_pos h, Int.mul_comm] at e
  obtain ⟨f1, f2⟩ := div_floor hm e D.rb.1 D.rb.2
  refine ⟨?_, f2⟩
  show wrapW (q1 * 18446744073709551616 + q0) = a / m
  have g1 : a / m ≤ a := Int.ediv_le_self _ h
  have g2 : 0 ≤ a / m := Int.ediv_nonneg h (by omega)
  rw [f1]
  exact wrapW_in ⟨by omega, by have := ha.2; omega⟩
theorem DivOut.neg0 {a m q1 q0 rest : Int} (D : DivOut a m q1 q0 rest) (ha : W128 a) (hm : 1 ≤ m) (h : a < 0) (hr : rest = 0) : wrapW (sgn true (q1 * 18446744073709551616 + q0)) = a / m ∧ rest = a % m := by
  have e := D.eq
  rw [if_neg (by omega), Int.mul_comm] at e
  have e' : m * (-(q1 * 18446744073709551616 + q0)) + 0 = a := by rw [Int.mul_neg]; omega
  obtain ⟨f1, f2⟩ := div_floor hm e' (Int.le_refl 0) (by omega)
  refine ⟨?_, by omega⟩
  show wrapW (-(q1 * 18446744073709551616 + q0)) = a / m
  have g1 : q1 * 18446744073709551616 + q0 ≤ m * (q1 * 18446744073709551616 + q0) := by
    have := Int.mul_le_mul_of_nonneg_right hm (show 0 ≤ q1 * 18446744073709551616 + q0 by have := D.q1b; have := D.q0b; omega)
    omega
  rw [← f1]
  exact wrapW_in ⟨by have := ha.1; omega, by have := D.q1b; have := D.q0b; omega⟩
theorem DivOut.neg1 {a m q1 q0 rest : Int} (D : DivOut a m q1 q0 rest) (ha : W128 a) (hm : 1 ≤ m) (h : a < 0) (hr : 0 < rest) : wrapW (wrapW (sgn true (q1 * 18446744073709551616 + q0)) - 1) = a / m ∧ m - rest = a % m := by
  have e := D.eq
  rw [if_neg (by omega), Int.mul_comm] at e
  have e' : m * (-(q1 * 18446744073709551616 + q0) - 1) + (m - rest) = a := by rw [Int.mul_sub, Int.mul_neg]; omega
  obtain ⟨f1, f2⟩ := div_floor hm e' (by have := D.rb; omega) (by omega)
  refine ⟨?_, f2⟩
  show wrapW (wrapW (-(q1 * 18446744073709551616 + q0)) - 1) = a / m
  have g1 : q1 * 18446744073709551616 + q0 ≤ m * (q1 * 18446744073709551616 + q0) := by
    have := Int.mul_le_mul_of_nonneg_right hm (show 0 ≤ q1 * 18446744073709551616 + q0 by have := D.q1b; have := D.q0b; omega)
    omega
  have g2 : m * (q1 * 18446744073709551616 + q0) < -a := by omega
  have w1 : wrapW (-(q1 * 18446744073709551616 + q0)) = -(q1 * 18446744073709551616 + q0) := wrapW_in ⟨by have := ha.1; omega, by have := D.q1b; have := D.q0b; omega⟩
  rw [← f1, w1]
  exact wrapW_in ⟨by have := ha.1; omega, by have := D.q1b; have := D.q0b; omega⟩

set_option maxRecDepth 100000 in
set_option maxHeartbeats 2000000 in
theorem div_pos (ah al m sH sL q1 q0 rest qh ql : Int) (f : Bool) (w : World) (m1 : 1 ≤ m) (m2 : m ≤ 9223372036854775807) (h : 0 ≤ ah) (r1 : 0 ≤ rest) (r2 : rest < m)
    (c1 : ∀ w, Calls Tryz.prog 251 #[.agg #[.int .i64 ah, .int .u64 al]] w fun e w' => e = .returned (.tuple #[.int .u64 sH, .int .u64 sL]) ∧ Below w.heap.size w w')
    (c2 : ∀ w, Calls Tryz.prog 252 #[.int .u64 sH, .int .u64 sL, .int .u64 m] w fun e w' => e = .returned (.tuple #[.int .u64 q1, .int .u64 q0, .int .u64 rest]) ∧ Below w.heap.size w w')
    (c3 : ∀ w, Calls Tryz.prog 253 #[.bool false, .int .u64 q1, .int .u64 q0] w fun e w' => e = .returned (.tuple #[.agg #[.int .i64 qh, .int .u64 ql], .bool f]) ∧ Below w.heap.size w w') :
    Calls Tryz.prog 216 #[.agg #[.int .i64 ah, .int .u64 al], .int .i64 m] w fun e w' => e = .returned (.tuple #[.agg #[.int .i64 qh, .int .u64 ql], .int .i64 rest, .int .i64 0]) ∧ Below w.heap.size w w' := by
  have hd : decide (ah < 0) = false := by simp; omega
  go_enter Tryz.func216, Tryz.ntmps216
  go_wp2_with fail
  refine (c1 _).mono ?_
  rintro e w1 ⟨rfl, hb1⟩
  obtain ⟨hc1, hf1⟩ := bcell hb1
  have hz1 := hb1.size
  simp at hz1
  go_wp2_with fail
  refine (c2 _).mono ?_
  rintro e w2 ⟨rfl, hb2⟩
  obtain ⟨hc2, hf2⟩ := bcell hb2
  have hz2 := hb2.size
  have y1 : w.heap.size < w1.heap.size := by omega
  have y2 : w.heap.size + 1 < w1.heap.size := by omega
  go_wp2_with fail
  refine (c3 _).mono ?_
  rintro e w3 ⟨rfl, hb3⟩
  obtain ⟨hc3, hf3⟩ := bcell hb3
  have hz3 := hb3.size
  have x1 : w.heap.size < w2.heap.size := by omega
  have x2 : w.heap.size + 1 < w2.heap.size := by omega
  have u1 : w.heap.size < w3.heap.size := by omega
  have u2 : w.heap.size + 1 < w3.heap.size := by omega
  have h0 : Below w.heap.size w w3 := (((((Below.refl _ _).alloc (Nat.le_refl _) _).alloc (by simp) _).trans (hb1.mono (by simp; omega))).trans (hb2.mono (by omega))).trans (hb3.mono (by omega))
  have H0 := Lib.hid h0
  clear c1 c2 c3 h0
  go_wp2
  refine bodyPost_ret (v := .tuple #[.agg #[.int .i64 qh, .int .u64 ql], .int .i64 rest, .int .i64 0]) (by simp [results, Tryz.results216, go_sem, hc1, hc2, hc3, u1, u2, x1, x2, y1, y2]) rfl ⟨rfl, ?_⟩
  exact (have hUp := H0.out; belowAny)


set_option maxRecDepth 100000 in
set_option maxHeartbeats 2000000 in
theorem div_neg0 (ah al m sH sL q1 q0 rest qh ql : Int) (f : Bool) (w : World) (m1 : 1 ≤ m) (m2 : m ≤ 9223372036854775807) (h : ah < 0) (hr : rest ≤ 0) (r1 : 0 ≤ rest) (r2 : rest < m)
    (c1 : ∀ w, Calls Tryz.prog 251 #[.agg #[.int .i64 ah, .int .u64 al]] w fun e w' => e = .returned (.tuple #[.int .u64 sH, .int .u64 sL]) ∧ Below w.heap.size w w')
    (c2 : ∀ w, Calls Tryz.prog 252 #[.int .u64 sH, .int .u64 sL, .int .u64 m] w fun e w' => e = .returned (.tuple #[.int .u64 q1, .int .u64 q0, .int .u64 rest]) ∧ Below w.heap.size w w')
    (c3 : ∀ w, Calls Tryz.prog 253 #[.bool true, .int .u64 q1, .int .u64 q0] w fun e w' => e = .returned (.tuple #[.agg #[.int .i64 qh, .int .u64 ql], .bool f]) ∧ Below w.heap.size w w') :
    Calls Tryz.prog 216 #[.agg #[.int .i64 ah, .int .u64 al], .int .i64 m] w fun e w' => e = .returned (.tuple #[.agg #[.int .i64 qh, .int .u64 ql], .int .i64 rest, .int .i64 0]) ∧ Below w.heap.size w w' := by
  have hd : decide (ah < 0) = true := by simp; omega
  go_enter Tryz.func216, Tryz.ntmps216
  go_wp2_with fail
  refine (c1 _).mono ?_
  rintro e w1 ⟨rfl, hb1⟩
  obtain ⟨hc1, hf1⟩ := bcell hb1
  have hz1 := hb1.size
  simp at hz1
  go_wp2_with fail
  refine (c2 _).mono ?_
  rintro e w2 ⟨rfl, hb2⟩
  obtain ⟨hc2, hf2⟩ := bcell hb2
  have hz2 := hb2.size
  have y1 : w.heap.size < w1.heap.size := by omega
  have y2 : w.heap.size + 1 < w1.heap.size := by omega
  go_wp2_with fail
  refine (c3 _).mono ?_
  rintro e w3 ⟨rfl, hb3⟩
  obtain ⟨hc3, hf3⟩ := bcell hb3
  have hz3 := hb3.size
  have x1 : w.heap.size < w2.heap.size := by omega
  have x2 : w.heap.size + 1 < w2.heap.size := by omega
  have u1 : w.heap.size < w3.heap.size := by omega
  have u2 : w.heap.size + 1 < w3.heap.size := by omega
  have h0 : Below w.heap.size w w3 := (((((Below.refl _ _).alloc (Nat.le_refl _) _).alloc (by simp) _).trans (hb1.mono (by simp; omega))).trans (hb2.mono (by omega))).trans (hb3.mono (by omega))
  have H0 := Lib.hid h0
  clear c1 c2 c3 h0
  go_wp2
  refine bodyPost_ret (v := .tuple #[.agg #[.int .i64 qh, .int .u64 ql], .int .i64 rest, .int .i64 0]) (by simp [results, Tryz.results216, go_sem, hc1, hc2, hc3, u1, u2, x1, x2, y1, y2]) rfl ⟨rfl, ?_⟩
  exact (have hUp := H0.out; belowAny)


set_option maxRecDepth 100000 in
set_option maxHeartbeats 2000000 in
theorem div_neg1 (ah al m sH sL q1 q0 rest qh ql zh zl : Int) (f : Bool) (w : World) (m1 : 1 ≤ m) (m2 : m ≤ 9223372036854775807) (h : ah < 0) (hr : 0 < rest) (r1 : 0 ≤ rest) (r2 : rest < m)
    (c1 : ∀ w, Calls Tryz.prog 251 #[.agg #[.int .i64 ah, .int .u64 al]] w fun e w' => e = .returned (.tuple #[.int .u64 sH, .int .u64 sL]) ∧ Below w.heap.size w w')
    (c2 : ∀ w, Calls Tryz.prog 252 #[.int .u64 sH, .int .u64 sL, .int .u64 m] w fun e w' => e = .returned (.tuple #[.int .u64 q1, .int .u64 q0, .int .u64 rest]) ∧ Below w.heap.size w w')
    (c3 : ∀ w, Calls Tryz.prog 253 #[.bool true, .int .u64 q1, .int .u64 q0] w fun e w' => e = .returned (.tuple #[.agg #[.int .i64 qh, .int .u64 ql], .bool f]) ∧ Below w.heap.size w w')
    (c4 : ∀ w, Calls Tryz.prog 254 #[.agg #[.int .i64 qh, .int .u64 ql], .agg #[.int .i64 0, .int .u64 1]] w fun e w' => e = .returned (.tuple #[.agg #[.int .i64 zh, .int .u64 zl], .bool true]) ∧ Below w.heap.size w w') :
    Calls Tryz.prog 216 #[.agg #[.int .i64 ah, .int .u64 al], .int .i64 m] w fun e w' => e = .returned (.tuple #[.agg #[.int .i64 zh, .int .u64 zl], .int .i64 (m - rest), .int .i64 0]) ∧ Below w.heap.size w w' := by
  have hd : decide (ah < 0) = true := by simp; omega
  go_enter Tryz.func216, Tryz.ntmps216
  go_wp2_with fail
  refine (c1 _).mono ?_
  rintro e w1 ⟨rfl, hb1⟩
  obtain ⟨hc1, hf1⟩ := bcell hb1
  have hz1 := hb1.size
  simp at hz1
  go_wp2_with fail
  refine (c2 _).mono ?_
  rintro e w2 ⟨rfl, hb2⟩
  obtain ⟨hc2, hf2⟩ := bcell hb2
  have hz2 := hb2.size
  have y1 : w.heap.size < w1.heap.size := by omega
  have y2 : w.heap.size + 1 < w1.heap.size := by omega
  go_wp2_with fail
  refine (c3 _).mono ?_
  rintro e w3 ⟨rfl, hb3⟩
  obtain ⟨hc3, hf3⟩ := bcell hb3
  have hz3 := hb3.size
  have x1 : w.heap.size < w2.heap.size := by omega
  have x2 : w.heap.size + 1 < w2.heap.size := by omega
  have u1 : w.heap.size < w3.heap.size := by omega
  have u2 : w.heap.size + 1 < w3.heap.size := by omega
  have h0 : Below w.heap.size w w3 := (((((Below.refl _ _).alloc (Nat.le_refl _) _).alloc (by simp) _).trans (hb1.mono (by simp; omega))).trans (hb2.mono (by omega))).trans (hb3.mono (by omega))
  have H0 := Lib.hid h0
  clear c1 c2 c3 h0
  go_upto_region 7 with (fail)
  have hbk : Blk w3 (w.heap.size + 1) #[.int .i64 0, .int .u64 0] 238 := (hb3.block _ (by omega)).trans ((hb2.block _ (by omega)).trans ((hb1.block (w.heap.size + 1) (by simp)).trans (Blk.new' (by simp))))
  refine wp_facts (fun W => Below w.heap.size w W ∧ Blk W (w.heap.size + 1) #[.int .i64 0, .int .u64 0] 238 ∧ Blk W w3.heap.size #[.int .i64 qh, .int .u64 ql] 238) ?_ ?_
  · exact ⟨H0.out.alloc (by omega) _, hbk.alloc _, Blk.new' rfl⟩
  clear hc1 hf1 hbk hb1 hc2 hf2 hb2 hc3 hf3 hb3
  rintro W ⟨hW, b1, b2⟩
  refine wp_region_nd 6 58 [] (fun W' => Rex [] W W' ∧ Blk W' (w.heap.size + 1) #[.int .i64 0, .int .u64 0] 238 ∧ Blk W' w3.heap.size #[.int .i64 qh, .int .u64 ql] 238) mixed (by kernel_rfl) rfl ⟨(Rex.refl _ _).drew, b1, b2⟩ (fun w w' ⟨h0, h1, h2⟩ hr => ⟨h0.trans hr, h1.rex hr (by simp <;> omega), h2.rex hr (by simp <;> omega)⟩) (fun c a d v w h => by cases d <;> exact h) ?_
  iterate 1
    apply nd_det (hg := rfl) (hal := rfl)
    · intro a W' hC hE
      obtain ⟨_, k1, k2⟩ := hC
      have k1 := k1.cell
      have k2 := k2.cell
      first
        | (simp [Oper.looksAt, Op.operands, Call.operands, envOf, Det] at hE; simp [go_sem, Act.eval, IntWalk.i64_left, hE, k1, k2]; try rfl)
        | (clear hE; simp [go_sem, Act.eval, IntWalk.i64_left, k1, k2]; try rfl)
  refine nd_callv2 rfl rfl (fun W' hC => c_Of 1 W' (by decide)) (fun a W' hC hE => ?_) ?_
  · obtain ⟨_, k1, k2⟩ := hC
    have k1 := k1.cell
    have k2 := k2.cell
    first
      | (simp [Oper.looksAt, Op.operands, Call.operands, envOf, Det] at hE; simp [go_sem, Act.eval, IntWalk.i64_left, hE, k1, k2]; try rfl)
      | (clear hE; simp [go_sem, Act.eval, IntWalk.i64_left, k1, k2]; try rfl)
  rw [show wideV 1 = .agg #[.int .i64 0, .int .u64 1] from rfl]
  refine nd_callv2 rfl rfl (fun W' hC => c4 W') (fun a W' hC hE => ?_) ?_
  · obtain ⟨_, k1, k2⟩ := hC
    have k1 := k1.cell
    have k2 := k2.cell
    first
      | (simp [Oper.looksAt, Op.operands, Call.operands, envOf, Det] at hE; simp [go_sem, Act.eval, IntWalk.i64_left, hE, k1, k2]; try rfl)
      | (clear hE; simp [go_sem, Act.eval, IntWalk.i64_left, k1, k2]; try rfl)
  iterate 3
    apply nd_det (hg := rfl) (hal := rfl)
    · intro a W' hC hE
      obtain ⟨_, k1, k2⟩ := hC
      have k1 := k1.cell
      have k2 := k2.cell
      first
        | (simp [Oper.looksAt, Op.operands, Call.operands, envOf, Det] at hE; simp [go_sem, Act.eval, IntWalk.i64_left, hE, k1, k2]; try rfl)
        | (clear hE; simp [go_sem, Act.eval, IntWalk.i64_left, k1, k2]; try rfl)
  rintro W2 ⟨hR, c1, c2⟩
  simp only [ndFinR, Det, forall_eq]
  intros
  repeat (rename GDet _ _ _ _ => hgd; clear hgd)
  simp only [Act.put, List.setIfInBounds_toArray, List.set_cons_zero, List.set_cons_succ, List.drop_succ_cons, List.drop_zero]
  clear c4
  have k1 := c1.cell
  have k2 := c2.cell
  have k3 := c2.frozen
  have k4 := c1.frozen
  go_wp2
  refine bodyPost_ret (v := .tuple #[.agg #[.int .i64 zh, .int .u64 zl], .int .i64 (m - rest), .int .i64 0]) (by simp [results, Tryz.results216, go_sem, k1, k2, k3, k4]) rfl ⟨rfl, ?_⟩
  have hR' := hW.trans (hR.of_priv hW.size)
  exact (have hUp := hR'; belowAny)



end Go.Proofs.YtbanjolokkghdaaGreatDoor
namespace Go.Proofs.YtbanjolokkghdaaGreatDoor
open Go.RowKit

theorem I64.w {n : Int} (h : I64 n) : W128 n := W128_small h

theorem c_Div (a m : Int) (w : World) (ha : W128 a) (hm : 1 ≤ m) (hm' : m ≤ 9223372036854775807) :
    Calls Tryz.prog 216 #[wideV a, .int .i64 m] w fun e w' => e = .returned (.tuple #[wideV (a / m), .int .i64 (a % m), .int .i64 0]) ∧ Below w.heap.size w w' := by
  have D := div_out a m ha hm hm'
  obtain ⟨⟨s1, s2⟩, s3, s4⟩ := sz_bd a ha
  have c1 := fun w => c_size a w ha
  have c2 := fun w => c_parts (szHi a) (szLo a) m w s1 s2 s3 s4 hm (by omega)
  have c3 := fun b w => c_signed b (szHi a / m) (ptQ (szHi a) (szLo a) m) w D.q1b.1 D.q1b.2 D.q0b.1 D.q0b.2
  have hs : (hiW a < 0) ↔ a < 0 := by obtain ⟨_, _⟩ := ha; unfold hiW; omega
  rcases Int.lt_or_le a 0 with h | h
  · rcases Int.lt_or_le 0 (ptR (szHi a) (szLo a) m) with hr | hr
    · obtain ⟨e1, e2⟩ := D.neg1 ha hm h hr
      rw [← e1, ← e2]
      have c4 := fun w => c_difference (wrapW (sgn true (szHi a / m * 18446744073709551616 + ptQ (szHi a) (szLo a) m))) 1 w (W128_wrap _) (by decide)
      rw [inW_in (n := wrapW (sgn true (szHi a / m * 18446744073709551616 + ptQ (szHi a) (szLo a) m)) - 1) (by
        have := ha.1; have := wrapW_in (n := wrapW (sgn true (szHi a / m * 18446744073709551616 + ptQ (szHi a) (szLo a) m)) - 1)
        have e3 := D.eq
        have := D.q1b; have := D.q0b; have := D.rb
        have g1 : szHi a / m * 18446744073709551616 + ptQ (szHi a) (szLo a) m ≤ (szHi a / m * 18446744073709551616 + ptQ (szHi a) (szLo a) m) * m := by
          have := Int.mul_le_mul_of_nonneg_left hm (show 0 ≤ szHi a / m * 18446744073709551616 + ptQ (szHi a) (szLo a) m by omega)
          omega
        rw [if_neg (by omega)] at e3
        have e4 : wrapW (sgn true (szHi a / m * 18446744073709551616 + ptQ (szHi a) (szLo a) m)) = -(szHi a / m * 18446744073709551616 + ptQ (szHi a) (szLo a) m) := wrapW_in (show W128 (-(szHi a / m * 18446744073709551616 + ptQ (szHi a) (szLo a) m)) from ⟨by omega, by omega⟩)
        rw [e4]
        exact ⟨by omega, by omega⟩)] at c4
      exact div_neg1 _ _ m _ _ _ _ _ _ _ _ _ (inW _) w hm hm' (hs.2 h) hr D.rb.1 D.rb.2 c1 c2 (c3 true) c4
    · obtain ⟨e1, e2⟩ := D.neg0 ha hm h (by have := D.rb.1; omega)
      rw [← e1, ← e2]
      exact div_neg0 _ _ m _ _ _ _ _ _ _ (inW _) w hm hm' (hs.2 h) hr D.rb.1 D.rb.2 c1 c2 (c3 true)
  · obtain ⟨e1, e2⟩ := D.pos ha hm h
    rw [← e1, ← e2]
    exact div_pos _ _ m _ _ _ _ _ _ _ (inW _) w hm hm' (by omega) D.rb.1 D.rb.2 c1 c2 (c3 false)

end Go.Proofs.YtbanjolokkghdaaGreatDoor
namespace Go.Proofs.YtbanjolokkghdaaGreatDoor
open Go.RowKit

def isBack (v : Int) : Bool := decide (-2305844108725321728 ≤ v) && decide (v ≤ 2305844108725321728)
def isSlope (n d : Int) : Bool := decide (1 ≤ d) && decide (d ≤ 281474976710656) && decide (-4611688217450643456 ≤ n) && decide (n ≤ 4611688217450643456)

set_option maxRecDepth 100000 in
set_option maxHeartbeats 1000000 in
theorem c_back (v : Int) (w : World) :
    Calls Tryz.prog 218 #[.int .i64 v] w fun e w' => e = .returned (.bool (isBack v)) ∧ Below w.heap.size w w' := by
  unfold isBack
  go_enter Tryz.func218, Tryz.ntmps218
  go_upto_region 1 with (fail)
  refine wp_region_sq 7 9 [] (fun W' => Rex [] w W') (by kernel_rfl) rfl (Rex.refl _ _) (fun w w' h0 hr => h0.trans hr) ?_
  iterate 3
    apply nd_det (hg := rfl) (hal := rfl)
    · intro a W' hC hE
      obtain _ := hC
      first
        | (simp [Oper.looksAt, Op.operands, Call.operands, envOf, Det] at hE; simp [go_sem, Act.eval, IntWalk.i64_left, hE]; try rfl)
        | (clear hE; simp [go_sem, Act.eval, IntWalk.i64_left]; try rfl)
  iterate 2
    apply nd_detg (p := true) (hg := rfl) (hd := rfl) (hal := rfl)
    · intro v W' h
      simp [envOf, Det, GDet] at h
      simp
      exact h
    · intro hp hx a W' hC hE
      obtain _ := hC
      simp [Oper.looksAt, Op.operands, Call.operands, envOf, Det, GDet, hx] at hE
      simp [go_sem, Act.eval, IntWalk.i64_left, hE]
      try rfl
  apply nd_pick_and (ho := rfl) (hg := rfl)
  · intro v W' h
    simp [envOf, Det] at h
    exact h
  · intro v W' h hx
    simp [envOf, GDet, hx] at h
    exact h
  iterate 1
    apply nd_det (hg := rfl) (hal := rfl)
    · intro a W' hC hE
      obtain _ := hC
      first
        | (simp [Oper.looksAt, Op.operands, Call.operands, envOf, Det] at hE; simp [go_sem, Act.eval, IntWalk.i64_left, hE]; try rfl)
        | (clear hE; simp [go_sem, Act.eval, IntWalk.i64_left]; try rfl)
  rintro W2 hR
  simp only [ndFinR, Det, forall_eq]
  intros
  repeat (rename GDet _ _ _ _ => hgd; clear hgd)
  simp only [Act.put, List.setIfInBounds_toArray, List.set_cons_zero, List.set_cons_succ]
  refine wpList_nil ?_
  go_wp2
  go_ret
  exact ⟨rfl, hR.of_priv (Nat.le_refl _)⟩

set_option maxRecDepth 100000 in
set_option maxHeartbeats 1000000 in
theorem c_slopeIs (n d : Int) (w : World) :
    Calls Tryz.prog 215 #[.agg #[.int .i64 n, .int .i64 d]] w fun e w' => e = .returned (.bool (isSlope n d)) ∧ Below w.heap.size w w' := by
  unfold isSlope
  go_enter Tryz.func215, Tryz.ntmps215
  go_upto_region 1 with (fail)
  refine wp_facts (fun W => Below w.heap.size w W ∧ Blk W w.heap.size #[.int .i64 n, .int .i64 d] 96) ⟨(Below.refl _ _).alloc (Nat.le_refl _) _, (by repeat (first | (refine Blk.new' ?_; simp; done) | refine Blk.alloc ?_ _))⟩ ?_
  rintro W ⟨hW, b1⟩
  refine wp_region_sq 19 21 [] (fun W' => Rex [] W W' ∧ Blk W' w.heap.size #[.int .i64 n, .int .i64 d] 96) (by kernel_rfl) rfl ⟨(Rex.refl _ _), b1⟩ (fun w w' ⟨h0, h1⟩ hr => ⟨h0.trans hr, h1.rex hr (by simp <;> omega)⟩) ?_
  iterate 4
    apply nd_det (hg := rfl) (hal := rfl)
    · intro a W' hC hE
      obtain ⟨_, k1⟩ := hC
      have k1 := k1.cell
      first
        | (simp [Oper.looksAt, Op.operands, Call.operands, envOf, Det] at hE; simp [go_sem, Act.eval, IntWalk.i64_left, hE, k1]; try rfl)
        | (clear hE; simp [go_sem, Act.eval, IntWalk.i64_left, k1]; try rfl)
  iterate 3
    apply nd_detg (p := true) (hg := rfl) (hd := rfl) (hal := rfl)
    · intro v W' h
      simp [envOf, Det, GDet] at h
      simp
      exact h
    · intro hp hx a W' hC hE
      obtain ⟨_, k1⟩ := hC
      have k1 := k1.cell
      simp [Oper.looksAt, Op.operands, Call.operands, envOf, Det, GDet, hx] at hE
      simp [go_sem, Act.eval, IntWalk.i64_left, hE, k1]
      try rfl
  apply nd_pick_and (ho := rfl) (hg := rfl)
  · intro v W' h
    simp [envOf, Det] at h
    exact h
  · intro v W' h hx
    simp [envOf, GDet, hx] at h
    exact h
  iterate 1
    apply nd_det (hg := rfl) (hal := rfl)
    · intro a W' hC hE
      obtain ⟨_, k1⟩ := hC
      have k1 := k1.cell
      first
        | (simp [Oper.looksAt, Op.operands, Call.operands, envOf, Det] at hE; simp [go_sem, Act.eval, IntWalk.i64_left, hE, k1]; try rfl)
        | (clear hE; simp [go_sem, Act.eval, IntWalk.i64_left, k1]; try rfl)
  iterate 3
    apply nd_detg (p := true) (hg := rfl) (hd := rfl) (hal := rfl)
    · intro v W' h
      simp [envOf, Det, GDet] at h
      simp
      exact h
    · intro hp hx a W' hC hE
      obtain ⟨_, k1⟩ := hC
      have k1 := k1.cell
      simp [Oper.looksAt, Op.operands, Call.operands, envOf, Det, GDet, hx] at hE
      simp [go_sem, Act.eval, IntWalk.i64_left, hE, k1]
      try rfl
  apply nd_pick_and (ho := rfl) (hg := rfl)
  · intro v W' h
    simp [envOf, Det] at h
    exact h
  · intro v W' h hx
    simp [envOf, GDet, hx] at h
    exact h
  iterate 1
    apply nd_det (hg := rfl) (hal := rfl)
    · intro a W' hC hE
      obtain ⟨_, k1⟩ := hC
      have k1 := k1.cell
      first
        | (simp [Oper.looksAt, Op.operands, Call.operands, envOf, Det] at hE; simp [go_sem, Act.eval, IntWalk.i64_left, hE, k1]; try rfl)
        | (clear hE; simp [go_sem, Act.eval, IntWalk.i64_left, k1]; try rfl)
  iterate 3
    apply nd_detg (p := true) (hg := rfl) (hd := rfl) (hal := rfl)
    · intro v W' h
      simp [envOf, Det, GDet] at h
      simp
      exact h
    · intro hp hx a W' hC hE
      obtain ⟨_, k1⟩ := hC
      have k1 := k1.cell
      simp [Oper.looksAt, Op.operands, Call.operands, envOf, Det, GDet, hx] at hE
      simp [go_sem, Act.eval, IntWalk.i64_left, hE, k1]
      try rfl
  apply nd_pick_and (ho := rfl) (hg := rfl)
  · intro v W' h
    simp [envOf, Det] at h
    exact h
  · intro v W' h hx
    simp [envOf, GDet, hx] at h
    exact h
  iterate 1
    apply nd_det (hg := rfl) (hal := rfl)
    · intro a W' hC hE
      obtain ⟨_, k1⟩ := hC
      have k1 := k1.cell
      first
        | (simp [Oper.looksAt, Op.operands, Call.operands, envOf, Det] at hE; simp [go_sem, Act.eval, IntWalk.i64_left, hE, k1]; try rfl)
        | (clear hE; simp [go_sem, Act.eval, IntWalk.i64_left, k1]; try rfl)
  rintro W2 ⟨hR, c1⟩
  simp only [ndFinR, Det, forall_eq]
  intros
  repeat (rename GDet _ _ _ _ => hgd; clear hgd)
  simp only [Act.put, List.setIfInBounds_toArray, List.set_cons_zero, List.set_cons_succ]
  refine wpList_nil ?_
  go_wp2
  go_ret
  exact ⟨rfl, hW.trans (hR.of_priv hW.size)⟩

def intAt : Value → Int | .int _ q => q | _ => 0

structure GcdAt (a b m n : Int) : Prop where
  m0 : 0 ≤ m
  m1 : m ≤ 9223372036854775807
  n0 : 0 ≤ n
  n1 : n ≤ 9223372036854775807
  eq : Nat.gcd m.natAbs n.natAbs = Nat.gcd a.natAbs b.natAbs

theorem GcdAt.pos {a b : Int} (ha : -9223372036854775807 ≤ a ∧ a ≤ 9223372036854775807) (hb : 0 ≤ b ∧ b ≤ 9223372036854775807) (h : 0 ≤ a) : GcdAt a b a b := ⟨h, ha.2, hb.1, hb.2, rfl⟩
theorem GcdAt.neg {a b : Int} (ha : -9223372036854775807 ≤ a ∧ a ≤ 9223372036854775807) (hb : 0 ≤ b ∧ b ≤ 9223372036854775807) (h : a ≤ 0) : GcdAt a b (-a) b := ⟨by omega, by omega, hb.1, hb.2, by rw [Int.natAbs_neg]⟩
theorem GcdAt.done {a b n : Int} (h : GcdAt a b 0 n) : n = (Nat.gcd a.natAbs b.natAbs : Int) := by
  rw [← h.eq]; have := h.n0; simp; omega
theorem GcdAt.step {a b m n : Int} (h : GcdAt a b m n) (hm : ¬ m = 0) : GcdAt a b (n.tmod m) m ∧ (n.tmod m).toNat < m.toNat := by
  have h0 := h.m0; have h1 := h.n0
  have e : n.tmod m = n % m := Int.tmod_eq_emod_of_nonneg h1
  have l1 := Int.emod_nonneg n hm
  have l2 := Int.emod_lt_of_pos n (show 0 < m by omega)
  have := h.m1
  rw [e]
  refine ⟨⟨l1, by omega, h0, h.m1, ?_⟩, by omega⟩
  rw [← h.eq]
  obtain ⟨m, rfl⟩ := Int.eq_ofNat_of_zero_le h0
  obtain ⟨n, rfl⟩ := Int.eq_ofNat_of_zero_le h1
  exact (Nat.gcd_rec m n).symm

theorem GcdAt.stepE {a b m n : Int} (h : GcdAt a b m n) (hm : ¬ m = 0) : GcdAt a b (n % m) m ∧ (n % m).toNat < m.toNat := by
  have := h.step hm
  rwa [Int.tmod_eq_emod_of_nonneg h.n0] at this
set_option maxRecDepth 100000 in
set_option maxHeartbeats 1000000 in
theorem c_divisor (a b : Int) (w : World) (ha : -9223372036854775807 ≤ a ∧ a ≤ 9223372036854775807) (hb : 0 ≤ b ∧ b ≤ 9223372036854775807) :
    Calls Tryz.prog 250 #[.int .i64 a, .int .i64 b] w fun e w' => e = .returned (.int .i64 (Nat.gcd a.natAbs b.natAbs)) ∧ w' = w := by
  go_enter Tryz.func250, Tryz.ntmps250
  go_wp2
  refine wp_scope_jumps 0 (fun a' w' => w' = w ∧ ∃ (m n : Int) (u2 u3 u5 u6 u7 u8 u9 u10 u11 u12 u13 u14 u15 : Value), a' = { tmps := #[.int .i64 m, .int .i64 n, u2, u3, .int .i64 0, u5, u6, u7, u8, u9, u10, u11, u12, u13, u14, u15], defers := [] } ∧ GcdAt a b m n) (fun a' _ => (intAt (a'.tmps.getD 0 undef)).toNat) rfl ?_ ?_
  · rcases Int.lt_trichotomy a 0 with h | h | h
    · have h1 : ¬ (-a = 0) := by omega
      have h2 : ¬ a = 0 := by omega
      go_wp2
      go_step3
      go_wp2
      go_step3
      exact ⟨rfl, rfl, _, _, _, _, _, _, _, _, _, _, _, _, _, _, _, rfl, by have := (GcdAt.stepE (.neg ha hb (by omega)) (show ¬ -a = 0 by omega)).1; rwa [Int.emod_neg] at this⟩
    · subst h
      go_wp2
      go_step3
      go_wp2
      simp only [Exit.jump]
      go_ret
      exact ⟨congrArg _ (by simp; omega), rfl⟩
    · have h2 : ¬ a = 0 := by omega
      go_wp2
      go_step3
      go_wp2
      go_step3
      exact ⟨rfl, rfl, _, _, _, _, _, _, _, _, _, _, _, _, _, _, _, rfl, (GcdAt.stepE (.pos ha hb (by omega)) (by omega)).1⟩
  · rintro a' w' ⟨rfl, m, n, u2, u3, u5, u6, u7, u8, u9, u10, u11, u12, u13, u14, u15, rfl, hs⟩
    by_cases h : m = 0
    · subst h
      go_wp2
      simp only [Exit.jump]
      go_ret
      exact ⟨by have := hs.done; simp [this], rfl⟩
    · go_wp2
      go_step3
      exact ⟨rfl, ⟨rfl, _, _, _, _, _, _, _, _, _, _, _, _, _, _, _, rfl, (hs.step h).1⟩, by simpa [intAt] using (hs.step h).2⟩
end Go.Proofs.YtbanjolokkghdaaGreatDoor
namespace Go.Proofs.YtbanjolokkghdaaGreatDoor
open Go.RowKit

set_option maxRecDepth 100000 in
set_option maxHeartbeats 1000000 in
theorem c_slope (A R n d : Int) (w : World) :
    Calls Tryz.prog 258 #[.agg #[.int .i64 A, .int .i64 R, .int .i64 n, .int .i64 d]] w fun e w' => e = .returned (.agg #[.int .i64 n, .int .i64 d]) ∧ Below w.heap.size w w' := by
  go_enter Tryz.func258, Tryz.ntmps258
  go_wp2
  refine bodyPost_ret (v := .agg #[.int .i64 n, .int .i64 d]) (by simp [results, Tryz.results258, go_sem]) rfl ⟨rfl, ?_⟩
  exact (have hUp := (Below.refl w.heap.size w); belowAny)

set_option maxRecDepth 100000 in
set_option maxHeartbeats 1000000 in
theorem lowest_w (n d g x y : Int) (w : World) (hg : ¬ g = 0) (e1 : wrap64 (n.tdiv g) = x) (e2 : wrap64 (d.tdiv g) = y)
    (c1 : ∀ w, Calls Tryz.prog 250 #[.int .i64 n, .int .i64 d] w fun e w' => e = .returned (.int .i64 g) ∧ w' = w) :
    Calls Tryz.prog 214 #[.agg #[.int .i64 n, .int .i64 d]] w fun e w' => e = .returned (.agg #[.int .i64 x, .int .i64 y]) ∧ Below w.heap.size w w' := by
  go_enter Tryz.func214, Tryz.ntmps214
  go_wp2_with fail
  refine (c1 _).mono ?_
  rintro e w1 ⟨rfl, rfl⟩
  clear c1
  go_upto_region 2 with (fail)
  refine wp_facts (fun W => Below w.heap.size w W ∧ Blk W w.heap.size #[.int .i64 n, .int .i64 d] 96 ∧ Blk W (w.heap.size + 1) #[.int .i64 0, .int .i64 0] 96) ⟨?_, (by repeat (first | (refine Blk.new' ?_; simp; done) | refine Blk.alloc ?_ _)), (by repeat (first | (refine Blk.new' ?_; simp; done) | refine Blk.alloc ?_ _))⟩ ?_
  · exact (have hUp := (Below.refl w.heap.size w); belowAny)
  rintro W ⟨hW, b1, b2⟩
  refine wp_region_nd 9 18 [] (fun W' => Rex [] W W' ∧ Blk W' w.heap.size #[.int .i64 n, .int .i64 d] 96 ∧ Blk W' (w.heap.size + 1) #[.int .i64 0, .int .i64 0] 96) mixed (by kernel_rfl) rfl ⟨(Rex.refl _ _).drew, b1, b2⟩ (fun w w' ⟨h0, h1, h2⟩ hr => ⟨h0.trans hr, h1.rex hr (by simp <;> omega), h2.rex hr (by simp <;> omega)⟩) (fun c a d v w h => by cases d <;> exact h) ?_
  iterate 9
    apply nd_det (hg := rfl) (hal := rfl)
    · intro a W' hC hE
      obtain ⟨_, k1, k2⟩ := hC
      have k1 := k1.cell
      first
        | (simp [Oper.looksAt, Op.operands, Call.operands, envOf, Det] at hE; simp [go_sem, Act.eval, IntWalk.i64_left, hE, k1, k2, hg, e1, e2]; try rfl)
        | (clear hE; simp [go_sem, Act.eval, IntWalk.i64_left, k1, k2, hg, e1, e2]; try rfl)
  rintro W2 ⟨hR, c1, c2⟩
  simp only [ndFinR, Det, forall_eq]
  intros
  repeat (rename GDet _ _ _ _ => hgd; clear hgd)
  simp only [Act.put, List.setIfInBounds_toArray, List.set_cons_zero, List.set_cons_succ, List.drop_succ_cons, List.drop_zero]
  have k2 := c2.cell
  have k3 := c2.frozen
  go_wp2
  refine bodyPost_ret (v := .agg #[.int .i64 x, .int .i64 y]) (by simp [results, Tryz.results214, go_sem, k2, k3]) rfl ⟨rfl, ?_⟩
  exact (have hUp := (hW.trans (hR.of_priv hW.size)); belowAny)

/-- The greatest common divisor, as a number. -/
def gcdI (n d : Int) : Int := (Nat.gcd n.natAbs d.natAbs : Int)
theorem gcdI_pos (n : Int) {d : Int} (hd : 1 ≤ d) : 1 ≤ gcdI n d := by
  unfold gcdI
  have : 0 < Nat.gcd n.natAbs d.natAbs := Nat.gcd_pos_of_pos_right _ (by omega)
  omega
theorem tdiv_small (n g : Int) (hn : I64 n) (hg : 1 ≤ g) : wrap64 (n.tdiv g) = n.tdiv g := by
  have h : (n.tdiv g).natAbs ≤ n.natAbs := by rw [Int.natAbs_tdiv]; exact Nat.div_le_self _ _
  obtain ⟨h1, h2⟩ := hn
  rcases Int.lt_or_le n 0 with h0 | h0
  · have : n.tdiv g ≤ 0 := by
      have := Int.tdiv_nonneg (a := -n) (b := g) (by omega) (by omega)
      rw [Int.neg_tdiv] at this; omega
    rw [wrap64_eq]; omega
  · have : 0 ≤ n.tdiv g := Int.tdiv_nonneg h0 (by omega)
    rw [wrap64_eq]; omega

theorem c_lowest (n d : Int) (w : World) (hn : -9223372036854775807 ≤ n ∧ n ≤ 9223372036854775807) (hd : 1 ≤ d) (hd' : d ≤ 9223372036854775807) :
    Calls Tryz.prog 214 #[.agg #[.int .i64 n, .int .i64 d]] w fun e w' => e = .returned (.agg #[.int .i64 (n.tdiv (gcdI n d)), .int .i64 (d.tdiv (gcdI n d))]) ∧ Below w.heap.size w w' := by
  have hg := gcdI_pos n hd
  exact lowest_w n d (gcdI n d) _ _ w (by omega) (tdiv_small n _ ⟨by omega, hn.2⟩ hg) (tdiv_small d _ ⟨by omega, hd'⟩ hg) (fun w => c_divisor n d w hn ⟨by omega, hd'⟩)

theorem lowest_same (n d : Int) (hd : 1 ≤ d) : (n.tdiv (gcdI n d) = n ∧ d.tdiv (gcdI n d) = d) ↔ gcdI n d = 1 := by
  constructor
  · rintro ⟨_, h⟩
    have hg := gcdI_pos n hd
    rw [Int.tdiv_eq_ediv_of_nonneg (by omega)] at h
    rcases Int.lt_or_le 1 (gcdI n d) with k | k
    · have := Int.ediv_lt_self_of_pos_of_ne_one (x := d) (y := gcdI n d) (by omega) (by omega)
      omega
    · omega
  · intro h; rw [h]; simp

def isLine (A R n d : Int) : Bool := isBack A && isSlope n d && decide (gcdI n d = 1) && decide (0 ≤ R) && decide (R < d)
theorem isSlope_bd {n d : Int} (h : isSlope n d = true) : (-4611688217450643456 ≤ n ∧ n ≤ 4611688217450643456) ∧ 1 ≤ d ∧ d ≤ 281474976710656 := by
  unfold isSlope at h; simp at h; omega

theorem ite_eq2 {x n y d : Int} {w : World} : (if x = n then (if y = d then (Result.ok (Next.value (Value.bool true)) w : Result Next) else Result.ok (Next.value (Value.bool false)) w) else Result.ok (Next.value (Value.bool false)) w) = Result.ok (Next.value (Value.bool (decide (x = n) && decide (y = d)))) w := by
  by_cases h1 : x = n <;> by_cases h2 : y = d <;> simp [h1, h2]

theorem isLine_eq (A R n d : Int) : isLine A R n d = (isBack A && isSlope n d && (decide (n.tdiv (gcdI n d) = n) && decide (d.tdiv (gcdI n d) = d)) && decide (0 ≤ R) && decide (R < d)) := by
  unfold isLine
  cases h : isSlope n d with
  | false => simp
  | true =>
    have := isSlope_bd h
    have e : (decide (n.tdiv (gcdI n d) = n) && decide (d.tdiv (gcdI n d) = d)) = decide (gcdI n d = 1) := by
      rw [← Bool.decide_and, decide_eq_decide]; exact lowest_same n d this.2.1
    rw [e]

set_option maxRecDepth 100000 in
set_option maxHeartbeats 1000000 in
theorem c_is (A R n d : Int) (w : World) :
    Calls Tryz.prog 227 #[.agg #[.int .i64 A, .int .i64 R, .int .i64 n, .int .i64 d]] w fun e w' => e = .returned (.bool (isLine A R n d)) ∧ Below w.heap.size w w' := by
  rw [isLine_eq]
  go_enter Tryz.func227, Tryz.ntmps227
  go_wp2_with fail
  refine (c_slope A R n d _).mono ?_
  rintro e w1 ⟨rfl, hb1⟩
  obtain ⟨hc1, hf1⟩ := bcell hb1
  have hz1 := hb1.size
  simp at hz1
  go_upto_region 2 with (fail)
  refine wp_facts (fun W => Below w.heap.size w W ∧ Blk W w.heap.size #[.int .i64 A, .int .i64 R, .int .i64 n, .int .i64 d] 315 ∧ Blk W w1.heap.size #[.int .i64 n, .int .i64 d] 96) ⟨?_, ?_, (by repeat (first | (refine Blk.new' ?_; simp; done) | refine Blk.alloc ?_ _))⟩ ?_
  · exact (have hUp := ((((Below.refl w.heap.size w).alloc (Nat.le_refl _) _)).trans (hb1.mono (by simp))); belowAny)
  · exact Blk.alloc ((hb1.block w.heap.size (by simp)).trans (Blk.new' rfl)) _
  clear hc1 hf1 hb1
  rintro W ⟨hW, b1, b2⟩
  refine wp_region_nd 30 35 [] (fun W' => Rex [] W W' ∧ Blk W' w.heap.size #[.int .i64 A, .int .i64 R, .int .i64 n, .int .i64 d] 315 ∧ Blk W' w1.heap.size #[.int .i64 n, .int .i64 d] 96) mixed (by kernel_rfl) rfl ⟨(Rex.refl _ _).drew, b1, b2⟩ (fun w w' ⟨h0, h1, h2⟩ hr => ⟨h0.trans hr, h1.rex hr (by simp <;> omega), h2.rex hr (by simp <;> omega)⟩) (fun c a d v w h => by cases d <;> exact h) ?_
  iterate 3
    apply nd_det (hg := rfl) (hal := rfl)
    · intro a W' hC hE
      obtain ⟨_, k1, k2⟩ := hC
      have k1 := k1.cell
      have k2 := k2.cell
      first
        | (simp [Oper.looksAt, Op.operands, Call.operands, envOf, Det] at hE; simp [go_sem, Act.eval, IntWalk.i64_left, hE, k1, k2, ite_eq2]; try rfl)
        | (clear hE; simp [go_sem, Act.eval, IntWalk.i64_left, k1, k2, ite_eq2]; try rfl)
  refine nd_callv2 rfl rfl (fun W' hC => c_back A W') (fun a W' hC hE => ?_) ?_
  · obtain ⟨_, k1, k2⟩ := hC
    have k1 := k1.cell
    have k2 := k2.cell
    first
      | (simp [Oper.looksAt, Op.operands, Call.operands, envOf, Det] at hE; simp [go_sem, Act.eval, IntWalk.i64_left, hE, k1, k2, ite_eq2]; try rfl)
      | (clear hE; simp [go_sem, Act.eval, IntWalk.i64_left, k1, k2, ite_eq2]; try rfl)
  iterate 1
    apply nd_det (hg := rfl) (hal := rfl)
    · intro a W' hC hE
      obtain ⟨_, k1, k2⟩ := hC
      have k1 := k1.cell
      have k2 := k2.cell
      first
        | (simp [Oper.looksAt, Op.operands, Call.operands, envOf, Det] at hE; simp [go_sem, Act.eval, IntWalk.i64_left, hE, k1, k2, ite_eq2]; try rfl)
        | (clear hE; simp [go_sem, Act.eval, IntWalk.i64_left, k1, k2, ite_eq2]; try rfl)
  iterate 1
    apply nd_detg (p := true) (hg := rfl) (hd := rfl) (hal := rfl)
    · intro v W' h
      simp [envOf, Det, GDet] at h
      simp
      exact h
    · intro hp hx a W' hC hE
      obtain ⟨_, k1, k2⟩ := hC
      have k1 := k1.cell
      have k2 := k2.cell
      simp [Oper.looksAt, Op.operands, Call.operands, envOf, Det, GDet, hx] at hE
      simp [go_sem, Act.eval, IntWalk.i64_left, hE, k1, k2, ite_eq2]
      try rfl
  apply nd_callvg2 (p := true) (hg := rfl) (hd := rfl) (hal := rfl)
  · intro v W' h
    simp [envOf, Det] at h
    simp
    exact h
  · intro hp hx W' hC
    exact c_slopeIs n d W'
  · intro hp hx a W' hC hE
    obtain ⟨_, k1, k2⟩ := hC
    have k1 := k1.cell
    have k2 := k2.cell
    first
      | (simp [Oper.looksAt, Op.operands, Call.operands, envOf, Det, GDet, hx] at hE; simp [go_sem, Act.eval, IntWalk.i64_left, hE, k1, k2, ite_eq2]; try rfl)
      | (clear hE; simp [go_sem, Act.eval, IntWalk.i64_left, k1, k2, ite_eq2]; try rfl)
  apply nd_pick_and (ho := rfl) (hg := rfl)
  · intro v W' h
    simp [envOf, Det] at h
    exact h
  · intro v W' h hx
    simp [envOf, GDet, hx] at h
    exact h
  iterate 1
    apply nd_det (hg := rfl) (hal := rfl)
    · intro a W' hC hE
      obtain ⟨_, k1, k2⟩ := hC
      have k1 := k1.cell
      have k2 := k2.cell
      first
        | (simp [Oper.looksAt, Op.operands, Call.operands, envOf, Det] at hE; simp [go_sem, Act.eval, IntWalk.i64_left, hE, k1, k2, ite_eq2]; try rfl)
        | (clear hE; simp [go_sem, Act.eval, IntWalk.i64_left, k1, k2, ite_eq2]; try rfl)
  iterate 1
    apply nd_detg (p := true) (hg := rfl) (hd := rfl) (hal := rfl)
    · intro v W' h
      simp [envOf, Det, GDet] at h
      simp
      exact h
    · intro hp hx a W' hC hE
      obtain ⟨_, k1, k2⟩ := hC
      have k1 := k1.cell
      have k2 := k2.cell
      simp [Oper.looksAt, Op.operands, Call.operands, envOf, Det, GDet, hx] at hE
      simp [go_sem, Act.eval, IntWalk.i64_left, hE, k1, k2, ite_eq2]
      try rfl
  apply nd_callvg2 (p := true) (hg := rfl) (hd := rfl) (hal := rfl)
  · intro v W' h
    simp [envOf, Det] at h
    simp
    exact h
  · intro hp hx W' hC
    exact (let q := isSlope_bd (show isSlope n d = true by simp at hx; exact hx.2); c_lowest n d W' ⟨by have := q.1; omega, by have := q.1; omega⟩ q.2.1 (by have := q.2.2; omega))
  · intro hp hx a W' hC hE
    obtain ⟨_, k1, k2⟩ := hC
    have k1 := k1.cell
    have k2 := k2.cell
    first
      | (simp [Oper.looksAt, Op.operands, Call.operands, envOf, Det, GDet, hx] at hE; simp [go_sem, Act.eval, IntWalk.i64_left, hE, k1, k2, ite_eq2]; try rfl)
      | (clear hE; simp [go_sem, Act.eval, IntWalk.i64_left, k1, k2, ite_eq2]; try rfl)
  iterate 2
    apply nd_detg (p := true) (hg := rfl) (hd := rfl) (hal := rfl)
    · intro v W' h
      simp [envOf, Det, GDet] at h
      simp
      exact h
    · intro hp hx a W' hC hE
      obtain ⟨_, k1, k2⟩ := hC
      have k1 := k1.cell
      have k2 := k2.cell
      simp [Oper.looksAt, Op.operands, Call.operands, envOf, Det, GDet, hx] at hE
      simp [go_sem, Act.eval, IntWalk.i64_left, hE, k1, k2, ite_eq2]
      try rfl
  apply nd_pick_and (ho := rfl) (hg := rfl)
  · intro v W' h
    simp [envOf, Det] at h
    exact h
  · intro v W' h hx
    simp [envOf, GDet, hx] at h
    exact h
  iterate 1
    apply nd_det (hg := rfl) (hal := rfl)
    · intro a W' hC hE
      obtain ⟨_, k1, k2⟩ := hC
      have k1 := k1.cell
      have k2 := k2.cell
      first
        | (simp [Oper.looksAt, Op.operands, Call.operands, envOf, Det] at hE; simp [go_sem, Act.eval, IntWalk.i64_left, hE, k1, k2, ite_eq2]; try rfl)
        | (clear hE; simp [go_sem, Act.eval, IntWalk.i64_left, k1, k2, ite_eq2]; try rfl)
  iterate 4
    apply nd_detg (p := true) (hg := rfl) (hd := rfl) (hal := rfl)
    · intro v W' h
      simp [envOf, Det, GDet] at h
      simp
      exact h
    · intro hp hx a W' hC hE
      obtain ⟨_, k1, k2⟩ := hC
      have k1 := k1.cell
      have k2 := k2.cell
      simp [Oper.looksAt, Op.operands, Call.operands, envOf, Det, GDet, hx] at hE
      simp [go_sem, Act.eval, IntWalk.i64_left, hE, k1, k2, ite_eq2]
      try rfl
  apply nd_pick_and (ho := rfl) (hg := rfl)
  · intro v W' h
    simp [envOf, Det] at h
    exact h
  · intro v W' h hx
    simp [envOf, GDet, hx] at h
    exact h
  iterate 1
    apply nd_det (hg := rfl) (hal := rfl)
    · intro a W' hC hE
      obtain ⟨_, k1, k2⟩ := hC
      have k1 := k1.cell
      have k2 := k2.cell
      first
        | (simp [Oper.looksAt, Op.operands, Call.operands, envOf, Det] at hE; simp [go_sem, Act.eval, IntWalk.i64_left, hE, k1, k2, ite_eq2]; try rfl)
        | (clear hE; simp [go_sem, Act.eval, IntWalk.i64_left, k1, k2, ite_eq2]; try rfl)
  iterate 7
    apply nd_detg (p := true) (hg := rfl) (hd := rfl) (hal := rfl)
    · intro v W' h
      simp [envOf, Det, GDet] at h
      simp
      exact h
    · intro hp hx a W' hC hE
      obtain ⟨_, k1, k2⟩ := hC
      have k1 := k1.cell
      have k2 := k2.cell
      simp [Oper.looksAt, Op.operands, Call.operands, envOf, Det, GDet, hx] at hE
      simp [go_sem, Act.eval, IntWalk.i64_left, hE, k1, k2, ite_eq2]
      try rfl
  apply nd_pick_and (ho := rfl) (hg := rfl)
  · intro v W' h
    simp [envOf, Det] at h
    exact h
  · intro v W' h hx
    simp [envOf, GDet, hx] at h
    exact h
  iterate 1
    apply nd_det (hg := rfl) (hal := rfl)
    · intro a W' hC hE
      obtain ⟨_, k1, k2⟩ := hC
      have k1 := k1.cell
      have k2 := k2.cell
      first
        | (simp [Oper.looksAt, Op.operands, Call.operands, envOf, Det] at hE; simp [go_sem, Act.eval, IntWalk.i64_left, hE, k1, k2, ite_eq2]; try rfl)
        | (clear hE; simp [go_sem, Act.eval, IntWalk.i64_left, k1, k2, ite_eq2]; try rfl)
  rintro W2 ⟨hR, c1, c2⟩
  simp only [ndFinR, Det, forall_eq]
  intros
  repeat (rename GDet _ _ _ _ => hgd; clear hgd)
  simp only [Act.put, List.setIfInBounds_toArray, List.set_cons_zero, List.set_cons_succ]
  refine wpList_nil ?_
  go_wp2
  go_ret
  exact ⟨rfl, hW.trans (hR.of_priv hW.size)⟩
end Go.Proofs.YtbanjolokkghdaaGreatDoor
