/- Parts of the proof that follows: Reference 25: Sheet. No condition but that there is one at least, that they are few and in their bounds. | Reference 25: Mixed, Mean, Sum walked. No condition but bounds. | Reference 25: Back, Sheet, Mean, Sum of what is told, plainly. No condition but bounds. | The laws of chapter 25: AnswerParted's walks. No condition. | The laws of chapter 25: AnswerParted, at every series. No condition. -/
import Derived.Test.YtidfcoooccblaaaGreatSheets17
set_option maxRecDepth 100000
set_option maxHeartbeats 8000000
set_option linter.unusedSimpArgs false
set_option linter.unusedVariables false
namespace Go.Proofs.YtidfcoooccblaaaGreat
open Go.RowKit
structure Since (w W : World) : Prop where
 b : Below w.heap.size w W
theorem Since.on {w W W' : World} (h : Since w W) (hb : Below W.heap.size W W') : Since w W' := ⟨h.b.trans (hb.mono h.b.size)⟩
theorem Since.set {w W : World} (h : Since w W) {g i : Nat} (hg : w.heap.size <= g) (v : Value) : Since w (W.setCell ⟨g, i, none⟩ v) := ⟨h.b.setCell hg v⟩
theorem refSheet_w (p : Option Addr) (n cap : Nat) (a b c d S T : Int) (w : World) (hS1 : -((2 ^ 127 : Nat) : Int) <= S) (hS2 : S < ((2 ^ 127 : Nat) : Int)) (hT1 : -((2 ^ 127 : Nat) : Int) <= T) (hT2 : T < ((2 ^ 127 : Nat) : Int))
  (c1 : ∀ W, Below w.heap.size w W -> Calls Tryz.prog 63 #[.slice p n cap] W fun e w' => ∃ p1 k1 p2 k2, e = .returned (.tuple #[.slice p1 n k1, .slice p2 n k2]) /\ Below W.heap.size W w' /\
   (∀ W2, Since w' W2 -> Calls Tryz.prog 64 #[.slice p1 n k1] W2 fun e w3 => e = .returned (.tuple #[a, c]) /\ Below W2.heap.size W2 w3) /\
   (∀ W2, Since w' W2 -> Calls Tryz.prog 64 #[.slice p2 n k2] W2 fun e w3 => e = .returned (.tuple #[b, d]) /\ Below W2.heap.size W2 w3) /\
   (∀ W2, Since w' W2 -> Calls Tryz.prog 66 #[.slice p1 n k1] W2 fun e w3 => ∃ v, e = .returned v /\ NumIs w3 v S /\ Below W2.heap.size W2 w3) /\
   (∀ W2, Since w' W2 -> Calls Tryz.prog 66 #[.slice p2 n k2] W2 fun e w3 => ∃ v, e = .returned v /\ NumIs w3 v T /\ Below W2.heap.size W2 w3)) :
  Calls Tryz.prog 22 #[.slice p n cap] w fun e w' => e = .returned (.agg #[.int .i64 (n : Int), a, b, c, d, .int .i64 (S / 18446744073709551616), .int .u64 (S % 18446744073709551616), .int .i64 (T / 18446744073709551616), .int .u64 (T % 18446744073709551616)]) /\ Below w.heap.size w w' := by
 replace hS1 := Lib.hid hS1
 replace hS2 := Lib.hid hS2
 replace hT1 := Lib.hid hT1
 replace hT2 := Lib.hid hT2
 have H_c1 := Lib.hid c1
 clear c1
 go_enter Tryz.func22, Tryz.ntmps22
 have c1 := H_c1.out
 go_wp2_with fail
 refine (c1 _ belowAny).mono ?_
 rintro e w1 ⟨p1, k1', p2, k2', rfl, hb1, c2, c3, c4, c5⟩
 have z2 := hb1.size
 try simp at z2
 have b1 : Blk w1 w.heap.size #[.int .i64 0, .int .i64 0, .int .i64 0, .int .i64 0, .int .i64 0, .int .i64 0, .int .u64 0, .int .i64 0, .int .u64 0] 38 := blkAny2
 have hW : Below w.heap.size w w1 := belowAny
 have z3 := b1.lt
 have k1 := b1.cell
 have f1 := b1.frozen
 clear c1 H_c1
 replace c2 := Lib.hid c2
 replace c3 := Lib.hid c3
 replace c4 := Lib.hid c4
 replace c5 := Lib.hid c5
 have b2 : Since w1 w1 := ⟨Below.refl _ _⟩
 go_wp2_with fail
 refine (c2.out w1 b2).mono ?_
 rintro e w4 ⟨rfl, hb4⟩
 have z5 := hb4.size
 try simp at z5
 clear k1 f1
 have b1 : Blk w4 w.heap.size #[.int .i64 0, .int .i64 0, .int .i64 0, .int .i64 0, .int .i64 0, .int .i64 0, .int .u64 0, .int .i64 0, .int .u64 0] 38 := blkAny2
 have b2 : Since w1 w4 := by first | exact b2 | exact b2.on hb4 | exact b2.set (by omega) _ | exact (b2.set (by omega) _).set (by omega) _ | exact b2.on belowAny
 have hW : Below w.heap.size w w4 := belowAny
 have z6 := b1.lt
 clear hb4
 have k1 := b1.cell
 have f1 := b1.frozen
 go_wp2_with fail
 refine (c3.out w4 b2).mono ?_
 rintro e w7 ⟨rfl, hb7⟩
 have z8 := hb7.size
 try simp at z8
 clear k1 f1
 have b1 : Blk w7 w.heap.size #[.int .i64 0, .int .i64 0, .int .i64 0, .int .i64 0, .int .i64 0, .int .i64 0, .int .u64 0, .int .i64 0, .int .u64 0] 38 := blkAny2
 have b2 : Since w1 w7 := by first | exact b2 | exact b2.on hb7 | exact b2.set (by omega) _ | exact (b2.set (by omega) _).set (by omega) _ | exact b2.on belowAny
 have hW : Below w.heap.size w w7 := belowAny
 have z9 := b1.lt
 clear hb7
 have k1 := b1.cell
 have f1 := b1.frozen
 go_upto_region 5 with (fail)
 clear k1 f1
 refine wp_facts (fun W' => Below w.heap.size w W' /\ Blk W' w.heap.size #[.int .i64 0, .int .i64 0, .int .i64 0, .int .i64 0, .int .i64 0, .int .i64 0, .int .u64 0, .int .i64 0, .int .u64 0] 38 /\ Since w1 W' /\ Blk W' w7.heap.size #[.int .i64 (n : Int), a, b, c, d, .int .i64 0, .int .u64 0, .int .i64 0, .int .u64 0] 38) ⟨by exact belowAny, by exact blkAny2, by first | exact b2 | exact b2.on hW | exact b2.set (by omega) _ | exact (b2.set (by omega) _).set (by omega) _ | exact b2.on belowAny, by exact blkAny2⟩ ?_
 clear b1 b2 hW
 rintro W10 ⟨hW, b1, b2, b3⟩
 have z11 := hW.size
 have z12 := b1.lt
 have z13 := b3.lt
 have k1 := b1.cell
 have f1 := b1.frozen
 have k3 := b3.cell
 have f3 := b3.frozen
 go_wp2_with fail
 refine (c4.out W10 b2).mono ?_
 rintro e w14 ⟨v3, rfl, hN, hb14⟩
 have z15 := hb14.size
 try simp at z15
 clear k1 f1 k3 f3
 have b1 : Blk w14 w.heap.size #[.int .i64 0, .int .i64 0, .int .i64 0, .int .i64 0, .int .i64 0, .int .i64 0, .int .u64 0, .int .i64 0, .int .u64 0] 38 := blkAny2
 have b2 : Since w1 w14 := by first | exact b2 | exact b2.on hb14 | exact b2.set (by omega) _ | exact (b2.set (by omega) _).set (by omega) _ | exact b2.on belowAny
 have b3 : Blk w14 w7.heap.size #[.int .i64 (n : Int), a, b, c, d, .int .i64 0, .int .u64 0, .int .i64 0, .int .u64 0] 38 := blkAny2
 have hW : Below w.heap.size w w14 := belowAny
 have z16 := b1.lt
 have z17 := b3.lt
 have k1 := b1.cell
 have f1 := b1.frozen
 have k3 := b3.cell
 have f3 := b3.frozen
 replace hN := Lib.hid hN
 go_wp2_with fail
 refine (c_refWide v3 S w14 hN.out hS1.out hS2.out).mono ?_
 rintro e w18 ⟨rfl, hb18⟩
 have z19 := hb18.size
 try simp at z19
 clear k1 f1 k3 f3
 have b1 : Blk w18 w.heap.size #[.int .i64 0, .int .i64 0, .int .i64 0, .int .i64 0, .int .i64 0, .int .i64 0, .int .u64 0, .int .i64 0, .int .u64 0] 38 := blkAny2
 have b2 : Since w1 w18 := by first | exact b2 | exact b2.on hb18 | exact b2.set (by omega) _ | exact (b2.set (by omega) _).set (by omega) _ | exact b2.on belowAny
 have b3 : Blk w18 w7.heap.size #[.int .i64 (n : Int), a, b, c, d, .int .i64 0, .int .u64 0, .int .i64 0, .int .u64 0] 38 := blkAny2
 have hW : Below w.heap.size w w18 := belowAny
 have z20 := b1.lt
 have z21 := b3.lt
 clear hb18
 have k1 := b1.cell
 have f1 := b1.frozen
 have k3 := b3.cell
 have f3 := b3.frozen
 go_upto_region 6 with (fail)
 clear k1 f1 k3 f3
 refine wp_facts (fun W' => Below w.heap.size w W' /\ Blk W' w.heap.size #[.int .i64 0, .int .i64 0, .int .i64 0, .int .i64 0, .int .i64 0, .int .i64 0, .int .u64 0, .int .i64 0, .int .u64 0] 38 /\ Since w1 W' /\ Blk W' w7.heap.size #[.int .i64 (n : Int), a, b, c, d, .int .i64 (S / 18446744073709551616), .int .u64 (S % 18446744073709551616), .int .i64 0, .int .u64 0] 38) ⟨by exact belowAny, by exact blkAny2, by first | exact b2 | exact b2.on hW | exact b2.set (by omega) _ | exact (b2.set (by omega) _).set (by omega) _ | exact b2.on belowAny, by exact blkAny2⟩ ?_
 clear b1 b2 b3 hW
 rintro W22 ⟨hW, b1, b2, b3⟩
 have z23 := hW.size
 have z24 := b1.lt
 have z25 := b3.lt
 have k1 := b1.cell
 have f1 := b1.frozen
 have k3 := b3.cell
 have f3 := b3.frozen
 go_wp2_with fail
 refine (c5.out W22 b2).mono ?_
 rintro e w26 ⟨v4, rfl, hN2, hb26⟩
 have z27 := hb26.size
 try simp at z27
 clear k1 f1 k3 f3
 have b1 : Blk w26 w.heap.size #[.int .i64 0, .int .i64 0, .int .i64 0, .int .i64 0, .int .i64 0, .int .i64 0, .int .u64 0, .int .i64 0, .int .u64 0] 38 := blkAny2
 have b2 : Since w1 w26 := by first | exact b2 | exact b2.on hb26 | exact b2.set (by omega) _ | exact (b2.set (by omega) _).set (by omega) _ | exact b2.on belowAny
 have b3 : Blk w26 w7.heap.size #[.int .i64 (n : Int), a, b, c, d, .int .i64 (S / 18446744073709551616), .int .u64 (S % 18446744073709551616), .int .i64 0, .int .u64 0] 38 := blkAny2
 have hW : Below w.heap.size w w26 := belowAny
 have z28 := b1.lt
 have z29 := b3.lt
 have k1 := b1.cell
 have f1 := b1.frozen
 have k3 := b3.cell
 have f3 := b3.frozen
 replace hN2 := Lib.hid hN2
 go_wp2_with fail
 refine (c_refWide v4 T w26 hN2.out hT1.out hT2.out).mono ?_
 rintro e w30 ⟨rfl, hb30⟩
 have z31 := hb30.size
 try simp at z31
 clear k1 f1 k3 f3
 have b1 : Blk w30 w.heap.size #[.int .i64 0, .int .i64 0, .int .i64 0, .int .i64 0, .int .i64 0, .int .i64 0, .int .u64 0, .int .i64 0, .int .u64 0] 38 := blkAny2
 have b2 : Since w1 w30 := by first | exact b2 | exact b2.on hb30 | exact b2.set (by omega) _ | exact (b2.set (by omega) _).set (by omega) _ | exact b2.on belowAny
 have b3 : Blk w30 w7.heap.size #[.int .i64 (n : Int), a, b, c, d, .int .i64 (S / 18446744073709551616), .int .u64 (S % 18446744073709551616), .int .i64 0, .int .u64 0] 38 := blkAny2
 have hW : Below w.heap.size w w30 := belowAny
 have z32 := b1.lt
 have z33 := b3.lt
 clear hb30
 have k1 := b1.cell
 have f1 := b1.frozen
 have k3 := b3.cell
 have f3 := b3.frozen
 go_upto_region 7 with (fail)
 clear k1 f1 k3 f3
 refine wp_facts (fun W' => Below w.heap.size w W' /\ Blk W' w.heap.size #[.int .i64 0, .int .i64 0, .int .i64 0, .int .i64 0, .int .i64 0, .int .i64 0, .int .u64 0, .int .i64 0, .int .u64 0] 38 /\ Since w1 W' /\ Blk W' w7.heap.size #[.int .i64 (n : Int), a, b, c, d, .int .i64 (S / 18446744073709551616), .int .u64 (S % 18446744073709551616), .int .i64 (T / 18446744073709551616), .int .u64 (T % 18446744073709551616)] 38) ⟨by exact belowAny, by exact blkAny2, by first | exact b2 | exact b2.on hW | exact b2.set (by omega) _ | exact (b2.set (by omega) _).set (by omega) _ | exact b2.on belowAny, by exact blkAny2⟩ ?_
 clear b1 b2 b3 hW
 rintro W34 ⟨hW, b1, b2, b3⟩
 have z35 := hW.size
 have z36 := b1.lt
 have z37 := b3.lt
 have k1 := b1.cell
 have f1 := b1.frozen
 have k3 := b3.cell
 have f3 := b3.frozen
 go_wp2
 have y_1 := b1.lt
 have y_3 := b3.lt
 refine bodyPost_ret (v := .agg #[.int .i64 (n : Int), a, b, c, d, .int .i64 (S / 18446744073709551616), .int .u64 (S % 18446744073709551616), .int .i64 (T / 18446744073709551616), .int .u64 (T % 18446744073709551616)]) (by simp [results, Tryz.results22, go_sem, k1, f1, k3, f3, y_1, y_3]) rfl ⟨rfl, by exact belowAny⟩
attribute [local simp] Oper.looksAt Op.operands Call.operands envOf Det GDet
theorem mixed_w (X d : Int) (ps : Option Addr) (ls cs : Nat) (w : World) (hd : -9223372036854775808 <= d /\ d <= 9223372036854775807) (hX : X.natAbs < 2 ^ 800) (hd0 : 0 < d) (hd8 : d.natAbs < 2 ^ 800)
  (hQ : -9223372036854775808 <= X / d /\ X / d < 9223372036854775808) (hM : -9223372036854775808 <= X % d /\ X % d < 9223372036854775808) (hb0 : Bits w (.slice ps ls cs) X.natAbs) :
  Calls Tryz.prog 67 #[.agg #[.bool (decide (X < 0)), .slice ps ls cs], .int .i64 d] w fun e w' => e = .returned (.agg #[.int .i64 (X / d), .int .i64 (X % d)]) /\ Below w.heap.size w w' := by
 go_enter Tryz.func67, Tryz.ntmps67
 go_upto_region 1 with (fail)
 refine wp_facts (fun W' => Below w.heap.size w W' /\ Blk W' w.heap.size #[.bool (decide (X < 0)), .slice ps ls cs] 132 /\ Blk W' (w.heap.size + 1) #[.int .i64 0, .int .i64 0] 47 /\ Bits W' (.slice ps ls cs) X.natAbs) ⟨by exact belowAny, by exact blkAny2, by exact blkAny2, by first | exact (hb0.alloc _).alloc _ | exact hb0.below belowAny⟩ ?_
 rintro W1 ⟨hW, b1, b2, b3⟩
 have z2 := hW.size
 have z3 := b1.lt
 have z4 := b2.lt
 refine wp_region_ndA 9 31 [] (fun W' => Rex [] W1 W' /\ Blk W' w.heap.size #[.bool (decide (X < 0)), .slice ps ls cs] 132 /\ Blk W' (w.heap.size + 1) #[.int .i64 0, .int .i64 0] 47 /\ Bits W' (.slice ps ls cs) X.natAbs) mixed (by kernel_rfl) rfl ⟨(Rex.refl _ _).drew, b1, b2, b3.drew⟩ (fun w w' ⟨h0, h1, h2, h3⟩ hr => ⟨h0.trans hr, h1.rex hr (by simp <;> omega), h2.rex hr (by simp <;> omega), h3.rex hr (by simp <;> omega)⟩) (fun c a d v w h => by cases d <;> exact h) ?_
 iterate 2
  apply nd_det (hg := rfl) (hal := rfl)
  ·intro a W' hC hE
   obtain ⟨_, k1, k2, k3⟩ := hC
   have k1 := k1.cell
   first
    | (simp at hE; simp [go_sem, Act.eval, IntWalk.i64_left, hE, k1, k2, k3]; try rfl)
    | (clear hE; simp [go_sem, Act.eval, IntWalk.i64_left, k1, k2, k3]; try rfl)
 apply nd_call (NI d) (hg := rfl) (hal := rfl)
 ·exact NI.closed _
 ·intro a W' hC hE
  simp at hE
  refine ⟨_, _, ?_, (c_refInt d W' hd.1 hd.2).mono ?_⟩
  ·simp [go_sem, Act.eval, hE]
   try rfl
  ·rintro e w' ⟨v, rfl, hB, hR⟩
   exact ⟨_, rfl, hR, hB⟩
 apply nd_call (DV X d) (hg := rfl) (hal := rfl)
 ·exact DV.closed _ _
 ·intro a W' hC hE
  simp at hE
  refine ⟨_, _, ?_, (c_refDiv (.agg #[.bool (decide (X < 0)), .slice ps ls cs]) _ X d W' ⟨_, rfl, hC.2.2.2⟩ hE.2 hX hd0 hd8).mono ?_⟩
  ·simp [go_sem, Act.eval, hE.1]
   try rfl
  ·rintro e w' ⟨v1, v2, rfl, h1, h2, hR⟩
   exact ⟨_, rfl, hR, v1, v2, rfl, h1, h2⟩
 apply nd_spec (DV X d) (hg := rfl) (hal := rfl)
 ·exact DV.closed _ _
 ·intro a W' hC hE
  simp at hE
  refine ⟨_, ?_, hE⟩
  simp [go_sem, Act.eval]
 apply nd_spec (NI (X / d)) (hg := rfl) (hal := rfl)
 ·exact NI.closed _
 ·intro a W' hC hE
  simp at hE
  obtain ⟨v1, v2, h0, h1, h2⟩ := hE
  refine ⟨v1, ?_, h1⟩
  simp [go_sem, Act.eval, h0]
 apply nd_spec (NI (X % d)) (hg := rfl) (hal := rfl)
 ·exact NI.closed _
 ·intro a W' hC hE
  simp at hE
  obtain ⟨v1, v2, h0, h1, h2⟩ := hE
  refine ⟨v2, ?_, h2⟩
  simp [go_sem, Act.eval, h0]
 apply nd_alloc W1.heap.size #[.bool false, .slice none 0 0] 132 rfl rfl
 ·exact fun W' hC => hC.1.size
 ·simp [others] <;> omega
 ·intro w; kernel_rfl
 apply nd_alloc W1.heap.size #[.bool false, .slice none 0 0] 132 rfl rfl
 ·exact fun W' hC => hC.1.size
 ·simp [others] <;> omega
 ·intro w; kernel_rfl
 rintro W2 ⟨hR, d1, d2, d3⟩
 simp only [ndFinR, Det, forall_eq]
 intros
 repeat (rename GDet _ _ _ _ => hgd; clear hgd)
 simp only [Act.put, List.setIfInBounds_toArray, List.set_cons_zero, List.set_cons_succ, List.drop_succ_cons, List.drop_zero]
 clear b1 b2 b3 d1 d3
 have b1 := d2
 clear d2
 replace hW := hW.trans (hR.of_priv hW.size)
 clear hR
 rename AllocApart _ _ => hap
 rename NewVar _ _ _ _ _ => hn6
 obtain ⟨o6, rfl, hg6, b3⟩ := hn6
 rename NewVar _ _ _ _ _ => hn5
 obtain ⟨o5, rfl, hg5, b2⟩ := hn5
 have hne : o5 ≠ o6 := fun e => hap 5 6 (by simp [allocDsts, isAlloc]) (by simp [allocDsts, isAlloc]) (by decide) ⟨o5, 0, none⟩ (by simp [Act.put]) (by simp [Act.put, e])
 clear hap
 rename NI (X / d) _ _ => hi1
 rename NI (X % d) _ _ => hi2
 obtain ⟨p1, l1, k1', rfl, hq1⟩ := num_shape hi1
 obtain ⟨p2, l2, k2', rfl, hq2⟩ := num_shape hi2
 clear hi1 hi2
 have hS1 := Lib.hid ((hq1.store b2 (.bool (decide (X / d < 0))) (.slice p1 l1 k1')).store (show Blk _ o6 #[.bool false, .slice none 0 0] 132 from (b3.setO (by omega) 0 _).setO (by omega) 1 _) (.bool (decide (X % d < 0))) (.slice p2 l2 k2'))
 have hS2 := Lib.hid ((hq2.store b2 (.bool (decide (X / d < 0))) (.slice p1 l1 k1')).store (show Blk _ o6 #[.bool false, .slice none 0 0] 132 from (b3.setO (by omega) 0 _).setO (by omega) 1 _) (.bool (decide (X % d < 0))) (.slice p2 l2 k2'))
 clear hq1 hq2
 have z9 := hW.size
 have z10 := b1.lt
 have z11 := b2.lt
 have z12 := b3.lt
 have z13 : W1.heap.size <= o5 := by omega
 have k1 := b1.cell
 have f1 := b1.frozen
 have k2 := b2.cell
 have f2 := b2.frozen
 have k3 := b3.cell
 have f3 := b3.frozen
 go_upto_region 2 with (fail)
 clear k1 f1 k2 f2 k3 f3
 refine wp_facts (fun W' => Below w.heap.size w W' /\ Blk W' (w.heap.size + 1) #[.int .i64 0, .int .i64 0] 47 /\ Blk W' o5 #[.bool (decide (X / d < 0)), .slice p1 l1 k1'] 132 /\ Blk W' o6 #[.bool (decide (X % d < 0)), .slice p2 l2 k2'] 132 /\ Bits W' (.slice p1 l1 k1') (X / d).natAbs /\ Bits W' (.slice p2 l2 k2') (X % d).natAbs) ⟨by exact belowAny, by exact blkAny2, by exact blkAny2, by exact blkAny2, by exact hS1.out, by first | exact hS2.out | exact b4.below hW⟩ ?_
 clear b1 b2 b3 hW
 rintro W5 ⟨hW, b1, b2, b3, b4, b5⟩
 have z6 := hW.size
 have z7 := b1.lt
 have z8 := b2.lt
 have z9 := b3.lt
 have hq := Lib.hid b4
 clear b4 hS1 hS2
 have b4 := b5
 clear b5
 have k1 := b1.cell
 have f1 := b1.frozen
 have k2 := b2.cell
 have f2 := b2.frozen
 have k3 := b3.cell
 have f3 := b3.frozen
 go_wp2_with fail
 refine (c_refValue _ (X / d) _ ⟨_, rfl, hq.out⟩ hQ.1 hQ.2).mono ?_
 rintro e w10 ⟨rfl, hb10⟩
 have z11 := hb10.size
 try simp at z11
 clear k1 f1 k2 f2 k3 f3
 have b1 : Blk w10 (w.heap.size + 1) #[.int .i64 0, .int .i64 0] 47 := blkAny2
 have b2 : Blk w10 o5 #[.bool (decide (X / d < 0)), .slice p1 l1 k1'] 132 := blkAny2
 have b3 : Blk w10 o6 #[.bool (decide (X % d < 0)), .slice p2 l2 k2'] 132 := blkAny2
 have b4 : Bits w10 (.slice p2 l2 k2') (X % d).natAbs := by first | exact hS2.out | exact b4.below hb10
 have hW : Below w.heap.size w w10 := belowAny
 have z12 := b1.lt
 have z13 := b2.lt
 have z14 := b3.lt
 clear hb10
 have k1 := b1.cell
 have f1 := b1.frozen
 have k2 := b2.cell
 have f2 := b2.frozen
 have k3 := b3.cell
 have f3 := b3.frozen
 go_wp2_with fail
 refine (c_refValue _ (X % d) _ ⟨_, rfl, b4⟩ hM.1 hM.2).mono ?_
 rintro e w15 ⟨rfl, hb15⟩
 have z16 := hb15.size
 try simp at z16
 clear k1 f1 k2 f2 k3 f3
 have b1 : Blk w15 (w.heap.size + 1) #[.int .i64 0, .int .i64 0] 47 := blkAny2
 have b2 : Blk w15 o5 #[.bool (decide (X / d < 0)), .slice p1 l1 k1'] 132 := blkAny2
 have b3 : Blk w15 o6 #[.bool (decide (X % d < 0)), .slice p2 l2 k2'] 132 := blkAny2
 have b4 : Bits w15 (.slice p2 l2 k2') (X % d).natAbs := by first | exact hS2.out | exact b4.below hb15
 have hW : Below w.heap.size w w15 := belowAny
 have z17 := b1.lt
 have z18 := b2.lt
 have z19 := b3.lt
 clear hb15
 have k1 := b1.cell
 have f1 := b1.frozen
 have k2 := b2.cell
 have f2 := b2.frozen
 have k3 := b3.cell
 have f3 := b3.frozen
 go_wp2
 have y_1 := b1.lt
 have y_2 := b2.lt
 have y_3 := b3.lt
 refine bodyPost_ret (v := .agg #[.int .i64 (X / d), .int .i64 (X % d)]) (by simp [results, Tryz.results67, go_sem, k1, f1, k2, f2, k3, f3, y_1, y_2, y_3]) rfl ⟨rfl, by exact belowAny⟩
theorem refMean_w (p : Option Addr) (n cap : Nat) (S T x1 x2 y1 y2 : Int) (w : World)
  (c1 : ∀ W, Below w.heap.size w W -> Calls Tryz.prog 63 #[.slice p n cap] W fun e w' => ∃ p1 k1 p2 k2, e = .returned (.tuple #[.slice p1 n k1, .slice p2 n k2]) /\ Below W.heap.size W w' /\
     (∀ W2, Since w' W2 -> Calls Tryz.prog 66 #[.slice p1 n k1] W2 fun e w3 => ∃ v, e = .returned v /\ NumIs w3 v S /\ Below W2.heap.size W2 w3) /\
     (∀ W2, Since w' W2 -> Calls Tryz.prog 66 #[.slice p2 n k2] W2 fun e w3 => ∃ v, e = .returned v /\ NumIs w3 v T /\ Below W2.heap.size W2 w3))
  (c6 : ∀ W va, NumIs W va S -> Calls Tryz.prog 67 #[va, .int .i64 n] W fun e w' => e = .returned (.agg #[.int .i64 x1, .int .i64 x2]) /\ Below W.heap.size W w')
  (c7 : ∀ W va, NumIs W va T -> Calls Tryz.prog 67 #[va, .int .i64 n] W fun e w' => e = .returned (.agg #[.int .i64 y1, .int .i64 y2]) /\ Below W.heap.size W w') :
  Calls Tryz.prog 23 #[.slice p n cap] w fun e w' => e = .returned (.agg #[.int .i64 n, .int .i64 x1, .int .i64 x2, .int .i64 y1, .int .i64 y2]) /\ Below w.heap.size w w' := by
 replace c6 := Lib.hid c6
 replace c7 := Lib.hid c7
 have H_c1 := Lib.hid c1
 clear c1
 go_enter Tryz.func23, Tryz.ntmps23
 have c1 := H_c1.out
 go_wp2_with fail
 refine (c1 _ belowAny).mono ?_
 rintro e w1 ⟨p1, k1', p2, k2', rfl, hb1, c4, c5⟩
 have z2 := hb1.size
 try simp at z2
 have b1 : Blk w1 w.heap.size #[.int .i64 0, .int .i64 0, .int .i64 0, .int .i64 0, .int .i64 0] 49 := blkAny2
 have hW : Below w.heap.size w w1 := belowAny
 have z3 := b1.lt
 have k1 := b1.cell
 have f1 := b1.frozen
 clear c1 H_c1
 replace c4 := Lib.hid c4
 replace c5 := Lib.hid c5
 have b2 : Since w1 w1 := ⟨Below.refl _ _⟩
 go_wp2_with fail
 refine (c4.out w1 b2).mono ?_
 rintro e w4 ⟨v3, rfl, hN, hb4⟩
 have z5 := hb4.size
 try simp at z5
 clear k1 f1
 have b1 : Blk w4 w.heap.size #[.int .i64 0, .int .i64 0, .int .i64 0, .int .i64 0, .int .i64 0] 49 := blkAny2
 have b2 : Since w1 w4 := by first | exact b2 | exact b2.on hb4
 have hW : Below w.heap.size w w4 := belowAny
 have z6 := b1.lt
 have k1 := b1.cell
 have f1 := b1.frozen
 replace hN := Lib.hid hN
 go_wp2_with fail
 refine (c6.out w4 v3 hN.out).mono ?_
 rintro e w7 ⟨rfl, hb7⟩
 have z8 := hb7.size
 try simp at z8
 clear k1 f1
 have b1 : Blk w7 w.heap.size #[.int .i64 0, .int .i64 0, .int .i64 0, .int .i64 0, .int .i64 0] 49 := blkAny2
 have b2 : Since w1 w7 := by first | exact b2 | exact b2.on hb7
 have hW : Below w.heap.size w w7 := belowAny
 have z9 := b1.lt
 clear hb7
 have k1 := b1.cell
 have f1 := b1.frozen
 go_wp2_with fail
 refine (c5.out w7 b2).mono ?_
 rintro e w10 ⟨v4, rfl, hN2, hb10⟩
 have z11 := hb10.size
 try simp at z11
 clear k1 f1
 have b1 : Blk w10 w.heap.size #[.int .i64 0, .int .i64 0, .int .i64 0, .int .i64 0, .int .i64 0] 49 := blkAny2
 have b2 : Since w1 w10 := by first | exact b2 | exact b2.on hb10
 have hW : Below w.heap.size w w10 := belowAny
 have z12 := b1.lt
 have k1 := b1.cell
 have f1 := b1.frozen
 replace hN2 := Lib.hid hN2
 go_wp2_with fail
 refine (c7.out w10 v4 hN2.out).mono ?_
 rintro e w13 ⟨rfl, hb13⟩
 have z14 := hb13.size
 try simp at z14
 clear k1 f1
 have b1 : Blk w13 w.heap.size #[.int .i64 0, .int .i64 0, .int .i64 0, .int .i64 0, .int .i64 0] 49 := blkAny2
 have b2 : Since w1 w13 := by first | exact b2 | exact b2.on hb13
 have hW : Below w.heap.size w w13 := belowAny
 have z15 := b1.lt
 clear hb13
 have k1 := b1.cell
 have f1 := b1.frozen
 go_wp2
 have y_1 := b1.lt
 refine bodyPost_ret (v := .agg #[.int .i64 n, .int .i64 x1, .int .i64 x2, .int .i64 y1, .int .i64 y2]) (by simp [results, Tryz.results23, go_sem, k1, f1, y_1]) rfl ⟨rfl, by exact belowAny⟩
theorem refSum_yes (p : Option Addr) (n cap : Nat) (S T x y : Int) (w : World)
  (c1 : ∀ W, Below w.heap.size w W -> Calls Tryz.prog 63 #[.slice p n cap] W fun e w' => ∃ p1 k1 p2 k2, e = .returned (.tuple #[.slice p1 n k1, .slice p2 n k2]) /\ Below W.heap.size W w' /\
   (∀ W2, Since w' W2 -> Calls Tryz.prog 66 #[.slice p1 n k1] W2 fun e w3 => ∃ v, e = .returned v /\ NumIs w3 v S /\ Below W2.heap.size W2 w3) /\
   (∀ W2, Since w' W2 -> Calls Tryz.prog 66 #[.slice p2 n k2] W2 fun e w3 => ∃ v, e = .returned v /\ NumIs w3 v T /\ Below W2.heap.size W2 w3))
  (c6 : ∀ W va, NumIs W va S -> Calls Tryz.prog 68 #[va] W fun e w' => e = .returned (.tuple #[.int .i64 x, .bool true]) /\ Below W.heap.size W w')
  (c7 : ∀ W va, NumIs W va T -> Calls Tryz.prog 68 #[va] W fun e w' => e = .returned (.tuple #[.int .i64 y, .bool true]) /\ Below W.heap.size W w') :
  Calls Tryz.prog 24 #[.slice p n cap] w fun e w' => e = .returned (.tuple #[.agg #[.int .i64 x, .int .i64 y], .bool true]) /\ Below w.heap.size w w' := by
 replace c6 := Lib.hid c6
 replace c7 := Lib.hid c7
 have H_c1 := Lib.hid c1
 clear c1
 go_enter Tryz.func24, Tryz.ntmps24
 have c1 := H_c1.out
 go_wp2_with fail
 refine (c1 _ belowAny).mono ?_
 rintro e w1 ⟨p1, k1', p2, k2', rfl, hb1, c4, c5⟩
 have z2 := hb1.size
 try simp at z2
 have b1 : Blk w1 w.heap.size #[.int .i64 0, .int .i64 0] 33 := blkAny2
 have hW : Below w.heap.size w w1 := belowAny
 have z3 := b1.lt
 have k1 := b1.cell
 have f1 := b1.frozen
 clear c1 H_c1
 replace c4 := Lib.hid c4
 replace c5 := Lib.hid c5
 have b2 : Since w1 w1 := ⟨Below.refl _ _⟩
 go_wp2_with fail
 refine (c4.out w1 b2).mono ?_
 rintro e w4 ⟨v3, rfl, hN, hb4⟩
 have z5 := hb4.size
 try simp at z5
 clear k1 f1
 have b1 : Blk w4 w.heap.size #[.int .i64 0, .int .i64 0] 33 := blkAny2
 have b2 : Since w1 w4 := by first | exact b2 | exact b2.on hb4
 have hW : Below w.heap.size w w4 := belowAny
 have z6 := b1.lt
 have k1 := b1.cell
 have f1 := b1.frozen
 replace hN := Lib.hid hN
 go_wp2_with fail
 refine (c6.out w4 v3 hN.out).mono ?_
 rintro e w7 ⟨rfl, hb7⟩
 have z8 := hb7.size
 try simp at z8
 clear k1 f1
 have b1 : Blk w7 w.heap.size #[.int .i64 0, .int .i64 0] 33 := blkAny2
 have b2 : Since w1 w7 := by first | exact b2 | exact b2.on hb7
 have hW : Below w.heap.size w w7 := belowAny
 have z9 := b1.lt
 clear hb7
 have k1 := b1.cell
 have f1 := b1.frozen
 go_wp2_with fail
 refine (c5.out w7 b2).mono ?_
 rintro e w10 ⟨v4, rfl, hN2, hb10⟩
 have z11 := hb10.size
 try simp at z11
 clear k1 f1
 have b1 : Blk w10 w.heap.size #[.int .i64 0, .int .i64 0] 33 := blkAny2
 have b2 : Since w1 w10 := by first | exact b2 | exact b2.on hb10
 have hW : Below w.heap.size w w10 := belowAny
 have z12 := b1.lt
 have k1 := b1.cell
 have f1 := b1.frozen
 replace hN2 := Lib.hid hN2
 go_wp2_with fail
 refine (c7.out w10 v4 hN2.out).mono ?_
 rintro e w13 ⟨rfl, hb13⟩
 have z14 := hb13.size
 try simp at z14
 clear k1 f1
 have b1 : Blk w13 w.heap.size #[.int .i64 0, .int .i64 0] 33 := blkAny2
 have b2 : Since w1 w13 := by first | exact b2 | exact b2.on hb13
 have hW : Below w.heap.size w w13 := belowAny
 have z15 := b1.lt
 clear hb13
 have k1 := b1.cell
 have f1 := b1.frozen
 go_wp2
 have y_1 := b1.lt
 refine bodyPost_ret (v := .tuple #[.agg #[.int .i64 x, .int .i64 y], .bool true]) (by simp [results, Tryz.results24, go_sem, k1, f1, y_1]) rfl ⟨rfl, by exact belowAny⟩
theorem refSum_no1 (p : Option Addr) (n cap : Nat) (S T x y : Int) (t : Bool) (w : World)
  (c1 : ∀ W, Below w.heap.size w W -> Calls Tryz.prog 63 #[.slice p n cap] W fun e w' => ∃ p1 k1 p2 k2, e = .returned (.tuple #[.slice p1 n k1, .slice p2 n k2]) /\ Below W.heap.size W w' /\
   (∀ W2, Since w' W2 -> Calls Tryz.prog 66 #[.slice p1 n k1] W2 fun e w3 => ∃ v, e = .returned v /\ NumIs w3 v S /\ Below W2.heap.size W2 w3) /\
   (∀ W2, Since w' W2 -> Calls Tryz.prog 66 #[.slice p2 n k2] W2 fun e w3 => ∃ v, e = .returned v /\ NumIs w3 v T /\ Below W2.heap.size W2 w3))
  (c6 : ∀ W va, NumIs W va S -> Calls Tryz.prog 68 #[va] W fun e w' => e = .returned (.tuple #[.int .i64 x, .bool false]) /\ Below W.heap.size W w')
  (c7 : ∀ W va, NumIs W va T -> Calls Tryz.prog 68 #[va] W fun e w' => e = .returned (.tuple #[.int .i64 y, .bool t]) /\ Below W.heap.size W w') :
  Calls Tryz.prog 24 #[.slice p n cap] w fun e w' => e = .returned (.tuple #[.agg #[.int .i64 0, .int .i64 0], .bool false]) /\ Below w.heap.size w w' := by
 replace c6 := Lib.hid c6
 replace c7 := Lib.hid c7
 have H_c1 := Lib.hid c1
 clear c1
 go_enter Tryz.func24, Tryz.ntmps24
 have c1 := H_c1.out
 go_wp2_with fail
 refine (c1 _ belowAny).mono ?_
 rintro e w1 ⟨p1, k1', p2, k2', rfl, hb1, c4, c5⟩
 have z2 := hb1.size
 try simp at z2
 have b1 : Blk w1 w.heap.size #[.int .i64 0, .int .i64 0] 33 := blkAny2
 have hW : Below w.heap.size w w1 := belowAny
 have z3 := b1.lt
 have k1 := b1.cell
 have f1 := b1.frozen
 clear c1 H_c1
 replace c4 := Lib.hid c4
 replace c5 := Lib.hid c5
 have b2 : Since w1 w1 := ⟨Below.refl _ _⟩
 go_wp2_with fail
 refine (c4.out w1 b2).mono ?_
 rintro e w4 ⟨v3, rfl, hN, hb4⟩
 have z5 := hb4.size
 try simp at z5
 clear k1 f1
 have b1 : Blk w4 w.heap.size #[.int .i64 0, .int .i64 0] 33 := blkAny2
 have b2 : Since w1 w4 := by first | exact b2 | exact b2.on hb4
 have hW : Below w.heap.size w w4 := belowAny
 have z6 := b1.lt
 have k1 := b1.cell
 have f1 := b1.frozen
 replace hN := Lib.hid hN
 go_wp2_with fail
 refine (c6.out w4 v3 hN.out).mono ?_
 rintro e w7 ⟨rfl, hb7⟩
 have z8 := hb7.size
 try simp at z8
 clear k1 f1
 have b1 : Blk w7 w.heap.size #[.int .i64 0, .int .i64 0] 33 := blkAny2
 have b2 : Since w1 w7 := by first | exact b2 | exact b2.on hb7
 have hW : Below w.heap.size w w7 := belowAny
 have z9 := b1.lt
 clear hb7
 have k1 := b1.cell
 have f1 := b1.frozen
 go_wp2_with fail
 refine (c5.out w7 b2).mono ?_
 rintro e w10 ⟨v4, rfl, hN2, hb10⟩
 have z11 := hb10.size
 try simp at z11
 clear k1 f1
 have b1 : Blk w10 w.heap.size #[.int .i64 0, .int .i64 0] 33 := blkAny2
 have b2 : Since w1 w10 := by first | exact b2 | exact b2.on hb10
 have hW : Below w.heap.size w w10 := belowAny
 have z12 := b1.lt
 have k1 := b1.cell
 have f1 := b1.frozen
 replace hN2 := Lib.hid hN2
 go_wp2_with fail
 refine (c7.out w10 v4 hN2.out).mono ?_
 rintro e w13 ⟨rfl, hb13⟩
 have z14 := hb13.size
 try simp at z14
 clear k1 f1
 have b1 : Blk w13 w.heap.size #[.int .i64 0, .int .i64 0] 33 := blkAny2
 have b2 : Since w1 w13 := by first | exact b2 | exact b2.on hb13
 have hW : Below w.heap.size w w13 := belowAny
 have z15 := b1.lt
 clear hb13
 have k1 := b1.cell
 have f1 := b1.frozen
 go_wp2
 have y_1 := b1.lt
 refine bodyPost_ret (v := .tuple #[.agg #[.int .i64 0, .int .i64 0], .bool false]) (by simp [results, Tryz.results24, go_sem, k1, f1, y_1]) rfl ⟨rfl, by exact belowAny⟩
theorem refSum_no2 (p : Option Addr) (n cap : Nat) (S T x y : Int) (w : World)
  (c1 : ∀ W, Below w.heap.size w W -> Calls Tryz.prog 63 #[.slice p n cap] W fun e w' => ∃ p1 k1 p2 k2, e = .returned (.tuple #[.slice p1 n k1, .slice p2 n k2]) /\ Below W.heap.size W w' /\
   (∀ W2, Since w' W2 -> Calls Tryz.prog 66 #[.slice p1 n k1] W2 fun e w3 => ∃ v, e = .returned v /\ NumIs w3 v S /\ Below W2.heap.size W2 w3) /\
   (∀ W2, Since w' W2 -> Calls Tryz.prog 66 #[.slice p2 n k2] W2 fun e w3 => ∃ v, e = .returned v /\ NumIs w3 v T /\ Below W2.heap.size W2 w3))
  (c6 : ∀ W va, NumIs W va S -> Calls Tryz.prog 68 #[va] W fun e w' => e = .returned (.tuple #[.int .i64 x, .bool true]) /\ Below W.heap.size W w')
  (c7 : ∀ W va, NumIs W va T -> Calls Tryz.prog 68 #[va] W fun e w' => e = .returned (.tuple #[.int .i64 y, .bool false]) /\ Below W.heap.size W w') :
  Calls Tryz.prog 24 #[.slice p n cap] w fun e w' => e = .returned (.tuple #[.agg #[.int .i64 0, .int .i64 0], .bool false]) /\ Below w.heap.size w w' := by
 replace c6 := Lib.hid c6
 replace c7 := Lib.hid c7
 have H_c1 := Lib.hid c1
 clear c1
 go_enter Tryz.func24, Tryz.ntmps24
 have c1 := H_c1.out
 go_wp2_with fail
 refine (c1 _ belowAny).mono ?_
 rintro e w1 ⟨p1, k1', p2, k2', rfl, hb1, c4, c5⟩
 have z2 := hb1.size
 try simp at z2
 have b1 : Blk w1 w.heap.size #[.int .i64 0, .int .i64 0] 33 := blkAny2
 have hW : Below w.heap.size w w1 := belowAny
 have z3 := b1.lt
 have k1 := b1.cell
 have f1 := b1.frozen
 clear c1 H_c1
 replace c4 := Lib.hid c4
 replace c5 := Lib.hid c5
 have b2 : Since w1 w1 := ⟨Below.refl _ _⟩
 go_wp2_with fail
 refine (c4.out w1 b2).mono ?_
 rintro e w4 ⟨v3, rfl, hN, hb4⟩
 have z5 := hb4.size
 try simp at z5
 clear k1 f1
 have b1 : Blk w4 w.heap.size #[.int .i64 0, .int .i64 0] 33 := blkAny2
 have b2 : Since w1 w4 := by first | exact b2 | exact b2.on hb4
 have hW : Below w.heap.size w w4 := belowAny
 have z6 := b1.lt
 have k1 := b1.cell
 have f1 := b1.frozen
 replace hN := Lib.hid hN
 go_wp2_with fail
 refine (c6.out w4 v3 hN.out).mono ?_
 rintro e w7 ⟨rfl, hb7⟩
 have z8 := hb7.size
 try simp at z8
 clear k1 f1
 have b1 : Blk w7 w.heap.size #[.int .i64 0, .int .i64 0] 33 := blkAny2
 have b2 : Since w1 w7 := by first | exact b2 | exact b2.on hb7
 have hW : Below w.heap.size w w7 := belowAny
 have z9 := b1.lt
 clear hb7
 have k1 := b1.cell
 have f1 := b1.frozen
 go_wp2_with fail
 refine (c5.out w7 b2).mono ?_
 rintro e w10 ⟨v4, rfl, hN2, hb10⟩
 have z11 := hb10.size
 try simp at z11
 clear k1 f1
 have b1 : Blk w10 w.heap.size #[.int .i64 0, .int .i64 0] 33 := blkAny2
 have b2 : Since w1 w10 := by first | exact b2 | exact b2.on hb10
 have hW : Below w.heap.size w w10 := belowAny
 have z12 := b1.lt
 have k1 := b1.cell
 have f1 := b1.frozen
 replace hN2 := Lib.hid hN2
 go_wp2_with fail
 refine (c7.out w10 v4 hN2.out).mono ?_
 rintro e w13 ⟨rfl, hb13⟩
 have z14 := hb13.size
 try simp at z14
 clear k1 f1
 have b1 : Blk w13 w.heap.size #[.int .i64 0, .int .i64 0] 33 := blkAny2
 have b2 : Since w1 w13 := by first | exact b2 | exact b2.on hb13
 have hW : Below w.heap.size w w13 := belowAny
 have z15 := b1.lt
 clear hb13
 have k1 := b1.cell
 have f1 := b1.frozen
 go_wp2
 have y_1 := b1.lt
 refine bodyPost_ret (v := .tuple #[.agg #[.int .i64 0, .int .i64 0], .bool false]) (by simp [results, Tryz.results24, go_sem, k1, f1, y_1]) rfl ⟨rfl, by exact belowAny⟩
end Go.Proofs.YtidfcoooccblaaaGreat
namespace Go.Proofs.YtidfcoooccblaaaGreat
open Go.RowKit
theorem length_loL (l : List (Int × Int)) : (loL l).length = l.length := by unfold loL; simp
theorem length_hiL (l : List (Int × Int)) : (hiL l).length = l.length := by unfold hiL; simp
theorem head_some {l : List Int} (h : l ≠ []) : ∃ x, l[0]? = some x := by
 cases l with
 | nil => exact absurd rfl h
 | cons x l => exact ⟨x, rfl⟩
theorem lo_bd {l : List (Int × Int)} (h : TellOk l) : ∀ v, v ∈ loL l -> -9223372036854775808 <= v /\ v <= 9223372036854775807 := by
 intro v hv
 unfold loL at hv
 obtain ⟨x, hx, rfl⟩ := List.mem_map.1 hv
 have := h.1 x hx
 omega
theorem hi_bd {l : List (Int × Int)} (h : TellOk l) : ∀ v, v ∈ hiL l -> -9223372036854775808 <= v /\ v <= 9223372036854775807 := by
 intro v hv
 unfold hiL at hv
 obtain ⟨x, hx, rfl⟩ := List.mem_map.1 hv
 have := h.1 x hx
 omega
theorem lo_told (L : List (Int × Int × Int)) : (L.map bkT).map loB = loL (L.map (·.2)) := by
 unfold loL
 rw [List.map_map, List.map_map]
 rfl
theorem hi_told (L : List (Int × Int × Int)) : (L.map bkT).map hiB = hiL (L.map (·.2)) := by
 unfold hiL
 rw [List.map_map, List.map_map]
 rfl
theorem c_bounds25 (p : Option Addr) (cap : Nat) (L : List (Int × Int × Int)) (w : World) (hok : TellOk (L.map (·.2))) (h : RunsIn w p (L.map bkT)) :
  Calls Tryz.prog 63 #[.slice p L.length cap] w fun e w' => ∃ p1 k1 p2 k2, e = .returned (.tuple #[.slice p1 L.length k1, .slice p2 L.length k2]) /\ Below w.heap.size w w' /\ IntsIn w' p1 (loL (L.map (·.2))) /\ IntsIn w' p2 (hiL (L.map (·.2))) := by
 have hl : (L.map bkT).length = L.length := List.length_map ..
 have t := c_r25Bounds p cap (L.map bkT) w (by have := hok.2; rw [List.length_map] at this ⊢; exact this) (fun x hx => by
  obtain ⟨y, hy, rfl⟩ := List.mem_map.1 hx
  have := hok.1 y.2 (List.mem_map.2 ⟨y, hy, rfl⟩)
  simp only [bkT]
  omega) h
 rw [hl] at t
 refine t.mono ?_
 rintro e w' ⟨v1, v2, rfl, h1, h2, hB⟩
 obtain ⟨p1, k1, rfl, -⟩ := h1.form
 obtain ⟨p2, k2, rfl, -⟩ := h2.form
 rw [lo_told] at h1
 rw [hi_told] at h2
 exact ⟨p1, k1, p2, k2, rfl, hB, h1.ints, h2.ints⟩
theorem c_refSheet25 (p : Option Addr) (cap : Nat) (L : List (Int × Int × Int)) (w : World) (hne : L ≠ []) (hok : TellOk (L.map (·.2))) (h : RunsIn w p (L.map bkT)) :
  Calls Tryz.prog 22 #[.slice p L.length cap] w fun e w' => e = .returned (.agg (shA (L.map (·.2)))) /\ Below w.heap.size w w' := by
 have c1 := fun W (hW : Below w.heap.size w W) => c_bounds25 p cap L W hok (h.below hW)
 obtain ⟨l, hl⟩ : ∃ l, L.map (·.2) = l := ⟨_, rfl⟩
 have hn : L.length = l.length := by rw [<- hl, List.length_map]
 rw [hl] at c1 hok ⊢
 rw [hn] at c1 ⊢
 have hls := tell_sums hok
 have hlne : l ≠ [] := fun e => hne (by rw [e] at hl; simpa using hl)
 have key := refSheet_w p l.length cap (minL (loL l)) (minL (hiL l)) (maxL (loL l)) (maxL (hiL l)) (lsum (loL l)) (lsum (hiL l)) w (by simp; omega) (by simp; omega) (by simp; omega) (by simp; omega) (fun W hW => (c1 W hW).mono (by
  rintro e w' ⟨p1, k1, p2, k2, rfl, hB, h1, h2⟩
  exact ⟨p1, k1, p2, k2, rfl, hB, (fun W2 hS => by obtain ⟨x0, h0⟩ := head_some (loL_ne hlne); have t := c_r25ends p1 k1 (loL l) x0 W2 (by rw [length_loL]; have := hok.2; omega) h0 (h1.below hS.b); rw [length_loL] at t; exact t), (fun W2 hS => by obtain ⟨x0, h0⟩ := head_some (hiL_ne hlne); have t := c_r25ends p2 k2 (hiL l) x0 W2 (by rw [length_hiL]; have := hok.2; omega) h0 (h2.below hS.b); rw [length_hiL] at t; exact t), (fun W2 hS => by have t := c_r25Total p1 k1 (loL l) W2 (by rw [length_loL]; exact hok.2) (lo_bd hok) (h1.below hS.b); rw [length_loL] at t; exact t), (fun W2 hS => by have t := c_r25Total p2 k2 (hiL l) W2 (by rw [length_hiL]; exact hok.2) (hi_bd hok) (h2.below hS.b); rw [length_hiL] at t; exact t)⟩))
 unfold shA hiW loW
 exact key
theorem c_refMean25 (p : Option Addr) (cap : Nat) (L : List (Int × Int × Int)) (w : World) (hne : L ≠ []) (hok : TellOk (L.map (·.2))) (h : RunsIn w p (L.map bkT)) :
  Calls Tryz.prog 23 #[.slice p L.length cap] w fun e w' => e = .returned (.agg (meanV (L.map (·.2)))) /\ Below w.heap.size w w' := by
 have c1 := fun W (hW : Below w.heap.size w W) => c_bounds25 p cap L W hok (h.below hW)
 obtain ⟨l, hl⟩ : ∃ l, L.map (·.2) = l := ⟨_, rfl⟩
 have hn : L.length = l.length := by rw [<- hl, List.length_map]
 rw [hl] at c1 hok ⊢
 rw [hn] at c1 ⊢
 have hls := tell_sums hok
 have hlne : l ≠ [] := fun e => hne (by rw [e] at hl; simpa using hl)
 have hpos : 0 < l.length := List.length_pos_iff.2 hlne
 have bd : ∀ z : Int, -(2305847407260205056 * (l.length : Int)) <= z -> z <= 2305847407260205056 * (l.length : Int) -> -2305847407260205056 <= z / (l.length : Int) /\ z / (l.length : Int) <= 2305847407260205056 := fun z h1 h2 => ⟨Int.le_ediv_of_mul_le (by omega) (by omega), Int.ediv_le_of_le_mul (by omega) (by omega)⟩
 have b1 := bd _ hls.1.1 hls.1.2
 have b2 := bd _ hls.2.1.1 hls.2.1.2
 have key := refMean_w p l.length cap (lsum (loL l)) (lsum (hiL l)) (lsum (loL l) / l.length) (lsum (loL l) % l.length) (lsum (hiL l) / l.length) (lsum (hiL l) % l.length) w (fun W hW => (c1 W hW).mono (by
  rintro e w' ⟨p1, k1, p2, k2, rfl, hB, h1, h2⟩
  exact ⟨p1, k1, p2, k2, rfl, hB, (fun W2 hS => by have t := c_r25Total p1 k1 (loL l) W2 (by rw [length_loL]; exact hok.2) (lo_bd hok) (h1.below hS.b); rw [length_loL] at t; exact t), (fun W2 hS => by have t := c_r25Total p2 k2 (hiL l) W2 (by rw [length_hiL]; exact hok.2) (hi_bd hok) (h2.below hS.b); rw [length_hiL] at t; exact t)⟩))
  (fun W va hva => by
   obtain ⟨ps, ls, cs, rfl, hb0⟩ := num_shape hva
   exact mixed_w (lsum (loL l)) l.length ps ls cs W (by omega) (lt_pow2 128 800 (show (lsum (loL l)).natAbs < 2 ^ 128 by simp; omega) (by omega)) (by omega) (lt_pow2 128 800 (show (l.length : Int).natAbs < 2 ^ 128 by simp; omega) (by omega)) (by have := b1; omega) (by have := Int.emod_nonneg (lsum (loL l)) (show (l.length : Int) ≠ 0 by omega); have := Int.emod_lt_of_pos (lsum (loL l)) (show 0 < (l.length : Int) by omega); omega) hb0)
  (fun W va hva => by
   obtain ⟨ps, ls, cs, rfl, hb0⟩ := num_shape hva
   exact mixed_w (lsum (hiL l)) l.length ps ls cs W (by omega) (lt_pow2 128 800 (show (lsum (hiL l)).natAbs < 2 ^ 128 by simp; omega) (by omega)) (by omega) (lt_pow2 128 800 (show (l.length : Int).natAbs < 2 ^ 128 by simp; omega) (by omega)) (by have := b2; omega) (by have := Int.emod_nonneg (lsum (hiL l)) (show (l.length : Int) ≠ 0 by omega); have := Int.emod_lt_of_pos (lsum (hiL l)) (show 0 < (l.length : Int) by omega); omega) hb0)
 unfold meanV
 exact key
theorem c_refSum25 (p : Option Addr) (cap : Nat) (L : List (Int × Int × Int)) (w : World) (hne : L ≠ []) (hok : TellOk (L.map (·.2))) (h : RunsIn w p (L.map bkT)) :
  Calls Tryz.prog 24 #[.slice p L.length cap] w fun e w' => e = .returned (.tuple #[.agg (sumV (L.map (·.2))), .bool (inI (lsum (loL (L.map (·.2)))) && inI (lsum (hiL (L.map (·.2)))))]) /\ Below w.heap.size w w' := by
 have c1 := fun W (hW : Below w.heap.size w W) => c_bounds25 p cap L W hok (h.below hW)
 obtain ⟨l, hl⟩ : ∃ l, L.map (·.2) = l := ⟨_, rfl⟩
 have hn : L.length = l.length := by rw [<- hl, List.length_map]
 rw [hl] at c1 hok ⊢
 rw [hn] at c1 ⊢
 have hls := tell_sums hok
 have hlne : l ≠ [] := fun e => hne (by rw [e] at hl; simpa using hl)
 have hC := fun W (hW : Below w.heap.size w W) => (c1 W hW).mono (R' := fun e w' => ∃ p1 k1 p2 k2, e = .returned (.tuple #[.slice p1 l.length k1, .slice p2 l.length k2]) /\ Below W.heap.size W w' /\
    (∀ W2, Since w' W2 -> Calls Tryz.prog 66 #[.slice p1 l.length k1] W2 fun e w3 => ∃ v, e = .returned v /\ NumIs w3 v (lsum (loL l)) /\ Below W2.heap.size W2 w3) /\
    (∀ W2, Since w' W2 -> Calls Tryz.prog 66 #[.slice p2 l.length k2] W2 fun e w3 => ∃ v, e = .returned v /\ NumIs w3 v (lsum (hiL l)) /\ Below W2.heap.size W2 w3)) (by
  rintro e w' ⟨p1, k1, p2, k2, rfl, hB, h1, h2⟩
  exact ⟨p1, k1, p2, k2, rfl, hB, (fun W2 hS => by have t := c_r25Total p1 k1 (loL l) W2 (by rw [length_loL]; exact hok.2) (lo_bd hok) (h1.below hS.b); rw [length_loL] at t; exact t), (fun W2 hS => by have t := c_r25Total p2 k2 (hiL l) W2 (by rw [length_hiL]; exact hok.2) (hi_bd hok) (h2.below hS.b); rw [length_hiL] at t; exact t)⟩)
 have z1 : (lsum (loL l)).natAbs < 2 ^ 900 := lt_pow2 128 900 (show (lsum (loL l)).natAbs < 2 ^ 128 by simp; omega) (by omega)
 have z2 : (lsum (hiL l)).natAbs < 2 ^ 900 := lt_pow2 128 900 (show (lsum (hiL l)).natAbs < 2 ^ 128 by simp; omega) (by omega)
 have v2 : ∀ b, inI (lsum (hiL l)) = b -> ∀ W va, NumIs W va (lsum (hiL l)) -> Calls Tryz.prog 68 #[va] W fun e w' => e = .returned (.tuple #[.int .i64 (if b then lsum (hiL l) else 0), .bool b]) /\ Below W.heap.size W w' := by
  intro b hb W va hva
  unfold inI at hb
  cases b with
  | true => have hb := of_decide_eq_true hb; exact c_refValue va _ W hva hb.1 (by have := hb.2; omega)
  | false => exact c_refValue_no va _ W hva z2 (fun hh => of_decide_eq_false hb ⟨hh.1, by have := hh.2; omega⟩)
 unfold sumV
 cases h1 : inI (lsum (loL l)) with
 | false =>
  have i1 := h1
  unfold inI at i1
  exact refSum_no1 p l.length cap _ _ 0 _ _ w hC (fun W va hva => c_refValue_no va _ W hva z1 (fun hh => of_decide_eq_false i1 ⟨hh.1, by have := hh.2; omega⟩)) (v2 _ rfl)
 | true =>
  have i1 := h1
  unfold inI at i1
  have i1 := of_decide_eq_true i1
  have c6 := fun W va (hva : NumIs W va (lsum (loL l))) => c_refValue va _ W hva i1.1 (by have := i1.2; omega)
  cases h2 : inI (lsum (hiL l)) with
  | false => exact refSum_no2 p l.length cap _ _ _ _ w hC c6 (v2 _ h2)
  | true => exact refSum_yes p l.length cap _ _ _ _ w hC c6 (v2 _ h2)
theorem c_refBack25 (s : SerT) (ps : Option Addr) (cs : Nat) (po : Option Addr) (co : Nat) (a b : Int) (w : World) (hin : SerIn w s ps po) (hc : checkB s = true) :
  Calls Tryz.prog 21 #[.agg (serA s ps cs po co), a, b] w fun e w' => ∃ p k, e = .returned (.slice p (toldL s a b).length k) /\ RunsIn w' p ((toldL s a b).map bkT) /\ Below w.heap.size w w' := by
 refine (refBack_w s ps cs po co a b w hin (chk_segs hc)).mono ?_
 rintro e w' ⟨v, rfl, h, hB⟩
 obtain ⟨p, k, rfl, -⟩ := h.form
 exact ⟨p, k, rfl, h.runs, hB⟩

def ownSer (nm : ByteArray) (ep fl la sc : Int) (rows : List SegR) (pts : List (Int × Int)) : SerT := ⟨nm, ep, fl, la, sc, (rows.take (min rows.length 60)).map fun r => ownG r.s, pts.take (min pts.length 60)⟩
structure SerCame (w : World) (ps po : Option Addr) (cs co : Nat) (rows : List SegR) (pts : List (Int × Int)) : Prop where
 segs : SegsCame w ps rows
 opn : PtsIn w po pts
 nilS : ps = none -> rows.length = 0 /\ cs = 0
 nilO : po = none -> pts.length = 0 /\ co = 0
 capS : rows.length <= cs
 capO : pts.length <= co
theorem SerCame.below {w w' : World} {ps po : Option Addr} {cs co : Nat} {rows : List SegR} {pts : List (Int × Int)} (h : SerCame w ps po cs co rows pts) (hb : Below w.heap.size w w') : SerCame w' ps po cs co rows pts := ⟨h.segs.below hb, h.opn.below hb, h.nilS, h.nilO, h.capS, h.capO⟩
theorem c_own25 (nm : ByteArray) (ep fl la sc : Int) (ps po : Option Addr) (cs co : Nat) (rows : List SegR) (pts : List (Int × Int)) (w : World) (h : SerCame w ps po cs co rows pts) :
  Calls Tryz.prog 12 #[.agg #[.string nm, ep, fl, la, sc, .slice ps rows.length cs, .slice po pts.length co]] w fun e w' => ∃ gS capS gP capP, e = .returned (.agg (serA (ownSer nm ep fl la sc rows pts) (some ⟨gS, 0, none⟩) capS (some ⟨gP, 0, none⟩) capP)) /\ Below w.heap.size w w' /\ SerIn w' (ownSer nm ep fl la sc rows pts) (some ⟨gS, 0, none⟩) (some ⟨gP, 0, none⟩) := by
 have h1 := h.capS
 have h2 := h.capO
 refine (own_w nm ep fl la sc ps po cs co rows pts w (min rows.length 60) (min pts.length 60) h.segs h.opn h.nilS h.nilO h.capS h.capO (by omega) (by omega) (Lib.hid (by split <;> omega)) (by omega) (by omega) (by omega) (by omega) (Lib.hid (by split <;> omega)) (by omega) (by omega)).mono ?_
 rintro e w' ⟨gS, capS, gP, capP, rfl, hB, hS, hP⟩
 have l1 : ((rows.take (min rows.length 60)).map fun r => ownG r.s).length = min rows.length 60 := by rw [List.length_map, List.length_take]; omega
 have l2 : (pts.take (min pts.length 60)).length = min pts.length 60 := by rw [List.length_take]; omega
 refine ⟨gS, capS, gP, capP, ?_, hB, ⟨hS, hP, ?_, ?_⟩⟩
 ·unfold serA ownSer
  simp only [l1, l2]
 ·show ((rows.take (min rows.length 60)).map fun r => ownG r.s).length <= 100
  omega
 ·show (pts.take (min pts.length 60)).length <= 100
  omega
end Go.Proofs.YtidfcoooccblaaaGreat
