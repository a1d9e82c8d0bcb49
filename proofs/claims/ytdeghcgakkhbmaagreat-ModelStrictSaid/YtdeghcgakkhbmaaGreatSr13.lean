/- Parts of the proof that follows: Layer model: whether a mean holds. No condition but the numbers' bounds. | Layer model, plainly: whether an answer holds of a raw series, and that one which was moved, made wider, or counts one more does not. No condition. | The laws of chapter 28: ModelStrict's walk. No condition. | Layer model: whether a sum holds. No condition but the numbers' bounds. -/
import Derived.Test.YtdeghcgakkhbmaaGreatSr12
set_option linter.unusedSimpArgs false
set_option linter.unusedVariables false
namespace Go.Proofs.YtdeghcgakkhbmaaGreat
open Go.RowKit
set_option maxRecDepth 100000 in
set_option maxHeartbeats 2000000 in
theorem mdMean_w (n ea eb s1 s2 mc lw lr hw hr eps p1 p2 q1 q2 u1 u2 e3 C4 C5 v1 v2 C7 : Int) (B1 B2 : Bool) (w : World) (he0 : 0 ≤ eps) (he1 : eps ≤ 1099511627776)
    (c1 : ∀ W, Calls Tryz.prog 92 #[.agg #[.int .i64 lw, .int .i64 lr], .int .i64 n] W fun e w' => e = .returned (.tuple #[.agg #[.int .i64 p1, .int .u64 p2], .bool B1]) ∧ Below W.heap.size W w')
        (c2 : ∀ W, Calls Tryz.prog 92 #[.agg #[.int .i64 hw, .int .i64 hr], .int .i64 n] W fun e w' => e = .returned (.tuple #[.agg #[.int .i64 q1, .int .u64 q2], .bool B2]) ∧ Below W.heap.size W w')
        (c3 : ∀ W, Calls Tryz.prog 90 #[.agg #[.int .i64 q1, .int .u64 q2], .agg #[.int .i64 p1, .int .u64 p2]] W fun e w' => e = .returned (.tuple #[.agg #[.int .i64 u1, .int .u64 u2], .int .i64 e3]) ∧ Below W.heap.size W w')
        (c4 : ∀ W, Calls Tryz.prog 93 #[.agg #[.int .i64 p1, .int .u64 p2], .agg #[.int .i64 s1, .int .u64 s2]] W fun e w' => e = .returned (.int .i64 C4) ∧ Below W.heap.size W w')
        (c5 : ∀ W, Calls Tryz.prog 93 #[.agg #[.int .i64 s1, .int .u64 s2], .agg #[.int .i64 q1, .int .u64 q2]] W fun e w' => e = .returned (.int .i64 C5) ∧ Below W.heap.size W w')
        (c6 : ∀ W, Calls Tryz.prog 89 #[.int .i64 (2 * eps), .int .i64 n] W fun e w' => e = .returned (.agg #[.int .i64 v1, .int .u64 v2]) ∧ Below W.heap.size W w')
        (c7 : ∀ W, Calls Tryz.prog 93 #[.agg #[.int .i64 u1, .int .u64 u2], .agg #[.int .i64 v1, .int .u64 v2]] W fun e w' => e = .returned (.int .i64 C7) ∧ Below W.heap.size W w') :
    Calls Tryz.prog 44 #[.agg #[.int .i64 n, .int .i64 ea, .int .i64 eb, .int .i64 s1, .int .u64 s2], .agg #[.int .i64 mc, .int .i64 lw, .int .i64 lr, .int .i64 hw, .int .i64 hr], .int .i64 eps] w fun e w' => e = .returned (.bool (B1 && B2 && (e3 == 0) && (mc == n) && decide (C4 ≤ 0) && decide (C5 ≤ 0) && decide (C7 ≤ 0))) ∧ Below w.heap.size w w' := by
  have EQ2 := Lib.hid (show wrap64 (2 * eps) = 2 * eps by simp only [wrap64_eq]; omega)
  have H_c1 := Lib.hid c1
  clear c1
  have H_c2 := Lib.hid c2
  clear c2
  have H_c3 := Lib.hid c3
  clear c3
  have H_c4 := Lib.hid c4
  clear c4
  have H_c5 := Lib.hid c5
  clear c5
  have H_c6 := Lib.hid c6
  clear c6
  have H_c7 := Lib.hid c7
  clear c7
  go_enter Tryz.func44, Tryz.ntmps44
  go_upto_region 1 with (fail)
  refine wp_cutB w (Bc w.heap.size #[.int .i64 n, .int .i64 ea, .int .i64 eb, .int .i64 s1, .int .u64 s2] 91 <| Bc (w.heap.size + 1) #[.int .i64 mc, .int .i64 lw, .int .i64 lr, .int .i64 hw, .int .i64 hr] 42 <| Bz) ?_
  rintro W1 hW z2 ⟨⟨b1, yb1, k1, f1⟩, ⟨b2, yb2, k2, f2⟩, -⟩
  go_wp2_with fail
  refine (H_c1.out _).mono ?_
  rintro e w3 ⟨rfl, hb3⟩
  have z4 := hb3.size
  try simp at z4
  clear k1 f1 k2 f2
  refine haveB w w3 (Bc w.heap.size #[.int .i64 n, .int .i64 ea, .int .i64 eb, .int .i64 s1, .int .u64 s2] 91 <| Bc (w.heap.size + 1) #[.int .i64 mc, .int .i64 lw, .int .i64 lr, .int .i64 hw, .int .i64 hr] 42 <| Bz) ?_
  clear b1 b2 hW
  rintro hW z5 ⟨⟨b1, yb1, k1, f1⟩, ⟨b2, yb2, k2, f2⟩, -⟩
  clear hb3
  go_wp2_with fail
  refine (H_c2.out _).mono ?_
  rintro e w6 ⟨rfl, hb6⟩
  have z7 := hb6.size
  try simp at z7
  clear k1 f1 k2 f2
  refine haveB w w6 (Bc w.heap.size #[.int .i64 n, .int .i64 ea, .int .i64 eb, .int .i64 s1, .int .u64 s2] 91 <| Bc (w.heap.size + 1) #[.int .i64 mc, .int .i64 lw, .int .i64 lr, .int .i64 hw, .int .i64 hr] 42 <| Bc w3.heap.size #[.int .i64 p1, .int .u64 p2] 89 <| Bz) ?_
  clear b1 b2 hW
  rintro hW z8 ⟨⟨b1, yb1, k1, f1⟩, ⟨b2, yb2, k2, f2⟩, ⟨b3, yb3, k3, f3⟩, -⟩
  clear hb6
  go_wp2_with fail
  refine (H_c3.out _).mono ?_
  rintro e w9 ⟨rfl, hb9⟩
  have z10 := hb9.size
  try simp at z10
  clear k1 f1 k2 f2 k3 f3
  refine haveB w w9 (Bc w.heap.size #[.int .i64 n, .int .i64 ea, .int .i64 eb, .int .i64 s1, .int .u64 s2] 91 <| Bc (w.heap.size + 1) #[.int .i64 mc, .int .i64 lw, .int .i64 lr, .int .i64 hw, .int .i64 hr] 42 <| Bc w3.heap.size #[.int .i64 p1, .int .u64 p2] 89 <| Bc w6.heap.size #[.int .i64 q1, .int .u64 q2] 89 <| Bz) ?_
  clear b1 b2 b3 hW
  rintro hW z11 ⟨⟨b1, yb1, k1, f1⟩, ⟨b2, yb2, k2, f2⟩, ⟨b3, yb3, k3, f3⟩, ⟨b4, yb4, k4, f4⟩, -⟩
  clear hb9
  go_upto_region 4 with (fail)
  clear k1 f1 k2 f2 k3 f3 k4 f4
  refine wp_cutB w (Bc w.heap.size #[.int .i64 n, .int .i64 ea, .int .i64 eb, .int .i64 s1, .int .u64 s2] 91 <| Bc (w.heap.size + 1) #[.int .i64 mc, .int .i64 lw, .int .i64 lr, .int .i64 hw, .int .i64 hr] 42 <| Bc w3.heap.size #[.int .i64 p1, .int .u64 p2] 89 <| Bc w6.heap.size #[.int .i64 q1, .int .u64 q2] 89 <| Bc w9.heap.size #[.int .i64 u1, .int .u64 u2] 89 <| Bz) ?_
  clear b1 b2 b3 b4 hW
  rintro W12 hW z13 ⟨⟨b1, yb1, k1, f1⟩, ⟨b2, yb2, k2, f2⟩, ⟨b3, yb3, k3, f3⟩, ⟨b4, yb4, k4, f4⟩, ⟨b5, yb5, k5, f5⟩, -⟩
  go_upto_region 4 with (fail)
  clear k1 f1 k2 f2 k3 f3 k4 f4 k5 f5
  refine wp_cutB w (Bc w.heap.size #[.int .i64 n, .int .i64 ea, .int .i64 eb, .int .i64 s1, .int .u64 s2] 91 <| Bc (w.heap.size + 1) #[.int .i64 mc, .int .i64 lw, .int .i64 lr, .int .i64 hw, .int .i64 hr] 42 <| Bc w3.heap.size #[.int .i64 p1, .int .u64 p2] 89 <| Bc w6.heap.size #[.int .i64 q1, .int .u64 q2] 89 <| Bc w9.heap.size #[.int .i64 u1, .int .u64 u2] 89 <| Bz) ?_
  clear b1 b2 b3 b4 b5 hW
  rintro W14 hW z15 hL
  refine wp_regD 40 74 hW hL ?_
  iterate 2 refine dE (fun W' hC => EQ2.out) ?_
  refine gE (fun W' hC => EQ2.out) ?_
  refine pA ?_
  refine dE (fun W' hC => EQ2.out) ?_
  iterate 2 refine gE (fun W' hC => EQ2.out) ?_
  refine pA ?_
  refine dE (fun W' hC => EQ2.out) ?_
  iterate 5 refine gE (fun W' hC => EQ2.out) ?_
  refine pA ?_
  refine dE (fun W' hC => EQ2.out) ?_
  iterate 3 refine gE (fun W' hC => EQ2.out) ?_
  apply nd_callvg2 (p := true) (hg := rfl) (hd := rfl) (hal := rfl)
  · intro v W' h
    simp [envOf, Det] at h
    simp
    exact h
  · intro hp hx W' hC
    exact H_c4.out W'
  · intro hp hx a W' hC hE
    obtain ⟨_, ⟨-, -, k1, -⟩, ⟨-, -, k2, -⟩, ⟨-, -, k3, -⟩, ⟨-, -, k4, -⟩, ⟨-, -, k5, -⟩, -⟩ := hC
    first
      | (simp [Oper.looksAt, Op.operands, Call.operands, envOf, Det, GDet, hx] at hE; simp [go_sem, Act.eval, IntWalk.i64_left, hE, k1, k2, k3, k4, k5, EQ2.out]; try rfl)
      | (clear hE; simp [go_sem, Act.eval, IntWalk.i64_left, k1, k2, k3, k4, k5, EQ2.out]; try rfl)
  refine gE (fun W' hC => EQ2.out) ?_
  refine pA ?_
  refine dE (fun W' hC => EQ2.out) ?_
  iterate 3 refine gE (fun W' hC => EQ2.out) ?_
  apply nd_callvg2 (p := true) (hg := rfl) (hd := rfl) (hal := rfl)
  · intro v W' h
    simp [envOf, Det] at h
    simp
    exact h
  · intro hp hx W' hC
    exact H_c5.out W'
  · intro hp hx a W' hC hE
    obtain ⟨_, ⟨-, -, k1, -⟩, ⟨-, -, k2, -⟩, ⟨-, -, k3, -⟩, ⟨-, -, k4, -⟩, ⟨-, -, k5, -⟩, -⟩ := hC
    first
      | (simp [Oper.looksAt, Op.operands, Call.operands, envOf, Det, GDet, hx] at hE; simp [go_sem, Act.eval, IntWalk.i64_left, hE, k1, k2, k3, k4, k5, EQ2.out]; try rfl)
      | (clear hE; simp [go_sem, Act.eval, IntWalk.i64_left, k1, k2, k3, k4, k5, EQ2.out]; try rfl)
  refine gE (fun W' hC => EQ2.out) ?_
  refine pA ?_
  refine dE (fun W' hC => EQ2.out) ?_
  iterate 5 refine gE (fun W' hC => EQ2.out) ?_
  apply nd_callvg2 (p := true) (hg := rfl) (hd := rfl) (hal := rfl)
  · intro v W' h
    simp [envOf, Det] at h
    simp
    exact h
  · intro hp hx W' hC
    exact H_c6.out W'
  · intro hp hx a W' hC hE
    obtain ⟨_, ⟨-, -, k1, -⟩, ⟨-, -, k2, -⟩, ⟨-, -, k3, -⟩, ⟨-, -, k4, -⟩, ⟨-, -, k5, -⟩, -⟩ := hC
    first
      | (simp [Oper.looksAt, Op.operands, Call.operands, envOf, Det, GDet, hx] at hE; simp [go_sem, Act.eval, IntWalk.i64_left, hE, k1, k2, k3, k4, k5, EQ2.out]; try rfl)
      | (clear hE; simp [go_sem, Act.eval, IntWalk.i64_left, k1, k2, k3, k4, k5, EQ2.out]; try rfl)
  apply nd_callvg2 (p := true) (hg := rfl) (hd := rfl) (hal := rfl)
  · intro v W' h
    simp [envOf, Det] at h
    simp
    exact h
  · intro hp hx W' hC
    exact H_c7.out W'
  · intro hp hx a W' hC hE
    obtain ⟨_, ⟨-, -, k1, -⟩, ⟨-, -, k2, -⟩, ⟨-, -, k3, -⟩, ⟨-, -, k4, -⟩, ⟨-, -, k5, -⟩, -⟩ := hC
    first
      | (simp [Oper.looksAt, Op.operands, Call.operands, envOf, Det, GDet, hx] at hE; simp [go_sem, Act.eval, IntWalk.i64_left, hE, k1, k2, k3, k4, k5, EQ2.out]; try rfl)
      | (clear hE; simp [go_sem, Act.eval, IntWalk.i64_left, k1, k2, k3, k4, k5, EQ2.out]; try rfl)
  refine gE (fun W' hC => EQ2.out) ?_
  refine pA ?_
  refine dE (fun W' hC => EQ2.out) ?_
  clear hW hL
  rintro W16 hW z17 hL
  simp only [ndR]
  intros
  repeat (rename GDet _ _ _ _ => hgd; clear hgd)
  simp only [ndS]
  refine wpList_nil ?_
  obtain ⟨⟨b1, yb1, k1, f1⟩, ⟨b2, yb2, k2, f2⟩, ⟨b3, yb3, k3, f3⟩, ⟨b4, yb4, k4, f4⟩, ⟨b5, yb5, k5, f5⟩, -⟩ := hL
  go_wp2
  refine bodyPost_ret (by simp [results, Tryz.results44, go_sem, k1, f1, k2, f2, k3, f3, k4, f4, k5, f5, yb1, yb2, yb3, yb4, yb5]) rfl ⟨rfl, by exact belowAny⟩
/-- Does a mean hold, of so many numbers that come to s? -/
def meanB (n s mc lw lr hw hr eps : Int) : Bool :=
  (decide (0 ≤ lr) && decide (lr < n)) && (decide (0 ≤ hr) && decide (hr < n)) && ((0 : Int) == 0) && (mc == n) && decide (cmpI (lw * n + lr) s ≤ 0) && decide (cmpI s (hw * n + hr) ≤ 0) && decide (cmpI (hw * n + hr - (lw * n + lr)) (2 * eps * n) ≤ 0)
theorem c_mdMean (n ea eb s mc lw lr hw hr eps : Int) (w : World) (h0 : 0 ≤ n) (h1 : n ≤ 1000000) (hs : W128 s) (a1 : I64 lw) (a2 : I64 lr) (a3 : I64 hw) (a4 : I64 hr) (he0 : 0 ≤ eps) (he1 : eps ≤ 1099511627776) :
    Calls Tryz.prog 44 #[.agg (exA (n, (ea, eb), s)), .agg #[.int .i64 mc, .int .i64 lw, .int .i64 lr, .int .i64 hw, .int .i64 hr], .int .i64 eps] w fun e w' => e = .returned (.bool (meanB n s mc lw lr hw hr eps)) ∧ Below w.heap.size w w' := by
  have b1 := mdMul_bd a1 h0 h1
  have b2 := mdMul_bd a3 h0 h1
  have q1 : W128 (lw * n + lr) := by unfold W128; unfold I64 at a2; omega
  have q2 : W128 (hw * n + hr) := by unfold W128; unfold I64 at a4; omega
  have q3 : W128 (hw * n + hr - (lw * n + lr)) := by unfold W128; unfold I64 at a2 a4; omega
  have c3 := fun W => c_Sub (hw * n + hr) (lw * n + lr) W q2 q1
  rw [inW_in q3, wrapW_in q3] at c3
  exact mdMean_w n ea eb _ _ mc lw lr hw hr eps _ _ _ _ _ _ _ _ _ _ _ _ _ _ w he0 he1 (fun W => c_mdOver lw lr n W a1 a2 h0 h1) (fun W => c_mdOver hw hr n W a3 a4 h0 h1) c3 (fun W => c_Compare _ _ W) (fun W => c_Compare _ _ W) (fun W => c_Mul (2 * eps) n W (by unfold I64; omega) (by unfold I64; omega)) (fun W => c_Compare _ _ W)
end Go.Proofs.YtdeghcgakkhbmaaGreat
namespace Go.Proofs.YtdeghcgakkhbmaaGreat
open Go.RowKit
/-- An answer's numbers. -/
structure An9 where
  er : Int
  cn : Int
  lo : Int
  up : Int
  mc : Int
  lw : Int
  lr : Int
  hw : Int
  hr : Int
def An9.ok (y : An9) : Prop := I64 y.er ∧ I64 y.cn ∧ I64 y.lo ∧ I64 y.up ∧ I64 y.mc ∧ I64 y.lw ∧ I64 y.lr ∧ I64 y.hw ∧ I64 y.hr
def anA (y : An9) : Array Value := #[.int .i64 y.er, .int .i64 y.cn, .int .i64 y.lo, .int .i64 y.up, .int .i64 y.mc, .int .i64 y.lw, .int .i64 y.lr, .int .i64 y.hw, .int .i64 y.hr]
def eq9 (y : An9) (er cn : Int) : Bool := (y.er == er) && ((y.cn == cn) && ((y.lo == 0) && ((y.up == 0) && ((y.mc == 0) && ((y.lw == 0) && ((y.lr == 0) && ((y.hw == 0) && (y.hr == 0))))))))
def bareSpan (y : An9) : Bool := (y.cn == 0) && ((y.mc == 0) && ((y.lw == 0) && ((y.lr == 0) && ((y.hw == 0) && (y.hr == 0)))))
def bareMean (y : An9) : Bool := (y.cn == 0) && ((y.lo == 0) && (y.up == 0))
/-- Does a sum hold, of so many numbers that come to s? -/
def totalB (n s : Int) (y : An9) (eps : Int) : Bool :=
  if y.er = 5 then (y.lo == 0) && (y.up == 0) && ((we (inI (s - 2 * eps * n)) != 0) || (we (inI (s + 2 * eps * n)) != 0))
  else (y.er == 0) && (we (inI s) == 0) && liesB y.lo y.up (wv (inI s) s) (loW (2 * eps * n))
/-- Does an answer hold of points? -/
def holdsX (X : Int × (Int × Int) × Int) (eps what : Int) (y : An9) : Bool :=
  if what = 1 then eq9 y 0 X.1
  else if X.1 = 0 then eq9 y 9 0
  else if what = 5 then bareMean y && ((y.er == 0) && meanB X.1 X.2.2 y.mc y.lw y.lr y.hw y.hr eps)
  else bareSpan y && (if what = 4 then totalB X.1 X.2.2 y eps else (y.er == 0) && liesB y.lo y.up (if what = 2 then X.2.1.1 else X.2.1.2) (2 * eps))
def holdsB (r : RawT) (what a b : Int) (y : An9) : Bool := rawB r && (decide (1 ≤ what) && decide (what ≤ 5)) && holdsX (toldsL (tellG a b r.pts)) r.eps what y
theorem rawB_parts {r : RawT} (h : rawB r = true) : (0 ≤ r.eps ∧ r.eps ≤ 1099511627776) ∧ r.pts.length ≤ 1024 ∧ ∀ x, x ∈ r.pts → ptB x = true := by
  unfold rawB rawNumsB at h
  simp only [Bool.and_eq_true, btw, decide_eq_true_eq] at h
  obtain ⟨⟨_, h2, _, _, _, h6⟩, h7, _⟩ := h
  exact ⟨h2, h6, fun x hx => (rawPtsB_mem _ _ _ h7 x hx).1⟩
theorem told_few {r : RawT} (h : rawB r = true) (a b : Int) : 0 ≤ (toldsL (tellG a b r.pts)).1 ∧ (toldsL (tellG a b r.pts)).1 ≤ r.pts.length := by
  obtain ⟨_, h2, h3⟩ := rawB_parts h
  have hl := tellG_length a b r.pts
  have := (tolds_is (l := tellG a b r.pts) (by omega) (fun x hx => h3 x (tellG_mem hx))).1
  omega
theorem lies_moved {x y v wd : Int} (h : liesB x y v wd = true) : liesB (x + (y - x) + 1) (y + (y - x) + 1) v wd = false := by
  unfold liesB at h ⊢
  simp only [Bool.and_eq_true, decide_eq_true_eq] at h
  have : decide (x + (y - x) + 1 ≤ v) = false := by rw [decide_eq_false_iff_not]; omega
  rw [this]; rfl
theorem lies_wide {x y v wd e : Int} (h : liesB x y v wd = true) (he : wd ≤ e) : liesB x (y + (e + 1)) v wd = false := by
  unfold liesB spW at h ⊢
  simp only [Bool.and_eq_true, decide_eq_true_eq] at h
  obtain ⟨⟨h1, h2⟩, h3⟩ := h
  have hxy : x ≤ y := by omega
  rw [if_pos hxy] at h3
  by_cases h0 : 0 ≤ e
  · rw [if_pos (show x ≤ y + (e + 1) by omega)]
    have : decide (y + (e + 1) - x ≤ wd) = false := by rw [decide_eq_false_iff_not]; omega
    rw [this, Bool.and_false]
  · omega
theorem strict_count {X : Int × (Int × Int) × Int} {eps : Int} {y : An9} (h : holdsX X eps 1 y = true) (n : Int) (hn : n ≠ y.cn) : holdsX X eps 1 { y with cn := n } = false := by
  unfold holdsX eq9 at *
  simp only [if_true, Bool.and_eq_true, beq_iff_eq] at h
  simp only [if_true]
  have : (n == X.1) = false := by rw [beq_eq_false_iff_ne]; omega
  rw [this]; simp
theorem strict_mean {X : Int × (Int × Int) × Int} {eps : Int} {y : An9} (h : holdsX X eps 5 y = true) (n : Int) (hn : n ≠ y.mc) : holdsX X eps 5 { y with mc := n } = false := by
  unfold holdsX at *
  rw [if_neg (by decide)] at h ⊢
  by_cases h0 : X.1 = 0
  · rw [if_pos h0] at h ⊢
    unfold eq9 at *
    simp only [Bool.and_eq_true, beq_iff_eq] at h
    have : (n == 0) = false := by rw [beq_eq_false_iff_ne]; omega
    simp only [this]; simp
  · rw [if_neg h0, if_pos rfl] at h ⊢
    unfold meanB at *
    simp only [Bool.and_eq_true, beq_iff_eq] at h
    have : (n == X.1) = false := by rw [beq_eq_false_iff_ne]; omega
    simp only [this]; simp
theorem strict_err {X : Int × (Int × Int) × Int} {eps what : Int} (y : An9) (h1 : what ≠ 1) (h5 : what ≠ 5) : holdsX X eps what { y with er := 2 } = false := by
  unfold holdsX
  rw [if_neg h1]
  by_cases h0 : X.1 = 0
  · rw [if_pos h0]; unfold eq9; simp
  · rw [if_neg h0, if_neg h5]
    unfold totalB
    simp
theorem strict_moved {X : Int × (Int × Int) × Int} {eps what : Int} {y : An9} (h : holdsX X eps what y = true) (h1 : what ≠ 1) (h5 : what ≠ 5) (her : y.er = 0) : holdsX X eps what { y with lo := y.lo + (y.up - y.lo) + 1, up := y.up + (y.up - y.lo) + 1 } = false := by
  unfold holdsX at *
  rw [if_neg h1] at h ⊢
  by_cases h0 : X.1 = 0
  · rw [if_pos h0] at h ⊢
    unfold eq9 at h
    simp only [Bool.and_eq_true, beq_iff_eq] at h
    omega
  · rw [if_neg h0, if_neg h5] at h ⊢
    by_cases h4 : what = 4
    · rw [if_pos h4] at h ⊢
      unfold totalB at *
      simp only [her, Int.reduceEq, if_false] at h ⊢
      rw [Bool.and_eq_true, Bool.and_eq_true] at h
      rw [lies_moved h.2.2]; simp
    · rw [if_neg h4] at h ⊢
      rw [Bool.and_eq_true, Bool.and_eq_true] at h
      simp only [lies_moved h.2.2]; simp
theorem strict_wide {X : Int × (Int × Int) × Int} {eps what len : Int} {y : An9} (h : holdsX X eps what y = true) (h1 : what ≠ 1) (h5 : what ≠ 5) (her : y.er = 0) (he0 : 0 ≤ eps) (he1 : eps ≤ 1099511627776) (hn : 0 ≤ X.1) (hn2 : X.1 ≤ len) (hl : len ≤ 1024) : holdsX X eps what { y with up := y.up + (2 * eps * len + 1) } = false := by
  unfold holdsX at *
  rw [if_neg h1] at h ⊢
  by_cases h0 : X.1 = 0
  · rw [if_pos h0] at h ⊢
    unfold eq9 at h
    simp only [Bool.and_eq_true, beq_iff_eq] at h
    omega
  · rw [if_neg h0, if_neg h5] at h ⊢
    have hmul : 2 * eps * X.1 ≤ 2 * eps * len := Int.mul_le_mul_of_nonneg_left hn2 (by omega)
    have hge : 2 * eps ≤ 2 * eps * len := by
      have := Int.mul_le_mul_of_nonneg_left (show (1 : Int) ≤ len by omega) (show 0 ≤ 2 * eps by omega)
      omega
    have hlo : loW (2 * eps * X.1) = 2 * eps * X.1 := by
      have a := Int.mul_nonneg (show 0 ≤ 2 * eps by omega) hn
      have b := Int.mul_le_mul_of_nonneg_left (show X.1 ≤ 1024 by omega) (show 0 ≤ 2 * eps by omega)
      unfold loW
      omega
    by_cases h4 : what = 4
    · rw [if_pos h4] at h ⊢
      unfold totalB at *
      simp only [her, Int.reduceEq, if_false] at h ⊢
      rw [hlo] at h ⊢
      rw [Bool.and_eq_true, Bool.and_eq_true] at h
      rw [lies_wide h.2.2 hmul]; simp
    · rw [if_neg h4] at h ⊢
      rw [Bool.and_eq_true, Bool.and_eq_true] at h
      simp only [lies_wide h.2.2 hge]; simp
end Go.Proofs.YtdeghcgakkhbmaaGreat
namespace Go.Proofs.YtdeghcgakkhbmaaGreat
open Go.RowKit
set_option maxRecDepth 100000 in
set_option maxHeartbeats 2000000 in
theorem strict_no (q r : RawT) (p : Option Addr) (cap : Nat) (a b er cn lo up mc lw lr hw hr slo sup serr : Int) (sp : Option Addr) (sn scap : Nat) (H : An9 → Bool) (w : World) (k : Int) (ier : I64 er) (icn : I64 cn) (ilo : I64 lo) (iup : I64 up) (imc : I64 mc) (h0 : Hid (H ⟨er, cn, lo, up, mc, lw, lr, hw, hr⟩ = false))
    (c1 : ∀ W, Below w.heap.size w W → Calls Tryz.prog 8 #[] W fun e w' => e = .returned (.bool true) ∧ Below W.heap.size W w')
    (c2 : ∀ W, Below w.heap.size w W → Calls Tryz.prog 14 #[.agg #[.string q.name, .int .i64 q.eps, .int .i64 q.floor, .int .i64 q.last, .int .i64 q.scale, .slice p q.pts.length cap]] W fun e w' => ∃ p' cap', e = .returned (.agg #[.string r.name, .int .i64 r.eps, .int .i64 r.floor, .int .i64 r.last, .int .i64 r.scale, .slice p' r.pts.length cap']) ∧ Below W.heap.size W w' ∧ PtsIn w' p' r.pts)
    (cH : ∀ W p' cap' er cn lo up mc, PtsIn W p' r.pts → I64 er → I64 cn → I64 lo → I64 up → I64 mc → Calls Tryz.prog 15 #[.agg #[.string r.name, .int .i64 r.eps, .int .i64 r.floor, .int .i64 r.last, .int .i64 r.scale, .slice p' r.pts.length cap'], .int .i64 k, .int .i64 a, .int .i64 b, .agg #[.int .i64 er, .int .i64 cn, .int .i64 lo, .int .i64 up, .int .i64 mc, .int .i64 lw, .int .i64 lr, .int .i64 hw, .int .i64 hr]] W fun e w' => e = .returned (.bool (H ⟨er, cn, lo, up, mc, lw, lr, hw, hr⟩)) ∧ Below W.heap.size W w') :
    Calls Tryz.prog 4 #[.agg #[.string q.name, .int .i64 q.eps, .int .i64 q.floor, .int .i64 q.last, .int .i64 q.scale, .slice p q.pts.length cap], .agg #[.int .i64 k, .int .i64 a, .int .i64 b, .int .i64 er, .int .i64 cn, .int .i64 lo, .int .i64 up, .int .i64 mc, .int .i64 lw, .int .i64 lr, .int .i64 hw, .int .i64 hr, .int .i64 slo, .int .i64 sup, .int .i64 serr, .slice sp sn scap]] w fun e w' => e = .returned (.bool true) ∧ Below w.heap.size w w' := by
  have H_c1 := Lib.hid c1
  clear c1
  go_enter Tryz.func4, Tryz.ntmps4
  replace c2 := Lib.hid c2
  replace cH := Lib.hid cH
  go_wp2_with fail
  refine (H_c1.out _ belowAny).mono ?_
  rintro e w1 ⟨rfl, hb1⟩
  have z2 := hb1.size
  try simp at z2
  refine haveB w w1 (Bc w.heap.size #[.string q.name, .int .i64 q.eps, .int .i64 q.floor, .int .i64 q.last, .int .i64 q.scale, .slice p q.pts.length cap] 35 <| Bc (w.heap.size + 1) #[.int .i64 k, .int .i64 a, .int .i64 b, .int .i64 er, .int .i64 cn, .int .i64 lo, .int .i64 up, .int .i64 mc, .int .i64 lw, .int .i64 lr, .int .i64 hw, .int .i64 hr, .int .i64 slo, .int .i64 sup, .int .i64 serr, .slice sp sn scap] 47 <| Bz) ?_
  rintro hW z3 ⟨⟨b1, yb1, k1, f1⟩, ⟨b2, yb2, k2, f2⟩, -⟩
  clear hb1
  go_wp2_with fail
  refine (c2.out _ belowAny).mono ?_
  rintro e w4 ⟨p', cap', rfl, hb4, hs⟩
  have z5 := hb4.size
  try simp at z5
  clear k1 f1 k2 f2
  refine haveB w w4 (Bc w.heap.size #[.string q.name, .int .i64 q.eps, .int .i64 q.floor, .int .i64 q.last, .int .i64 q.scale, .slice p q.pts.length cap] 35 <| Bc (w.heap.size + 1) #[.int .i64 k, .int .i64 a, .int .i64 b, .int .i64 er, .int .i64 cn, .int .i64 lo, .int .i64 up, .int .i64 mc, .int .i64 lw, .int .i64 lr, .int .i64 hw, .int .i64 hr, .int .i64 slo, .int .i64 sup, .int .i64 serr, .slice sp sn scap] 47 <| Bz) ?_
  clear b1 b2 hW
  rintro hW z6 ⟨⟨b1, yb1, k1, f1⟩, ⟨b2, yb2, k2, f2⟩, -⟩
  have b3 := hs
  clear hs
  go_wp2_with fail
  refine (cH.out _ p' cap' er cn lo up mc (PtsIn.below b3 (by exact belowAny)) ier icn ilo iup imc).mono ?_
  rintro e w7 ⟨rfl, hb7⟩
  have z8 := hb7.size
  try simp at z8
  clear k1 f1 k2 f2
  refine haveB w w7 (Bc w.heap.size #[.string q.name, .int .i64 q.eps, .int .i64 q.floor, .int .i64 q.last, .int .i64 q.scale, .slice p q.pts.length cap] 35 <| Bc (w.heap.size + 1) #[.int .i64 k, .int .i64 a, .int .i64 b, .int .i64 er, .int .i64 cn, .int .i64 lo, .int .i64 up, .int .i64 mc, .int .i64 lw, .int .i64 lr, .int .i64 hw, .int .i64 hr, .int .i64 slo, .int .i64 sup, .int .i64 serr, .slice sp sn scap] 47 <| Rc (fun W' => PtsIn W' p' r.pts) <| Bc w4.heap.size #[.string r.name, .int .i64 r.eps, .int .i64 r.floor, .int .i64 r.last, .int .i64 r.scale, .slice p' r.pts.length cap'] 35 <| Bz) ?_ (hR := (Bc.mk (by exact blkAny2) <| Bc.mk (by exact blkAny2) <| Rc.mk (by first | exact b3 | exact PtsIn.below (PtsIn.below b3 (by exact belowAny)) hb7) <| Bc.mk (by exact blkAny2) <| trivial))
  clear b1 b2 b3 hW
  rintro hW z9 ⟨⟨b1, yb1, k1, f1⟩, ⟨b2, yb2, k2, f2⟩, b3, ⟨b4, yb4, k4, f4⟩, -⟩
  rw [h0.out]
  go_wp2
  refine bodyPost_ret (by simp [results, Tryz.results4, go_sem, k1, f1, k2, f2, k4, f4, yb1, yb2, yb4]) rfl ⟨rfl, by exact belowAny⟩
set_option maxRecDepth 100000 in
set_option maxHeartbeats 2000000 in
theorem strict_one (q r : RawT) (p : Option Addr) (cap : Nat) (a b er cn lo up mc lw lr hw hr slo sup serr : Int) (sp : Option Addr) (sn scap : Nat) (H : An9 → Bool) (w : World) (ier : I64 er) (icn : I64 cn) (ilo : I64 lo) (iup : I64 up) (imc : I64 mc) (cn1 : Int) (icn1 : I64 cn1) (e1 : wrap64 (cn + 1) = cn1) (h0 : Hid (H ⟨er, cn, lo, up, mc, lw, lr, hw, hr⟩ = true)) (h1 : Hid (H ⟨er, cn1, lo, up, mc, lw, lr, hw, hr⟩ = false))
    (c1 : ∀ W, Below w.heap.size w W → Calls Tryz.prog 8 #[] W fun e w' => e = .returned (.bool true) ∧ Below W.heap.size W w')
    (c2 : ∀ W, Below w.heap.size w W → Calls Tryz.prog 14 #[.agg #[.string q.name, .int .i64 q.eps, .int .i64 q.floor, .int .i64 q.last, .int .i64 q.scale, .slice p q.pts.length cap]] W fun e w' => ∃ p' cap', e = .returned (.agg #[.string r.name, .int .i64 r.eps, .int .i64 r.floor, .int .i64 r.last, .int .i64 r.scale, .slice p' r.pts.length cap']) ∧ Below W.heap.size W w' ∧ PtsIn w' p' r.pts)
    (cH : ∀ W p' cap' er cn lo up mc, PtsIn W p' r.pts → I64 er → I64 cn → I64 lo → I64 up → I64 mc → Calls Tryz.prog 15 #[.agg #[.string r.name, .int .i64 r.eps, .int .i64 r.floor, .int .i64 r.last, .int .i64 r.scale, .slice p' r.pts.length cap'], .int .i64 1, .int .i64 a, .int .i64 b, .agg #[.int .i64 er, .int .i64 cn, .int .i64 lo, .int .i64 up, .int .i64 mc, .int .i64 lw, .int .i64 lr, .int .i64 hw, .int .i64 hr]] W fun e w' => e = .returned (.bool (H ⟨er, cn, lo, up, mc, lw, lr, hw, hr⟩)) ∧ Below W.heap.size W w') :
    Calls Tryz.prog 4 #[.agg #[.string q.name, .int .i64 q.eps, .int .i64 q.floor, .int .i64 q.last, .int .i64 q.scale, .slice p q.pts.length cap], .agg #[.int .i64 1, .int .i64 a, .int .i64 b, .int .i64 er, .int .i64 cn, .int .i64 lo, .int .i64 up, .int .i64 mc, .int .i64 lw, .int .i64 lr, .int .i64 hw, .int .i64 hr, .int .i64 slo, .int .i64 sup, .int .i64 serr, .slice sp sn scap]] w fun e w' => e = .returned (.bool true) ∧ Below w.heap.size w w' := by
  have H_c1 := Lib.hid c1
  clear c1
  go_enter Tryz.func4, Tryz.ntmps4
  replace c2 := Lib.hid c2
  replace cH := Lib.hid cH
  go_wp2_with fail
  refine (H_c1.out _ belowAny).mono ?_
  rintro e w1 ⟨rfl, hb1⟩
  have z2 := hb1.size
  try simp at z2
  refine haveB w w1 (Bc w.heap.size #[.string q.name, .int .i64 q.eps, .int .i64 q.floor, .int .i64 q.last, .int .i64 q.scale, .slice p q.pts.length cap] 35 <| Bc (w.heap.size + 1) #[.int .i64 1, .int .i64 a, .int .i64 b, .int .i64 er, .int .i64 cn, .int .i64 lo, .int .i64 up, .int .i64 mc, .int .i64 lw, .int .i64 lr, .int .i64 hw, .int .i64 hr, .int .i64 slo, .int .i64 sup, .int .i64 serr, .slice sp sn scap] 47 <| Bz) ?_
  rintro hW z3 ⟨⟨b1, yb1, k1, f1⟩, ⟨b2, yb2, k2, f2⟩, -⟩
  clear hb1
  go_wp2_with fail
  refine (c2.out _ belowAny).mono ?_
  rintro e w4 ⟨p', cap', rfl, hb4, hs⟩
  have z5 := hb4.size
  try simp at z5
  clear k1 f1 k2 f2
  refine haveB w w4 (Bc w.heap.size #[.string q.name, .int .i64 q.eps, .int .i64 q.floor, .int .i64 q.last, .int .i64 q.scale, .slice p q.pts.length cap] 35 <| Bc (w.heap.size + 1) #[.int .i64 1, .int .i64 a, .int .i64 b, .int .i64 er, .int .i64 cn, .int .i64 lo, .int .i64 up, .int .i64 mc, .int .i64 lw, .int .i64 lr, .int .i64 hw, .int .i64 hr, .int .i64 slo, .int .i64 sup, .int .i64 serr, .slice sp sn scap] 47 <| Bz) ?_
  clear b1 b2 hW
  rintro hW z6 ⟨⟨b1, yb1, k1, f1⟩, ⟨b2, yb2, k2, f2⟩, -⟩
  have b3 := hs
  clear hs
  go_wp2_with fail
  refine (cH.out _ p' cap' er cn lo up mc (PtsIn.below b3 (by exact belowAny)) ier icn ilo iup imc).mono ?_
  rintro e w7 ⟨rfl, hb7⟩
  have z8 := hb7.size
  try simp at z8
  clear k1 f1 k2 f2
  refine haveB w w7 (Bc w.heap.size #[.string q.name, .int .i64 q.eps, .int .i64 q.floor, .int .i64 q.last, .int .i64 q.scale, .slice p q.pts.length cap] 35 <| Bc (w.heap.size + 1) #[.int .i64 1, .int .i64 a, .int .i64 b, .int .i64 er, .int .i64 cn, .int .i64 lo, .int .i64 up, .int .i64 mc, .int .i64 lw, .int .i64 lr, .int .i64 hw, .int .i64 hr, .int .i64 slo, .int .i64 sup, .int .i64 serr, .slice sp sn scap] 47 <| Rc (fun W' => PtsIn W' p' r.pts) <| Bc w4.heap.size #[.string r.name, .int .i64 r.eps, .int .i64 r.floor, .int .i64 r.last, .int .i64 r.scale, .slice p' r.pts.length cap'] 35 <| Bz) ?_ (hR := (Bc.mk (by exact blkAny2) <| Bc.mk (by exact blkAny2) <| Rc.mk (by first | exact b3 | exact PtsIn.below (PtsIn.below b3 (by exact belowAny)) hb7) <| Bc.mk (by exact blkAny2) <| trivial))
  clear b1 b2 b3 hW
  rintro hW z9 ⟨⟨b1, yb1, k1, f1⟩, ⟨b2, yb2, k2, f2⟩, b3, ⟨b4, yb4, k4, f4⟩, -⟩
  rw [h0.out]
  go_wp2_with fail
  refine (cH.out _ p' cap' er cn1 lo up mc (PtsIn.below b3 (by exact belowAny)) ier icn1 ilo iup imc).mono ?_
  rintro e w10 ⟨rfl, hb10⟩
  have z11 := hb10.size
  try simp at z11
  clear k1 f1 k2 f2 k4 f4
  refine haveB w w10 (Bc w.heap.size #[.string q.name, .int .i64 q.eps, .int .i64 q.floor, .int .i64 q.last, .int .i64 q.scale, .slice p q.pts.length cap] 35 <| Bc (w.heap.size + 1) #[.int .i64 1, .int .i64 a, .int .i64 b, .int .i64 er, .int .i64 cn, .int .i64 lo, .int .i64 up, .int .i64 mc, .int .i64 lw, .int .i64 lr, .int .i64 hw, .int .i64 hr, .int .i64 slo, .int .i64 sup, .int .i64 serr, .slice sp sn scap] 47 <| Rc (fun W' => PtsIn W' p' r.pts) <| Bc w4.heap.size #[.string r.name, .int .i64 r.eps, .int .i64 r.floor, .int .i64 r.last, .int .i64 r.scale, .slice p' r.pts.length cap'] 35 <| Bc w7.heap.size #[.int .i64 er, .int .i64 cn1, .int .i64 lo, .int .i64 up, .int .i64 mc, .int .i64 lw, .int .i64 lr, .int .i64 hw, .int .i64 hr] 44 <| Bz) ?_ (hR := (Bc.mk (by exact blkAny2) <| Bc.mk (by exact blkAny2) <| Rc.mk (by first | exact b3 | exact PtsIn.below (PtsIn.below b3 (by exact belowAny)) hb10) <| Bc.mk (by exact blkAny2) <| Bc.mk (by exact blkAny2) <| trivial))
  clear b1 b2 b3 b4 hW
  rintro hW z12 ⟨⟨b1, yb1, k1, f1⟩, ⟨b2, yb2, k2, f2⟩, b3, ⟨b4, yb4, k4, f4⟩, ⟨b5, yb5, k5, f5⟩, -⟩
  rw [h1.out]
  go_wp2
  refine bodyPost_ret (by simp [results, Tryz.results4, go_sem, k1, f1, k2, f2, k4, f4, k5, f5, yb1, yb2, yb4, yb5]) rfl ⟨rfl, by exact belowAny⟩
set_option maxRecDepth 100000 in
set_option maxHeartbeats 2000000 in
theorem strict_five (q r : RawT) (p : Option Addr) (cap : Nat) (a b er cn lo up mc lw lr hw hr slo sup serr : Int) (sp : Option Addr) (sn scap : Nat) (H : An9 → Bool) (w : World) (ier : I64 er) (icn : I64 cn) (ilo : I64 lo) (iup : I64 up) (imc : I64 mc) (mc1 : Int) (imc1 : I64 mc1) (e1 : wrap64 (mc + 1) = mc1) (h0 : Hid (H ⟨er, cn, lo, up, mc, lw, lr, hw, hr⟩ = true)) (h1 : Hid (H ⟨er, cn, lo, up, mc1, lw, lr, hw, hr⟩ = false))
    (c1 : ∀ W, Below w.heap.size w W → Calls Tryz.prog 8 #[] W fun e w' => e = .returned (.bool true) ∧ Below W.heap.size W w')
    (c2 : ∀ W, Below w.heap.size w W → Calls Tryz.prog 14 #[.agg #[.string q.name, .int .i64 q.eps, .int .i64 q.floor, .int .i64 q.last, .int .i64 q.scale, .slice p q.pts.length cap]] W fun e w' => ∃ p' cap', e = .returned (.agg #[.string r.name, .int .i64 r.eps, .int .i64 r.floor, .int .i64 r.last, .int .i64 r.scale, .slice p' r.pts.length cap']) ∧ Below W.heap.size W w' ∧ PtsIn w' p' r.pts)
    (cH : ∀ W p' cap' er cn lo up mc, PtsIn W p' r.pts → I64 er → I64 cn → I64 lo → I64 up → I64 mc → Calls Tryz.prog 15 #[.agg #[.string r.name, .int .i64 r.eps, .int .i64 r.floor, .int .i64 r.last, .int .i64 r.scale, .slice p' r.pts.length cap'], .int .i64 5, .int .i64 a, .int .i64 b, .agg #[.int .i64 er, .int .i64 cn, .int .i64 lo, .int .i64 up, .int .i64 mc, .int .i64 lw, .int .i64 lr, .int .i64 hw, .int .i64 hr]] W fun e w' => e = .returned (.bool (H ⟨er, cn, lo, up, mc, lw, lr, hw, hr⟩)) ∧ Below W.heap.size W w') :
    Calls Tryz.prog 4 #[.agg #[.string q.name, .int .i64 q.eps, .int .i64 q.floor, .int .i64 q.last, .int .i64 q.scale, .slice p q.pts.length cap], .agg #[.int .i64 5, .int .i64 a, .int .i64 b, .int .i64 er, .int .i64 cn, .int .i64 lo, .int .i64 up, .int .i64 mc, .int .i64 lw, .int .i64 lr, .int .i64 hw, .int .i64 hr, .int .i64 slo, .int .i64 sup, .int .i64 serr, .slice sp sn scap]] w fun e w' => e = .returned (.bool true) ∧ Below w.heap.size w w' := by
  have H_c1 := Lib.hid c1
  clear c1
  go_enter Tryz.func4, Tryz.ntmps4
  replace c2 := Lib.hid c2
  replace cH := Lib.hid cH
  go_wp2_with fail
  refine (H_c1.out _ belowAny).mono ?_
  rintro e w1 ⟨rfl, hb1⟩
  have z2 := hb1.size
  try simp at z2
  refine haveB w w1 (Bc w.heap.size #[.string q.name, .int .i64 q.eps, .int .i64 q.floor, .int .i64 q.last, .int .i64 q.scale, .slice p q.pts.length cap] 35 <| Bc (w.heap.size + 1) #[.int .i64 5, .int .i64 a, .int .i64 b, .int .i64 er, .int .i64 cn, .int .i64 lo, .int .i64 up, .int .i64 mc, .int .i64 lw, .int .i64 lr, .int .i64 hw, .int .i64 hr, .int .i64 slo, .int .i64 sup, .int .i64 serr, .slice sp sn scap] 47 <| Bz) ?_
  rintro hW z3 ⟨⟨b1, yb1, k1, f1⟩, ⟨b2, yb2, k2, f2⟩, -⟩
  clear hb1
  go_wp2_with fail
  refine (c2.out _ belowAny).mono ?_
  rintro e w4 ⟨p', cap', rfl, hb4, hs⟩
  have z5 := hb4.size
  try simp at z5
  clear k1 f1 k2 f2
  refine haveB w w4 (Bc w.heap.size #[.string q.name, .int .i64 q.eps, .int .i64 q.floor, .int .i64 q.last, .int .i64 q.scale, .slice p q.pts.length cap] 35 <| Bc (w.heap.size + 1) #[.int .i64 5, .int .i64 a, .int .i64 b, .int .i64 er, .int .i64 cn, .int .i64 lo, .int .i64 up, .int .i64 mc, .int .i64 lw, .int .i64 lr, .int .i64 hw, .int .i64 hr, .int .i64 slo, .int .i64 sup, .int .i64 serr, .slice sp sn scap] 47 <| Bz) ?_
  clear b1 b2 hW
  rintro hW z6 ⟨⟨b1, yb1, k1, f1⟩, ⟨b2, yb2, k2, f2⟩, -⟩
  have b3 := hs
  clear hs
  go_wp2_with fail
  refine (cH.out _ p' cap' er cn lo up mc (PtsIn.below b3 (by exact belowAny)) ier icn ilo iup imc).mono ?_
  rintro e w7 ⟨rfl, hb7⟩
  have z8 := hb7.size
  try simp at z8
  clear k1 f1 k2 f2
  refine haveB w w7 (Bc w.heap.size #[.string q.name, .int .i64 q.eps, .int .i64 q.floor, .int .i64 q.last, .int .i64 q.scale, .slice p q.pts.length cap] 35 <| Bc (w.heap.size + 1) #[.int .i64 5, .int .i64 a, .int .i64 b, .int .i64 er, .int .i64 cn, .int .i64 lo, .int .i64 up, .int .i64 mc, .int .i64 lw, .int .i64 lr, .int .i64 hw, .int .i64 hr, .int .i64 slo, .int .i64 sup, .int .i64 serr, .slice sp sn scap] 47 <| Rc (fun W' => PtsIn W' p' r.pts) <| Bc w4.heap.size #[.string r.name, .int .i64 r.eps, .int .i64 r.floor, .int .i64 r.last, .int .i64 r.scale, .slice p' r.pts.length cap'] 35 <| Bz) ?_ (hR := (Bc.mk (by exact blkAny2) <| Bc.mk (by exact blkAny2) <| Rc.mk (by first | exact b3 | exact PtsIn.below (PtsIn.below b3 (by exact belowAny)) hb7) <| Bc.mk (by exact blkAny2) <| trivial))
  clear b1 b2 b3 hW
  rintro hW z9 ⟨⟨b1, yb1, k1, f1⟩, ⟨b2, yb2, k2, f2⟩, b3, ⟨b4, yb4, k4, f4⟩, -⟩
  rw [h0.out]
  go_wp2_with fail
  refine (cH.out _ p' cap' er cn lo up mc1 (PtsIn.below b3 (by exact belowAny)) ier icn ilo iup imc1).mono ?_
  rintro e w10 ⟨rfl, hb10⟩
  have z11 := hb10.size
  try simp at z11
  clear k1 f1 k2 f2 k4 f4
  refine haveB w w10 (Bc w.heap.size #[.string q.name, .int .i64 q.eps, .int .i64 q.floor, .int .i64 q.last, .int .i64 q.scale, .slice p q.pts.length cap] 35 <| Bc (w.heap.size + 1) #[.int .i64 5, .int .i64 a, .int .i64 b, .int .i64 er, .int .i64 cn, .int .i64 lo, .int .i64 up, .int .i64 mc, .int .i64 lw, .int .i64 lr, .int .i64 hw, .int .i64 hr, .int .i64 slo, .int .i64 sup, .int .i64 serr, .slice sp sn scap] 47 <| Rc (fun W' => PtsIn W' p' r.pts) <| Bc w4.heap.size #[.string r.name, .int .i64 r.eps, .int .i64 r.floor, .int .i64 r.last, .int .i64 r.scale, .slice p' r.pts.length cap'] 35 <| Bc w7.heap.size #[.int .i64 er, .int .i64 cn, .int .i64 lo, .int .i64 up, .int .i64 mc1, .int .i64 lw, .int .i64 lr, .int .i64 hw, .int .i64 hr] 44 <| Bz) ?_ (hR := (Bc.mk (by exact blkAny2) <| Bc.mk (by exact blkAny2) <| Rc.mk (by first | exact b3 | exact PtsIn.below (PtsIn.below b3 (by exact belowAny)) hb10) <| Bc.mk (by exact blkAny2) <| Bc.mk (by exact blkAny2) <| trivial))
  clear b1 b2 b3 b4 hW
  rintro hW z12 ⟨⟨b1, yb1, k1, f1⟩, ⟨b2, yb2, k2, f2⟩, b3, ⟨b4, yb4, k4, f4⟩, ⟨b5, yb5, k5, f5⟩, -⟩
  rw [h1.out]
  go_wp2
  refine bodyPost_ret (by simp [results, Tryz.results4, go_sem, k1, f1, k2, f2, k4, f4, k5, f5, yb1, yb2, yb4, yb5]) rfl ⟨rfl, by exact belowAny⟩
set_option maxRecDepth 100000 in
set_option maxHeartbeats 2000000 in
theorem strict_er (q r : RawT) (p : Option Addr) (cap : Nat) (a b er cn lo up mc lw lr hw hr slo sup serr : Int) (sp : Option Addr) (sn scap : Nat) (H : An9 → Bool) (w : World) (k : Int) (hk1 : (k == 1) = false) (hk5 : (k == 5) = false) (ier : I64 er) (icn : I64 cn) (ilo : I64 lo) (iup : I64 up) (imc : I64 mc) (i2 : I64 2) (he : (er != 0) = true) (h0 : Hid (H ⟨er, cn, lo, up, mc, lw, lr, hw, hr⟩ = true)) (h1 : Hid (H ⟨2, cn, lo, up, mc, lw, lr, hw, hr⟩ = false))
    (c1 : ∀ W, Below w.heap.size w W → Calls Tryz.prog 8 #[] W fun e w' => e = .returned (.bool true) ∧ Below W.heap.size W w')
    (c2 : ∀ W, Below w.heap.size w W → Calls Tryz.prog 14 #[.agg #[.string q.name, .int .i64 q.eps, .int .i64 q.floor, .int .i64 q.last, .int .i64 q.scale, .slice p q.pts.length cap]] W fun e w' => ∃ p' cap', e = .returned (.agg #[.string r.name, .int .i64 r.eps, .int .i64 r.floor, .int .i64 r.last, .int .i64 r.scale, .slice p' r.pts.length cap']) ∧ Below W.heap.size W w' ∧ PtsIn w' p' r.pts)
    (cH : ∀ W p' cap' er cn lo up mc, PtsIn W p' r.pts → I64 er → I64 cn → I64 lo → I64 up → I64 mc → Calls Tryz.prog 15 #[.agg #[.string r.name, .int .i64 r.eps, .int .i64 r.floor, .int .i64 r.last, .int .i64 r.scale, .slice p' r.pts.length cap'], .int .i64 k, .int .i64 a, .int .i64 b, .agg #[.int .i64 er, .int .i64 cn, .int .i64 lo, .int .i64 up, .int .i64 mc, .int .i64 lw, .int .i64 lr, .int .i64 hw, .int .i64 hr]] W fun e w' => e = .returned (.bool (H ⟨er, cn, lo, up, mc, lw, lr, hw, hr⟩)) ∧ Below W.heap.size W w') :
    Calls Tryz.prog 4 #[.agg #[.string q.name, .int .i64 q.eps, .int .i64 q.floor, .int .i64 q.last, .int .i64 q.scale, .slice p q.pts.length cap], .agg #[.int .i64 k, .int .i64 a, .int .i64 b, .int .i64 er, .int .i64 cn, .int .i64 lo, .int .i64 up, .int .i64 mc, .int .i64 lw, .int .i64 lr, .int .i64 hw, .int .i64 hr, .int .i64 slo, .int .i64 sup, .int .i64 serr, .slice sp sn scap]] w fun e w' => e = .returned (.bool true) ∧ Below w.heap.size w w' := by
  have H_c1 := Lib.hid c1
  clear c1
  go_enter Tryz.func4, Tryz.ntmps4
  replace c2 := Lib.hid c2
  replace cH := Lib.hid cH
  go_wp2_with fail
  refine (H_c1.out _ belowAny).mono ?_
  rintro e w1 ⟨rfl, hb1⟩
  have z2 := hb1.size
  try simp at z2
  refine haveB w w1 (Bc w.heap.size #[.string q.name, .int .i64 q.eps, .int .i64 q.floor, .int .i64 q.last, .int .i64 q.scale, .slice p q.pts.length cap] 35 <| Bc (w.heap.size + 1) #[.int .i64 k, .int .i64 a, .int .i64 b, .int .i64 er, .int .i64 cn, .int .i64 lo, .int .i64 up, .int .i64 mc, .int .i64 lw, .int .i64 lr, .int .i64 hw, .int .i64 hr, .int .i64 slo, .int .i64 sup, .int .i64 serr, .slice sp sn scap] 47 <| Bz) ?_
  rintro hW z3 ⟨⟨b1, yb1, k1, f1⟩, ⟨b2, yb2, k2, f2⟩, -⟩
  clear hb1
  go_wp2_with fail
  refine (c2.out _ belowAny).mono ?_
  rintro e w4 ⟨p', cap', rfl, hb4, hs⟩
  have z5 := hb4.size
  try simp at z5
  clear k1 f1 k2 f2
  refine haveB w w4 (Bc w.heap.size #[.string q.name, .int .i64 q.eps, .int .i64 q.floor, .int .i64 q.last, .int .i64 q.scale, .slice p q.pts.length cap] 35 <| Bc (w.heap.size + 1) #[.int .i64 k, .int .i64 a, .int .i64 b, .int .i64 er, .int .i64 cn, .int .i64 lo, .int .i64 up, .int .i64 mc, .int .i64 lw, .int .i64 lr, .int .i64 hw, .int .i64 hr, .int .i64 slo, .int .i64 sup, .int .i64 serr, .slice sp sn scap] 47 <| Bz) ?_
  clear b1 b2 hW
  rintro hW z6 ⟨⟨b1, yb1, k1, f1⟩, ⟨b2, yb2, k2, f2⟩, -⟩
  have b3 := hs
  clear hs
  go_wp2_with fail
  refine (cH.out _ p' cap' er cn lo up mc (PtsIn.below b3 (by exact belowAny)) ier icn ilo iup imc).mono ?_
  rintro e w7 ⟨rfl, hb7⟩
  have z8 := hb7.size
  try simp at z8
  clear k1 f1 k2 f2
  refine haveB w w7 (Bc w.heap.size #[.string q.name, .int .i64 q.eps, .int .i64 q.floor, .int .i64 q.last, .int .i64 q.scale, .slice p q.pts.length cap] 35 <| Bc (w.heap.size + 1) #[.int .i64 k, .int .i64 a, .int .i64 b, .int .i64 er, .int .i64 cn, .int .i64 lo, .int .i64 up, .int .i64 mc, .int .i64 lw, .int .i64 lr, .int .i64 hw, .int .i64 hr, .int .i64 slo, .int .i64 sup, .int .i64 serr, .slice sp sn scap] 47 <| Rc (fun W' => PtsIn W' p' r.pts) <| Bc w4.heap.size #[.string r.name, .int .i64 r.eps, .int .i64 r.floor, .int .i64 r.last, .int .i64 r.scale, .slice p' r.pts.length cap'] 35 <| Bz) ?_ (hR := (Bc.mk (by exact blkAny2) <| Bc.mk (by exact blkAny2) <| Rc.mk (by first | exact b3 | exact PtsIn.below (PtsIn.below b3 (by exact belowAny)) hb7) <| Bc.mk (by exact blkAny2) <| trivial))
  clear b1 b2 b3 hW
  rintro hW z9 ⟨⟨b1, yb1, k1, f1⟩, ⟨b2, yb2, k2, f2⟩, b3, ⟨b4, yb4, k4, f4⟩, -⟩
  rw [h0.out]
  go_wp2_with fail
  refine (cH.out _ p' cap' 2 cn lo up mc (PtsIn.below b3 (by exact belowAny)) i2 icn ilo iup imc).mono ?_
  rintro e w10 ⟨rfl, hb10⟩
  have z11 := hb10.size
  try simp at z11
  clear k1 f1 k2 f2 k4 f4
  refine haveB w w10 (Bc w.heap.size #[.string q.name, .int .i64 q.eps, .int .i64 q.floor, .int .i64 q.last, .int .i64 q.scale, .slice p q.pts.length cap] 35 <| Bc (w.heap.size + 1) #[.int .i64 k, .int .i64 a, .int .i64 b, .int .i64 er, .int .i64 cn, .int .i64 lo, .int .i64 up, .int .i64 mc, .int .i64 lw, .int .i64 lr, .int .i64 hw, .int .i64 hr, .int .i64 slo, .int .i64 sup, .int .i64 serr, .slice sp sn scap] 47 <| Rc (fun W' => PtsIn W' p' r.pts) <| Bc w4.heap.size #[.string r.name, .int .i64 r.eps, .int .i64 r.floor, .int .i64 r.last, .int .i64 r.scale, .slice p' r.pts.length cap'] 35 <| Bc w7.heap.size #[.int .i64 2, .int .i64 cn, .int .i64 lo, .int .i64 up, .int .i64 mc, .int .i64 lw, .int .i64 lr, .int .i64 hw, .int .i64 hr] 44 <| Bz) ?_ (hR := (Bc.mk (by exact blkAny2) <| Bc.mk (by exact blkAny2) <| Rc.mk (by first | exact b3 | exact PtsIn.below (PtsIn.below b3 (by exact belowAny)) hb10) <| Bc.mk (by exact blkAny2) <| Bc.mk (by exact blkAny2) <| trivial))
  clear b1 b2 b3 b4 hW
  rintro hW z12 ⟨⟨b1, yb1, k1, f1⟩, ⟨b2, yb2, k2, f2⟩, b3, ⟨b4, yb4, k4, f4⟩, ⟨b5, yb5, k5, f5⟩, -⟩
  rw [h1.out]
  go_wp2
  refine bodyPost_ret (by simp [results, Tryz.results4, go_sem, k1, f1, k2, f2, k4, f4, k5, f5, yb1, yb2, yb4, yb5]) rfl ⟨rfl, by exact belowAny⟩
set_option maxRecDepth 100000 in
set_option maxHeartbeats 2000000 in
theorem strict_far (q r : RawT) (p : Option Addr) (cap : Nat) (a b er cn lo up mc lw lr hw hr slo sup serr : Int) (sp : Option Addr) (sn scap : Nat) (H : An9 → Bool) (w : World) (k : Int) (hk1 : (k == 1) = false) (hk5 : (k == 5) = false) (i0 : I64 0) (icn : I64 cn) (ilo : I64 lo) (iup : I64 up) (imc : I64 mc) (i2 : I64 2) (hf1 : lo ≤ up) (hf2 : up ≤ lo + 4503599627370496) (hf3 : 4611686018427387904 < up) (h0 : Hid (H ⟨0, cn, lo, up, mc, lw, lr, hw, hr⟩ = true)) (h1 : Hid (H ⟨2, cn, lo, up, mc, lw, lr, hw, hr⟩ = false))
    (c1 : ∀ W, Below w.heap.size w W → Calls Tryz.prog 8 #[] W fun e w' => e = .returned (.bool true) ∧ Below W.heap.size W w')
    (c2 : ∀ W, Below w.heap.size w W → Calls Tryz.prog 14 #[.agg #[.string q.name, .int .i64 q.eps, .int .i64 q.floor, .int .i64 q.last, .int .i64 q.scale, .slice p q.pts.length cap]] W fun e w' => ∃ p' cap', e = .returned (.agg #[.string r.name, .int .i64 r.eps, .int .i64 r.floor, .int .i64 r.last, .int .i64 r.scale, .slice p' r.pts.length cap']) ∧ Below W.heap.size W w' ∧ PtsIn w' p' r.pts)
    (cH : ∀ W p' cap' er cn lo up mc, PtsIn W p' r.pts → I64 er → I64 cn → I64 lo → I64 up → I64 mc → Calls Tryz.prog 15 #[.agg #[.string r.name, .int .i64 r.eps, .int .i64 r.floor, .int .i64 r.last, .int .i64 r.scale, .slice p' r.pts.length cap'], .int .i64 k, .int .i64 a, .int .i64 b, .agg #[.int .i64 er, .int .i64 cn, .int .i64 lo, .int .i64 up, .int .i64 mc, .int .i64 lw, .int .i64 lr, .int .i64 hw, .int .i64 hr]] W fun e w' => e = .returned (.bool (H ⟨er, cn, lo, up, mc, lw, lr, hw, hr⟩)) ∧ Below W.heap.size W w') :
    Calls Tryz.prog 4 #[.agg #[.string q.name, .int .i64 q.eps, .int .i64 q.floor, .int .i64 q.last, .int .i64 q.scale, .slice p q.pts.length cap], .agg #[.int .i64 k, .int .i64 a, .int .i64 b, .int .i64 0, .int .i64 cn, .int .i64 lo, .int .i64 up, .int .i64 mc, .int .i64 lw, .int .i64 lr, .int .i64 hw, .int .i64 hr, .int .i64 slo, .int .i64 sup, .int .i64 serr, .slice sp sn scap]] w fun e w' => e = .returned (.bool true) ∧ Below w.heap.size w w' := by
  have e0 : wrap64 (up - lo) = up - lo := by simp only [wrap64_eq]; omega
  have e3 : ¬ (up - lo < 0) := by omega
  have H_c1 := Lib.hid c1
  clear c1
  go_enter Tryz.func4, Tryz.ntmps4
  replace c2 := Lib.hid c2
  replace cH := Lib.hid cH
  go_wp2_with fail
  refine (H_c1.out _ belowAny).mono ?_
  rintro e w1 ⟨rfl, hb1⟩
  have z2 := hb1.size
  try simp at z2
  refine haveB w w1 (Bc w.heap.size #[.string q.name, .int .i64 q.eps, .int .i64 q.floor, .int .i64 q.last, .int .i64 q.scale, .slice p q.pts.length cap] 35 <| Bc (w.heap.size + 1) #[.int .i64 k, .int .i64 a, .int .i64 b, .int .i64 0, .int .i64 cn, .int .i64 lo, .int .i64 up, .int .i64 mc, .int .i64 lw, .int .i64 lr, .int .i64 hw, .int .i64 hr, .int .i64 slo, .int .i64 sup, .int .i64 serr, .slice sp sn scap] 47 <| Bz) ?_
  rintro hW z3 ⟨⟨b1, yb1, k1, f1⟩, ⟨b2, yb2, k2, f2⟩, -⟩
  clear hb1
  go_wp2_with fail
  refine (c2.out _ belowAny).mono ?_
  rintro e w4 ⟨p', cap', rfl, hb4, hs⟩
  have z5 := hb4.size
  try simp at z5
  clear k1 f1 k2 f2
  refine haveB w w4 (Bc w.heap.size #[.string q.name, .int .i64 q.eps, .int .i64 q.floor, .int .i64 q.last, .int .i64 q.scale, .slice p q.pts.length cap] 35 <| Bc (w.heap.size + 1) #[.int .i64 k, .int .i64 a, .int .i64 b, .int .i64 0, .int .i64 cn, .int .i64 lo, .int .i64 up, .int .i64 mc, .int .i64 lw, .int .i64 lr, .int .i64 hw, .int .i64 hr, .int .i64 slo, .int .i64 sup, .int .i64 serr, .slice sp sn scap] 47 <| Bz) ?_
  clear b1 b2 hW
  rintro hW z6 ⟨⟨b1, yb1, k1, f1⟩, ⟨b2, yb2, k2, f2⟩, -⟩
  have b3 := hs
  clear hs
  go_wp2_with fail
  refine (cH.out _ p' cap' 0 cn lo up mc (PtsIn.below b3 (by exact belowAny)) i0 icn ilo iup imc).mono ?_
  rintro e w7 ⟨rfl, hb7⟩
  have z8 := hb7.size
  try simp at z8
  clear k1 f1 k2 f2
  refine haveB w w7 (Bc w.heap.size #[.string q.name, .int .i64 q.eps, .int .i64 q.floor, .int .i64 q.last, .int .i64 q.scale, .slice p q.pts.length cap] 35 <| Bc (w.heap.size + 1) #[.int .i64 k, .int .i64 a, .int .i64 b, .int .i64 0, .int .i64 cn, .int .i64 lo, .int .i64 up, .int .i64 mc, .int .i64 lw, .int .i64 lr, .int .i64 hw, .int .i64 hr, .int .i64 slo, .int .i64 sup, .int .i64 serr, .slice sp sn scap] 47 <| Rc (fun W' => PtsIn W' p' r.pts) <| Bc w4.heap.size #[.string r.name, .int .i64 r.eps, .int .i64 r.floor, .int .i64 r.last, .int .i64 r.scale, .slice p' r.pts.length cap'] 35 <| Bz) ?_ (hR := (Bc.mk (by exact blkAny2) <| Bc.mk (by exact blkAny2) <| Rc.mk (by first | exact b3 | exact PtsIn.below (PtsIn.below b3 (by exact belowAny)) hb7) <| Bc.mk (by exact blkAny2) <| trivial))
  clear b1 b2 b3 hW
  rintro hW z9 ⟨⟨b1, yb1, k1, f1⟩, ⟨b2, yb2, k2, f2⟩, b3, ⟨b4, yb4, k4, f4⟩, -⟩
  rw [h0.out]
  go_wp2_with fail
  refine (cH.out _ p' cap' 2 cn lo up mc (PtsIn.below b3 (by exact belowAny)) i2 icn ilo iup imc).mono ?_
  rintro e w10 ⟨rfl, hb10⟩
  have z11 := hb10.size
  try simp at z11
  clear k1 f1 k2 f2 k4 f4
  refine haveB w w10 (Bc w.heap.size #[.string q.name, .int .i64 q.eps, .int .i64 q.floor, .int .i64 q.last, .int .i64 q.scale, .slice p q.pts.length cap] 35 <| Bc (w.heap.size + 1) #[.int .i64 k, .int .i64 a, .int .i64 b, .int .i64 0, .int .i64 cn, .int .i64 lo, .int .i64 up, .int .i64 mc, .int .i64 lw, .int .i64 lr, .int .i64 hw, .int .i64 hr, .int .i64 slo, .int .i64 sup, .int .i64 serr, .slice sp sn scap] 47 <| Rc (fun W' => PtsIn W' p' r.pts) <| Bc w4.heap.size #[.string r.name, .int .i64 r.eps, .int .i64 r.floor, .int .i64 r.last, .int .i64 r.scale, .slice p' r.pts.length cap'] 35 <| Bc w7.heap.size #[.int .i64 2, .int .i64 cn, .int .i64 lo, .int .i64 up, .int .i64 mc, .int .i64 lw, .int .i64 lr, .int .i64 hw, .int .i64 hr] 44 <| Bz) ?_ (hR := (Bc.mk (by exact blkAny2) <| Bc.mk (by exact blkAny2) <| Rc.mk (by first | exact b3 | exact PtsIn.below (PtsIn.below b3 (by exact belowAny)) hb10) <| Bc.mk (by exact blkAny2) <| Bc.mk (by exact blkAny2) <| trivial))
  clear b1 b2 b3 b4 hW
  rintro hW z12 ⟨⟨b1, yb1, k1, f1⟩, ⟨b2, yb2, k2, f2⟩, b3, ⟨b4, yb4, k4, f4⟩, ⟨b5, yb5, k5, f5⟩, -⟩
  rw [h1.out]
  go_wp2
  refine bodyPost_ret (by simp [results, Tryz.results4, go_sem, k1, f1, k2, f2, k4, f4, k5, f5, yb1, yb2, yb4, yb5]) rfl ⟨rfl, by exact belowAny⟩
set_option maxRecDepth 100000 in
set_option maxHeartbeats 2000000 in
theorem strict_near (q r : RawT) (p : Option Addr) (cap : Nat) (a b er cn lo up mc lw lr hw hr slo sup serr : Int) (sp : Option Addr) (sn scap : Nat) (H : An9 → Bool) (w : World) (k : Int) (hk1 : (k == 1) = false) (hk5 : (k == 5) = false) (i0 : I64 0) (icn : I64 cn) (ilo : I64 lo) (iup : I64 up) (imc : I64 mc) (lo1 up1 up2 : Int) (ilo1 : I64 lo1) (iup1 : I64 up1) (iup2 : I64 up2) (hf1 : lo ≤ up) (hf2 : up ≤ lo + 4503599627370496) (hf3 : up ≤ 4611686018427387904)
    (e0 : wrap64 (up - lo) = up - lo) (e1 : wrap64 (wrap64 (lo + (up - lo)) + 1) = lo1) (e2 : wrap64 (wrap64 (up + (up - lo)) + 1) = up1) (e3 : wrap64 (up + wrap64 (wrap64 (wrap64 (2 * r.eps) * (r.pts.length : Int)) + 1)) = up2)
    (h0 : Hid (H ⟨0, cn, lo, up, mc, lw, lr, hw, hr⟩ = true)) (h1 : Hid (H ⟨0, cn, lo1, up1, mc, lw, lr, hw, hr⟩ = false)) (h2 : Hid (H ⟨0, cn, lo, up2, mc, lw, lr, hw, hr⟩ = false))
    (c1 : ∀ W, Below w.heap.size w W → Calls Tryz.prog 8 #[] W fun e w' => e = .returned (.bool true) ∧ Below W.heap.size W w')
    (c2 : ∀ W, Below w.heap.size w W → Calls Tryz.prog 14 #[.agg #[.string q.name, .int .i64 q.eps, .int .i64 q.floor, .int .i64 q.last, .int .i64 q.scale, .slice p q.pts.length cap]] W fun e w' => ∃ p' cap', e = .returned (.agg #[.string r.name, .int .i64 r.eps, .int .i64 r.floor, .int .i64 r.last, .int .i64 r.scale, .slice p' r.pts.length cap']) ∧ Below W.heap.size W w' ∧ PtsIn w' p' r.pts)
    (cH : ∀ W p' cap' er cn lo up mc, PtsIn W p' r.pts → I64 er → I64 cn → I64 lo → I64 up → I64 mc → Calls Tryz.prog 15 #[.agg #[.string r.name, .int .i64 r.eps, .int .i64 r.floor, .int .i64 r.last, .int .i64 r.scale, .slice p' r.pts.length cap'], .int .i64 k, .int .i64 a, .int .i64 b, .agg #[.int .i64 er, .int .i64 cn, .int .i64 lo, .int .i64 up, .int .i64 mc, .int .i64 lw, .int .i64 lr, .int .i64 hw, .int .i64 hr]] W fun e w' => e = .returned (.bool (H ⟨er, cn, lo, up, mc, lw, lr, hw, hr⟩)) ∧ Below W.heap.size W w') :
    Calls Tryz.prog 4 #[.agg #[.string q.name, .int .i64 q.eps, .int .i64 q.floor, .int .i64 q.last, .int .i64 q.scale, .slice p q.pts.length cap], .agg #[.int .i64 k, .int .i64 a, .int .i64 b, .int .i64 0, .int .i64 cn, .int .i64 lo, .int .i64 up, .int .i64 mc, .int .i64 lw, .int .i64 lr, .int .i64 hw, .int .i64 hr, .int .i64 slo, .int .i64 sup, .int .i64 serr, .slice sp sn scap]] w fun e w' => e = .returned (.bool true) ∧ Below w.heap.size w w' := by
  have e4 : ¬ (up - lo < 0) := by omega
  have H_c1 := Lib.hid c1
  clear c1
  go_enter Tryz.func4, Tryz.ntmps4
  replace c2 := Lib.hid c2
  replace cH := Lib.hid cH
  go_wp2_with fail
  refine (H_c1.out _ belowAny).mono ?_
  rintro e w1 ⟨rfl, hb1⟩
  have z2 := hb1.size
  try simp at z2
  refine haveB w w1 (Bc w.heap.size #[.string q.name, .int .i64 q.eps, .int .i64 q.floor, .int .i64 q.last, .int .i64 q.scale, .slice p q.pts.length cap] 35 <| Bc (w.heap.size + 1) #[.int .i64 k, .int .i64 a, .int .i64 b, .int .i64 0, .int .i64 cn, .int .i64 lo, .int .i64 up, .int .i64 mc, .int .i64 lw, .int .i64 lr, .int .i64 hw, .int .i64 hr, .int .i64 slo, .int .i64 sup, .int .i64 serr, .slice sp sn scap] 47 <| Bz) ?_
  rintro hW z3 ⟨⟨b1, yb1, k1, f1⟩, ⟨b2, yb2, k2, f2⟩, -⟩
  clear hb1
  go_wp2_with fail
  refine (c2.out _ belowAny).mono ?_
  rintro e w4 ⟨p', cap', rfl, hb4, hs⟩
  have z5 := hb4.size
  try simp at z5
  clear k1 f1 k2 f2
  refine haveB w w4 (Bc w.heap.size #[.string q.name, .int .i64 q.eps, .int .i64 q.floor, .int .i64 q.last, .int .i64 q.scale, .slice p q.pts.length cap] 35 <| Bc (w.heap.size + 1) #[.int .i64 k, .int .i64 a, .int .i64 b, .int .i64 0, .int .i64 cn, .int .i64 lo, .int .i64 up, .int .i64 mc, .int .i64 lw, .int .i64 lr, .int .i64 hw, .int .i64 hr, .int .i64 slo, .int .i64 sup, .int .i64 serr, .slice sp sn scap] 47 <| Bz) ?_
  clear b1 b2 hW
  rintro hW z6 ⟨⟨b1, yb1, k1, f1⟩, ⟨b2, yb2, k2, f2⟩, -⟩
  have b3 := hs
  clear hs
  go_wp2_with fail
  refine (cH.out _ p' cap' 0 cn lo up mc (PtsIn.below b3 (by exact belowAny)) i0 icn ilo iup imc).mono ?_
  rintro e w7 ⟨rfl, hb7⟩
  have z8 := hb7.size
  try simp at z8
  clear k1 f1 k2 f2
  refine haveB w w7 (Bc w.heap.size #[.string q.name, .int .i64 q.eps, .int .i64 q.floor, .int .i64 q.last, .int .i64 q.scale, .slice p q.pts.length cap] 35 <| Bc (w.heap.size + 1) #[.int .i64 k, .int .i64 a, .int .i64 b, .int .i64 0, .int .i64 cn, .int .i64 lo, .int .i64 up, .int .i64 mc, .int .i64 lw, .int .i64 lr, .int .i64 hw, .int .i64 hr, .int .i64 slo, .int .i64 sup, .int .i64 serr, .slice sp sn scap] 47 <| Rc (fun W' => PtsIn W' p' r.pts) <| Bc w4.heap.size #[.string r.name, .int .i64 r.eps, .int .i64 r.floor, .int .i64 r.last, .int .i64 r.scale, .slice p' r.pts.length cap'] 35 <| Bz) ?_ (hR := (Bc.mk (by exact blkAny2) <| Bc.mk (by exact blkAny2) <| Rc.mk (by first | exact b3 | exact PtsIn.below (PtsIn.below b3 (by exact belowAny)) hb7) <| Bc.mk (by exact blkAny2) <| trivial))
  clear b1 b2 b3 hW
  rintro hW z9 ⟨⟨b1, yb1, k1, f1⟩, ⟨b2, yb2, k2, f2⟩, b3, ⟨b4, yb4, k4, f4⟩, -⟩
  rw [h0.out]
  go_wp2_with fail
  refine (cH.out _ p' cap' 0 cn lo up2 mc (PtsIn.below b3 (by exact belowAny)) i0 icn ilo iup2 imc).mono ?_
  rintro e w10 ⟨rfl, hb10⟩
  have z11 := hb10.size
  try simp at z11
  clear k1 f1 k2 f2 k4 f4
  refine haveB w w10 (Bc w.heap.size #[.string q.name, .int .i64 q.eps, .int .i64 q.floor, .int .i64 q.last, .int .i64 q.scale, .slice p q.pts.length cap] 35 <| Bc (w.heap.size + 1) #[.int .i64 k, .int .i64 a, .int .i64 b, .int .i64 0, .int .i64 cn, .int .i64 lo, .int .i64 up, .int .i64 mc, .int .i64 lw, .int .i64 lr, .int .i64 hw, .int .i64 hr, .int .i64 slo, .int .i64 sup, .int .i64 serr, .slice sp sn scap] 47 <| Rc (fun W' => PtsIn W' p' r.pts) <| Bc w4.heap.size #[.string r.name, .int .i64 r.eps, .int .i64 r.floor, .int .i64 r.last, .int .i64 r.scale, .slice p' r.pts.length cap'] 35 <| Bc w7.heap.size #[.int .i64 0, .int .i64 cn, .int .i64 lo1, .int .i64 up1, .int .i64 mc, .int .i64 lw, .int .i64 lr, .int .i64 hw, .int .i64 hr] 44 <| Bc (w7.heap.size + 1) #[.int .i64 0, .int .i64 cn, .int .i64 lo, .int .i64 up2, .int .i64 mc, .int .i64 lw, .int .i64 lr, .int .i64 hw, .int .i64 hr] 44 <| Bz) ?_ (hR := (Bc.mk (by exact blkAny2) <| Bc.mk (by exact blkAny2) <| Rc.mk (by first | exact b3 | exact PtsIn.below (PtsIn.below b3 (by exact belowAny)) hb10) <| Bc.mk (by exact blkAny2) <| Bc.mk (by exact blkAny2) <| Bc.mk (by exact blkAny2) <| trivial))
  clear b1 b2 b3 b4 hW
  rintro hW z12 ⟨⟨b1, yb1, k1, f1⟩, ⟨b2, yb2, k2, f2⟩, b3, ⟨b4, yb4, k4, f4⟩, ⟨b5, yb5, k5, f5⟩, ⟨b6, yb6, k6, f6⟩, -⟩
  rw [h2.out]
  go_wp2_with fail
  refine (cH.out _ p' cap' 0 cn lo1 up1 mc (PtsIn.below b3 (by exact belowAny)) i0 icn ilo1 iup1 imc).mono ?_
  rintro e w13 ⟨rfl, hb13⟩
  have z14 := hb13.size
  try simp at z14
  clear k1 f1 k2 f2 k4 f4 k5 f5 k6 f6
  refine haveB w w13 (Bc w.heap.size #[.string q.name, .int .i64 q.eps, .int .i64 q.floor, .int .i64 q.last, .int .i64 q.scale, .slice p q.pts.length cap] 35 <| Bc (w.heap.size + 1) #[.int .i64 k, .int .i64 a, .int .i64 b, .int .i64 0, .int .i64 cn, .int .i64 lo, .int .i64 up, .int .i64 mc, .int .i64 lw, .int .i64 lr, .int .i64 hw, .int .i64 hr, .int .i64 slo, .int .i64 sup, .int .i64 serr, .slice sp sn scap] 47 <| Rc (fun W' => PtsIn W' p' r.pts) <| Bc w4.heap.size #[.string r.name, .int .i64 r.eps, .int .i64 r.floor, .int .i64 r.last, .int .i64 r.scale, .slice p' r.pts.length cap'] 35 <| Bc w7.heap.size #[.int .i64 0, .int .i64 cn, .int .i64 lo1, .int .i64 up1, .int .i64 mc, .int .i64 lw, .int .i64 lr, .int .i64 hw, .int .i64 hr] 44 <| Bc (w7.heap.size + 1) #[.int .i64 0, .int .i64 cn, .int .i64 lo, .int .i64 up2, .int .i64 mc, .int .i64 lw, .int .i64 lr, .int .i64 hw, .int .i64 hr] 44 <| Bz) ?_ (hR := (Bc.mk (by exact blkAny2) <| Bc.mk (by exact blkAny2) <| Rc.mk (by first | exact b3 | exact PtsIn.below (PtsIn.below b3 (by exact belowAny)) hb13) <| Bc.mk (by exact blkAny2) <| Bc.mk (by exact blkAny2) <| Bc.mk (by exact blkAny2) <| trivial))
  clear b1 b2 b3 b4 b5 b6 hW
  rintro hW z15 ⟨⟨b1, yb1, k1, f1⟩, ⟨b2, yb2, k2, f2⟩, b3, ⟨b4, yb4, k4, f4⟩, ⟨b5, yb5, k5, f5⟩, ⟨b6, yb6, k6, f6⟩, -⟩
  rw [h1.out]
  go_wp2
  refine bodyPost_ret (by simp [results, Tryz.results4, go_sem, k1, f1, k2, f2, k4, f4, k5, f5, k6, f6, yb1, yb2, yb4, yb5, yb6]) rfl ⟨rfl, by exact belowAny⟩
end Go.Proofs.YtdeghcgakkhbmaaGreat
namespace Go.Proofs.YtdeghcgakkhbmaaGreat
open Go.RowKit
set_option maxRecDepth 100000 in
set_option maxHeartbeats 2000000 in
theorem total_plain (n ea eb s1 s2 er cn lo up mc lw lr hw hr eps v1 v2 v4 F4 : Int) (Lb : Bool) (w : World) (he0 : 0 ≤ eps) (he1 : eps ≤ 1099511627776) (her : (er == 5) = false)
    (c1 : ∀ W, Calls Tryz.prog 89 #[.int .i64 (2 * eps), .int .i64 n] W fun e w' => e = .returned (.agg #[.int .i64 v1, .int .u64 v2]) ∧ Below W.heap.size W w')
    (c2 : ∀ W, Calls Tryz.prog 91 #[.agg #[.int .i64 s1, .int .u64 s2]] W fun e w' => e = .returned (.tuple #[.int .i64 v4, .int .i64 F4]) ∧ Below W.heap.size W w')
    (c3 : ∀ W, Calls Tryz.prog 45 #[.agg #[.int .i64 lo, .int .i64 up], .int .i64 v4, .int .u64 v2] W fun e w' => e = .returned (.bool Lb) ∧ Below W.heap.size W w') :
    Calls Tryz.prog 43 #[.agg #[.int .i64 n, .int .i64 ea, .int .i64 eb, .int .i64 s1, .int .u64 s2], .agg #[.int .i64 er, .int .i64 cn, .int .i64 lo, .int .i64 up, .int .i64 mc, .int .i64 lw, .int .i64 lr, .int .i64 hw, .int .i64 hr], .int .i64 eps] w fun e w' => e = .returned (.bool ((er == 0) && (F4 == 0) && Lb)) ∧ Below w.heap.size w w' := by
  have EQ2 := Lib.hid (show wrap64 (2 * eps) = 2 * eps by simp only [wrap64_eq]; omega)
  have H_c1 := Lib.hid c1
  clear c1
  have H_c2 := Lib.hid c2
  clear c2
  have H_c3 := Lib.hid c3
  clear c3
  go_enter Tryz.func43, Tryz.ntmps43
  go_upto_region 1 with (fail)
  refine wp_cutB w (Bc w.heap.size #[.int .i64 n, .int .i64 ea, .int .i64 eb, .int .i64 s1, .int .u64 s2] 91 <| Bc (w.heap.size + 1) #[.int .i64 er, .int .i64 cn, .int .i64 lo, .int .i64 up, .int .i64 mc, .int .i64 lw, .int .i64 lr, .int .i64 hw, .int .i64 hr] 44 <| Bz) ?_
  rintro W1 hW z2 ⟨⟨b1, yb1, k1, f1⟩, ⟨b2, yb2, k2, f2⟩, -⟩
  go_wp2_with fail
  refine (H_c1.out _).mono ?_
  rintro e w3 ⟨rfl, hb3⟩
  have z4 := hb3.size
  try simp at z4
  clear k1 f1 k2 f2
  refine haveB w w3 (Bc w.heap.size #[.int .i64 n, .int .i64 ea, .int .i64 eb, .int .i64 s1, .int .u64 s2] 91 <| Bc (w.heap.size + 1) #[.int .i64 er, .int .i64 cn, .int .i64 lo, .int .i64 up, .int .i64 mc, .int .i64 lw, .int .i64 lr, .int .i64 hw, .int .i64 hr] 44 <| Bz) ?_
  clear b1 b2 hW
  rintro hW z5 ⟨⟨b1, yb1, k1, f1⟩, ⟨b2, yb2, k2, f2⟩, -⟩
  clear hb3
  go_wp2_with fail
  refine (H_c2.out _).mono ?_
  rintro e w6 ⟨rfl, hb6⟩
  have z7 := hb6.size
  try simp at z7
  clear k1 f1 k2 f2
  refine haveB w w6 (Bc w.heap.size #[.int .i64 n, .int .i64 ea, .int .i64 eb, .int .i64 s1, .int .u64 s2] 91 <| Bc (w.heap.size + 1) #[.int .i64 er, .int .i64 cn, .int .i64 lo, .int .i64 up, .int .i64 mc, .int .i64 lw, .int .i64 lr, .int .i64 hw, .int .i64 hr] 44 <| Bc w3.heap.size #[.int .i64 v1, .int .u64 v2] 89 <| Bz) ?_
  clear b1 b2 hW
  rintro hW z8 ⟨⟨b1, yb1, k1, f1⟩, ⟨b2, yb2, k2, f2⟩, ⟨b3, yb3, k3, f3⟩, -⟩
  clear hb6
  go_upto_region 9 with (fail)
  clear k1 f1 k2 f2 k3 f3
  refine wp_cutB w (Bc w.heap.size #[.int .i64 n, .int .i64 ea, .int .i64 eb, .int .i64 s1, .int .u64 s2] 91 <| Bc (w.heap.size + 1) #[.int .i64 er, .int .i64 cn, .int .i64 lo, .int .i64 up, .int .i64 mc, .int .i64 lw, .int .i64 lr, .int .i64 hw, .int .i64 hr] 44 <| Bc w3.heap.size #[.int .i64 v1, .int .u64 v2] 89 <| Bz) ?_
  clear b1 b2 b3 hW
  rintro W9 hW z10 hL
  refine wp_regS 16 83 hW hL ?_
  iterate 4 refine dE (fun W' hC => EQ2.out) ?_
  iterate 2 refine gE (fun W' hC => EQ2.out) ?_
  refine pA ?_
  refine dE (fun W' hC => EQ2.out) ?_
  iterate 5 refine gE (fun W' hC => EQ2.out) ?_
  apply nd_callvg2 (p := true) (hg := rfl) (hd := rfl) (hal := rfl)
  · intro v W' h
    simp [envOf, Det] at h
    simp
    exact h
  · intro hp hx W' hC
    exact H_c3.out W'
  · intro hp hx a W' hC hE
    obtain ⟨_, ⟨-, -, k1, -⟩, ⟨-, -, k2, -⟩, ⟨-, -, k3, -⟩, -⟩ := hC
    first
      | (simp [Oper.looksAt, Op.operands, Call.operands, envOf, Det, GDet, hx] at hE; simp [go_sem, Act.eval, IntWalk.i64_left, hE, k1, k2, k3, EQ2.out]; try rfl)
      | (clear hE; simp [go_sem, Act.eval, IntWalk.i64_left, k1, k2, k3, EQ2.out]; try rfl)
  refine pA ?_
  refine dE (fun W' hC => EQ2.out) ?_
  clear hW hL
  rintro W11 hW z12 hL
  simp only [ndR]
  intros
  repeat (rename GDet _ _ _ _ => hgd; clear hgd)
  simp only [ndS]
  refine wpList_nil ?_
  obtain ⟨⟨b1, yb1, k1, f1⟩, ⟨b2, yb2, k2, f2⟩, ⟨b3, yb3, k3, f3⟩, -⟩ := hL
  go_wp2
  refine bodyPost_ret (by simp [results, Tryz.results43, go_sem, k1, f1, k2, f2, k3, f3, yb1, yb2, yb3]) rfl ⟨rfl, by exact belowAny⟩
set_option maxRecDepth 100000 in
set_option maxHeartbeats 2000000 in
theorem total_over (n ea eb s1 s2 cn lo up mc lw lr hw hr eps v1 v2 p1 p2 q1 q2 e2 e3 v4 F4 v5 F5 : Int) (w : World) (he0 : 0 ≤ eps) (he1 : eps ≤ 1099511627776)
    (c1 : ∀ W, Calls Tryz.prog 89 #[.int .i64 (2 * eps), .int .i64 n] W fun e w' => e = .returned (.agg #[.int .i64 v1, .int .u64 v2]) ∧ Below W.heap.size W w')
    (c2 : ∀ W, Calls Tryz.prog 90 #[.agg #[.int .i64 s1, .int .u64 s2], .agg #[.int .i64 v1, .int .u64 v2]] W fun e w' => e = .returned (.tuple #[.agg #[.int .i64 p1, .int .u64 p2], .int .i64 e2]) ∧ Below W.heap.size W w')
    (c3 : ∀ W, Calls Tryz.prog 87 #[.agg #[.int .i64 s1, .int .u64 s2], .agg #[.int .i64 v1, .int .u64 v2]] W fun e w' => e = .returned (.tuple #[.agg #[.int .i64 q1, .int .u64 q2], .int .i64 e3]) ∧ Below W.heap.size W w')
    (c4 : ∀ W, Calls Tryz.prog 91 #[.agg #[.int .i64 p1, .int .u64 p2]] W fun e w' => e = .returned (.tuple #[.int .i64 v4, .int .i64 F4]) ∧ Below W.heap.size W w')
    (c5 : ∀ W, Calls Tryz.prog 91 #[.agg #[.int .i64 q1, .int .u64 q2]] W fun e w' => e = .returned (.tuple #[.int .i64 v5, .int .i64 F5]) ∧ Below W.heap.size W w') :
    Calls Tryz.prog 43 #[.agg #[.int .i64 n, .int .i64 ea, .int .i64 eb, .int .i64 s1, .int .u64 s2], .agg #[.int .i64 5, .int .i64 cn, .int .i64 lo, .int .i64 up, .int .i64 mc, .int .i64 lw, .int .i64 lr, .int .i64 hw, .int .i64 hr], .int .i64 eps] w fun e w' => e = .returned (.bool ((lo == 0) && (up == 0) && ((F4 != 0) || (F5 != 0)))) ∧ Below w.heap.size w w' := by
  have EQ2 := Lib.hid (show wrap64 (2 * eps) = 2 * eps by simp only [wrap64_eq]; omega)
  have H_c1 := Lib.hid c1
  clear c1
  have H_c2 := Lib.hid c2
  clear c2
  have H_c3 := Lib.hid c3
  clear c3
  have H_c4 := Lib.hid c4
  clear c4
  have H_c5 := Lib.hid c5
  clear c5
  go_enter Tryz.func43, Tryz.ntmps43
  go_upto_region 1 with (fail)
  refine wp_cutB w (Bc w.heap.size #[.int .i64 n, .int .i64 ea, .int .i64 eb, .int .i64 s1, .int .u64 s2] 91 <| Bc (w.heap.size + 1) #[.int .i64 5, .int .i64 cn, .int .i64 lo, .int .i64 up, .int .i64 mc, .int .i64 lw, .int .i64 lr, .int .i64 hw, .int .i64 hr] 44 <| Bz) ?_
  rintro W1 hW z2 ⟨⟨b1, yb1, k1, f1⟩, ⟨b2, yb2, k2, f2⟩, -⟩
  go_wp2_with fail
  refine (H_c1.out _).mono ?_
  rintro e w3 ⟨rfl, hb3⟩
  have z4 := hb3.size
  try simp at z4
  clear k1 f1 k2 f2
  refine haveB w w3 (Bc w.heap.size #[.int .i64 n, .int .i64 ea, .int .i64 eb, .int .i64 s1, .int .u64 s2] 91 <| Bc (w.heap.size + 1) #[.int .i64 5, .int .i64 cn, .int .i64 lo, .int .i64 up, .int .i64 mc, .int .i64 lw, .int .i64 lr, .int .i64 hw, .int .i64 hr] 44 <| Bz) ?_
  clear b1 b2 hW
  rintro hW z5 ⟨⟨b1, yb1, k1, f1⟩, ⟨b2, yb2, k2, f2⟩, -⟩
  clear hb3
  go_wp2_with fail
  refine (H_c2.out _).mono ?_
  rintro e w6 ⟨rfl, hb6⟩
  have z7 := hb6.size
  try simp at z7
  clear k1 f1 k2 f2
  refine haveB w w6 (Bc w.heap.size #[.int .i64 n, .int .i64 ea, .int .i64 eb, .int .i64 s1, .int .u64 s2] 91 <| Bc (w.heap.size + 1) #[.int .i64 5, .int .i64 cn, .int .i64 lo, .int .i64 up, .int .i64 mc, .int .i64 lw, .int .i64 lr, .int .i64 hw, .int .i64 hr] 44 <| Bc w3.heap.size #[.int .i64 v1, .int .u64 v2] 89 <| Bz) ?_
  clear b1 b2 hW
  rintro hW z8 ⟨⟨b1, yb1, k1, f1⟩, ⟨b2, yb2, k2, f2⟩, ⟨b3, yb3, k3, f3⟩, -⟩
  clear hb6
  go_wp2_with fail
  refine (H_c3.out _).mono ?_
  rintro e w9 ⟨rfl, hb9⟩
  have z10 := hb9.size
  try simp at z10
  clear k1 f1 k2 f2 k3 f3
  refine haveB w w9 (Bc w.heap.size #[.int .i64 n, .int .i64 ea, .int .i64 eb, .int .i64 s1, .int .u64 s2] 91 <| Bc (w.heap.size + 1) #[.int .i64 5, .int .i64 cn, .int .i64 lo, .int .i64 up, .int .i64 mc, .int .i64 lw, .int .i64 lr, .int .i64 hw, .int .i64 hr] 44 <| Bc w3.heap.size #[.int .i64 v1, .int .u64 v2] 89 <| Bc w6.heap.size #[.int .i64 p1, .int .u64 p2] 89 <| Bz) ?_
  clear b1 b2 b3 hW
  rintro hW z11 ⟨⟨b1, yb1, k1, f1⟩, ⟨b2, yb2, k2, f2⟩, ⟨b3, yb3, k3, f3⟩, ⟨b4, yb4, k4, f4⟩, -⟩
  clear hb9
  go_wp2_with fail
  refine (H_c4.out _).mono ?_
  rintro e w12 ⟨rfl, hb12⟩
  have z13 := hb12.size
  try simp at z13
  clear k1 f1 k2 f2 k3 f3 k4 f4
  refine haveB w w12 (Bc w.heap.size #[.int .i64 n, .int .i64 ea, .int .i64 eb, .int .i64 s1, .int .u64 s2] 91 <| Bc (w.heap.size + 1) #[.int .i64 5, .int .i64 cn, .int .i64 lo, .int .i64 up, .int .i64 mc, .int .i64 lw, .int .i64 lr, .int .i64 hw, .int .i64 hr] 44 <| Bc w3.heap.size #[.int .i64 v1, .int .u64 v2] 89 <| Bc w6.heap.size #[.int .i64 p1, .int .u64 p2] 89 <| Bc w9.heap.size #[.int .i64 q1, .int .u64 q2] 89 <| Bz) ?_
  clear b1 b2 b3 b4 hW
  rintro hW z14 ⟨⟨b1, yb1, k1, f1⟩, ⟨b2, yb2, k2, f2⟩, ⟨b3, yb3, k3, f3⟩, ⟨b4, yb4, k4, f4⟩, ⟨b5, yb5, k5, f5⟩, -⟩
  clear hb12
  go_wp2_with fail
  refine (H_c5.out _).mono ?_
  rintro e w15 ⟨rfl, hb15⟩
  have z16 := hb15.size
  try simp at z16
  clear k1 f1 k2 f2 k3 f3 k4 f4 k5 f5
  refine haveB w w15 (Bc w.heap.size #[.int .i64 n, .int .i64 ea, .int .i64 eb, .int .i64 s1, .int .u64 s2] 91 <| Bc (w.heap.size + 1) #[.int .i64 5, .int .i64 cn, .int .i64 lo, .int .i64 up, .int .i64 mc, .int .i64 lw, .int .i64 lr, .int .i64 hw, .int .i64 hr] 44 <| Bc w3.heap.size #[.int .i64 v1, .int .u64 v2] 89 <| Bc w6.heap.size #[.int .i64 p1, .int .u64 p2] 89 <| Bc w9.heap.size #[.int .i64 q1, .int .u64 q2] 89 <| Bz) ?_
  clear b1 b2 b3 b4 b5 hW
  rintro hW z17 ⟨⟨b1, yb1, k1, f1⟩, ⟨b2, yb2, k2, f2⟩, ⟨b3, yb3, k3, f3⟩, ⟨b4, yb4, k4, f4⟩, ⟨b5, yb5, k5, f5⟩, -⟩
  clear hb15
  go_upto_region 7 with (fail)
  clear k1 f1 k2 f2 k3 f3 k4 f4 k5 f5
  refine wp_cutB w (Bc w.heap.size #[.int .i64 n, .int .i64 ea, .int .i64 eb, .int .i64 s1, .int .u64 s2] 91 <| Bc (w.heap.size + 1) #[.int .i64 5, .int .i64 cn, .int .i64 lo, .int .i64 up, .int .i64 mc, .int .i64 lw, .int .i64 lr, .int .i64 hw, .int .i64 hr] 44 <| Bc w3.heap.size #[.int .i64 v1, .int .u64 v2] 89 <| Bc w6.heap.size #[.int .i64 p1, .int .u64 p2] 89 <| Bc w9.heap.size #[.int .i64 q1, .int .u64 q2] 89 <| Bz) ?_
  clear b1 b2 b3 b4 b5 hW
  rintro W18 hW z19 hL
  obtain ⟨⟨b1, yb1, k1, f1⟩, ⟨b2, yb2, k2, f2⟩, ⟨b3, yb3, k3, f3⟩, ⟨b4, yb4, k4, f4⟩, ⟨b5, yb5, k5, f5⟩, -⟩ := id hL
  clear k1 f1 k2 f2 k3 f3 k4 f4 k5 f5
  refine wp_regS 13 83 hW hL ?_
  iterate 3 refine dA ?_
  apply nd_det (.bool ((lo == 0) && (up == 0))) (hg := rfl) (hal := rfl)
  · intro a' W' hC hE
    simp [Oper.looksAt, Op.operands, Call.operands, envOf, Det] at hE
    simp [go_sem, Act.eval, hE]
    repeat' split
    all_goals simp_all
  refine dA ?_
  iterate 3 refine gA ?_
  iterate 2 refine gB ?_
  refine pgO ?_
  refine pA ?_
  refine dA ?_
  clear hW hL b1 b2 b3 b4 b5
  rintro W20 hW z21 hL
  simp only [ndR]
  intros
  repeat (rename GDet _ _ _ _ => hgd; clear hgd)
  simp only [ndS]
  refine wpList_nil ?_
  obtain ⟨⟨b1, yb1, k1, f1⟩, ⟨b2, yb2, k2, f2⟩, ⟨b3, yb3, k3, f3⟩, ⟨b4, yb4, k4, f4⟩, ⟨b5, yb5, k5, f5⟩, -⟩ := hL
  go_wp2
  refine bodyPost_ret (by simp [results, Tryz.results43, go_sem, k1, f1, k2, f2, k3, f3, k4, f4, k5, f5, yb1, yb2, yb3, yb4, yb5]) rfl ⟨rfl, by exact belowAny⟩
end Go.Proofs.YtdeghcgakkhbmaaGreat
