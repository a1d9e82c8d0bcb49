/- Parts of the proof that follows: Layer model: whether a mean holds. No condition but the numbers' bounds. | Layer model, plainly: whether an answer holds of a raw series, and that one which was moved, made wider, or counts one more does not. No condition. | Layer model: whether a sum holds. No condition but the numbers' bounds. | Layer model: whether an answer holds. No condition but the numbers' bounds. | Layer model: whether an answer holds of a raw series, for every question. No condition but the numbers' bounds. | Layer model: whether what is told of a time holds. No condition but the numbers' bounds. -/
import Derived.Test.YtdeghcgakkhbmaaGreatHs12
set_option linter.unusedSimpArgs false
set_option linter.unusedVariables false
namespace Go.Proofs.YtdeghcgakkhbmaaGreat
open Go.RowKit
set_option maxRecDepth 100000 in
set_option maxHeartbeats 2000000 in
theorem mdMean_w (n ea eb s1 s2 mc lw lr hw hr eps p1 p2 q1 q2 u1 u2 e3 C4 C5 v1 v2 C7 : Int) (B1 B2 : Bool) (w : World) (he0 : 0 ≤ eps) (he1 : eps ≤ 1099511627776)
    (c1 : ∀ W, Calls Tryz.prog 92 #[.agg #[.int .i64 lw, .int .i64 lr], .int .i64 n] W fun e w' => e = .returned (.tuple #[.agg #[.int .i64 p1, .int .u64 p2], .bool B1]) ∧ Below W.heap.size W w')
        (c2 : ∀ W, Calls Tryz.prog 92 #[.agg #[.int .i64 hw, .int .i64 hr], .int .i64 n] W fun e w' => e = .returned (.tuple #[.agg #[.int .i64 q1, .int .u64 q2], .bool B2]) ∧ Below W.heap.size W w')
        (c3 : ∀ W, Calls Tryz.prog 90 #[.agg #[.int .i64 q1, .int .u64 q2], .agg #[.int .i64 p1, .int .u64 p2]] W fun e w' => e = .returned (.tuple #[.agg #[.int .i64 u1, .int .u64 u2], .int .i64 e3]) ∧ Below W.heap.size W w')
        (c4 : ∀ W, Calls Tryz.prog 93 #[.agg #[.int .i64 p1, .int .u64 p2], .agg #[.int .i64 s1, .int .u64 s2]] W fun e w' => e = .returned (.int .i64 C4) ∧ Below W.heap.size W w')
        (c5 : ∀ W, Calls Tryz.prog 93 #[.agg #[.int .i64 s1, .int .u64 s2], .agg #[.int .i64 q1, .int .u64 q2]] W fun e w' => e = .returned (.int .i64 C5) ∧ Below W.heap.size W w')
        (c6 : ∀ W, Calls Tryz.prog 89 #[.int .i64 (2 * eps), .int .i64 n] W fun e w' => e = .returned (.agg #[.int .i64 v1, .int .u64 v2]) ∧ Below W.heap.size W w')
        (c7 : ∀ W, Calls Tryz.prog 93 #[.agg #[.int .i64 u1, .int .u64 u2], .agg #[.int .i64 v1, .int .u64 v2]] W fun e w' => e = .returned (.int .i64 C7) ∧ Below W.heap.size W w') :
    Calls Tryz.prog 44 #[.agg #[.int .i64 n, .int .i64 ea, .int .i64 eb, .int .i64 s1, .int .u64 s2], .agg #[.int .i64 mc, .int .i64 lw, .int .i64 lr, .int .i64 hw, .int .i64 hr], .int .i64 eps] w fun e w' => e = .returned (.bool (B1 && B2 && (e3 == 0) && (mc == n) && decide (C4 ≤ 0) && decide (C5 ≤ 0) && decide (C7 ≤ 0))) ∧ Below w.heap.size w w' := by
  have EQ2 := Lib.hid (show wrap64 (2 * eps) = 2 * eps by simp only [wrap64_eq]; omega)
  have H_c1 := Lib.hid c1
  clear c1
  have H_c2 := Lib.hid c2
  clear c2
  have H_c3 := Lib.hid c3
  clear c3
  have H_c4 := Lib.hid c4
  clear c4
  have H_c5 := Lib.hid c5
  clear c5
  have H_c6 := Lib.hid c6
  clear c6
  have H_c7 := Lib.hid c7
  clear c7
  go_enter Tryz.func44, Tryz.ntmps44
  go_upto_region 1 with (fail)
  refine wp_cutB w (Bc w.heap.size #[.int .i64 n, .int .i64 ea, .int .i64 eb, .int .i64 s1, .int .u64 s2] 91 <| Bc (w.heap.size + 1) #[.int .i64 mc, .int .i64 lw, .int .i64 lr, .int .i64 hw, .int .i64 hr] 42 <| Bz) ?_
  rintro W1 hW z2 ⟨⟨b1, yb1, k1, f1⟩, ⟨b2, yb2, k2, f2⟩, -⟩
  go_wp2_with fail
  refine (H_c1.out _).mono ?_
  rintro e w3 ⟨rfl, hb3⟩
  have z4 := hb3.size
  try simp at z4
  clear k1 f1 k2 f2
  refine haveB w w3 (Bc w.heap.size #[.int .i64 n, .int .i64 ea, .int .i64 eb, .int .i64 s1, .int .u64 s2] 91 <| Bc (w.heap.size + 1) #[.int .i64 mc, .int .i64 lw, .int .i64 lr, .int .i64 hw, .int .i64 hr] 42 <| Bz) ?_
  clear b1 b2 hW
  rintro hW z5 ⟨⟨b1, yb1, k1, f1⟩, ⟨b2, yb2, k2, f2⟩, -⟩
  clear hb3
  go_wp2_with fail
  refine (H_c2.out _).mono ?_
  rintro e w6 ⟨rfl, hb6⟩
  have z7 := hb6.size
  try simp at z7
  clear k1 f1 k2 f2
  refine haveB w w6 (Bc w.heap.size #[.int .i64 n, .int .i64 ea, .int .i64 eb, .int .i64 s1, .int .u64 s2] 91 <| Bc (w.heap.size + 1) #[.int .i64 mc, .int .i64 lw, .int .i64 lr, .int .i64 hw, .int .i64 hr] 42 <| Bc w3.heap.size #[.int .i64 p1, .int .u64 p2] 89 <| Bz) ?_
  clear b1 b2 hW
  rintro hW z8 ⟨⟨b1, yb1, k1, f1⟩, ⟨b2, yb2, k2, f2⟩, ⟨b3, yb3, k3, f3⟩, -⟩
  clear hb6
  go_wp2_with fail
  refine (H_c3.out _).mono ?_
  rintro e w9 ⟨rfl, hb9⟩
  have z10 := hb9.size
  try simp at z10
  clear k1 f1 k2 f2 k3 f3
  refine haveB w w9 (Bc w.heap.size #[.int .i64 n, .int .i64 ea, .int .i64 eb, .int .i64 s1, .int .u64 s2] 91 <| Bc (w.heap.size + 1) #[.int .i64 mc, .int .i64 lw, .int .i64 lr, .int .i64 hw, .int .i64 hr] 42 <| Bc w3.heap.size #[.int .i64 p1, .int .u64 p2] 89 <| Bc w6.heap.size #[.int .i64 q1, .int .u64 q2] 89 <| Bz) ?_
  clear b1 b2 b3 hW
  rintro hW z11 ⟨⟨b1, yb1, k1, f1⟩, ⟨b2, yb2, k2, f2⟩, ⟨b3, yb3, k3, f3⟩, ⟨b4, yb4, k4, f4⟩, -⟩
  clear hb9
  go_upto_region 4 with (fail)
  clear k1 f1 k2 f2 k3 f3 k4 f4
  refine wp_cutB w (Bc w.heap.size #[.int .i64 n, .int .i64 ea, .int .i64 eb, .int .i64 s1, .int .u64 s2] 91 <| Bc (w.heap.size + 1) #[.int .i64 mc, .int .i64 lw, .int .i64 lr, .int .i64 hw, .int .i64 hr] 42 <| Bc w3.heap.size #[.int .i64 p1, .int .u64 p2] 89 <| Bc w6.heap.size #[.int .i64 q1, .int .u64 q2] 89 <| Bc w9.heap.size #[.int .i64 u1, .int .u64 u2] 89 <| Bz) ?_
  clear b1 b2 b3 b4 hW
  rintro W12 hW z13 ⟨⟨b1, yb1, k1, f1⟩, ⟨b2, yb2, k2, f2⟩, ⟨b3, yb3, k3, f3⟩, ⟨b4, yb4, k4, f4⟩, ⟨b5, yb5, k5, f5⟩, -⟩
  go_upto_region 4 with (fail)
  clear k1 f1 k2 f2 k3 f3 k4 f4 k5 f5
  refine wp_cutB w (Bc w.heap.size #[.int .i64 n, .int .i64 ea, .int .i64 eb, .int .i64 s1, .int .u64 s2] 91 <| Bc (w.heap.size + 1) #[.int .i64 mc, .int .i64 lw, .int .i64 lr, .int .i64 hw, .int .i64 hr] 42 <| Bc w3.heap.size #[.int .i64 p1, .int .u64 p2] 89 <| Bc w6.heap.size #[.int .i64 q1, .int .u64 q2] 89 <| Bc w9.heap.size #[.int .i64 u1, .int .u64 u2] 89 <| Bz) ?_
  clear b1 b2 b3 b4 b5 hW
  rintro W14 hW z15 hL
  refine wp_regD 40 74 hW hL ?_
  iterate 2 refine dE (fun W' hC => EQ2.out) ?_
  refine gE (fun W' hC => EQ2.out) ?_
  refine pA ?_
  refine dE (fun W' hC => EQ2.out) ?_
  iterate 2 refine gE (fun W' hC => EQ2.out) ?_
  refine pA ?_
  refine dE (fun W' hC => EQ2.out) ?_
  iterate 5 refine gE (fun W' hC => EQ2.out) ?_
  refine pA ?_
  refine dE (fun W' hC => EQ2.out) ?_
  iterate 3 refine gE (fun W' hC => EQ2.out) ?_
  apply nd_callvg2 (p := true) (hg := rfl) (hd := rfl) (hal := rfl)
  · intro v W' h
    simp [envOf, Det] at h
    simp
    exact h
  · intro hp hx W' hC
    exact H_c4.out W'
  · intro hp hx a W' hC hE
    obtain ⟨_, ⟨-, -, k1, -⟩, ⟨-, -, k2, -⟩, ⟨-, -, k3, -⟩, ⟨-, -, k4, -⟩, ⟨-, -, k5, -⟩, -⟩ := hC
    first
      | (simp [Oper.looksAt, Op.operands, Call.operands, envOf, Det, GDet, hx] at hE; simp [go_sem, Act.eval, IntWalk.i64_left, hE, k1, k2, k3, k4, k5, EQ2.out]; try rfl)
      | (clear hE; simp [go_sem, Act.eval, IntWalk.i64_left, k1, k2, k3, k4, k5, EQ2.out]; try rfl)
  refine gE (fun W' hC => EQ2.out) ?_
  refine pA ?_
  refine dE (fun W' hC => EQ2.out) ?_
  iterate 3 refine gE (fun W' hC => EQ2.out) ?_
  apply nd_callvg2 (p := true) (hg := rfl) (hd := rfl) (hal := rfl)
  · intro v W' h
    simp [envOf, Det] at h
    simp
    exact h
  · intro hp hx W' hC
    exact H_c5.out W'
  · intro hp hx a W' hC hE
    obtain ⟨_, ⟨-, -, k1, -⟩, ⟨-, -, k2, -⟩, ⟨-, -, k3, -⟩, ⟨-, -, k4, -⟩, ⟨-, -, k5, -⟩, -⟩ := hC
    first
      | (simp [Oper.looksAt, Op.operands, Call.operands, envOf, Det, GDet, hx] at hE; simp [go_sem, Act.eval, IntWalk.i64_left, hE, k1, k2, k3, k4, k5, EQ2.out]; try rfl)
      | (clear hE; simp [go_sem, Act.eval, IntWalk.i64_left, k1, k2, k3, k4, k5, EQ2.out]; try rfl)
  refine gE (fun W' hC => EQ2.out) ?_
  refine pA ?_
  refine dE (fun W' hC => EQ2.out) ?_
  iterate 5 refine gE (fun W' hC => EQ2.out) ?_
  apply nd_callvg2 (p := true) (hg := rfl) (hd := rfl) (hal := rfl)
  · intro v W' h
    simp [envOf, Det] at h
    simp
    exact h
  · intro hp hx W' hC
    exact H_c6.out W'
  · intro hp hx a W' hC hE
    obtain ⟨_, ⟨-, -, k1, -⟩, ⟨-, -, k2, -⟩, ⟨-, -, k3, -⟩, ⟨-, -, k4, -⟩, ⟨-, -, k5, -⟩, -⟩ := hC
    first
      | (simp [Oper.looksAt, Op.operands, Call.operands, envOf, Det, GDet, hx] at hE; simp [go_sem, Act.eval, IntWalk.i64_left, hE, k1, k2, k3, k4, k5, EQ2.out]; try rfl)
      | (clear hE; simp [go_sem, Act.eval, IntWalk.i64_left, k1, k2, k3, k4, k5, EQ2.out]; try rfl)
  apply nd_callvg2 (p := true) (hg := rfl) (hd := rfl) (hal := rfl)
  · intro v W' h
    simp [envOf, Det] at h
    simp
    exact h
  · intro hp hx W' hC
    exact H_c7.out W'
  · intro hp hx a W' hC hE
    obtain ⟨_, ⟨-, -, k1, -⟩, ⟨-, -, k2, -⟩, ⟨-, -, k3, -⟩, ⟨-, -, k4, -⟩, ⟨-, -, k5, -⟩, -⟩ := hC
    first
      | (simp [Oper.looksAt, Op.operands, Call.operands, envOf, Det, GDet, hx] at hE; simp [go_sem, Act.eval, IntWalk.i64_left, hE, k1, k2, k3, k4, k5, EQ2.out]; try rfl)
      | (clear hE; simp [go_sem, Act.eval, IntWalk.i64_left, k1, k2, k3, k4, k5, EQ2.out]; try rfl)
  refine gE (fun W' hC => EQ2.out) ?_
  refine pA ?_
  refine dE (fun W' hC => EQ2.out) ?_
  clear hW hL
  rintro W16 hW z17 hL
  simp only [ndR]
  intros
  repeat (rename GDet _ _ _ _ => hgd; clear hgd)
  simp only [ndS]
  refine wpList_nil ?_
  obtain ⟨⟨b1, yb1, k1, f1⟩, ⟨b2, yb2, k2, f2⟩, ⟨b3, yb3, k3, f3⟩, ⟨b4, yb4, k4, f4⟩, ⟨b5, yb5, k5, f5⟩, -⟩ := hL
  go_wp2
  refine bodyPost_ret (by simp [results, Tryz.results44, go_sem, k1, f1, k2, f2, k3, f3, k4, f4, k5, f5, yb1, yb2, yb3, yb4, yb5]) rfl ⟨rfl, by exact belowAny⟩
/-- Does a mean hold, of so many numbers that come to s? -/
def meanB (n s mc lw lr hw hr eps : Int) : Bool :=
  (decide (0 ≤ lr) && decide (lr < n)) && (decide (0 ≤ hr) && decide (hr < n)) && ((0 : Int) == 0) && (mc == n) && decide (cmpI (lw * n + lr) s ≤ 0) && decide (cmpI s (hw * n + hr) ≤ 0) && decide (cmpI (hw * n + hr - (lw * n + lr)) (2 * eps * n) ≤ 0)
theorem c_mdMean (n ea eb s mc lw lr hw hr eps : Int) (w : World) (h0 : 0 ≤ n) (h1 : n ≤ 1000000) (hs : W128 s) (a1 : I64 lw) (a2 : I64 lr) (a3 : I64 hw) (a4 : I64 hr) (he0 : 0 ≤ eps) (he1 : eps ≤ 1099511627776) :
    Calls Tryz.prog 44 #[.agg (exA (n, (ea, eb), s)), .agg #[.int .i64 mc, .int .i64 lw, .int .i64 lr, .int .i64 hw, .int .i64 hr], .int .i64 eps] w fun e w' => e = .returned (.bool (meanB n s mc lw lr hw hr eps)) ∧ Below w.heap.size w w' := by
  have b1 := mdMul_bd a1 h0 h1
  have b2 := mdMul_bd a3 h0 h1
  have q1 : W128 (lw * n + lr) := by unfold W128; unfold I64 at a2; omega
  have q2 : W128 (hw * n + hr) := by unfold W128; unfold I64 at a4; omega
  have q3 : W128 (hw * n + hr - (lw * n + lr)) := by unfold W128; unfold I64 at a2 a4; omega
  have c3 := fun W => c_Sub (hw * n + hr) (lw * n + lr) W q2 q1
  rw [inW_in q3, wrapW_in q3] at c3
  exact mdMean_w n ea eb _ _ mc lw lr hw hr eps _ _ _ _ _ _ _ _ _ _ _ _ _ _ w he0 he1 (fun W => c_mdOver lw lr n W a1 a2 h0 h1) (fun W => c_mdOver hw hr n W a3 a4 h0 h1) c3 (fun W => c_Compare _ _ W) (fun W => c_Compare _ _ W) (fun W => c_Mul (2 * eps) n W (by unfold I64; omega) (by unfold I64; omega)) (fun W => c_Compare _ _ W)
end Go.Proofs.YtdeghcgakkhbmaaGreat
namespace Go.Proofs.YtdeghcgakkhbmaaGreat
open Go.RowKit
/-- An answer's numbers. -/
structure An9 where
  er : Int
  cn : Int
  lo : Int
  up : Int
  mc : Int
  lw : Int
  lr : Int
  hw : Int
  hr : Int
def An9.ok (y : An9) : Prop := I64 y.er ∧ I64 y.cn ∧ I64 y.lo ∧ I64 y.up ∧ I64 y.mc ∧ I64 y.lw ∧ I64 y.lr ∧ I64 y.hw ∧ I64 y.hr
def anA (y : An9) : Array Value := #[.int .i64 y.er, .int .i64 y.cn, .int .i64 y.lo, .int .i64 y.up, .int .i64 y.mc, .int .i64 y.lw, .int .i64 y.lr, .int .i64 y.hw, .int .i64 y.hr]
def eq9 (y : An9) (er cn : Int) : Bool := (y.er == er) && ((y.cn == cn) && ((y.lo == 0) && ((y.up == 0) && ((y.mc == 0) && ((y.lw == 0) && ((y.lr == 0) && ((y.hw == 0) && (y.hr == 0))))))))
def bareSpan (y : An9) : Bool := (y.cn == 0) && ((y.mc == 0) && ((y.lw == 0) && ((y.lr == 0) && ((y.hw == 0) && (y.hr == 0)))))
def bareMean (y : An9) : Bool := (y.cn == 0) && ((y.lo == 0) && (y.up == 0))
/-- Does a sum hold, of so many numbers that come to s? -/
def totalB (n s : Int) (y : An9) (eps : Int) : Bool :=
  if y.er = 5 then (y.lo == 0) && (y.up == 0) && ((we (inI (s - 2 * eps * n)) != 0) || (we (inI (s + 2 * eps * n)) != 0))
  else (y.er == 0) && (we (inI s) == 0) && liesB y.lo y.up (wv (inI s) s) (loW (2 * eps * n))
/-- Does an answer hold of points? -/
def holdsX (X : Int × (Int × Int) × Int) (eps what : Int) (y : An9) : Bool :=
  if what = 1 then eq9 y 0 X.1
  else if X.1 = 0 then eq9 y 9 0
  else if what = 5 then bareMean y && ((y.er == 0) && meanB X.1 X.2.2 y.mc y.lw y.lr y.hw y.hr eps)
  else bareSpan y && (if what = 4 then totalB X.1 X.2.2 y eps else (y.er == 0) && liesB y.lo y.up (if what = 2 then X.2.1.1 else X.2.1.2) (2 * eps))
def holdsB (r : RawT) (what a b : Int) (y : An9) : Bool := rawB r && (decide (1 ≤ what) && decide (what ≤ 5)) && holdsX (toldsL (tellG a b r.pts)) r.eps what y
theorem rawB_parts {r : RawT} (h : rawB r = true) : (0 ≤ r.eps ∧ r.eps ≤ 1099511627776) ∧ r.pts.length ≤ 1024 ∧ ∀ x, x ∈ r.pts → ptB x = true := by
  unfold rawB rawNumsB at h
  simp only [Bool.and_eq_true, btw, decide_eq_true_eq] at h
  obtain ⟨⟨_, h2, _, _, _, h6⟩, h7, _⟩ := h
  exact ⟨h2, h6, fun x hx => (rawPtsB_mem _ _ _ h7 x hx).1⟩
theorem told_few {r : RawT} (h : rawB r = true) (a b : Int) : 0 ≤ (toldsL (tellG a b r.pts)).1 ∧ (toldsL (tellG a b r.pts)).1 ≤ r.pts.length := by
  obtain ⟨_, h2, h3⟩ := rawB_parts h
  have hl := tellG_length a b r.pts
  have := (tolds_is (l := tellG a b r.pts) (by omega) (fun x hx => h3 x (tellG_mem hx))).1
  omega
end Go.Proofs.YtdeghcgakkhbmaaGreat
namespace Go.Proofs.YtdeghcgakkhbmaaGreat
open Go.RowKit
set_option maxRecDepth 100000 in
set_option maxHeartbeats 2000000 in
theorem total_plain (n ea eb s1 s2 er cn lo up mc lw lr hw hr eps v1 v2 v4 F4 : Int) (Lb : Bool) (w : World) (he0 : 0 ≤ eps) (he1 : eps ≤ 1099511627776) (her : (er == 5) = false)
    (c1 : ∀ W, Calls Tryz.prog 89 #[.int .i64 (2 * eps), .int .i64 n] W fun e w' => e = .returned (.agg #[.int .i64 v1, .int .u64 v2]) ∧ Below W.heap.size W w')
    (c2 : ∀ W, Calls Tryz.prog 91 #[.agg #[.int .i64 s1, .int .u64 s2]] W fun e w' => e = .returned (.tuple #[.int .i64 v4, .int .i64 F4]) ∧ Below W.heap.size W w')
    (c3 : ∀ W, Calls Tryz.prog 45 #[.agg #[.int .i64 lo, .int .i64 up], .int .i64 v4, .int .u64 v2] W fun e w' => e = .returned (.bool Lb) ∧ Below W.heap.size W w') :
    Calls Tryz.prog 43 #[.agg #[.int .i64 n, .int .i64 ea, .int .i64 eb, .int .i64 s1, .int .u64 s2], .agg #[.int .i64 er, .int .i64 cn, .int .i64 lo, .int .i64 up, .int .i64 mc, .int .i64 lw, .int .i64 lr, .int .i64 hw, .int .i64 hr], .int .i64 eps] w fun e w' => e = .returned (.bool ((er == 0) && (F4 == 0) && Lb)) ∧ Below w.heap.size w w' := by
  have EQ2 := Lib.hid (show wrap64 (2 * eps) = 2 * eps by simp only [wrap64_eq]; omega)
  have H_c1 := Lib.hid c1
  clear c1
  have H_c2 := Lib.hid c2
  clear c2
  have H_c3 := Lib.hid c3
  clear c3
  go_enter Tryz.func43, Tryz.ntmps43
  go_upto_region 1 with (fail)
  refine wp_cutB w (Bc w.heap.size #[.int .i64 n, .int .i64 ea, .int .i64 eb, .int .i64 s1, .int .u64 s2] 91 <| Bc (w.heap.size + 1) #[.int .i64 er, .int .i64 cn, .int .i64 lo, .int .i64 up, .int .i64 mc, .int .i64 lw, .int .i64 lr, .int .i64 hw, .int .i64 hr] 44 <| Bz) ?_
  rintro W1 hW z2 ⟨⟨b1, yb1, k1, f1⟩, ⟨b2, yb2, k2, f2⟩, -⟩
  go_wp2_with fail
  refine (H_c1.out _).mono ?_
  rintro e w3 ⟨rfl, hb3⟩
  have z4 := hb3.size
  try simp at z4
  clear k1 f1 k2 f2
  refine haveB w w3 (Bc w.heap.size #[.int .i64 n, .int .i64 ea, .int .i64 eb, .int .i64 s1, .int .u64 s2] 91 <| Bc (w.heap.size + 1) #[.int .i64 er, .int .i64 cn, .int .i64 lo, .int .i64 up, .int .i64 mc, .int .i64 lw, .int .i64 lr, .int .i64 hw, .int .i64 hr] 44 <| Bz) ?_
  clear b1 b2 hW
  rintro hW z5 ⟨⟨b1, yb1, k1, f1⟩, ⟨b2, yb2, k2, f2⟩, -⟩
  clear hb3
  go_wp2_with fail
  refine (H_c2.out _).mono ?_
  rintro e w6 ⟨rfl, hb6⟩
  have z7 := hb6.size
  try simp at z7
  clear k1 f1 k2 f2
  refine haveB w w6 (Bc w.heap.size #[.int .i64 n, .int .i64 ea, .int .i64 eb, .int .i64 s1, .int .u64 s2] 91 <| Bc (w.heap.size + 1) #[.int .i64 er, .int .i64 cn, .int .i64 lo, .int .i64 up, .int .i64 mc, .int .i64 lw, .int .i64 lr, .int .i64 hw, .int .i64 hr] 44 <| Bc w3.heap.size #[.int .i64 v1, .int .u64 v2] 89 <| Bz) ?_
  clear b1 b2 hW
  rintro hW z8 ⟨⟨b1, yb1, k1, f1⟩, ⟨b2, yb2, k2, f2⟩, ⟨b3, yb3, k3, f3⟩, -⟩
  clear hb6
  go_upto_region 9 with (fail)
  clear k1 f1 k2 f2 k3 f3
  refine wp_cutB w (Bc w.heap.size #[.int .i64 n, .int .i64 ea, .int .i64 eb, .int .i64 s1, .int .u64 s2] 91 <| Bc (w.heap.size + 1) #[.int .i64 er, .int .i64 cn, .int .i64 lo, .int .i64 up, .int .i64 mc, .int .i64 lw, .int .i64 lr, .int .i64 hw, .int .i64 hr] 44 <| Bc w3.heap.size #[.int .i64 v1, .int .u64 v2] 89 <| Bz) ?_
  clear b1 b2 b3 hW
  rintro W9 hW z10 hL
  refine wp_regS 16 83 hW hL ?_
  iterate 4 refine dE (fun W' hC => EQ2.out) ?_
  iterate 2 refine gE (fun W' hC => EQ2.out) ?_
  refine pA ?_
  refine dE (fun W' hC => EQ2.out) ?_
  iterate 5 refine gE (fun W' hC => EQ2.out) ?_
  apply nd_callvg2 (p := true) (hg := rfl) (hd := rfl) (hal := rfl)
  · intro v W' h
    simp [envOf, Det] at h
    simp
    exact h
  · intro hp hx W' hC
    exact H_c3.out W'
  · intro hp hx a W' hC hE
    obtain ⟨_, ⟨-, -, k1, -⟩, ⟨-, -, k2, -⟩, ⟨-, -, k3, -⟩, -⟩ := hC
    first
      | (simp [Oper.looksAt, Op.operands, Call.operands, envOf, Det, GDet, hx] at hE; simp [go_sem, Act.eval, IntWalk.i64_left, hE, k1, k2, k3, EQ2.out]; try rfl)
      | (clear hE; simp [go_sem, Act.eval, IntWalk.i64_left, k1, k2, k3, EQ2.out]; try rfl)
  refine pA ?_
  refine dE (fun W' hC => EQ2.out) ?_
  clear hW hL
  rintro W11 hW z12 hL
  simp only [ndR]
  intros
  repeat (rename GDet _ _ _ _ => hgd; clear hgd)
  simp only [ndS]
  refine wpList_nil ?_
  obtain ⟨⟨b1, yb1, k1, f1⟩, ⟨b2, yb2, k2, f2⟩, ⟨b3, yb3, k3, f3⟩, -⟩ := hL
  go_wp2
  refine bodyPost_ret (by simp [results, Tryz.results43, go_sem, k1, f1, k2, f2, k3, f3, yb1, yb2, yb3]) rfl ⟨rfl, by exact belowAny⟩
set_option maxRecDepth 100000 in
set_option maxHeartbeats 2000000 in
theorem total_over (n ea eb s1 s2 cn lo up mc lw lr hw hr eps v1 v2 p1 p2 q1 q2 e2 e3 v4 F4 v5 F5 : Int) (w : World) (he0 : 0 ≤ eps) (he1 : eps ≤ 1099511627776)
    (c1 : ∀ W, Calls Tryz.prog 89 #[.int .i64 (2 * eps), .int .i64 n] W fun e w' => e = .returned (.agg #[.int .i64 v1, .int .u64 v2]) ∧ Below W.heap.size W w')
    (c2 : ∀ W, Calls Tryz.prog 90 #[.agg #[.int .i64 s1, .int .u64 s2], .agg #[.int .i64 v1, .int .u64 v2]] W fun e w' => e = .returned (.tuple #[.agg #[.int .i64 p1, .int .u64 p2], .int .i64 e2]) ∧ Below W.heap.size W w')
    (c3 : ∀ W, Calls Tryz.prog 87 #[.agg #[.int .i64 s1, .int .u64 s2], .agg #[.int .i64 v1, .int .u64 v2]] W fun e w' => e = .returned (.tuple #[.agg #[.int .i64 q1, .int .u64 q2], .int .i64 e3]) ∧ Below W.heap.size W w')
    (c4 : ∀ W, Calls Tryz.prog 91 #[.agg #[.int .i64 p1, .int .u64 p2]] W fun e w' => e = .returned (.tuple #[.int .i64 v4, .int .i64 F4]) ∧ Below W.heap.size W w')
    (c5 : ∀ W, Calls Tryz.prog 91 #[.agg #[.int .i64 q1, .int .u64 q2]] W fun e w' => e = .returned (.tuple #[.int .i64 v5, .int .i64 F5]) ∧ Below W.heap.size W w') :
    Calls Tryz.prog 43 #[.agg #[.int .i64 n, .int .i64 ea, .int .i64 eb, .int .i64 s1, .int .u64 s2], .agg #[.int .i64 5, .int .i64 cn, .int .i64 lo, .int .i64 up, .int .i64 mc, .int .i64 lw, .int .i64 lr, .int .i64 hw, .int .i64 hr], .int .i64 eps] w fun e w' => e = .returned (.bool ((lo == 0) && (up == 0) && ((F4 != 0) || (F5 != 0)))) ∧ Below w.heap.size w w' := by
  have EQ2 := Lib.hid (show wrap64 (2 * eps) = 2 * eps by simp only [wrap64_eq]; omega)
  have H_c1 := Lib.hid c1
  clear c1
  have H_c2 := Lib.hid c2
  clear c2
  have H_c3 := Lib.hid c3
  clear c3
  have H_c4 := Lib.hid c4
  clear c4
  have H_c5 := Lib.hid c5
  clear c5
  go_enter Tryz.func43, Tryz.ntmps43
  go_upto_region 1 with (fail)
  refine wp_cutB w (Bc w.heap.size #[.int .i64 n, .int .i64 ea, .int .i64 eb, .int .i64 s1, .int .u64 s2] 91 <| Bc (w.heap.size + 1) #[.int .i64 5, .int .i64 cn, .int .i64 lo, .int .i64 up, .int .i64 mc, .int .i64 lw, .int .i64 lr, .int .i64 hw, .int .i64 hr] 44 <| Bz) ?_
  rintro W1 hW z2 ⟨⟨b1, yb1, k1, f1⟩, ⟨b2, yb2, k2, f2⟩, -⟩
  go_wp2_with fail
  refine (H_c1.out _).mono ?_
  rintro e w3 ⟨rfl, hb3⟩
  have z4 := hb3.size
  try simp at z4
  clear k1 f1 k2 f2
  refine haveB w w3 (Bc w.heap.size #[.int .i64 n, .int .i64 ea, .int .i64 eb, .int .i64 s1, .int .u64 s2] 91 <| Bc (w.heap.size + 1) #[.int .i64 5, .int .i64 cn, .int .i64 lo, .int .i64 up, .int .i64 mc, .int .i64 lw, .int .i64 lr, .int .i64 hw, .int .i64 hr] 44 <| Bz) ?_
  clear b1 b2 hW
  rintro hW z5 ⟨⟨b1, yb1, k1, f1⟩, ⟨b2, yb2, k2, f2⟩, -⟩
  clear hb3
  go_wp2_with fail
  refine (H_c2.out _).mono ?_
  rintro e w6 ⟨rfl, hb6⟩
  have z7 := hb6.size
  try simp at z7
  clear k1 f1 k2 f2
  refine haveB w w6 (Bc w.heap.size #[.int .i64 n, .int .i64 ea, .int .i64 eb, .int .i64 s1, .int .u64 s2] 91 <| Bc (w.heap.size + 1) #[.int .i64 5, .int .i64 cn, .int .i64 lo, .int .i64 up, .int .i64 mc, .int .i64 lw, .int .i64 lr, .int .i64 hw, .int .i64 hr] 44 <| Bc w3.heap.size #[.int .i64 v1, .int .u64 v2] 89 <| Bz) ?_
  clear b1 b2 hW
  rintro hW z8 ⟨⟨b1, yb1, k1, f1⟩, ⟨b2, yb2, k2, f2⟩, ⟨b3, yb3, k3, f3⟩, -⟩
  clear hb6
  go_wp2_with fail
  refine (H_c3.out _).mono ?_
  rintro e w9 ⟨rfl, hb9⟩
  have z10 := hb9.size
  try simp at z10
  clear k1 f1 k2 f2 k3 f3
  refine haveB w w9 (Bc w.heap.size #[.int .i64 n, .int .i64 ea, .int .i64 eb, .int .i64 s1, .int .u64 s2] 91 <| Bc (w.heap.size + 1) #[.int .i64 5, .int .i64 cn, .int .i64 lo, .int .i64 up, .int .i64 mc, .int .i64 lw, .int .i64 lr, .int .i64 hw, .int .i64 hr] 44 <| Bc w3.heap.size #[.int .i64 v1, .int .u64 v2] 89 <| Bc w6.heap.size #[.int .i64 p1, .int .u64 p2] 89 <| Bz) ?_
  clear b1 b2 b3 hW
  rintro hW z11 ⟨⟨b1, yb1, k1, f1⟩, ⟨b2, yb2, k2, f2⟩, ⟨b3, yb3, k3, f3⟩, ⟨b4, yb4, k4, f4⟩, -⟩
  clear hb9
  go_wp2_with fail
  refine (H_c4.out _).mono ?_
  rintro e w12 ⟨rfl, hb12⟩
  have z13 := hb12.size
  try simp at z13
  clear k1 f1 k2 f2 k3 f3 k4 f4
  refine haveB w w12 (Bc w.heap.size #[.int .i64 n, .int .i64 ea, .int .i64 eb, .int .i64 s1, .int .u64 s2] 91 <| Bc (w.heap.size + 1) #[.int .i64 5, .int .i64 cn, .int .i64 lo, .int .i64 up, .int .i64 mc, .int .i64 lw, .int .i64 lr, .int .i64 hw, .int .i64 hr] 44 <| Bc w3.heap.size #[.int .i64 v1, .int .u64 v2] 89 <| Bc w6.heap.size #[.int .i64 p1, .int .u64 p2] 89 <| Bc w9.heap.size #[.int .i64 q1, .int .u64 q2] 89 <| Bz) ?_
  clear b1 b2 b3 b4 hW
  rintro hW z14 ⟨⟨b1, yb1, k1, f1⟩, ⟨b2, yb2, k2, f2⟩, ⟨b3, yb3, k3, f3⟩, ⟨b4, yb4, k4, f4⟩, ⟨b5, yb5, k5, f5⟩, -⟩
  clear hb12
  go_wp2_with fail
  refine (H_c5.out _).mono ?_
  rintro e w15 ⟨rfl, hb15⟩
  have z16 := hb15.size
  try simp at z16
  clear k1 f1 k2 f2 k3 f3 k4 f4 k5 f5
  refine haveB w w15 (Bc w.heap.size #[.int .i64 n, .int .i64 ea, .int .i64 eb, .int .i64 s1, .int .u64 s2] 91 <| Bc (w.heap.size + 1) #[.int .i64 5, .int .i64 cn, .int .i64 lo, .int .i64 up, .int .i64 mc, .int .i64 lw, .int .i64 lr, .int .i64 hw, .int .i64 hr] 44 <| Bc w3.heap.size #[.int .i64 v1, .int .u64 v2] 89 <| Bc w6.heap.size #[.int .i64 p1, .int .u64 p2] 89 <| Bc w9.heap.size #[.int .i64 q1, .int .u64 q2] 89 <| Bz) ?_
  clear b1 b2 b3 b4 b5 hW
  rintro hW z17 ⟨⟨b1, yb1, k1, f1⟩, ⟨b2, yb2, k2, f2⟩, ⟨b3, yb3, k3, f3⟩, ⟨b4, yb4, k4, f4⟩, ⟨b5, yb5, k5, f5⟩, -⟩
  clear hb15
  go_upto_region 7 with (fail)
  clear k1 f1 k2 f2 k3 f3 k4 f4 k5 f5
  refine wp_cutB w (Bc w.heap.size #[.int .i64 n, .int .i64 ea, .int .i64 eb, .int .i64 s1, .int .u64 s2] 91 <| Bc (w.heap.size + 1) #[.int .i64 5, .int .i64 cn, .int .i64 lo, .int .i64 up, .int .i64 mc, .int .i64 lw, .int .i64 lr, .int .i64 hw, .int .i64 hr] 44 <| Bc w3.heap.size #[.int .i64 v1, .int .u64 v2] 89 <| Bc w6.heap.size #[.int .i64 p1, .int .u64 p2] 89 <| Bc w9.heap.size #[.int .i64 q1, .int .u64 q2] 89 <| Bz) ?_
  clear b1 b2 b3 b4 b5 hW
  rintro W18 hW z19 hL
  obtain ⟨⟨b1, yb1, k1, f1⟩, ⟨b2, yb2, k2, f2⟩, ⟨b3, yb3, k3, f3⟩, ⟨b4, yb4, k4, f4⟩, ⟨b5, yb5, k5, f5⟩, -⟩ := id hL
  clear k1 f1 k2 f2 k3 f3 k4 f4 k5 f5
  refine wp_regS 13 83 hW hL ?_
  iterate 3 refine dA ?_
  apply nd_det (.bool ((lo == 0) && (up == 0))) (hg := rfl) (hal := rfl)
  · intro a' W' hC hE
    simp [Oper.looksAt, Op.operands, Call.operands, envOf, Det] at hE
    simp [go_sem, Act.eval, hE]
    repeat' split
    all_goals simp_all
  refine dA ?_
  iterate 3 refine gA ?_
  iterate 2 refine gB ?_
  refine pgO ?_
  refine pA ?_
  refine dA ?_
  clear hW hL b1 b2 b3 b4 b5
  rintro W20 hW z21 hL
  simp only [ndR]
  intros
  repeat (rename GDet _ _ _ _ => hgd; clear hgd)
  simp only [ndS]
  refine wpList_nil ?_
  obtain ⟨⟨b1, yb1, k1, f1⟩, ⟨b2, yb2, k2, f2⟩, ⟨b3, yb3, k3, f3⟩, ⟨b4, yb4, k4, f4⟩, ⟨b5, yb5, k5, f5⟩, -⟩ := hL
  go_wp2
  refine bodyPost_ret (by simp [results, Tryz.results43, go_sem, k1, f1, k2, f2, k3, f3, k4, f4, k5, f5, yb1, yb2, yb3, yb4, yb5]) rfl ⟨rfl, by exact belowAny⟩
end Go.Proofs.YtdeghcgakkhbmaaGreat
namespace Go.Proofs.YtdeghcgakkhbmaaGreat
open Go.RowKit
set_option maxRecDepth 100000 in
set_option maxHeartbeats 2000000 in
theorem holds_no (nm : ByteArray) (eps fl la sc : Int) (p : Option Addr) (pn cap : Nat) (a b n ea eb s1 s2 er cn lo up mc lw lr hw hr E : Int) (B : Bool) (k : Int) (w : World) (h : E = 380 ∨ (E = 0 ∧ (k < 1 ∨ 5 < k)))
    (c1 : ∀ W, Below w.heap.size w W → Calls Tryz.prog 32 #[.agg #[.string nm, .int .i64 eps, .int .i64 fl, .int .i64 la, .int .i64 sc, .slice p pn cap]] W fun e w' => e = .returned (.int .i64 E) ∧ Below W.heap.size W w') :
    Calls Tryz.prog 15 #[.agg #[.string nm, .int .i64 eps, .int .i64 fl, .int .i64 la, .int .i64 sc, .slice p pn cap], .int .i64 k, .int .i64 a, .int .i64 b, .agg #[.int .i64 er, .int .i64 cn, .int .i64 lo, .int .i64 up, .int .i64 mc, .int .i64 lw, .int .i64 lr, .int .i64 hw, .int .i64 hr]] w fun e w' => e = .returned (.bool false) ∧ Below w.heap.size w w' := by
  rcases h with rfl | ⟨rfl, h | h⟩
  ·
    have H_c1 := Lib.hid c1
    clear c1
    go_enter Tryz.func15, Tryz.ntmps15
    go_upto_region 1 with (fail)
    refine wp_cutB w (Bc w.heap.size #[.string nm, .int .i64 eps, .int .i64 fl, .int .i64 la, .int .i64 sc, .slice p pn cap] 35 <| Bc (w.heap.size + 1) #[.int .i64 er, .int .i64 cn, .int .i64 lo, .int .i64 up, .int .i64 mc, .int .i64 lw, .int .i64 lr, .int .i64 hw, .int .i64 hr] 44 <| Bz) ?_
    rintro W1 hW z2 ⟨⟨b1, yb1, k1, f1⟩, ⟨b2, yb2, k2, f2⟩, -⟩
    go_wp2_with fail
    refine (H_c1.out _ belowAny).mono ?_
    rintro e w3 ⟨rfl, hb3⟩
    have z4 := hb3.size
    try simp at z4
    clear k1 f1 k2 f2
    refine haveB w w3 (Bc w.heap.size #[.string nm, .int .i64 eps, .int .i64 fl, .int .i64 la, .int .i64 sc, .slice p pn cap] 35 <| Bc (w.heap.size + 1) #[.int .i64 er, .int .i64 cn, .int .i64 lo, .int .i64 up, .int .i64 mc, .int .i64 lw, .int .i64 lr, .int .i64 hw, .int .i64 hr] 44 <| Bz) ?_
    clear b1 b2 hW
    rintro hW z5 ⟨⟨b1, yb1, k1, f1⟩, ⟨b2, yb2, k2, f2⟩, -⟩
    clear hb3
    go_wp2
    refine bodyPost_ret (by simp [results, Tryz.results15, go_sem, k1, f1, k2, f2, yb1, yb2]) rfl ⟨rfl, by exact belowAny⟩
  ·
    have H_c1 := Lib.hid c1
    clear c1
    go_enter Tryz.func15, Tryz.ntmps15
    go_upto_region 1 with (fail)
    refine wp_cutB w (Bc w.heap.size #[.string nm, .int .i64 eps, .int .i64 fl, .int .i64 la, .int .i64 sc, .slice p pn cap] 35 <| Bc (w.heap.size + 1) #[.int .i64 er, .int .i64 cn, .int .i64 lo, .int .i64 up, .int .i64 mc, .int .i64 lw, .int .i64 lr, .int .i64 hw, .int .i64 hr] 44 <| Bz) ?_
    rintro W1 hW z2 ⟨⟨b1, yb1, k1, f1⟩, ⟨b2, yb2, k2, f2⟩, -⟩
    go_wp2_with fail
    refine (H_c1.out _ belowAny).mono ?_
    rintro e w3 ⟨rfl, hb3⟩
    have z4 := hb3.size
    try simp at z4
    clear k1 f1 k2 f2
    refine haveB w w3 (Bc w.heap.size #[.string nm, .int .i64 eps, .int .i64 fl, .int .i64 la, .int .i64 sc, .slice p pn cap] 35 <| Bc (w.heap.size + 1) #[.int .i64 er, .int .i64 cn, .int .i64 lo, .int .i64 up, .int .i64 mc, .int .i64 lw, .int .i64 lr, .int .i64 hw, .int .i64 hr] 44 <| Bz) ?_
    clear b1 b2 hW
    rintro hW z5 ⟨⟨b1, yb1, k1, f1⟩, ⟨b2, yb2, k2, f2⟩, -⟩
    clear hb3
    go_wp2
    refine bodyPost_ret (by simp [results, Tryz.results15, go_sem, k1, f1, k2, f2, yb1, yb2]) rfl ⟨rfl, by exact belowAny⟩
  · have h1 : ¬ k < 1 := by omega
    have H_c1 := Lib.hid c1
    clear c1
    go_enter Tryz.func15, Tryz.ntmps15
    go_upto_region 1 with (fail)
    refine wp_cutB w (Bc w.heap.size #[.string nm, .int .i64 eps, .int .i64 fl, .int .i64 la, .int .i64 sc, .slice p pn cap] 35 <| Bc (w.heap.size + 1) #[.int .i64 er, .int .i64 cn, .int .i64 lo, .int .i64 up, .int .i64 mc, .int .i64 lw, .int .i64 lr, .int .i64 hw, .int .i64 hr] 44 <| Bz) ?_
    rintro W1 hW z2 ⟨⟨b1, yb1, k1, f1⟩, ⟨b2, yb2, k2, f2⟩, -⟩
    go_wp2_with fail
    refine (H_c1.out _ belowAny).mono ?_
    rintro e w3 ⟨rfl, hb3⟩
    have z4 := hb3.size
    try simp at z4
    clear k1 f1 k2 f2
    refine haveB w w3 (Bc w.heap.size #[.string nm, .int .i64 eps, .int .i64 fl, .int .i64 la, .int .i64 sc, .slice p pn cap] 35 <| Bc (w.heap.size + 1) #[.int .i64 er, .int .i64 cn, .int .i64 lo, .int .i64 up, .int .i64 mc, .int .i64 lw, .int .i64 lr, .int .i64 hw, .int .i64 hr] 44 <| Bz) ?_
    clear b1 b2 hW
    rintro hW z5 ⟨⟨b1, yb1, k1, f1⟩, ⟨b2, yb2, k2, f2⟩, -⟩
    clear hb3
    go_wp2
    refine bodyPost_ret (by simp [results, Tryz.results15, go_sem, k1, f1, k2, f2, yb1, yb2]) rfl ⟨rfl, by exact belowAny⟩
set_option maxRecDepth 100000 in
set_option maxHeartbeats 2000000 in
theorem holds_count (nm : ByteArray) (eps fl la sc : Int) (p : Option Addr) (pn cap : Nat) (a b n ea eb s1 s2 er cn lo up mc lw lr hw hr E : Int) (B : Bool) (w : World)
    (c1 : ∀ W, Below w.heap.size w W → Calls Tryz.prog 32 #[.agg #[.string nm, .int .i64 eps, .int .i64 fl, .int .i64 la, .int .i64 sc, .slice p pn cap]] W fun e w' => e = .returned (.int .i64 0) ∧ Below W.heap.size W w')
    (c2 : ∀ W, Below w.heap.size w W → Calls Tryz.prog 42 #[.agg #[.string nm, .int .i64 eps, .int .i64 fl, .int .i64 la, .int .i64 sc, .slice p pn cap], .int .i64 a, .int .i64 b] W fun e w' => e = .returned (.agg #[.int .i64 n, .int .i64 ea, .int .i64 eb, .int .i64 s1, .int .u64 s2]) ∧ Below W.heap.size W w') :
    Calls Tryz.prog 15 #[.agg #[.string nm, .int .i64 eps, .int .i64 fl, .int .i64 la, .int .i64 sc, .slice p pn cap], .int .i64 1, .int .i64 a, .int .i64 b, .agg #[.int .i64 er, .int .i64 cn, .int .i64 lo, .int .i64 up, .int .i64 mc, .int .i64 lw, .int .i64 lr, .int .i64 hw, .int .i64 hr]] w fun e w' => e = .returned (.bool ((er == 0) && ((cn == n) && ((lo == 0) && ((up == 0) && ((mc == 0) && ((lw == 0) && ((lr == 0) && ((hw == 0) && ((hr == 0))))))))))) ∧ Below w.heap.size w w' := by
  have H_c1 := Lib.hid c1
  clear c1
  have H_c2 := Lib.hid c2
  clear c2
  go_enter Tryz.func15, Tryz.ntmps15
  go_upto_region 1 with (fail)
  refine wp_cutB w (Bc w.heap.size #[.string nm, .int .i64 eps, .int .i64 fl, .int .i64 la, .int .i64 sc, .slice p pn cap] 35 <| Bc (w.heap.size + 1) #[.int .i64 er, .int .i64 cn, .int .i64 lo, .int .i64 up, .int .i64 mc, .int .i64 lw, .int .i64 lr, .int .i64 hw, .int .i64 hr] 44 <| Bz) ?_
  rintro W1 hW z2 ⟨⟨b1, yb1, k1, f1⟩, ⟨b2, yb2, k2, f2⟩, -⟩
  go_wp2_with fail
  refine (H_c1.out _ belowAny).mono ?_
  rintro e w3 ⟨rfl, hb3⟩
  have z4 := hb3.size
  try simp at z4
  clear k1 f1 k2 f2
  refine haveB w w3 (Bc w.heap.size #[.string nm, .int .i64 eps, .int .i64 fl, .int .i64 la, .int .i64 sc, .slice p pn cap] 35 <| Bc (w.heap.size + 1) #[.int .i64 er, .int .i64 cn, .int .i64 lo, .int .i64 up, .int .i64 mc, .int .i64 lw, .int .i64 lr, .int .i64 hw, .int .i64 hr] 44 <| Bz) ?_
  clear b1 b2 hW
  rintro hW z5 ⟨⟨b1, yb1, k1, f1⟩, ⟨b2, yb2, k2, f2⟩, -⟩
  clear hb3
  go_wp2_with fail
  refine (H_c2.out _ belowAny).mono ?_
  rintro e w6 ⟨rfl, hb6⟩
  have z7 := hb6.size
  try simp at z7
  clear k1 f1 k2 f2
  refine haveB w w6 (Bc w.heap.size #[.string nm, .int .i64 eps, .int .i64 fl, .int .i64 la, .int .i64 sc, .slice p pn cap] 35 <| Bc (w.heap.size + 1) #[.int .i64 er, .int .i64 cn, .int .i64 lo, .int .i64 up, .int .i64 mc, .int .i64 lw, .int .i64 lr, .int .i64 hw, .int .i64 hr] 44 <| Bz) ?_
  clear b1 b2 hW
  rintro hW z8 ⟨⟨b1, yb1, k1, f1⟩, ⟨b2, yb2, k2, f2⟩, -⟩
  clear hb6
  go_upto_region 8 with (fail)
  clear k1 f1 k2 f2
  refine wp_cutB w (Bc w.heap.size #[.string nm, .int .i64 eps, .int .i64 fl, .int .i64 la, .int .i64 sc, .slice p pn cap] 35 <| Bc (w.heap.size + 1) #[.int .i64 er, .int .i64 cn, .int .i64 lo, .int .i64 up, .int .i64 mc, .int .i64 lw, .int .i64 lr, .int .i64 hw, .int .i64 hr] 44 <| Bc w6.heap.size #[.int .i64 n, .int .i64 ea, .int .i64 eb, .int .i64 s1, .int .u64 s2] 91 <| Bc (w6.heap.size + 1) #[.int .i64 er, .int .i64 cn, .int .i64 lo, .int .i64 up, .int .i64 mc, .int .i64 lw, .int .i64 lr, .int .i64 hw, .int .i64 hr] 44 <| Bz) ?_
  clear b1 b2 hW
  rintro W9 hW z10 hL
  obtain ⟨⟨b1, yb1, k1, f1⟩, ⟨b2, yb2, k2, f2⟩, ⟨b3, yb3, k3, f3⟩, ⟨b4, yb4, k4, f4⟩, -⟩ := id hL
  clear k1 f1 k2 f2 k3 f3 k4 f4
  refine wp_regS 6 92 hW hL ?_
  iterate 4 refine dA ?_
  apply nd_det (.bool ((er == 0) && ((cn == n) && ((lo == 0) && ((up == 0) && ((mc == 0) && ((lw == 0) && ((lr == 0) && ((hw == 0) && ((hr == 0))))))))))) (hg := rfl) (hal := rfl)
  · intro a' W' hC hE
    simp [Oper.looksAt, Op.operands, Call.operands, envOf, Det] at hE
    simp [go_sem, Act.eval, hE]
    repeat' split
    all_goals simp_all
  refine dA ?_
  clear hW hL b1 b2 b3 b4
  rintro W11 hW z12 hL
  simp only [ndR]
  intros
  simp only [ndS]
  refine wpList_nil ?_
  obtain ⟨⟨b1, yb1, k1, f1⟩, ⟨b2, yb2, k2, f2⟩, ⟨b3, yb3, k3, f3⟩, ⟨b4, yb4, k4, f4⟩, -⟩ := hL
  go_wp2
  refine bodyPost_ret (by simp [results, Tryz.results15, go_sem, k1, f1, k2, f2, k3, f3, k4, f4, yb1, yb2, yb3, yb4]) rfl ⟨rfl, by exact belowAny⟩
set_option maxRecDepth 100000 in
set_option maxHeartbeats 2000000 in
theorem holds_empty2 (nm : ByteArray) (eps fl la sc : Int) (p : Option Addr) (pn cap : Nat) (a b n ea eb s1 s2 er cn lo up mc lw lr hw hr E : Int) (B : Bool) (w : World)
    (c1 : ∀ W, Below w.heap.size w W → Calls Tryz.prog 32 #[.agg #[.string nm, .int .i64 eps, .int .i64 fl, .int .i64 la, .int .i64 sc, .slice p pn cap]] W fun e w' => e = .returned (.int .i64 0) ∧ Below W.heap.size W w')
    (c2 : ∀ W, Below w.heap.size w W → Calls Tryz.prog 42 #[.agg #[.string nm, .int .i64 eps, .int .i64 fl, .int .i64 la, .int .i64 sc, .slice p pn cap], .int .i64 a, .int .i64 b] W fun e w' => e = .returned (.agg #[.int .i64 0, .int .i64 ea, .int .i64 eb, .int .i64 s1, .int .u64 s2]) ∧ Below W.heap.size W w') :
    Calls Tryz.prog 15 #[.agg #[.string nm, .int .i64 eps, .int .i64 fl, .int .i64 la, .int .i64 sc, .slice p pn cap], .int .i64 2, .int .i64 a, .int .i64 b, .agg #[.int .i64 er, .int .i64 cn, .int .i64 lo, .int .i64 up, .int .i64 mc, .int .i64 lw, .int .i64 lr, .int .i64 hw, .int .i64 hr]] w fun e w' => e = .returned (.bool ((er == 9) && ((cn == 0) && ((lo == 0) && ((up == 0) && ((mc == 0) && ((lw == 0) && ((lr == 0) && ((hw == 0) && ((hr == 0))))))))))) ∧ Below w.heap.size w w' := by
  have H_c1 := Lib.hid c1
  clear c1
  have H_c2 := Lib.hid c2
  clear c2
  go_enter Tryz.func15, Tryz.ntmps15
  go_upto_region 1 with (fail)
  refine wp_cutB w (Bc w.heap.size #[.string nm, .int .i64 eps, .int .i64 fl, .int .i64 la, .int .i64 sc, .slice p pn cap] 35 <| Bc (w.heap.size + 1) #[.int .i64 er, .int .i64 cn, .int .i64 lo, .int .i64 up, .int .i64 mc, .int .i64 lw, .int .i64 lr, .int .i64 hw, .int .i64 hr] 44 <| Bz) ?_
  rintro W1 hW z2 ⟨⟨b1, yb1, k1, f1⟩, ⟨b2, yb2, k2, f2⟩, -⟩
  go_wp2_with fail
  refine (H_c1.out _ belowAny).mono ?_
  rintro e w3 ⟨rfl, hb3⟩
  have z4 := hb3.size
  try simp at z4
  clear k1 f1 k2 f2
  refine haveB w w3 (Bc w.heap.size #[.string nm, .int .i64 eps, .int .i64 fl, .int .i64 la, .int .i64 sc, .slice p pn cap] 35 <| Bc (w.heap.size + 1) #[.int .i64 er, .int .i64 cn, .int .i64 lo, .int .i64 up, .int .i64 mc, .int .i64 lw, .int .i64 lr, .int .i64 hw, .int .i64 hr] 44 <| Bz) ?_
  clear b1 b2 hW
  rintro hW z5 ⟨⟨b1, yb1, k1, f1⟩, ⟨b2, yb2, k2, f2⟩, -⟩
  clear hb3
  go_wp2_with fail
  refine (H_c2.out _ belowAny).mono ?_
  rintro e w6 ⟨rfl, hb6⟩
  have z7 := hb6.size
  try simp at z7
  clear k1 f1 k2 f2
  refine haveB w w6 (Bc w.heap.size #[.string nm, .int .i64 eps, .int .i64 fl, .int .i64 la, .int .i64 sc, .slice p pn cap] 35 <| Bc (w.heap.size + 1) #[.int .i64 er, .int .i64 cn, .int .i64 lo, .int .i64 up, .int .i64 mc, .int .i64 lw, .int .i64 lr, .int .i64 hw, .int .i64 hr] 44 <| Bz) ?_
  clear b1 b2 hW
  rintro hW z8 ⟨⟨b1, yb1, k1, f1⟩, ⟨b2, yb2, k2, f2⟩, -⟩
  clear hb6
  go_upto_region 12 with (fail)
  clear k1 f1 k2 f2
  refine wp_cutB w (Bc w.heap.size #[.string nm, .int .i64 eps, .int .i64 fl, .int .i64 la, .int .i64 sc, .slice p pn cap] 35 <| Bc (w.heap.size + 1) #[.int .i64 er, .int .i64 cn, .int .i64 lo, .int .i64 up, .int .i64 mc, .int .i64 lw, .int .i64 lr, .int .i64 hw, .int .i64 hr] 44 <| Bc w6.heap.size #[.int .i64 0, .int .i64 ea, .int .i64 eb, .int .i64 s1, .int .u64 s2] 91 <| Bc (w6.heap.size + 1) #[.int .i64 er, .int .i64 cn, .int .i64 0, .int .i64 0, .int .i64 mc, .int .i64 lw, .int .i64 lr, .int .i64 hw, .int .i64 hr] 44 <| Bz) ?_
  clear b1 b2 hW
  rintro W9 hW z10 hL
  obtain ⟨⟨b1, yb1, k1, f1⟩, ⟨b2, yb2, k2, f2⟩, ⟨b3, yb3, k3, f3⟩, ⟨b4, yb4, k4, f4⟩, -⟩ := id hL
  clear k1 f1 k2 f2 k3 f3 k4 f4
  refine wp_regS 4 92 hW hL ?_
  iterate 2 refine dA ?_
  apply nd_det (.bool ((er == 9) && ((cn == 0) && ((lo == 0) && ((up == 0) && ((mc == 0) && ((lw == 0) && ((lr == 0) && ((hw == 0) && ((hr == 0))))))))))) (hg := rfl) (hal := rfl)
  · intro a' W' hC hE
    simp [Oper.looksAt, Op.operands, Call.operands, envOf, Det] at hE
    simp [go_sem, Act.eval, hE]
    repeat' split
    all_goals simp_all
  refine dA ?_
  clear hW hL b1 b2 b3 b4
  rintro W11 hW z12 hL
  simp only [ndR]
  intros
  simp only [ndS]
  refine wpList_nil ?_
  obtain ⟨⟨b1, yb1, k1, f1⟩, ⟨b2, yb2, k2, f2⟩, ⟨b3, yb3, k3, f3⟩, ⟨b4, yb4, k4, f4⟩, -⟩ := hL
  go_wp2
  refine bodyPost_ret (by simp [results, Tryz.results15, go_sem, k1, f1, k2, f2, k3, f3, k4, f4, yb1, yb2, yb3, yb4]) rfl ⟨rfl, by exact belowAny⟩
set_option maxRecDepth 100000 in
set_option maxHeartbeats 2000000 in
theorem holds_empty3 (nm : ByteArray) (eps fl la sc : Int) (p : Option Addr) (pn cap : Nat) (a b n ea eb s1 s2 er cn lo up mc lw lr hw hr E : Int) (B : Bool) (w : World)
    (c1 : ∀ W, Below w.heap.size w W → Calls Tryz.prog 32 #[.agg #[.string nm, .int .i64 eps, .int .i64 fl, .int .i64 la, .int .i64 sc, .slice p pn cap]] W fun e w' => e = .returned (.int .i64 0) ∧ Below W.heap.size W w')
    (c2 : ∀ W, Below w.heap.size w W → Calls Tryz.prog 42 #[.agg #[.string nm, .int .i64 eps, .int .i64 fl, .int .i64 la, .int .i64 sc, .slice p pn cap], .int .i64 a, .int .i64 b] W fun e w' => e = .returned (.agg #[.int .i64 0, .int .i64 ea, .int .i64 eb, .int .i64 s1, .int .u64 s2]) ∧ Below W.heap.size W w') :
    Calls Tryz.prog 15 #[.agg #[.string nm, .int .i64 eps, .int .i64 fl, .int .i64 la, .int .i64 sc, .slice p pn cap], .int .i64 3, .int .i64 a, .int .i64 b, .agg #[.int .i64 er, .int .i64 cn, .int .i64 lo, .int .i64 up, .int .i64 mc, .int .i64 lw, .int .i64 lr, .int .i64 hw, .int .i64 hr]] w fun e w' => e = .returned (.bool ((er == 9) && ((cn == 0) && ((lo == 0) && ((up == 0) && ((mc == 0) && ((lw == 0) && ((lr == 0) && ((hw == 0) && ((hr == 0))))))))))) ∧ Below w.heap.size w w' := by
  have H_c1 := Lib.hid c1
  clear c1
  have H_c2 := Lib.hid c2
  clear c2
  go_enter Tryz.func15, Tryz.ntmps15
  go_upto_region 1 with (fail)
  refine wp_cutB w (Bc w.heap.size #[.string nm, .int .i64 eps, .int .i64 fl, .int .i64 la, .int .i64 sc, .slice p pn cap] 35 <| Bc (w.heap.size + 1) #[.int .i64 er, .int .i64 cn, .int .i64 lo, .int .i64 up, .int .i64 mc, .int .i64 lw, .int .i64 lr, .int .i64 hw, .int .i64 hr] 44 <| Bz) ?_
  rintro W1 hW z2 ⟨⟨b1, yb1, k1, f1⟩, ⟨b2, yb2, k2, f2⟩, -⟩
  go_wp2_with fail
  refine (H_c1.out _ belowAny).mono ?_
  rintro e w3 ⟨rfl, hb3⟩
  have z4 := hb3.size
  try simp at z4
  clear k1 f1 k2 f2
  refine haveB w w3 (Bc w.heap.size #[.string nm, .int .i64 eps, .int .i64 fl, .int .i64 la, .int .i64 sc, .slice p pn cap] 35 <| Bc (w.heap.size + 1) #[.int .i64 er, .int .i64 cn, .int .i64 lo, .int .i64 up, .int .i64 mc, .int .i64 lw, .int .i64 lr, .int .i64 hw, .int .i64 hr] 44 <| Bz) ?_
  clear b1 b2 hW
  rintro hW z5 ⟨⟨b1, yb1, k1, f1⟩, ⟨b2, yb2, k2, f2⟩, -⟩
  clear hb3
  go_wp2_with fail
  refine (H_c2.out _ belowAny).mono ?_
  rintro e w6 ⟨rfl, hb6⟩
  have z7 := hb6.size
  try simp at z7
  clear k1 f1 k2 f2
  refine haveB w w6 (Bc w.heap.size #[.string nm, .int .i64 eps, .int .i64 fl, .int .i64 la, .int .i64 sc, .slice p pn cap] 35 <| Bc (w.heap.size + 1) #[.int .i64 er, .int .i64 cn, .int .i64 lo, .int .i64 up, .int .i64 mc, .int .i64 lw, .int .i64 lr, .int .i64 hw, .int .i64 hr] 44 <| Bz) ?_
  clear b1 b2 hW
  rintro hW z8 ⟨⟨b1, yb1, k1, f1⟩, ⟨b2, yb2, k2, f2⟩, -⟩
  clear hb6
  go_upto_region 12 with (fail)
  clear k1 f1 k2 f2
  refine wp_cutB w (Bc w.heap.size #[.string nm, .int .i64 eps, .int .i64 fl, .int .i64 la, .int .i64 sc, .slice p pn cap] 35 <| Bc (w.heap.size + 1) #[.int .i64 er, .int .i64 cn, .int .i64 lo, .int .i64 up, .int .i64 mc, .int .i64 lw, .int .i64 lr, .int .i64 hw, .int .i64 hr] 44 <| Bc w6.heap.size #[.int .i64 0, .int .i64 ea, .int .i64 eb, .int .i64 s1, .int .u64 s2] 91 <| Bc (w6.heap.size + 1) #[.int .i64 er, .int .i64 cn, .int .i64 0, .int .i64 0, .int .i64 mc, .int .i64 lw, .int .i64 lr, .int .i64 hw, .int .i64 hr] 44 <| Bz) ?_
  clear b1 b2 hW
  rintro W9 hW z10 hL
  obtain ⟨⟨b1, yb1, k1, f1⟩, ⟨b2, yb2, k2, f2⟩, ⟨b3, yb3, k3, f3⟩, ⟨b4, yb4, k4, f4⟩, -⟩ := id hL
  clear k1 f1 k2 f2 k3 f3 k4 f4
  refine wp_regS 4 92 hW hL ?_
  iterate 2 refine dA ?_
  apply nd_det (.bool ((er == 9) && ((cn == 0) && ((lo == 0) && ((up == 0) && ((mc == 0) && ((lw == 0) && ((lr == 0) && ((hw == 0) && ((hr == 0))))))))))) (hg := rfl) (hal := rfl)
  · intro a' W' hC hE
    simp [Oper.looksAt, Op.operands, Call.operands, envOf, Det] at hE
    simp [go_sem, Act.eval, hE]
    repeat' split
    all_goals simp_all
  refine dA ?_
  clear hW hL b1 b2 b3 b4
  rintro W11 hW z12 hL
  simp only [ndR]
  intros
  simp only [ndS]
  refine wpList_nil ?_
  obtain ⟨⟨b1, yb1, k1, f1⟩, ⟨b2, yb2, k2, f2⟩, ⟨b3, yb3, k3, f3⟩, ⟨b4, yb4, k4, f4⟩, -⟩ := hL
  go_wp2
  refine bodyPost_ret (by simp [results, Tryz.results15, go_sem, k1, f1, k2, f2, k3, f3, k4, f4, yb1, yb2, yb3, yb4]) rfl ⟨rfl, by exact belowAny⟩
set_option maxRecDepth 100000 in
set_option maxHeartbeats 2000000 in
theorem holds_empty4 (nm : ByteArray) (eps fl la sc : Int) (p : Option Addr) (pn cap : Nat) (a b n ea eb s1 s2 er cn lo up mc lw lr hw hr E : Int) (B : Bool) (w : World)
    (c1 : ∀ W, Below w.heap.size w W → Calls Tryz.prog 32 #[.agg #[.string nm, .int .i64 eps, .int .i64 fl, .int .i64 la, .int .i64 sc, .slice p pn cap]] W fun e w' => e = .returned (.int .i64 0) ∧ Below W.heap.size W w')
    (c2 : ∀ W, Below w.heap.size w W → Calls Tryz.prog 42 #[.agg #[.string nm, .int .i64 eps, .int .i64 fl, .int .i64 la, .int .i64 sc, .slice p pn cap], .int .i64 a, .int .i64 b] W fun e w' => e = .returned (.agg #[.int .i64 0, .int .i64 ea, .int .i64 eb, .int .i64 s1, .int .u64 s2]) ∧ Below W.heap.size W w') :
    Calls Tryz.prog 15 #[.agg #[.string nm, .int .i64 eps, .int .i64 fl, .int .i64 la, .int .i64 sc, .slice p pn cap], .int .i64 4, .int .i64 a, .int .i64 b, .agg #[.int .i64 er, .int .i64 cn, .int .i64 lo, .int .i64 up, .int .i64 mc, .int .i64 lw, .int .i64 lr, .int .i64 hw, .int .i64 hr]] w fun e w' => e = .returned (.bool ((er == 9) && ((cn == 0) && ((lo == 0) && ((up == 0) && ((mc == 0) && ((lw == 0) && ((lr == 0) && ((hw == 0) && ((hr == 0))))))))))) ∧ Below w.heap.size w w' := by
  have H_c1 := Lib.hid c1
  clear c1
  have H_c2 := Lib.hid c2
  clear c2
  go_enter Tryz.func15, Tryz.ntmps15
  go_upto_region 1 with (fail)
  refine wp_cutB w (Bc w.heap.size #[.string nm, .int .i64 eps, .int .i64 fl, .int .i64 la, .int .i64 sc, .slice p pn cap] 35 <| Bc (w.heap.size + 1) #[.int .i64 er, .int .i64 cn, .int .i64 lo, .int .i64 up, .int .i64 mc, .int .i64 lw, .int .i64 lr, .int .i64 hw, .int .i64 hr] 44 <| Bz) ?_
  rintro W1 hW z2 ⟨⟨b1, yb1, k1, f1⟩, ⟨b2, yb2, k2, f2⟩, -⟩
  go_wp2_with fail
  refine (H_c1.out _ belowAny).mono ?_
  rintro e w3 ⟨rfl, hb3⟩
  have z4 := hb3.size
  try simp at z4
  clear k1 f1 k2 f2
  refine haveB w w3 (Bc w.heap.size #[.string nm, .int .i64 eps, .int .i64 fl, .int .i64 la, .int .i64 sc, .slice p pn cap] 35 <| Bc (w.heap.size + 1) #[.int .i64 er, .int .i64 cn, .int .i64 lo, .int .i64 up, .int .i64 mc, .int .i64 lw, .int .i64 lr, .int .i64 hw, .int .i64 hr] 44 <| Bz) ?_
  clear b1 b2 hW
  rintro hW z5 ⟨⟨b1, yb1, k1, f1⟩, ⟨b2, yb2, k2, f2⟩, -⟩
  clear hb3
  go_wp2_with fail
  refine (H_c2.out _ belowAny).mono ?_
  rintro e w6 ⟨rfl, hb6⟩
  have z7 := hb6.size
  try simp at z7
  clear k1 f1 k2 f2
  refine haveB w w6 (Bc w.heap.size #[.string nm, .int .i64 eps, .int .i64 fl, .int .i64 la, .int .i64 sc, .slice p pn cap] 35 <| Bc (w.heap.size + 1) #[.int .i64 er, .int .i64 cn, .int .i64 lo, .int .i64 up, .int .i64 mc, .int .i64 lw, .int .i64 lr, .int .i64 hw, .int .i64 hr] 44 <| Bz) ?_
  clear b1 b2 hW
  rintro hW z8 ⟨⟨b1, yb1, k1, f1⟩, ⟨b2, yb2, k2, f2⟩, -⟩
  clear hb6
  go_upto_region 12 with (fail)
  clear k1 f1 k2 f2
  refine wp_cutB w (Bc w.heap.size #[.string nm, .int .i64 eps, .int .i64 fl, .int .i64 la, .int .i64 sc, .slice p pn cap] 35 <| Bc (w.heap.size + 1) #[.int .i64 er, .int .i64 cn, .int .i64 lo, .int .i64 up, .int .i64 mc, .int .i64 lw, .int .i64 lr, .int .i64 hw, .int .i64 hr] 44 <| Bc w6.heap.size #[.int .i64 0, .int .i64 ea, .int .i64 eb, .int .i64 s1, .int .u64 s2] 91 <| Bc (w6.heap.size + 1) #[.int .i64 er, .int .i64 cn, .int .i64 0, .int .i64 0, .int .i64 mc, .int .i64 lw, .int .i64 lr, .int .i64 hw, .int .i64 hr] 44 <| Bz) ?_
  clear b1 b2 hW
  rintro W9 hW z10 hL
  obtain ⟨⟨b1, yb1, k1, f1⟩, ⟨b2, yb2, k2, f2⟩, ⟨b3, yb3, k3, f3⟩, ⟨b4, yb4, k4, f4⟩, -⟩ := id hL
  clear k1 f1 k2 f2 k3 f3 k4 f4
  refine wp_regS 4 92 hW hL ?_
  iterate 2 refine dA ?_
  apply nd_det (.bool ((er == 9) && ((cn == 0) && ((lo == 0) && ((up == 0) && ((mc == 0) && ((lw == 0) && ((lr == 0) && ((hw == 0) && ((hr == 0))))))))))) (hg := rfl) (hal := rfl)
  · intro a' W' hC hE
    simp [Oper.looksAt, Op.operands, Call.operands, envOf, Det] at hE
    simp [go_sem, Act.eval, hE]
    repeat' split
    all_goals simp_all
  refine dA ?_
  clear hW hL b1 b2 b3 b4
  rintro W11 hW z12 hL
  simp only [ndR]
  intros
  simp only [ndS]
  refine wpList_nil ?_
  obtain ⟨⟨b1, yb1, k1, f1⟩, ⟨b2, yb2, k2, f2⟩, ⟨b3, yb3, k3, f3⟩, ⟨b4, yb4, k4, f4⟩, -⟩ := hL
  go_wp2
  refine bodyPost_ret (by simp [results, Tryz.results15, go_sem, k1, f1, k2, f2, k3, f3, k4, f4, yb1, yb2, yb3, yb4]) rfl ⟨rfl, by exact belowAny⟩
set_option maxRecDepth 100000 in
set_option maxHeartbeats 2000000 in
theorem holds_empty5 (nm : ByteArray) (eps fl la sc : Int) (p : Option Addr) (pn cap : Nat) (a b n ea eb s1 s2 er cn lo up mc lw lr hw hr E : Int) (B : Bool) (w : World)
    (c1 : ∀ W, Below w.heap.size w W → Calls Tryz.prog 32 #[.agg #[.string nm, .int .i64 eps, .int .i64 fl, .int .i64 la, .int .i64 sc, .slice p pn cap]] W fun e w' => e = .returned (.int .i64 0) ∧ Below W.heap.size W w')
    (c2 : ∀ W, Below w.heap.size w W → Calls Tryz.prog 42 #[.agg #[.string nm, .int .i64 eps, .int .i64 fl, .int .i64 la, .int .i64 sc, .slice p pn cap], .int .i64 a, .int .i64 b] W fun e w' => e = .returned (.agg #[.int .i64 0, .int .i64 ea, .int .i64 eb, .int .i64 s1, .int .u64 s2]) ∧ Below W.heap.size W w') :
    Calls Tryz.prog 15 #[.agg #[.string nm, .int .i64 eps, .int .i64 fl, .int .i64 la, .int .i64 sc, .slice p pn cap], .int .i64 5, .int .i64 a, .int .i64 b, .agg #[.int .i64 er, .int .i64 cn, .int .i64 lo, .int .i64 up, .int .i64 mc, .int .i64 lw, .int .i64 lr, .int .i64 hw, .int .i64 hr]] w fun e w' => e = .returned (.bool ((er == 9) && ((cn == 0) && ((lo == 0) && ((up == 0) && ((mc == 0) && ((lw == 0) && ((lr == 0) && ((hw == 0) && ((hr == 0))))))))))) ∧ Below w.heap.size w w' := by
  have H_c1 := Lib.hid c1
  clear c1
  have H_c2 := Lib.hid c2
  clear c2
  go_enter Tryz.func15, Tryz.ntmps15
  go_upto_region 1 with (fail)
  refine wp_cutB w (Bc w.heap.size #[.string nm, .int .i64 eps, .int .i64 fl, .int .i64 la, .int .i64 sc, .slice p pn cap] 35 <| Bc (w.heap.size + 1) #[.int .i64 er, .int .i64 cn, .int .i64 lo, .int .i64 up, .int .i64 mc, .int .i64 lw, .int .i64 lr, .int .i64 hw, .int .i64 hr] 44 <| Bz) ?_
  rintro W1 hW z2 ⟨⟨b1, yb1, k1, f1⟩, ⟨b2, yb2, k2, f2⟩, -⟩
  go_wp2_with fail
  refine (H_c1.out _ belowAny).mono ?_
  rintro e w3 ⟨rfl, hb3⟩
  have z4 := hb3.size
  try simp at z4
  clear k1 f1 k2 f2
  refine haveB w w3 (Bc w.heap.size #[.string nm, .int .i64 eps, .int .i64 fl, .int .i64 la, .int .i64 sc, .slice p pn cap] 35 <| Bc (w.heap.size + 1) #[.int .i64 er, .int .i64 cn, .int .i64 lo, .int .i64 up, .int .i64 mc, .int .i64 lw, .int .i64 lr, .int .i64 hw, .int .i64 hr] 44 <| Bz) ?_
  clear b1 b2 hW
  rintro hW z5 ⟨⟨b1, yb1, k1, f1⟩, ⟨b2, yb2, k2, f2⟩, -⟩
  clear hb3
  go_wp2_with fail
  refine (H_c2.out _ belowAny).mono ?_
  rintro e w6 ⟨rfl, hb6⟩
  have z7 := hb6.size
  try simp at z7
  clear k1 f1 k2 f2
  refine haveB w w6 (Bc w.heap.size #[.string nm, .int .i64 eps, .int .i64 fl, .int .i64 la, .int .i64 sc, .slice p pn cap] 35 <| Bc (w.heap.size + 1) #[.int .i64 er, .int .i64 cn, .int .i64 lo, .int .i64 up, .int .i64 mc, .int .i64 lw, .int .i64 lr, .int .i64 hw, .int .i64 hr] 44 <| Bz) ?_
  clear b1 b2 hW
  rintro hW z8 ⟨⟨b1, yb1, k1, f1⟩, ⟨b2, yb2, k2, f2⟩, -⟩
  clear hb6
  go_upto_region 12 with (fail)
  clear k1 f1 k2 f2
  refine wp_cutB w (Bc w.heap.size #[.string nm, .int .i64 eps, .int .i64 fl, .int .i64 la, .int .i64 sc, .slice p pn cap] 35 <| Bc (w.heap.size + 1) #[.int .i64 er, .int .i64 cn, .int .i64 lo, .int .i64 up, .int .i64 mc, .int .i64 lw, .int .i64 lr, .int .i64 hw, .int .i64 hr] 44 <| Bc w6.heap.size #[.int .i64 0, .int .i64 ea, .int .i64 eb, .int .i64 s1, .int .u64 s2] 91 <| Bc (w6.heap.size + 1) #[.int .i64 er, .int .i64 cn, .int .i64 lo, .int .i64 up, .int .i64 0, .int .i64 0, .int .i64 0, .int .i64 0, .int .i64 0] 44 <| Bz) ?_
  clear b1 b2 hW
  rintro W9 hW z10 hL
  obtain ⟨⟨b1, yb1, k1, f1⟩, ⟨b2, yb2, k2, f2⟩, ⟨b3, yb3, k3, f3⟩, ⟨b4, yb4, k4, f4⟩, -⟩ := id hL
  clear k1 f1 k2 f2 k3 f3 k4 f4
  refine wp_regS 4 92 hW hL ?_
  iterate 2 refine dA ?_
  apply nd_det (.bool ((er == 9) && ((cn == 0) && ((lo == 0) && ((up == 0) && ((mc == 0) && ((lw == 0) && ((lr == 0) && ((hw == 0) && ((hr == 0))))))))))) (hg := rfl) (hal := rfl)
  · intro a' W' hC hE
    simp [Oper.looksAt, Op.operands, Call.operands, envOf, Det] at hE
    simp [go_sem, Act.eval, hE]
    repeat' split
    all_goals simp_all
  refine dA ?_
  clear hW hL b1 b2 b3 b4
  rintro W11 hW z12 hL
  simp only [ndR]
  intros
  simp only [ndS]
  refine wpList_nil ?_
  obtain ⟨⟨b1, yb1, k1, f1⟩, ⟨b2, yb2, k2, f2⟩, ⟨b3, yb3, k3, f3⟩, ⟨b4, yb4, k4, f4⟩, -⟩ := hL
  go_wp2
  refine bodyPost_ret (by simp [results, Tryz.results15, go_sem, k1, f1, k2, f2, k3, f3, k4, f4, yb1, yb2, yb3, yb4]) rfl ⟨rfl, by exact belowAny⟩
set_option maxRecDepth 100000 in
set_option maxHeartbeats 2000000 in
theorem holds_total (nm : ByteArray) (eps fl la sc : Int) (p : Option Addr) (pn cap : Nat) (a b n ea eb s1 s2 er cn lo up mc lw lr hw hr E : Int) (B : Bool) (w : World) (hn : (n == 0) = false)
    (c1 : ∀ W, Below w.heap.size w W → Calls Tryz.prog 32 #[.agg #[.string nm, .int .i64 eps, .int .i64 fl, .int .i64 la, .int .i64 sc, .slice p pn cap]] W fun e w' => e = .returned (.int .i64 0) ∧ Below W.heap.size W w')
    (c2 : ∀ W, Below w.heap.size w W → Calls Tryz.prog 42 #[.agg #[.string nm, .int .i64 eps, .int .i64 fl, .int .i64 la, .int .i64 sc, .slice p pn cap], .int .i64 a, .int .i64 b] W fun e w' => e = .returned (.agg #[.int .i64 n, .int .i64 ea, .int .i64 eb, .int .i64 s1, .int .u64 s2]) ∧ Below W.heap.size W w')
    (c3 : ∀ W, Below w.heap.size w W → Calls Tryz.prog 43 #[.agg #[.int .i64 n, .int .i64 ea, .int .i64 eb, .int .i64 s1, .int .u64 s2], .agg #[.int .i64 er, .int .i64 cn, .int .i64 lo, .int .i64 up, .int .i64 mc, .int .i64 lw, .int .i64 lr, .int .i64 hw, .int .i64 hr], .int .i64 eps] W fun e w' => e = .returned (.bool B) ∧ Below W.heap.size W w') :
    Calls Tryz.prog 15 #[.agg #[.string nm, .int .i64 eps, .int .i64 fl, .int .i64 la, .int .i64 sc, .slice p pn cap], .int .i64 4, .int .i64 a, .int .i64 b, .agg #[.int .i64 er, .int .i64 cn, .int .i64 lo, .int .i64 up, .int .i64 mc, .int .i64 lw, .int .i64 lr, .int .i64 hw, .int .i64 hr]] w fun e w' => e = .returned (.bool (((cn == 0) && ((mc == 0) && ((lw == 0) && ((lr == 0) && ((hw == 0) && ((hr == 0))))))) && B)) ∧ Below w.heap.size w w' := by
  obtain ⟨BB, hBB⟩ : ∃ BB, ((cn == 0) && ((mc == 0) && ((lw == 0) && ((lr == 0) && ((hw == 0) && ((hr == 0))))))) = BB := ⟨_, rfl⟩
  rw [hBB]
  replace hBB := Lib.hid hBB
  have H_c1 := Lib.hid c1
  clear c1
  have H_c2 := Lib.hid c2
  clear c2
  have H_c3 := Lib.hid c3
  clear c3
  go_enter Tryz.func15, Tryz.ntmps15
  go_upto_region 1 with (fail)
  refine wp_cutB w (Bc w.heap.size #[.string nm, .int .i64 eps, .int .i64 fl, .int .i64 la, .int .i64 sc, .slice p pn cap] 35 <| Bc (w.heap.size + 1) #[.int .i64 er, .int .i64 cn, .int .i64 lo, .int .i64 up, .int .i64 mc, .int .i64 lw, .int .i64 lr, .int .i64 hw, .int .i64 hr] 44 <| Bz) ?_
  rintro W1 hW z2 ⟨⟨b1, yb1, k1, f1⟩, ⟨b2, yb2, k2, f2⟩, -⟩
  go_wp2_with fail
  refine (H_c1.out _ belowAny).mono ?_
  rintro e w3 ⟨rfl, hb3⟩
  have z4 := hb3.size
  try simp at z4
  clear k1 f1 k2 f2
  refine haveB w w3 (Bc w.heap.size #[.string nm, .int .i64 eps, .int .i64 fl, .int .i64 la, .int .i64 sc, .slice p pn cap] 35 <| Bc (w.heap.size + 1) #[.int .i64 er, .int .i64 cn, .int .i64 lo, .int .i64 up, .int .i64 mc, .int .i64 lw, .int .i64 lr, .int .i64 hw, .int .i64 hr] 44 <| Bz) ?_
  clear b1 b2 hW
  rintro hW z5 ⟨⟨b1, yb1, k1, f1⟩, ⟨b2, yb2, k2, f2⟩, -⟩
  clear hb3
  go_wp2_with fail
  refine (H_c2.out _ belowAny).mono ?_
  rintro e w6 ⟨rfl, hb6⟩
  have z7 := hb6.size
  try simp at z7
  clear k1 f1 k2 f2
  refine haveB w w6 (Bc w.heap.size #[.string nm, .int .i64 eps, .int .i64 fl, .int .i64 la, .int .i64 sc, .slice p pn cap] 35 <| Bc (w.heap.size + 1) #[.int .i64 er, .int .i64 cn, .int .i64 lo, .int .i64 up, .int .i64 mc, .int .i64 lw, .int .i64 lr, .int .i64 hw, .int .i64 hr] 44 <| Bz) ?_
  clear b1 b2 hW
  rintro hW z8 ⟨⟨b1, yb1, k1, f1⟩, ⟨b2, yb2, k2, f2⟩, -⟩
  clear hb6
  go_upto_region 13 with (fail)
  clear k1 f1 k2 f2
  refine wp_cutB w (Bc w.heap.size #[.string nm, .int .i64 eps, .int .i64 fl, .int .i64 la, .int .i64 sc, .slice p pn cap] 35 <| Bc (w.heap.size + 1) #[.int .i64 er, .int .i64 cn, .int .i64 lo, .int .i64 up, .int .i64 mc, .int .i64 lw, .int .i64 lr, .int .i64 hw, .int .i64 hr] 44 <| Bc w6.heap.size #[.int .i64 n, .int .i64 ea, .int .i64 eb, .int .i64 s1, .int .u64 s2] 91 <| Bc (w6.heap.size + 1) #[.int .i64 er, .int .i64 cn, .int .i64 0, .int .i64 0, .int .i64 mc, .int .i64 lw, .int .i64 lr, .int .i64 hw, .int .i64 hr] 44 <| Bz) ?_
  clear b1 b2 hW
  rintro W9 hW z10 hL
  obtain ⟨⟨b1, yb1, k1, f1⟩, ⟨b2, yb2, k2, f2⟩, ⟨b3, yb3, k3, f3⟩, ⟨b4, yb4, k4, f4⟩, -⟩ := id hL
  clear k1 f1 k2 f2 k3 f3 k4 f4
  refine wp_regS 5 92 hW hL ?_
  iterate 4 refine dA ?_
  apply nd_det (.bool (!BB)) (hg := rfl) (hal := rfl)
  · intro a' W' hC hE
    simp [Oper.looksAt, Op.operands, Call.operands, envOf, Det] at hE
    simp [go_sem, Act.eval, hE]
    rw [← hBB.out]
    repeat' split
    all_goals simp_all
  clear hW hL b1 b2 b3 b4
  rintro W11 hW z12 hL
  simp only [ndR]
  intros
  simp only [ndS]
  refine wpList_nil ?_
  obtain ⟨⟨b1, yb1, k1, f1⟩, ⟨b2, yb2, k2, f2⟩, ⟨b3, yb3, k3, f3⟩, ⟨b4, yb4, k4, f4⟩, -⟩ := hL
  clear hBB
  cases BB with
  | false =>
    go_wp2
    refine bodyPost_ret (by simp [results, Tryz.results15, go_sem, k1, f1, k2, f2, k3, f3, k4, f4, yb1, yb2, yb3, yb4]) rfl ⟨rfl, by exact belowAny⟩
  | true =>
    go_wp2_with fail
    refine (H_c3.out _ belowAny).mono ?_
    rintro e w13 ⟨rfl, hb13⟩
    have z14 := hb13.size
    try simp at z14
    clear k1 f1 k2 f2 k3 f3 k4 f4
    refine haveB w w13 (Bc w.heap.size #[.string nm, .int .i64 eps, .int .i64 fl, .int .i64 la, .int .i64 sc, .slice p pn cap] 35 <| Bc (w.heap.size + 1) #[.int .i64 er, .int .i64 cn, .int .i64 lo, .int .i64 up, .int .i64 mc, .int .i64 lw, .int .i64 lr, .int .i64 hw, .int .i64 hr] 44 <| Bc w6.heap.size #[.int .i64 n, .int .i64 ea, .int .i64 eb, .int .i64 s1, .int .u64 s2] 91 <| Bc (w6.heap.size + 1) #[.int .i64 er, .int .i64 cn, .int .i64 0, .int .i64 0, .int .i64 mc, .int .i64 lw, .int .i64 lr, .int .i64 hw, .int .i64 hr] 44 <| Bz) ?_
    clear b1 b2 b3 b4 hW
    rintro hW z15 ⟨⟨b1, yb1, k1, f1⟩, ⟨b2, yb2, k2, f2⟩, ⟨b3, yb3, k3, f3⟩, ⟨b4, yb4, k4, f4⟩, -⟩
    clear hb13
    go_wp2
    refine bodyPost_ret (by simp [results, Tryz.results15, go_sem, k1, f1, k2, f2, k3, f3, k4, f4, yb1, yb2, yb3, yb4]) rfl ⟨rfl, by exact belowAny⟩
set_option maxRecDepth 100000 in
set_option maxHeartbeats 2000000 in
theorem holds_mean (nm : ByteArray) (eps fl la sc : Int) (p : Option Addr) (pn cap : Nat) (a b n ea eb s1 s2 er cn lo up mc lw lr hw hr E : Int) (B : Bool) (w : World) (hn : (n == 0) = false)
    (c1 : ∀ W, Below w.heap.size w W → Calls Tryz.prog 32 #[.agg #[.string nm, .int .i64 eps, .int .i64 fl, .int .i64 la, .int .i64 sc, .slice p pn cap]] W fun e w' => e = .returned (.int .i64 0) ∧ Below W.heap.size W w')
    (c2 : ∀ W, Below w.heap.size w W → Calls Tryz.prog 42 #[.agg #[.string nm, .int .i64 eps, .int .i64 fl, .int .i64 la, .int .i64 sc, .slice p pn cap], .int .i64 a, .int .i64 b] W fun e w' => e = .returned (.agg #[.int .i64 n, .int .i64 ea, .int .i64 eb, .int .i64 s1, .int .u64 s2]) ∧ Below W.heap.size W w')
    (c3 : ∀ W, Below w.heap.size w W → Calls Tryz.prog 44 #[.agg #[.int .i64 n, .int .i64 ea, .int .i64 eb, .int .i64 s1, .int .u64 s2], .agg #[.int .i64 mc, .int .i64 lw, .int .i64 lr, .int .i64 hw, .int .i64 hr], .int .i64 eps] W fun e w' => e = .returned (.bool B) ∧ Below W.heap.size W w') :
    Calls Tryz.prog 15 #[.agg #[.string nm, .int .i64 eps, .int .i64 fl, .int .i64 la, .int .i64 sc, .slice p pn cap], .int .i64 5, .int .i64 a, .int .i64 b, .agg #[.int .i64 er, .int .i64 cn, .int .i64 lo, .int .i64 up, .int .i64 mc, .int .i64 lw, .int .i64 lr, .int .i64 hw, .int .i64 hr]] w fun e w' => e = .returned (.bool (((cn == 0) && ((lo == 0) && ((up == 0)))) && ((er == 0) && B))) ∧ Below w.heap.size w w' := by
  obtain ⟨BB, hBB⟩ : ∃ BB, ((cn == 0) && ((lo == 0) && ((up == 0)))) = BB := ⟨_, rfl⟩
  rw [hBB]
  replace hBB := Lib.hid hBB
  have H_c1 := Lib.hid c1
  clear c1
  have H_c2 := Lib.hid c2
  clear c2
  have H_c3 := Lib.hid c3
  clear c3
  go_enter Tryz.func15, Tryz.ntmps15
  go_upto_region 1 with (fail)
  refine wp_cutB w (Bc w.heap.size #[.string nm, .int .i64 eps, .int .i64 fl, .int .i64 la, .int .i64 sc, .slice p pn cap] 35 <| Bc (w.heap.size + 1) #[.int .i64 er, .int .i64 cn, .int .i64 lo, .int .i64 up, .int .i64 mc, .int .i64 lw, .int .i64 lr, .int .i64 hw, .int .i64 hr] 44 <| Bz) ?_
  rintro W1 hW z2 ⟨⟨b1, yb1, k1, f1⟩, ⟨b2, yb2, k2, f2⟩, -⟩
  go_wp2_with fail
  refine (H_c1.out _ belowAny).mono ?_
  rintro e w3 ⟨rfl, hb3⟩
  have z4 := hb3.size
  try simp at z4
  clear k1 f1 k2 f2
  refine haveB w w3 (Bc w.heap.size #[.string nm, .int .i64 eps, .int .i64 fl, .int .i64 la, .int .i64 sc, .slice p pn cap] 35 <| Bc (w.heap.size + 1) #[.int .i64 er, .int .i64 cn, .int .i64 lo, .int .i64 up, .int .i64 mc, .int .i64 lw, .int .i64 lr, .int .i64 hw, .int .i64 hr] 44 <| Bz) ?_
  clear b1 b2 hW
  rintro hW z5 ⟨⟨b1, yb1, k1, f1⟩, ⟨b2, yb2, k2, f2⟩, -⟩
  clear hb3
  go_wp2_with fail
  refine (H_c2.out _ belowAny).mono ?_
  rintro e w6 ⟨rfl, hb6⟩
  have z7 := hb6.size
  try simp at z7
  clear k1 f1 k2 f2
  refine haveB w w6 (Bc w.heap.size #[.string nm, .int .i64 eps, .int .i64 fl, .int .i64 la, .int .i64 sc, .slice p pn cap] 35 <| Bc (w.heap.size + 1) #[.int .i64 er, .int .i64 cn, .int .i64 lo, .int .i64 up, .int .i64 mc, .int .i64 lw, .int .i64 lr, .int .i64 hw, .int .i64 hr] 44 <| Bz) ?_
  clear b1 b2 hW
  rintro hW z8 ⟨⟨b1, yb1, k1, f1⟩, ⟨b2, yb2, k2, f2⟩, -⟩
  clear hb6
  go_upto_region 13 with (fail)
  clear k1 f1 k2 f2
  refine wp_cutB w (Bc w.heap.size #[.string nm, .int .i64 eps, .int .i64 fl, .int .i64 la, .int .i64 sc, .slice p pn cap] 35 <| Bc (w.heap.size + 1) #[.int .i64 er, .int .i64 cn, .int .i64 lo, .int .i64 up, .int .i64 mc, .int .i64 lw, .int .i64 lr, .int .i64 hw, .int .i64 hr] 44 <| Bc w6.heap.size #[.int .i64 n, .int .i64 ea, .int .i64 eb, .int .i64 s1, .int .u64 s2] 91 <| Bc (w6.heap.size + 1) #[.int .i64 er, .int .i64 cn, .int .i64 lo, .int .i64 up, .int .i64 0, .int .i64 0, .int .i64 0, .int .i64 0, .int .i64 0] 44 <| Bz) ?_
  clear b1 b2 hW
  rintro W9 hW z10 hL
  obtain ⟨⟨b1, yb1, k1, f1⟩, ⟨b2, yb2, k2, f2⟩, ⟨b3, yb3, k3, f3⟩, ⟨b4, yb4, k4, f4⟩, -⟩ := id hL
  clear k1 f1 k2 f2 k3 f3 k4 f4
  refine wp_regS 5 92 hW hL ?_
  iterate 4 refine dA ?_
  apply nd_det (.bool (!BB)) (hg := rfl) (hal := rfl)
  · intro a' W' hC hE
    simp [Oper.looksAt, Op.operands, Call.operands, envOf, Det] at hE
    simp [go_sem, Act.eval, hE]
    rw [← hBB.out]
    repeat' split
    all_goals simp_all
  clear hW hL b1 b2 b3 b4
  rintro W11 hW z12 hL
  simp only [ndR]
  intros
  simp only [ndS]
  refine wpList_nil ?_
  obtain ⟨⟨b1, yb1, k1, f1⟩, ⟨b2, yb2, k2, f2⟩, ⟨b3, yb3, k3, f3⟩, ⟨b4, yb4, k4, f4⟩, -⟩ := hL
  clear hBB
  cases BB with
  | false =>
    go_wp2
    refine bodyPost_ret (by simp [results, Tryz.results15, go_sem, k1, f1, k2, f2, k3, f3, k4, f4, yb1, yb2, yb3, yb4]) rfl ⟨rfl, by exact belowAny⟩
  | true =>
    go_upto_region 19 with (fail)
    clear k1 f1 k2 f2 k3 f3 k4 f4
    refine wp_cutB w (Bc w.heap.size #[.string nm, .int .i64 eps, .int .i64 fl, .int .i64 la, .int .i64 sc, .slice p pn cap] 35 <| Bc (w.heap.size + 1) #[.int .i64 er, .int .i64 cn, .int .i64 lo, .int .i64 up, .int .i64 mc, .int .i64 lw, .int .i64 lr, .int .i64 hw, .int .i64 hr] 44 <| Bc w6.heap.size #[.int .i64 n, .int .i64 ea, .int .i64 eb, .int .i64 s1, .int .u64 s2] 91 <| Bc (w6.heap.size + 1) #[.int .i64 er, .int .i64 cn, .int .i64 lo, .int .i64 up, .int .i64 0, .int .i64 0, .int .i64 0, .int .i64 0, .int .i64 0] 44 <| Bz) ?_
    clear b1 b2 b3 b4 hW
    rintro W13 hW z14 hL
    refine wp_regS 12 92 hW hL ?_
    iterate 4 refine dA ?_
    iterate 5 refine gA ?_
    refine cG (fun hp hx W' hC => H_c3.out W' (hW.trans (hC.1.of_priv hW.size))) ?_
    refine pA ?_
    refine dA ?_
    clear hW hL
    rintro W15 hW z16 hL
    simp only [ndR]
    intros
    repeat (rename GDet _ _ _ _ => hgd; clear hgd)
    simp only [ndS]
    refine wpList_nil ?_
    obtain ⟨⟨b1, yb1, k1, f1⟩, ⟨b2, yb2, k2, f2⟩, ⟨b3, yb3, k3, f3⟩, ⟨b4, yb4, k4, f4⟩, -⟩ := hL
    go_wp2
    refine bodyPost_ret (by simp [results, Tryz.results15, go_sem, k1, f1, k2, f2, k3, f3, k4, f4, yb1, yb2, yb3, yb4]) rfl ⟨rfl, by exact belowAny⟩
set_option maxRecDepth 100000 in
set_option maxHeartbeats 2000000 in
theorem holds_least (nm : ByteArray) (eps fl la sc : Int) (p : Option Addr) (pn cap : Nat) (a b n ea eb s1 s2 er cn lo up mc lw lr hw hr E : Int) (B : Bool) (w : World) (hn : (n == 0) = false) (he0 : 0 ≤ eps) (he1 : eps ≤ 1099511627776)
    (c1 : ∀ W, Below w.heap.size w W → Calls Tryz.prog 32 #[.agg #[.string nm, .int .i64 eps, .int .i64 fl, .int .i64 la, .int .i64 sc, .slice p pn cap]] W fun e w' => e = .returned (.int .i64 0) ∧ Below W.heap.size W w')
    (c2 : ∀ W, Below w.heap.size w W → Calls Tryz.prog 42 #[.agg #[.string nm, .int .i64 eps, .int .i64 fl, .int .i64 la, .int .i64 sc, .slice p pn cap], .int .i64 a, .int .i64 b] W fun e w' => e = .returned (.agg #[.int .i64 n, .int .i64 ea, .int .i64 eb, .int .i64 s1, .int .u64 s2]) ∧ Below W.heap.size W w')
    (c3 : ∀ W, Below w.heap.size w W → Calls Tryz.prog 45 #[.agg #[.int .i64 lo, .int .i64 up], .int .i64 ea, .int .u64 (2 * eps)] W fun e w' => e = .returned (.bool B) ∧ Below W.heap.size W w') :
    Calls Tryz.prog 15 #[.agg #[.string nm, .int .i64 eps, .int .i64 fl, .int .i64 la, .int .i64 sc, .slice p pn cap], .int .i64 2, .int .i64 a, .int .i64 b, .agg #[.int .i64 er, .int .i64 cn, .int .i64 lo, .int .i64 up, .int .i64 mc, .int .i64 lw, .int .i64 lr, .int .i64 hw, .int .i64 hr]] w fun e w' => e = .returned (.bool (((cn == 0) && ((mc == 0) && ((lw == 0) && ((lr == 0) && ((hw == 0) && ((hr == 0))))))) && ((er == 0) && B))) ∧ Below w.heap.size w w' := by
  obtain ⟨BB, hBB⟩ : ∃ BB, ((cn == 0) && ((mc == 0) && ((lw == 0) && ((lr == 0) && ((hw == 0) && ((hr == 0))))))) = BB := ⟨_, rfl⟩
  rw [hBB]
  replace hBB := Lib.hid hBB
  have EQ4 := Lib.hid (show wrap64 0 = 0 by simp only [wrap64_eq]; omega)
  have EQ2 := Lib.hid (show IntKind.u64.wrap eps = eps by simp [IntKind.wrap, IntKind.bits, IntKind.signed]; omega)
  have EQ3 := Lib.hid (show IntKind.u64.wrap (2 * eps) = 2 * eps by simp [IntKind.wrap, IntKind.bits, IntKind.signed]; omega)
  have H_c1 := Lib.hid c1
  clear c1
  have H_c2 := Lib.hid c2
  clear c2
  have H_c3 := Lib.hid c3
  clear c3
  go_enter Tryz.func15, Tryz.ntmps15
  go_upto_region 1 with (fail)
  refine wp_cutB w (Bc w.heap.size #[.string nm, .int .i64 eps, .int .i64 fl, .int .i64 la, .int .i64 sc, .slice p pn cap] 35 <| Bc (w.heap.size + 1) #[.int .i64 er, .int .i64 cn, .int .i64 lo, .int .i64 up, .int .i64 mc, .int .i64 lw, .int .i64 lr, .int .i64 hw, .int .i64 hr] 44 <| Bz) ?_
  rintro W1 hW z2 ⟨⟨b1, yb1, k1, f1⟩, ⟨b2, yb2, k2, f2⟩, -⟩
  go_wp2_with fail
  refine (H_c1.out _ belowAny).mono ?_
  rintro e w3 ⟨rfl, hb3⟩
  have z4 := hb3.size
  try simp at z4
  clear k1 f1 k2 f2
  refine haveB w w3 (Bc w.heap.size #[.string nm, .int .i64 eps, .int .i64 fl, .int .i64 la, .int .i64 sc, .slice p pn cap] 35 <| Bc (w.heap.size + 1) #[.int .i64 er, .int .i64 cn, .int .i64 lo, .int .i64 up, .int .i64 mc, .int .i64 lw, .int .i64 lr, .int .i64 hw, .int .i64 hr] 44 <| Bz) ?_
  clear b1 b2 hW
  rintro hW z5 ⟨⟨b1, yb1, k1, f1⟩, ⟨b2, yb2, k2, f2⟩, -⟩
  clear hb3
  go_wp2_with fail
  refine (H_c2.out _ belowAny).mono ?_
  rintro e w6 ⟨rfl, hb6⟩
  have z7 := hb6.size
  try simp at z7
  clear k1 f1 k2 f2
  refine haveB w w6 (Bc w.heap.size #[.string nm, .int .i64 eps, .int .i64 fl, .int .i64 la, .int .i64 sc, .slice p pn cap] 35 <| Bc (w.heap.size + 1) #[.int .i64 er, .int .i64 cn, .int .i64 lo, .int .i64 up, .int .i64 mc, .int .i64 lw, .int .i64 lr, .int .i64 hw, .int .i64 hr] 44 <| Bz) ?_
  clear b1 b2 hW
  rintro hW z8 ⟨⟨b1, yb1, k1, f1⟩, ⟨b2, yb2, k2, f2⟩, -⟩
  clear hb6
  go_upto_region 13 with (fail)
  clear k1 f1 k2 f2
  refine wp_cutB w (Bc w.heap.size #[.string nm, .int .i64 eps, .int .i64 fl, .int .i64 la, .int .i64 sc, .slice p pn cap] 35 <| Bc (w.heap.size + 1) #[.int .i64 er, .int .i64 cn, .int .i64 lo, .int .i64 up, .int .i64 mc, .int .i64 lw, .int .i64 lr, .int .i64 hw, .int .i64 hr] 44 <| Bc w6.heap.size #[.int .i64 n, .int .i64 ea, .int .i64 eb, .int .i64 s1, .int .u64 s2] 91 <| Bc (w6.heap.size + 1) #[.int .i64 er, .int .i64 cn, .int .i64 0, .int .i64 0, .int .i64 mc, .int .i64 lw, .int .i64 lr, .int .i64 hw, .int .i64 hr] 44 <| Bz) ?_
  clear b1 b2 hW
  rintro W9 hW z10 hL
  obtain ⟨⟨b1, yb1, k1, f1⟩, ⟨b2, yb2, k2, f2⟩, ⟨b3, yb3, k3, f3⟩, ⟨b4, yb4, k4, f4⟩, -⟩ := id hL
  clear k1 f1 k2 f2 k3 f3 k4 f4
  refine wp_regS 5 92 hW hL ?_
  iterate 4 refine dA ?_
  apply nd_det (.bool (!BB)) (hg := rfl) (hal := rfl)
  · intro a' W' hC hE
    simp [Oper.looksAt, Op.operands, Call.operands, envOf, Det] at hE
    simp [go_sem, Act.eval, hE]
    rw [← hBB.out]
    repeat' split
    all_goals simp_all
  clear hW hL b1 b2 b3 b4
  rintro W11 hW z12 hL
  simp only [ndR]
  intros
  simp only [ndS]
  refine wpList_nil ?_
  obtain ⟨⟨b1, yb1, k1, f1⟩, ⟨b2, yb2, k2, f2⟩, ⟨b3, yb3, k3, f3⟩, ⟨b4, yb4, k4, f4⟩, -⟩ := hL
  clear hBB
  cases BB with
  | false =>
    go_wp2
    refine bodyPost_ret (by simp [results, Tryz.results15, go_sem, k1, f1, k2, f2, k3, f3, k4, f4, yb1, yb2, yb3, yb4]) rfl ⟨rfl, by exact belowAny⟩
  | true =>
    go_upto_region 20 with (fail)
    clear k1 f1 k2 f2 k3 f3 k4 f4
    refine wp_cutB w (Bc w.heap.size #[.string nm, .int .i64 eps, .int .i64 fl, .int .i64 la, .int .i64 sc, .slice p pn cap] 35 <| Bc (w.heap.size + 1) #[.int .i64 er, .int .i64 cn, .int .i64 lo, .int .i64 up, .int .i64 mc, .int .i64 lw, .int .i64 lr, .int .i64 hw, .int .i64 hr] 44 <| Bc w6.heap.size #[.int .i64 n, .int .i64 ea, .int .i64 eb, .int .i64 s1, .int .u64 s2] 91 <| Bc (w6.heap.size + 1) #[.int .i64 er, .int .i64 cn, .int .i64 0, .int .i64 0, .int .i64 mc, .int .i64 lw, .int .i64 lr, .int .i64 hw, .int .i64 hr] 44 <| Bz) ?_
    clear b1 b2 b3 b4 hW
    rintro W13 hW z14 hL
    refine wp_regD 18 92 hW hL ?_
    iterate 4 refine dE (fun W' hC => aI EQ2.out (aI EQ3.out EQ4.out)) ?_
    iterate 11 refine gE (fun W' hC => aI EQ2.out (aI EQ3.out EQ4.out)) ?_
    apply nd_callvg2 (p := true) (hg := rfl) (hd := rfl) (hal := rfl)
    · intro v W' h
      simp [envOf, Det] at h
      simp
      exact h
    · intro hp hx W' hC
      exact H_c3.out W' (hW.trans (hC.1.of_priv hW.size))
    · intro hp hx a W' hC hE
      obtain ⟨_, ⟨-, -, k1, -⟩, ⟨-, -, k2, -⟩, ⟨-, -, k3, -⟩, ⟨-, -, k4, -⟩, -⟩ := hC
      first
        | (simp [Oper.looksAt, Op.operands, Call.operands, envOf, Det, GDet, hx] at hE; simp [go_sem, Act.eval, IntWalk.i64_left, hE, k1, k2, k3, k4, EQ2.out, EQ3.out, EQ4.out]; try rfl)
        | (clear hE; simp [go_sem, Act.eval, IntWalk.i64_left, k1, k2, k3, k4, EQ2.out, EQ3.out, EQ4.out]; try rfl)
    refine pA ?_
    refine dE (fun W' hC => aI EQ2.out (aI EQ3.out EQ4.out)) ?_
    clear hW hL
    rintro W15 hW z16 hL
    simp only [ndR]
    intros
    repeat (rename GDet _ _ _ _ => hgd; clear hgd)
    simp only [ndS]
    refine wpList_nil ?_
    obtain ⟨⟨b1, yb1, k1, f1⟩, ⟨b2, yb2, k2, f2⟩, ⟨b3, yb3, k3, f3⟩, ⟨b4, yb4, k4, f4⟩, -⟩ := hL
    go_wp2
    refine bodyPost_ret (by simp [results, Tryz.results15, go_sem, k1, f1, k2, f2, k3, f3, k4, f4, yb1, yb2, yb3, yb4]) rfl ⟨rfl, by exact belowAny⟩
set_option maxRecDepth 100000 in
set_option maxHeartbeats 2000000 in
theorem holds_most (nm : ByteArray) (eps fl la sc : Int) (p : Option Addr) (pn cap : Nat) (a b n ea eb s1 s2 er cn lo up mc lw lr hw hr E : Int) (B : Bool) (w : World) (hn : (n == 0) = false) (he0 : 0 ≤ eps) (he1 : eps ≤ 1099511627776)
    (c1 : ∀ W, Below w.heap.size w W → Calls Tryz.prog 32 #[.agg #[.string nm, .int .i64 eps, .int .i64 fl, .int .i64 la, .int .i64 sc, .slice p pn cap]] W fun e w' => e = .returned (.int .i64 0) ∧ Below W.heap.size W w')
    (c2 : ∀ W, Below w.heap.size w W → Calls Tryz.prog 42 #[.agg #[.string nm, .int .i64 eps, .int .i64 fl, .int .i64 la, .int .i64 sc, .slice p pn cap], .int .i64 a, .int .i64 b] W fun e w' => e = .returned (.agg #[.int .i64 n, .int .i64 ea, .int .i64 eb, .int .i64 s1, .int .u64 s2]) ∧ Below W.heap.size W w')
    (c3 : ∀ W, Below w.heap.size w W → Calls Tryz.prog 45 #[.agg #[.int .i64 lo, .int .i64 up], .int .i64 eb, .int .u64 (2 * eps)] W fun e w' => e = .returned (.bool B) ∧ Below W.heap.size W w') :
    Calls Tryz.prog 15 #[.agg #[.string nm, .int .i64 eps, .int .i64 fl, .int .i64 la, .int .i64 sc, .slice p pn cap], .int .i64 3, .int .i64 a, .int .i64 b, .agg #[.int .i64 er, .int .i64 cn, .int .i64 lo, .int .i64 up, .int .i64 mc, .int .i64 lw, .int .i64 lr, .int .i64 hw, .int .i64 hr]] w fun e w' => e = .returned (.bool (((cn == 0) && ((mc == 0) && ((lw == 0) && ((lr == 0) && ((hw == 0) && ((hr == 0))))))) && ((er == 0) && B))) ∧ Below w.heap.size w w' := by
  obtain ⟨BB, hBB⟩ : ∃ BB, ((cn == 0) && ((mc == 0) && ((lw == 0) && ((lr == 0) && ((hw == 0) && ((hr == 0))))))) = BB := ⟨_, rfl⟩
  rw [hBB]
  replace hBB := Lib.hid hBB
  have EQ4 := Lib.hid (show wrap64 1 = 1 by simp only [wrap64_eq]; omega)
  have EQ2 := Lib.hid (show IntKind.u64.wrap eps = eps by simp [IntKind.wrap, IntKind.bits, IntKind.signed]; omega)
  have EQ3 := Lib.hid (show IntKind.u64.wrap (2 * eps) = 2 * eps by simp [IntKind.wrap, IntKind.bits, IntKind.signed]; omega)
  have H_c1 := Lib.hid c1
  clear c1
  have H_c2 := Lib.hid c2
  clear c2
  have H_c3 := Lib.hid c3
  clear c3
  go_enter Tryz.func15, Tryz.ntmps15
  go_upto_region 1 with (fail)
  refine wp_cutB w (Bc w.heap.size #[.string nm, .int .i64 eps, .int .i64 fl, .int .i64 la, .int .i64 sc, .slice p pn cap] 35 <| Bc (w.heap.size + 1) #[.int .i64 er, .int .i64 cn, .int .i64 lo, .int .i64 up, .int .i64 mc, .int .i64 lw, .int .i64 lr, .int .i64 hw, .int .i64 hr] 44 <| Bz) ?_
  rintro W1 hW z2 ⟨⟨b1, yb1, k1, f1⟩, ⟨b2, yb2, k2, f2⟩, -⟩
  go_wp2_with fail
  refine (H_c1.out _ belowAny).mono ?_
  rintro e w3 ⟨rfl, hb3⟩
  have z4 := hb3.size
  try simp at z4
  clear k1 f1 k2 f2
  refine haveB w w3 (Bc w.heap.size #[.string nm, .int .i64 eps, .int .i64 fl, .int .i64 la, .int .i64 sc, .slice p pn cap] 35 <| Bc (w.heap.size + 1) #[.int .i64 er, .int .i64 cn, .int .i64 lo, .int .i64 up, .int .i64 mc, .int .i64 lw, .int .i64 lr, .int .i64 hw, .int .i64 hr] 44 <| Bz) ?_
  clear b1 b2 hW
  rintro hW z5 ⟨⟨b1, yb1, k1, f1⟩, ⟨b2, yb2, k2, f2⟩, -⟩
  clear hb3
  go_wp2_with fail
  refine (H_c2.out _ belowAny).mono ?_
  rintro e w6 ⟨rfl, hb6⟩
  have z7 := hb6.size
  try simp at z7
  clear k1 f1 k2 f2
  refine haveB w w6 (Bc w.heap.size #[.string nm, .int .i64 eps, .int .i64 fl, .int .i64 la, .int .i64 sc, .slice p pn cap] 35 <| Bc (w.heap.size + 1) #[.int .i64 er, .int .i64 cn, .int .i64 lo, .int .i64 up, .int .i64 mc, .int .i64 lw, .int .i64 lr, .int .i64 hw, .int .i64 hr] 44 <| Bz) ?_
  clear b1 b2 hW
  rintro hW z8 ⟨⟨b1, yb1, k1, f1⟩, ⟨b2, yb2, k2, f2⟩, -⟩
  clear hb6
  go_upto_region 13 with (fail)
  clear k1 f1 k2 f2
  refine wp_cutB w (Bc w.heap.size #[.string nm, .int .i64 eps, .int .i64 fl, .int .i64 la, .int .i64 sc, .slice p pn cap] 35 <| Bc (w.heap.size + 1) #[.int .i64 er, .int .i64 cn, .int .i64 lo, .int .i64 up, .int .i64 mc, .int .i64 lw, .int .i64 lr, .int .i64 hw, .int .i64 hr] 44 <| Bc w6.heap.size #[.int .i64 n, .int .i64 ea, .int .i64 eb, .int .i64 s1, .int .u64 s2] 91 <| Bc (w6.heap.size + 1) #[.int .i64 er, .int .i64 cn, .int .i64 0, .int .i64 0, .int .i64 mc, .int .i64 lw, .int .i64 lr, .int .i64 hw, .int .i64 hr] 44 <| Bz) ?_
  clear b1 b2 hW
  rintro W9 hW z10 hL
  obtain ⟨⟨b1, yb1, k1, f1⟩, ⟨b2, yb2, k2, f2⟩, ⟨b3, yb3, k3, f3⟩, ⟨b4, yb4, k4, f4⟩, -⟩ := id hL
  clear k1 f1 k2 f2 k3 f3 k4 f4
  refine wp_regS 5 92 hW hL ?_
  iterate 4 refine dA ?_
  apply nd_det (.bool (!BB)) (hg := rfl) (hal := rfl)
  · intro a' W' hC hE
    simp [Oper.looksAt, Op.operands, Call.operands, envOf, Det] at hE
    simp [go_sem, Act.eval, hE]
    rw [← hBB.out]
    repeat' split
    all_goals simp_all
  clear hW hL b1 b2 b3 b4
  rintro W11 hW z12 hL
  simp only [ndR]
  intros
  simp only [ndS]
  refine wpList_nil ?_
  obtain ⟨⟨b1, yb1, k1, f1⟩, ⟨b2, yb2, k2, f2⟩, ⟨b3, yb3, k3, f3⟩, ⟨b4, yb4, k4, f4⟩, -⟩ := hL
  clear hBB
  cases BB with
  | false =>
    go_wp2
    refine bodyPost_ret (by simp [results, Tryz.results15, go_sem, k1, f1, k2, f2, k3, f3, k4, f4, yb1, yb2, yb3, yb4]) rfl ⟨rfl, by exact belowAny⟩
  | true =>
    go_upto_region 20 with (fail)
    clear k1 f1 k2 f2 k3 f3 k4 f4
    refine wp_cutB w (Bc w.heap.size #[.string nm, .int .i64 eps, .int .i64 fl, .int .i64 la, .int .i64 sc, .slice p pn cap] 35 <| Bc (w.heap.size + 1) #[.int .i64 er, .int .i64 cn, .int .i64 lo, .int .i64 up, .int .i64 mc, .int .i64 lw, .int .i64 lr, .int .i64 hw, .int .i64 hr] 44 <| Bc w6.heap.size #[.int .i64 n, .int .i64 ea, .int .i64 eb, .int .i64 s1, .int .u64 s2] 91 <| Bc (w6.heap.size + 1) #[.int .i64 er, .int .i64 cn, .int .i64 0, .int .i64 0, .int .i64 mc, .int .i64 lw, .int .i64 lr, .int .i64 hw, .int .i64 hr] 44 <| Bz) ?_
    clear b1 b2 b3 b4 hW
    rintro W13 hW z14 hL
    refine wp_regD 18 92 hW hL ?_
    iterate 4 refine dE (fun W' hC => aI EQ2.out (aI EQ3.out EQ4.out)) ?_
    iterate 11 refine gE (fun W' hC => aI EQ2.out (aI EQ3.out EQ4.out)) ?_
    apply nd_callvg2 (p := true) (hg := rfl) (hd := rfl) (hal := rfl)
    · intro v W' h
      simp [envOf, Det] at h
      simp
      exact h
    · intro hp hx W' hC
      exact H_c3.out W' (hW.trans (hC.1.of_priv hW.size))
    · intro hp hx a W' hC hE
      obtain ⟨_, ⟨-, -, k1, -⟩, ⟨-, -, k2, -⟩, ⟨-, -, k3, -⟩, ⟨-, -, k4, -⟩, -⟩ := hC
      first
        | (simp [Oper.looksAt, Op.operands, Call.operands, envOf, Det, GDet, hx] at hE; simp [go_sem, Act.eval, IntWalk.i64_left, hE, k1, k2, k3, k4, EQ2.out, EQ3.out, EQ4.out]; try rfl)
        | (clear hE; simp [go_sem, Act.eval, IntWalk.i64_left, k1, k2, k3, k4, EQ2.out, EQ3.out, EQ4.out]; try rfl)
    refine pA ?_
    refine dE (fun W' hC => aI EQ2.out (aI EQ3.out EQ4.out)) ?_
    clear hW hL
    rintro W15 hW z16 hL
    simp only [ndR]
    intros
    repeat (rename GDet _ _ _ _ => hgd; clear hgd)
    simp only [ndS]
    refine wpList_nil ?_
    obtain ⟨⟨b1, yb1, k1, f1⟩, ⟨b2, yb2, k2, f2⟩, ⟨b3, yb3, k3, f3⟩, ⟨b4, yb4, k4, f4⟩, -⟩ := hL
    go_wp2
    refine bodyPost_ret (by simp [results, Tryz.results15, go_sem, k1, f1, k2, f2, k3, f3, k4, f4, yb1, yb2, yb3, yb4]) rfl ⟨rfl, by exact belowAny⟩
end Go.Proofs.YtdeghcgakkhbmaaGreat
namespace Go.Proofs.YtdeghcgakkhbmaaGreat
open Go.RowKit
theorem c_mdTotal (n ea eb s : Int) (y : An9) (eps : Int) (w : World) (h0 : 0 ≤ n) (h1 : n ≤ 1000000) (hs : -170141183460469231731687303715884 ≤ s ∧ s ≤ 170141183460469231731687303715884) (hl : I64 y.lo) (hu : I64 y.up) (he0 : 0 ≤ eps) (he1 : eps ≤ 1099511627776) :
    Calls Tryz.prog 43 #[.agg (exA (n, (ea, eb), s)), .agg (anA y), .int .i64 eps] w fun e w' => e = .returned (.bool (totalB n s y eps)) ∧ Below w.heap.size w w' := by
  have hm0 : 0 ≤ 2 * eps * n := Int.mul_nonneg (by omega) h0
  have hm1 : 2 * eps * n ≤ 2 * eps * 1000000 := Int.mul_le_mul_of_nonneg_left h1 (by omega)
  have hW : W128 s := by unfold W128; omega
  have hW1 : W128 (2 * eps * n) := by unfold W128; omega
  have hW2 : W128 (s - 2 * eps * n) := by unfold W128; omega
  have hW3 : W128 (s + 2 * eps * n) := by unfold W128; omega
  have cM := fun W => c_Mul (2 * eps) n W (by unfold I64; omega) (by unfold I64; omega)
  unfold totalB
  by_cases h5 : y.er = 5
  · rw [if_pos h5]
    have c2 := fun W => c_Sub s (2 * eps * n) W hW hW1
    rw [inW_in hW2, wrapW_in hW2] at c2
    have c3 := fun W => c_Add s (2 * eps * n) W hW hW1
    rw [inW_in hW3, wrapW_in hW3] at c3
    have t := total_over n ea eb _ _ y.cn y.lo y.up y.mc y.lw y.lr y.hw y.hr eps _ _ _ _ _ _ _ _ _ _ _ _ w he0 he1 cM c2 c3 (fun W => c_Int _ W hW2) (fun W => c_Int _ W hW3)
    rw [Bool.and_assoc] at t
    unfold anA exA
    rw [h5]
    exact (Bool.and_assoc _ _ _) ▸ t
  · rw [if_neg h5]
    have t := total_plain n ea eb _ _ y.er y.cn y.lo y.up y.mc y.lw y.lr y.hw y.hr eps _ _ _ _ _ w he0 he1 (by simpa using h5) cM (fun W => c_Int _ W hW) (fun W => c_mdLies y.lo y.up _ _ W hl hu)
    unfold anA exA
    exact t
theorem c_mdHolds (r : RawT) (p : Option Addr) (cap : Nat) (k a b : Int) (y : An9) (w : World) (hp : PtsIn w p r.pts) (hl : r.pts.length ≤ 2000) (hy : y.ok) :
    Calls Tryz.prog 15 #[.agg (rawA r p cap), .int .i64 k, .int .i64 a, .int .i64 b, .agg (anA y)] w fun e w' => e = .returned (.bool (holdsB r k a b y)) ∧ Below w.heap.size w w' := by
  have c1 := fun W (hW : Below w.heap.size w W) => c_mdCheckRaw r p cap W (hp.below hW) hl
  obtain ⟨er, cn, lo, up, mc, lw, lr, hw, hr⟩ := y
  obtain ⟨y1, y2, y3, y4, y5, y6, y7, y8, y9⟩ := hy
  unfold holdsB
  unfold rawA at c1 ⊢
  unfold anA
  by_cases hB : rawB r = true
  · rw [if_pos hB] at c1
    obtain ⟨⟨he0, he1⟩, hlen, hpt⟩ := rawB_parts hB
    rw [hB]
    by_cases hk : 1 ≤ k ∧ k ≤ 5
    · have hk2 : (decide (1 ≤ k) && decide (k ≤ 5)) = true := by simp [hk.1, hk.2]
      rw [hk2]
      simp only [Bool.and_self, Bool.true_and]
      have c2 := fun W (hW : Below w.heap.size w W) => c_mdTold r p cap a b W (hp.below hW) hl hpt
      obtain ⟨hX0, hX1⟩ := told_few hB a b
      have hX2 := (tolds_is (l := tellG a b r.pts) (by have := tellG_length a b r.pts; omega) (fun x hx => hpt x (tellG_mem hx))).2
      obtain ⟨⟨n, ⟨ea, eb⟩, s⟩, hX⟩ : ∃ X, toldsL (tellG a b r.pts) = X := ⟨_, rfl⟩
      rw [hX] at c2 hX0 hX1 hX2 ⊢
      simp only at hX0 hX1 hX2
      unfold exA rawA at c2
      simp only at c2
      have hk' : k = 1 ∨ k = 2 ∨ k = 3 ∨ k = 4 ∨ k = 5 := by omega
      unfold holdsX
      rcases hk' with rfl | rfl | rfl | rfl | rfl
      · exact holds_count r.name r.eps r.floor r.last r.scale p r.pts.length cap a b n ea eb _ _ er cn lo up mc lw lr hw hr 0 true w c1 c2
      · rw [if_neg (by decide)]
        by_cases h0 : n = 0
        · subst h0
          rw [if_pos rfl]
          exact holds_empty2 r.name r.eps r.floor r.last r.scale p r.pts.length cap a b 0 ea eb _ _ er cn lo up mc lw lr hw hr 0 true w c1 c2
        · rw [if_neg h0]
          exact holds_least r.name r.eps r.floor r.last r.scale p r.pts.length cap a b n ea eb _ _ er cn lo up mc lw lr hw hr 0 _ w (by simpa using h0) he0 he1 c1 c2 (fun W _ => c_mdLies lo up ea _ W y3 y4)
      · rw [if_neg (by decide)]
        by_cases h0 : n = 0
        · subst h0
          rw [if_pos rfl]
          exact holds_empty3 r.name r.eps r.floor r.last r.scale p r.pts.length cap a b 0 ea eb _ _ er cn lo up mc lw lr hw hr 0 true w c1 c2
        · rw [if_neg h0]
          exact holds_most r.name r.eps r.floor r.last r.scale p r.pts.length cap a b n ea eb _ _ er cn lo up mc lw lr hw hr 0 _ w (by simpa using h0) he0 he1 c1 c2 (fun W _ => c_mdLies lo up eb _ W y3 y4)
      · rw [if_neg (by decide)]
        by_cases h0 : n = 0
        · subst h0
          rw [if_pos rfl]
          exact holds_empty4 r.name r.eps r.floor r.last r.scale p r.pts.length cap a b 0 ea eb _ _ er cn lo up mc lw lr hw hr 0 true w c1 c2
        · rw [if_neg h0]
          exact holds_total r.name r.eps r.floor r.last r.scale p r.pts.length cap a b n ea eb _ _ er cn lo up mc lw lr hw hr 0 _ w (by simpa using h0) c1 c2 (fun W _ => c_mdTotal n ea eb s ⟨er, cn, lo, up, mc, lw, lr, hw, hr⟩ r.eps W hX0 (by omega) (by omega) y3 y4 he0 he1)
      · rw [if_neg (by decide)]
        by_cases h0 : n = 0
        · subst h0
          rw [if_pos rfl]
          exact holds_empty5 r.name r.eps r.floor r.last r.scale p r.pts.length cap a b 0 ea eb _ _ er cn lo up mc lw lr hw hr 0 true w c1 c2
        · rw [if_neg h0]
          exact holds_mean r.name r.eps r.floor r.last r.scale p r.pts.length cap a b n ea eb _ _ er cn lo up mc lw lr hw hr 0 _ w (by simpa using h0) c1 c2 (fun W _ => c_mdMean n ea eb s mc lw lr hw hr r.eps W hX0 (by omega) (by unfold W128; omega) y6 y7 y8 y9 he0 he1)
    · have hk2 : (decide (1 ≤ k) && decide (k ≤ 5)) = false := by
        rw [Bool.and_eq_false_iff, decide_eq_false_iff_not, decide_eq_false_iff_not]; omega
      rw [hk2]
      exact holds_no r.name r.eps r.floor r.last r.scale p r.pts.length cap a b 0 0 0 0 0 er cn lo up mc lw lr hw hr 0 true k w (.inr ⟨rfl, by omega⟩) c1
  · rw [if_neg hB] at c1
    rw [Bool.not_eq_true] at hB
    rw [hB]
    exact holds_no r.name r.eps r.floor r.last r.scale p r.pts.length cap a b 0 0 0 0 0 er cn lo up mc lw lr hw hr 380 true k w (.inl rfl) c1
end Go.Proofs.YtdeghcgakkhbmaaGreat
namespace Go.Proofs.YtdeghcgakkhbmaaGreat
open Go.RowKit Go.Shelf
attribute [local go_sem] Oper.semAt_some
/-- The rounds' end, as kept by a drawn region. -/
def DefK (D : Nat) (W : World) : Prop := W.heap[D]? = some (.deferred (some []))
theorem DefK.rex {D : Nat} {L : List Nat} {w w' : World} (h : DefK D w) (hr : Rex L w w') (hL : L = []) : DefK D w' := by
  subst hL
  exact (hr.block D (lt_of_heap h) (by simp)).trans h
theorem DefK.drew {D : Nat} {w : World} (h : DefK D w) : DefK D w.drew := h
/-- Does what is told of a time hold? -/
def atB (eps lo up e : Int) : List (Int × Int) → Bool
  | [] => (e == 9) && ((lo == 0) && (up == 0))
  | x :: _ => (e == 0) && liesB lo up x.2 (2 * eps)
set_option maxRecDepth 100000 in
set_option maxHeartbeats 8000000 in
theorem holdsAt_in (r : RawT) (p : Option Addr) (cap : Nat) (t lo up e : Int) (w : World) (hp : PtsIn w p r.pts) (hl : r.pts.length ≤ 2000) (hv : ∀ x, x ∈ r.pts → ptB x = true) (hlo : I64 lo) (hup : I64 up) (he0 : 0 ≤ r.eps) (he1 : r.eps ≤ 1099511627776)
    (c1 : ∀ W, Below w.heap.size w W → Calls Tryz.prog 32 #[.agg #[.string r.name, .int .i64 r.eps, .int .i64 r.floor, .int .i64 r.last, .int .i64 r.scale, .slice p r.pts.length cap]] W fun e w' => e = .returned (.int .i64 0) ∧ Below W.heap.size W w') :
    CallsIn Fence.wide 4 Tryz.prog 26 #[.agg #[.string r.name, .int .i64 r.eps, .int .i64 r.floor, .int .i64 r.last, .int .i64 r.scale, .slice p r.pts.length cap], .int .i64 t, .agg #[.int .i64 lo, .int .i64 up], .int .i64 e] w fun e' w' => e' = .returned (.bool (atB r.eps lo up e (tellG t t r.pts))) ∧ Below w.heap.size w w' := by
  have hmf : ∀ (fn : Fn) (first cap : Array Value) (w : World), (Instr.makeFunc fn first cap).run Tryz.prog w = .ok (.func fn first cap) w := fun _ _ _ _ => rfl
  refine callsIn_of_wp_marks Tryz.func26 rfl trivial ?_ rfl
  simp only [Tryz.ntmps26, List.size_toArray, List.length_cons, List.length_nil, Nat.reduceAdd, Nat.reduceSub, Array.replicate_succ, Array.replicate_zero, List.push_toArray, List.append_toArray, List.nil_append, List.cons_append]
  refine wpIn_wide.2 ?_
  replace c1 := Lib.hid c1
  go_upto_region 1 with (fail)
  refine wp_cutB w (Bc w.heap.size #[.string r.name, .int .i64 r.eps, .int .i64 r.floor, .int .i64 r.last, .int .i64 r.scale, .slice p r.pts.length cap] 35 <| Bc (w.heap.size + 1) #[.int .i64 lo, .int .i64 up] 38 <| Bc (w.heap.size + 1 + 1) #[.int .i64 e] 36 <| Bc (w.heap.size + 1 + 1 + 1) #[.bool false] 4 <| Bz) ?_
  rintro W1 hW z2 ⟨⟨b1, yb1, k1, f1⟩, ⟨b2, yb2, k2, f2⟩, ⟨b3, yb3, k3, f3⟩, ⟨b4, yb4, k4, f4⟩, -⟩
  go_wp2_with fail
  refine (c1.out _ belowAny).mono ?_
  rintro e w3 ⟨rfl, hb3⟩
  have z4 := hb3.size
  try simp at z4
  clear k1 f1 k2 f2 k3 f3 k4 f4
  refine haveB w w3 (Bc w.heap.size #[.string r.name, .int .i64 r.eps, .int .i64 r.floor, .int .i64 r.last, .int .i64 r.scale, .slice p r.pts.length cap] 35 <| Bc (w.heap.size + 1) #[.int .i64 lo, .int .i64 up] 38 <| Bc (w.heap.size + 1 + 1) #[.int .i64 e] 36 <| Bc (w.heap.size + 1 + 1 + 1) #[.bool false] 4 <| Bz) ?_
  clear b1 b2 b3 b4 hW
  rintro hW z5 ⟨⟨b1, yb1, k1, f1⟩, ⟨b2, yb2, k2, f2⟩, ⟨b3, yb3, k3, f3⟩, ⟨b4, yb4, k4, f4⟩, -⟩
  clear hb3
  go_wp2_with fail
  refine (some_w r p cap t t _).mono ?_
  rintro e w' ⟨rfl, rfl⟩
  have c9 : Below w.heap.size w (((w3.alloc (.cells #[.string r.name, .int .i64 r.eps, .int .i64 r.floor, .int .i64 r.last, .int .i64 r.scale, .slice p r.pts.length cap] 35)).alloc (.cells #[.int .i64 t] 2)).alloc (.cells #[.int .i64 t] 2)) := belowAny
  have d1 : Blk (((w3.alloc (.cells #[.string r.name, .int .i64 r.eps, .int .i64 r.floor, .int .i64 r.last, .int .i64 r.scale, .slice p r.pts.length cap] 35)).alloc (.cells #[.int .i64 t] 2)).alloc (.cells #[.int .i64 t] 2)) w.heap.size #[.string r.name, .int .i64 r.eps, .int .i64 r.floor, .int .i64 r.last, .int .i64 r.scale, .slice p r.pts.length cap] 35 := blkAny2
  have d2 : Blk (((w3.alloc (.cells #[.string r.name, .int .i64 r.eps, .int .i64 r.floor, .int .i64 r.last, .int .i64 r.scale, .slice p r.pts.length cap] 35)).alloc (.cells #[.int .i64 t] 2)).alloc (.cells #[.int .i64 t] 2)) (w.heap.size + 1) #[.int .i64 lo, .int .i64 up] 38 := blkAny2
  have d3 : Blk (((w3.alloc (.cells #[.string r.name, .int .i64 r.eps, .int .i64 r.floor, .int .i64 r.last, .int .i64 r.scale, .slice p r.pts.length cap] 35)).alloc (.cells #[.int .i64 t] 2)).alloc (.cells #[.int .i64 t] 2)) (w.heap.size + 1 + 1) #[.int .i64 e] 36 := blkAny2
  have d4 : Blk (((w3.alloc (.cells #[.string r.name, .int .i64 r.eps, .int .i64 r.floor, .int .i64 r.last, .int .i64 r.scale, .slice p r.pts.length cap] 35)).alloc (.cells #[.int .i64 t] 2)).alloc (.cells #[.int .i64 t] 2)) (w.heap.size + 1 + 1 + 1) #[.bool false] 4 := blkAny2
  have s1 : Blk (((w3.alloc (.cells #[.string r.name, .int .i64 r.eps, .int .i64 r.floor, .int .i64 r.last, .int .i64 r.scale, .slice p r.pts.length cap] 35)).alloc (.cells #[.int .i64 t] 2)).alloc (.cells #[.int .i64 t] 2)) w3.heap.size #[.string r.name, .int .i64 r.eps, .int .i64 r.floor, .int .i64 r.last, .int .i64 r.scale, .slice p r.pts.length cap] 35 := by exact blkAny2
  have s2 : Blk (((w3.alloc (.cells #[.string r.name, .int .i64 r.eps, .int .i64 r.floor, .int .i64 r.last, .int .i64 r.scale, .slice p r.pts.length cap] 35)).alloc (.cells #[.int .i64 t] 2)).alloc (.cells #[.int .i64 t] 2)) (w3.heap.size + 1) #[.int .i64 t] 2 := by exact blkAny2
  have s3 : Blk (((w3.alloc (.cells #[.string r.name, .int .i64 r.eps, .int .i64 r.floor, .int .i64 r.last, .int .i64 r.scale, .slice p r.pts.length cap] 35)).alloc (.cells #[.int .i64 t] 2)).alloc (.cells #[.int .i64 t] 2)) (w3.heap.size + 1 + 1) #[.int .i64 t] 2 := by exact blkAny2
  have hsz : (((w3.alloc (.cells #[.string r.name, .int .i64 r.eps, .int .i64 r.floor, .int .i64 r.last, .int .i64 r.scale, .slice p r.pts.length cap] 35)).alloc (.cells #[.int .i64 t] 2)).alloc (.cells #[.int .i64 t] 2)).heap.size = w3.heap.size + 1 + 1 + 1 := by simp
  simp only [World.size_alloc]
  obtain ⟨W0, hWe⟩ : ∃ W0, W0 = (((w3.alloc (.cells #[.string r.name, .int .i64 r.eps, .int .i64 r.floor, .int .i64 r.last, .int .i64 r.scale, .slice p r.pts.length cap] 35)).alloc (.cells #[.int .i64 t] 2)).alloc (.cells #[.int .i64 t] 2)) := ⟨_, rfl⟩
  rw [← hWe] at c9 d1 d2 d3 d4 s1 s2 s3 hsz ⊢
  have hn0 : w.heap.size + 1 + 1 + 1 < w3.heap.size := b4.lt
  clear hWe b1 b2 b3 b4 hW k1 f1 k2 f2 k3 f3 k4 f4
  obtain ⟨n0, hn⟩ : ∃ n0, n0 = w3.heap.size := ⟨_, rfl⟩
  rw [← hn] at s1 s2 s3 hsz hn0 ⊢
  go_wp2
  refine (wpIn_wide (n := 4)).1 ?_
  have hlt := tellG_length t t r.pts
  have hQ : ∀ x, x ∈ tellG t t r.pts → ptB x = true := fun x hx => hv x (tellG_mem hx)
  refine wpIn_rangeFunc_ownH rfl (by omega) (gf := 116) (lb := #[.pointer (some ⟨n0, 0, none⟩), .pointer (some ⟨n0 + 1, 0, none⟩), .pointer (some ⟨n0 + 1 + 1, 0, none⟩)]) rfl trivial (enters_of Tryz.func116 (by kernel_rfl) rfl)
    (encs := fun x : {x : Int × Int // ptB x = true} => #[Value.agg #[.int .i64 x.1.1, .int .i64 x.1.2]]) (Kp := KF w.heap.size n0) (S := fun ys => ys.map (·.1) = tellG t t r.pts) (Sp := fun pre => pre.map (·.1) <+: tellG t t r.pts) (N := (tellG t t r.pts).length) (w0 := W0)
    (fun lr J Jx W hWW hJ _ hY h0 => some1_in 3 (by omega) lr n0 (n0 + 1) (n0 + 1 + 1) r p cap t t (fun x => ptB x = true) hQ hl (KF w.heap.size n0) (fun hk => ⟨hk.below.size, fun ha => hp.keep hk.below ha, fun ha => hk.rest _ _ _ _ (by omega) ha, fun ha => hk.rest _ _ _ _ (by omega) ha, fun ha => hk.rest _ _ _ _ (by omega) ha⟩) J Jx _ hJ hY W (s1.below hWW) (s2.below hWW) (s3.below hWW) ((hp.below c9).below hWW) h0)
    (fun h k => h.trans k) (KF.putObj (by omega)) (Below.refl _ _) (fun _ => rfl)
    (fun pre W => (((Blk W w.heap.size #[.string r.name, .int .i64 r.eps, .int .i64 r.floor, .int .i64 r.last, .int .i64 r.scale, .slice p r.pts.length cap] 35 ∧ Blk W (w.heap.size + 1) #[.int .i64 lo, .int .i64 up] 38) ∧ Blk W (w.heap.size + 1 + 1) #[.int .i64 e] 36) ∧ Blk W (w.heap.size + 1 + 1 + 1) #[.bool false] 4) ∧ pre = [] ∧ Below w.heap.size w W)
    (fun c pre W => Blk W (w.heap.size + 1 + 1 + 1) #[.bool (atB r.eps lo up e (pre.map (·.1)))] 4 ∧ (c = .ret ∧ pre ≠ []) ∧ Below w.heap.size w W)
    (OwnFrom.and (OwnFrom.and (OwnFrom.and (OwnFrom.and (Own.from (blk_own _ _ _) _) (Own.from (blk_own _ _ _) _)) (Own.from (blk_own _ _ _) _)) (Own.from (blk_own _ _ _) _)) (OwnFrom.and (ownFrom_pure _ _) (ownFrom_below (Nat.le_refl _) (by omega))))
    (fun c => OwnFrom.and (Own.from (blk_own _ _ (fun pre : List {x : Int × Int // ptB x = true} => #[Value.bool (atB r.eps lo up e (pre.map (·.1)))])) _) (OwnFrom.and (ownFrom_pure _ _) (ownFrom_below (Nat.le_refl _) (by omega))))
    ⟨⟨⟨⟨d1, d2⟩, d3⟩, d4⟩, rfl, c9⟩
    (fun x a' W => ∃ Bx, w.heap.size + 1 + 1 + 1 < Bx ∧ Blk W Bx #[.int .i64 x.1.1, .int .i64 x.1.2] 58 ∧ ∃ u : Nat → Value, a' = { tmps := #[u 0, u 1, u 2, u 3, .pointer (some ⟨w.heap.size, 0, none⟩), u 5, .pointer (some ⟨(w.heap.size + 1), 0, none⟩), .pointer (some ⟨(w.heap.size + 1 + 1), 0, none⟩), .pointer (some ⟨(w.heap.size + 1 + 1 + 1), 0, none⟩), .pointer (some ⟨Bx, 0, none⟩), u 10, u 11, u 12, u 13, u 14, u 15, u 16, u 17, u 18, u 19, u 20, u 21, u 22, u 23, u 24, u 25, u 26, u 27, u 28, u 29, u 30, u 31, u 32, u 33, u 34, u 35, u 36], defers := [] })
    (fun x a' _ X Y row hs hg hr => by obtain ⟨Bx, h1, h2, h3⟩ := hs; exact ⟨Bx, h1, blk_own Bx 58 (fun (_ : Unit) => #[Value.int .i64 x.1.1, Value.int .i64 x.1.2]) () X Y row h2 hg (fun r e => (hr r e).2), h3⟩) ?assign ?body ?done ?stop
  case assign =>
    rintro l pre x W K ⟨⟨⟨⟨i1, i2⟩, i3⟩, i4⟩, i5, i6⟩ hK
    have hlt4 := i4.lt
    gi_wp2
    exact hK _ _ ((KeepsOthers.alloc _ _).from _) ((KF.refl _ _ _).alloc i6.size _) ⟨⟨⟨⟨i1.alloc _, i2.alloc _⟩, i3.alloc _⟩, i4.alloc _⟩, i5, i6.alloc i6.size _⟩ ⟨W.heap.size, hlt4, Blk.new' rfl, frame_ex rfl⟩
  case body =>
    rintro l pre ⟨⟨x1, v⟩, hx⟩ a' W hl' ⟨r', hr⟩ ⟨⟨⟨⟨i1, i2⟩, i3⟩, i4⟩, i5, i6⟩ ⟨Bx, hBx, bX, u, rfl⟩ hlt3
    subst i5
    have k1 := i1.cell
    have k2 := i2.cell
    have k3 := i3.cell
    have k4 := i4.cell
    have f4 := i4.frozen
    have kx := bX.cell
    have yx := bX.lt
    have hz6 := i6.size
    have y1 := i1.lt
    have y2 := i2.lt
    have y3 := i3.lt
    have y4 := i4.lt
    clear hp hv hQ c9 d1 d2 d3 d4 s1 s2 s3 hlt3
    by_cases he : e = 0
    · subst he
      have EW := Lib.hid (show IntKind.u64.wrap (2 * IntKind.u64.wrap r.eps) = 2 * r.eps by simp [IntKind.wrap, IntKind.bits, IntKind.signed]; omega)
      have cg := c_mdLies lo up v (IntKind.u64.wrap (2 * IntKind.u64.wrap r.eps)) W hlo hup
      rw [EW.out] at cg
      obtain ⟨B, hB⟩ : ∃ B, liesB lo up v (2 * r.eps) = B := ⟨_, rfl⟩
      rw [hB] at cg
      replace cg := Lib.hid cg
      replace hB := Lib.hid hB
      clear EW
      gi_wp2_with (refine ⟨trivial, ?_⟩; gi_at_call 45; refine (CallsIn.inRound l (callsIn_wide.2 cg.out)).mono ?_; rintro e w2 ⟨rfl, hB2⟩; have j4 := i4.below hB2; have y4' := j4.lt; have k4' := j4.cell; have f4' := j4.frozen; clear k1 k2 k3 k4 f4 kx)
      have hB6 := i6.trans (hB2.mono hz6)
      have hRX : Rex [w.heap.size + 1 + 1 + 1] W (w2.setCell ⟨w.heap.size + 1 + 1 + 1, 0, none⟩ (.bool B)) := (Rex.of_below hB2).setOwn j4 (by simp) 0 _
      exact ⟨(others_rex hRX i4).from _, ⟨by show Blk _ _ #[Value.bool (((0 : Int) == 0) && liesB lo up v (2 * r.eps))] _; rw [show (((0 : Int) == 0) && liesB lo up v (2 * r.eps)) = B by rw [hB.out]; rfl]; exact blkAny2, ⟨rfl, by simp⟩, by exact belowAny⟩⟩
    · have he' : (e == 0) = false := by simpa using he
      gi_wp2
      refine ⟨trivial, ?_⟩
      gi_wp2
      exact ⟨KeepsOthers.from (keepsAny) _, ⟨by show Blk _ _ #[Value.bool ((e == 0) && liesB lo up v (2 * r.eps))] _; rw [he']; exact blkAny2, ⟨rfl, by simp⟩, belowAny⟩⟩
  case done =>
    rintro D ys W hD hys ⟨⟨⟨⟨i1, i2⟩, i3⟩, i4⟩, i5, i6⟩ hK
    subst i5
    have hT := Lib.hid (show tellG t t r.pts = [] from hys.symm)
    have hz6 := i6.size
    clear hys hp hv hQ c9 d1 d2 d3 d4 s1 s2 s3 hlt
    have b1 := i1
    have b2 := i2
    have b3 := i3
    have b4 := i4
    have hW := i6
    clear i1 i2 i3 i4 i6
    simp only [Exit.inBlock, Exit.then]
    have hKX := Lib.hid (show DefK D W from hK)
    clear hK
    have k1 := b1.cell
    have f1 := b1.frozen
    have k2 := b2.cell
    have f2 := b2.frozen
    have k3 := b3.cell
    have f3 := b3.frozen
    have k4 := b4.cell
    have f4 := b4.frozen
    go_upto_region 6 with (fail)
    clear k1 f1 k2 f2 k3 f3 k4 f4
    refine wp_cutB w (Bc w.heap.size #[.string r.name, .int .i64 r.eps, .int .i64 r.floor, .int .i64 r.last, .int .i64 r.scale, .slice p r.pts.length cap] 35 <| Bc (w.heap.size + 1) #[.int .i64 lo, .int .i64 up] 38 <| Bc (w.heap.size + 1 + 1) #[.int .i64 e] 36 <| Bc (w.heap.size + 1 + 1 + 1) #[.bool false] 4 <| Rc (fun W' => DefK D W') <| Bz) ?_ (hI := by exact belowAny) (hR := (Bc.mk (by exact blkAny2) <| Bc.mk (by exact blkAny2) <| Bc.mk (by exact blkAny2) <| Bc.mk (by exact blkAny2) <| Rc.mk (by exact hKX.out) <| trivial))
    clear b1 b2 b3 b4 hW
    rintro W41 hW z42 hL
    obtain ⟨⟨b1, yb1, k1, f1⟩, ⟨b2, yb2, k2, f2⟩, ⟨b3, yb3, k3, f3⟩, ⟨b4, yb4, k4, f4⟩, b5, -⟩ := id hL
    clear k1 f1 k2 f2 k3 f3 k4 f4
    refine wp_regS 7 37 hW hL ?_
    iterate 3 refine dA ?_
    iterate 2 refine gA ?_
    apply nd_detg (p := true) (c := .bool ((lo == 0) && (up == 0))) (hg := rfl) (hd := rfl) (hal := rfl)
    · intro v W' h
      simp [envOf, Det] at h
      simp
      exact h
    · intro hp hx a' W' hC hE
      simp [Oper.looksAt, Op.operands, Call.operands, envOf, Det, GDet, hx] at hE
      simp [go_sem, Act.eval, hE]
      repeat' split
      all_goals simp_all
    refine pA ?_
    clear hW hL b1 b2 b3 b4 b5
    rintro W43 hW z44 hL
    simp only [ndR]
    intros
    repeat (rename GDet _ _ _ _ => hgd; clear hgd)
    simp only [ndS]
    obtain ⟨⟨b1, yb1, k1, f1⟩, ⟨b2, yb2, k2, f2⟩, ⟨b3, yb3, k3, f3⟩, ⟨b4, yb4, k4, f4⟩, b5, -⟩ := hL
    go_wp2
    have b9 : Blk (W43.setCell ⟨w.heap.size + 1 + 1 + 1, 0, none⟩ (.bool ((e == 9) && ((lo == 0) && (up == 0))))) (w.heap.size + 1 + 1 + 1) #[.bool ((e == 9) && ((lo == 0) && (up == 0)))] 4 := blkAny2
    have hK9 : (W43.setCell ⟨w.heap.size + 1 + 1 + 1, 0, none⟩ (.bool ((e == 9) && ((lo == 0) && (up == 0))))).heap[D]? = some (.deferred (some [])) := (keepsAny : KeepsOthers _ (W43.setCell ⟨w.heap.size + 1 + 1 + 1, 0, none⟩ (.bool ((e == 9) && ((lo == 0) && (up == 0)))))).same D _ b5 rfl
    simp only [bodyPostM]
    have hB9 : Below w.heap.size w (W43.setCell ⟨w.heap.size + 1 + 1 + 1, 0, none⟩ (.bool ((e == 9) && ((lo == 0) && (up == 0))))) := by exact belowAny
    refine ⟨by simp, .inl ⟨_, _, rfl, run_takeDeferred hK9, ?_⟩⟩
    have hc9 := cell_kept (by simpa using b9.cell 0) (grownBy_putObj' (W43.setCell ⟨w.heap.size + 1 + 1 + 1, 0, none⟩ (.bool ((e == 9) && ((lo == 0) && (up == 0))))) D (.deferred none)) (fun r e => by cases e; exact ⟨_, hK9, rfl⟩)
    refine ⟨.bool ((e == 9) && ((lo == 0) && (up == 0))), by simp [results, Tryz.f26, go_sem, hc9], ?_, hB9.trans (belowK_b (w := w) (Nat.le_refl _) (W43.setCell ⟨w.heap.size + 1 + 1 + 1, 0, none⟩ (.bool ((e == 9) && ((lo == 0) && (up == 0))))) D _ _ (by omega) hK9 rfl rfl)⟩
    rw [hT.out]
    rfl
  case stop =>
    rintro D c pre W hD hpre ⟨i4, ⟨rfl, i5⟩, i6⟩ hK
    have hz6 := i6.size
    have y4 := i4.lt
    have hT := Lib.hid (show atB r.eps lo up e (pre.map (·.1)) = atB r.eps lo up e (tellG t t r.pts) by
      obtain ⟨s, hs⟩ := hpre
      rw [← hs]
      cases pre with
      | nil => exact absurd rfl i5
      | cons x l => rfl)
    rw [hT.out] at i4
    clear i5 hpre
    gi_wp2
    have b9 := i4
    have hK9 := hK
    have hB9 : Below w.heap.size w W := by exact belowAny
    refine ⟨by simp, .inl ⟨_, _, rfl, run_takeDeferred hK9, ?_⟩⟩
    have hc9 := cell_kept (by simpa using b9.cell 0) (grownBy_putObj' W D (.deferred none)) (fun r e => by cases e; exact ⟨_, hK9, rfl⟩)
    refine ⟨.bool (atB r.eps lo up e (tellG t t r.pts)), by simp [results, Tryz.f26, go_sem, hc9], ?_, hB9.trans (belowK_b (w := w) (Nat.le_refl _) W D _ _ (by omega) hK9 rfl rfl)⟩
    rfl
set_option maxRecDepth 100000 in
set_option maxHeartbeats 4000000 in
theorem holdsAt_no (r : RawT) (p : Option Addr) (cap : Nat) (t lo up e : Int) (w : World)
    (c1 : ∀ W, Below w.heap.size w W → Calls Tryz.prog 32 #[.agg #[.string r.name, .int .i64 r.eps, .int .i64 r.floor, .int .i64 r.last, .int .i64 r.scale, .slice p r.pts.length cap]] W fun e w' => e = .returned (.int .i64 380) ∧ Below W.heap.size W w') :
    CallsIn Fence.wide 4 Tryz.prog 26 #[.agg #[.string r.name, .int .i64 r.eps, .int .i64 r.floor, .int .i64 r.last, .int .i64 r.scale, .slice p r.pts.length cap], .int .i64 t, .agg #[.int .i64 lo, .int .i64 up], .int .i64 e] w fun e' w' => e' = .returned (.bool false) ∧ Below w.heap.size w w' := by
  refine callsIn_of_wp_marks Tryz.func26 rfl trivial ?_ rfl
  simp only [Tryz.ntmps26, List.size_toArray, List.length_cons, List.length_nil, Nat.reduceAdd, Nat.reduceSub, Array.replicate_succ, Array.replicate_zero, List.push_toArray, List.append_toArray, List.nil_append, List.cons_append]
  refine wpIn_wide.2 ?_
  replace c1 := Lib.hid c1
  go_upto_region 1 with (fail)
  refine wp_cutB w (Bc w.heap.size #[.string r.name, .int .i64 r.eps, .int .i64 r.floor, .int .i64 r.last, .int .i64 r.scale, .slice p r.pts.length cap] 35 <| Bc (w.heap.size + 1) #[.int .i64 lo, .int .i64 up] 38 <| Bc (w.heap.size + 1 + 1) #[.int .i64 e] 36 <| Bc (w.heap.size + 1 + 1 + 1) #[.bool false] 4 <| Bz) ?_
  rintro W1 hW z2 ⟨⟨b1, yb1, k1, f1⟩, ⟨b2, yb2, k2, f2⟩, ⟨b3, yb3, k3, f3⟩, ⟨b4, yb4, k4, f4⟩, -⟩
  go_wp2_with fail
  refine (c1.out _ belowAny).mono ?_
  rintro e w3 ⟨rfl, hb3⟩
  have z4 := hb3.size
  try simp at z4
  clear k1 f1 k2 f2 k3 f3 k4 f4
  refine haveB w w3 (Bc w.heap.size #[.string r.name, .int .i64 r.eps, .int .i64 r.floor, .int .i64 r.last, .int .i64 r.scale, .slice p r.pts.length cap] 35 <| Bc (w.heap.size + 1) #[.int .i64 lo, .int .i64 up] 38 <| Bc (w.heap.size + 1 + 1) #[.int .i64 e] 36 <| Bc (w.heap.size + 1 + 1 + 1) #[.bool false] 4 <| Bz) ?_
  clear b1 b2 b3 b4 hW
  rintro hW z5 ⟨⟨b1, yb1, k1, f1⟩, ⟨b2, yb2, k2, f2⟩, ⟨b3, yb3, k3, f3⟩, ⟨b4, yb4, k4, f4⟩, -⟩
  clear hb3
  go_wp2
  simp only [bodyPostM]
  have b9 : Blk (w3.setCell ⟨w.heap.size + 1 + 1 + 1, 0, none⟩ (.bool false)) (w.heap.size + 1 + 1 + 1) #[.bool false] 4 := blkAny2
  have k9 := b9.cell
  refine ⟨.bool false, by simp [results, Tryz.f26, go_sem, k9], rfl, by exact belowAny⟩
theorem c_mdHoldsAt (r : RawT) (p : Option Addr) (cap : Nat) (t lo up e : Int) (w : World) (hp : PtsIn w p r.pts) (hl : r.pts.length ≤ 2000) (hlo : I64 lo) (hup : I64 up) :
    Calls Tryz.prog 26 #[.agg (rawA r p cap), .int .i64 t, .agg #[.int .i64 lo, .int .i64 up], .int .i64 e] w fun e' w' => e' = .returned (.bool (rawB r && atB r.eps lo up e (tellG t t r.pts))) ∧ Below w.heap.size w w' := by
  have c1 := fun W (hW : Below w.heap.size w W) => c_mdCheckRaw r p cap W (hp.below hW) hl
  unfold rawA at c1 ⊢
  cases hB : rawB r with
  | false =>
    rw [hB] at c1
    exact callsIn_wide.1 (holdsAt_no r p cap t lo up e w c1)
  | true =>
    rw [hB, if_pos rfl] at c1
    obtain ⟨⟨he0, he1⟩, hlen, hpt⟩ := rawB_parts hB
    exact callsIn_wide.1 (holdsAt_in r p cap t lo up e w hp hl hpt hlo hup he0 he1 c1)
end Go.Proofs.YtdeghcgakkhbmaaGreat
