/- Parts of the proof that follows: Layer model: whether an answer holds. No condition but the numbers' bounds. | Layer model: whether an answer holds of a raw series, for every question. No condition but the numbers' bounds. | The laws of chapter 25: AnswerParted's walks. No condition. | The laws of chapter 25: AnswerParted, at every series. No condition. | The last step of a law, for every law: an argument that came in is opened; behind the call each reads as it did. No condition. | For every series that comes in, whatever is in it, and all a, mid, b: AnswerParted returns true; the arguments read as before. No condition. -/
import Derived.Test.YtdeghcgakkhbmaaGreatRows
import Derived.ProofKit
import Derived.Deep.Slices
import Derived.OpenShut
import Derived.Test.YtdeghcgakkhbmaaGreatSr13
set_option linter.unusedSimpArgs false
set_option linter.unusedVariables false
namespace Go.Proofs.YtdeghcgakkhbmaaGreat
open Go.RowKit
set_option maxRecDepth 100000 in
set_option maxHeartbeats 2000000 in
theorem holds_no (nm : ByteArray) (eps fl la sc : Int) (p : Option Addr) (pn cap : Nat) (a b n ea eb s1 s2 er cn lo up mc lw lr hw hr E : Int) (B : Bool) (k : Int) (w : World) (h : E = 380 ∨ (E = 0 ∧ (k < 1 ∨ 5 < k)))
    (c1 : ∀ W, Below w.heap.size w W → Calls Tryz.prog 32 #[.agg #[.string nm, .int .i64 eps, .int .i64 fl, .int .i64 la, .int .i64 sc, .slice p pn cap]] W fun e w' => e = .returned (.int .i64 E) ∧ Below W.heap.size W w') :
    Calls Tryz.prog 15 #[.agg #[.string nm, .int .i64 eps, .int .i64 fl, .int .i64 la, .int .i64 sc, .slice p pn cap], .int .i64 k, .int .i64 a, .int .i64 b, .agg #[.int .i64 er, .int .i64 cn, .int .i64 lo, .int .i64 up, .int .i64 mc, .int .i64 lw, .int .i64 lr, .int .i64 hw, .int .i64 hr]] w fun e w' => e = .returned (.bool false) ∧ Below w.heap.size w w' := by
  rcases h with rfl | ⟨rfl, h | h⟩
  ·
    have H_c1 := Lib.hid c1
    clear c1
    go_enter Tryz.func15, Tryz.ntmps15
    go_upto_region 1 with (fail)
    refine wp_cutB w (Bc w.heap.size #[.string nm, .int .i64 eps, .int .i64 fl, .int .i64 la, .int .i64 sc, .slice p pn cap] 35 <| Bc (w.heap.size + 1) #[.int .i64 er, .int .i64 cn, .int .i64 lo, .int .i64 up, .int .i64 mc, .int .i64 lw, .int .i64 lr, .int .i64 hw, .int .i64 hr] 44 <| Bz) ?_
    rintro W1 hW z2 ⟨⟨b1, yb1, k1, f1⟩, ⟨b2, yb2, k2, f2⟩, -⟩
    go_wp2_with fail
    refine (H_c1.out _ belowAny).mono ?_
    rintro e w3 ⟨rfl, hb3⟩
    have z4 := hb3.size
    try simp at z4
    clear k1 f1 k2 f2
    refine haveB w w3 (Bc w.heap.size #[.string nm, .int .i64 eps, .int .i64 fl, .int .i64 la, .int .i64 sc, .slice p pn cap] 35 <| Bc (w.heap.size + 1) #[.int .i64 er, .int .i64 cn, .int .i64 lo, .int .i64 up, .int .i64 mc, .int .i64 lw, .int .i64 lr, .int .i64 hw, .int .i64 hr] 44 <| Bz) ?_
    clear b1 b2 hW
    rintro hW z5 ⟨⟨b1, yb1, k1, f1⟩, ⟨b2, yb2, k2, f2⟩, -⟩
    clear hb3
    go_wp2
    refine bodyPost_ret (by simp [results, Tryz.results15, go_sem, k1, f1, k2, f2, yb1, yb2]) rfl ⟨rfl, by exact belowAny⟩
  ·
    have H_c1 := Lib.hid c1
    clear c1
    go_enter Tryz.func15, Tryz.ntmps15
    go_upto_region 1 with (fail)
    refine wp_cutB w (Bc w.heap.size #[.string nm, .int .i64 eps, .int .i64 fl, .int .i64 la, .int .i64 sc, .slice p pn cap] 35 <| Bc (w.heap.size + 1) #[.int .i64 er, .int .i64 cn, .int .i64 lo, .int .i64 up, .int .i64 mc, .int .i64 lw, .int .i64 lr, .int .i64 hw, .int .i64 hr] 44 <| Bz) ?_
    rintro W1 hW z2 ⟨⟨b1, yb1, k1, f1⟩, ⟨b2, yb2, k2, f2⟩, -⟩
    go_wp2_with fail
    refine (H_c1.out _ belowAny).mono ?_
    rintro e w3 ⟨rfl, hb3⟩
    have z4 := hb3.size
    try simp at z4
    clear k1 f1 k2 f2
    refine haveB w w3 (Bc w.heap.size #[.string nm, .int .i64 eps, .int .i64 fl, .int .i64 la, .int .i64 sc, .slice p pn cap] 35 <| Bc (w.heap.size + 1) #[.int .i64 er, .int .i64 cn, .int .i64 lo, .int .i64 up, .int .i64 mc, .int .i64 lw, .int .i64 lr, .int .i64 hw, .int .i64 hr] 44 <| Bz) ?_
    clear b1 b2 hW
    rintro hW z5 ⟨⟨b1, yb1, k1, f1⟩, ⟨b2, yb2, k2, f2⟩, -⟩
    clear hb3
    go_wp2
    refine bodyPost_ret (by simp [results, Tryz.results15, go_sem, k1, f1, k2, f2, yb1, yb2]) rfl ⟨rfl, by exact belowAny⟩
  · have h1 : ¬ k < 1 := by omega
    have H_c1 := Lib.hid c1
    clear c1
    go_enter Tryz.func15, Tryz.ntmps15
    go_upto_region 1 with (fail)
    refine wp_cutB w (Bc w.heap.size #[.string nm, .int .i64 eps, .int .i64 fl, .int .i64 la, .int .i64 sc, .slice p pn cap] 35 <| Bc (w.heap.size + 1) #[.int .i64 er, .int .i64 cn, .int .i64 lo, .int .i64 up, .int .i64 mc, .int .i64 lw, .int .i64 lr, .int .i64 hw, .int .i64 hr] 44 <| Bz) ?_
    rintro W1 hW z2 ⟨⟨b1, yb1, k1, f1⟩, ⟨b2, yb2, k2, f2⟩, -⟩
    go_wp2_with fail
    refine (H_c1.out _ belowAny).mono ?_
    rintro e w3 ⟨rfl, hb3⟩
    have z4 := hb3.size
    try simp at z4
    clear k1 f1 k2 f2
    refine haveB w w3 (Bc w.heap.size #[.string nm, .int .i64 eps, .int .i64 fl, .int .i64 la, .int .i64 sc, .slice p pn cap] 35 <| Bc (w.heap.size + 1) #[.int .i64 er, .int .i64 cn, .int .i64 lo, .int .i64 up, .int .i64 mc, .int .i64 lw, .int .i64 lr, .int .i64 hw, .int .i64 hr] 44 <| Bz) ?_
    clear b1 b2 hW
    rintro hW z5 ⟨⟨b1, yb1, k1, f1⟩, ⟨b2, yb2, k2, f2⟩, -⟩
    clear hb3
    go_wp2
    refine bodyPost_ret (by simp [results, Tryz.results15, go_sem, k1, f1, k2, f2, yb1, yb2]) rfl ⟨rfl, by exact belowAny⟩
set_option maxRecDepth 100000 in
set_option maxHeartbeats 2000000 in
theorem holds_count (nm : ByteArray) (eps fl la sc : Int) (p : Option Addr) (pn cap : Nat) (a b n ea eb s1 s2 er cn lo up mc lw lr hw hr E : Int) (B : Bool) (w : World)
    (c1 : ∀ W, Below w.heap.size w W → Calls Tryz.prog 32 #[.agg #[.string nm, .int .i64 eps, .int .i64 fl, .int .i64 la, .int .i64 sc, .slice p pn cap]] W fun e w' => e = .returned (.int .i64 0) ∧ Below W.heap.size W w')
    (c2 : ∀ W, Below w.heap.size w W → Calls Tryz.prog 42 #[.agg #[.string nm, .int .i64 eps, .int .i64 fl, .int .i64 la, .int .i64 sc, .slice p pn cap], .int .i64 a, .int .i64 b] W fun e w' => e = .returned (.agg #[.int .i64 n, .int .i64 ea, .int .i64 eb, .int .i64 s1, .int .u64 s2]) ∧ Below W.heap.size W w') :
    Calls Tryz.prog 15 #[.agg #[.string nm, .int .i64 eps, .int .i64 fl, .int .i64 la, .int .i64 sc, .slice p pn cap], .int .i64 1, .int .i64 a, .int .i64 b, .agg #[.int .i64 er, .int .i64 cn, .int .i64 lo, .int .i64 up, .int .i64 mc, .int .i64 lw, .int .i64 lr, .int .i64 hw, .int .i64 hr]] w fun e w' => e = .returned (.bool ((er == 0) && ((cn == n) && ((lo == 0) && ((up == 0) && ((mc == 0) && ((lw == 0) && ((lr == 0) && ((hw == 0) && ((hr == 0))))))))))) ∧ Below w.heap.size w w' := by
  have H_c1 := Lib.hid c1
  clear c1
  have H_c2 := Lib.hid c2
  clear c2
  go_enter Tryz.func15, Tryz.ntmps15
  go_upto_region 1 with (fail)
  refine wp_cutB w (Bc w.heap.size #[.string nm, .int .i64 eps, .int .i64 fl, .int .i64 la, .int .i64 sc, .slice p pn cap] 35 <| Bc (w.heap.size + 1) #[.int .i64 er, .int .i64 cn, .int .i64 lo, .int .i64 up, .int .i64 mc, .int .i64 lw, .int .i64 lr, .int .i64 hw, .int .i64 hr] 44 <| Bz) ?_
  rintro W1 hW z2 ⟨⟨b1, yb1, k1, f1⟩, ⟨b2, yb2, k2, f2⟩, -⟩
  go_wp2_with fail
  refine (H_c1.out _ belowAny).mono ?_
  rintro e w3 ⟨rfl, hb3⟩
  have z4 := hb3.size
  try simp at z4
  clear k1 f1 k2 f2
  refine haveB w w3 (Bc w.heap.size #[.string nm, .int .i64 eps, .int .i64 fl, .int .i64 la, .int .i64 sc, .slice p pn cap] 35 <| Bc (w.heap.size + 1) #[.int .i64 er, .int .i64 cn, .int .i64 lo, .int .i64 up, .int .i64 mc, .int .i64 lw, .int .i64 lr, .int .i64 hw, .int .i64 hr] 44 <| Bz) ?_
  clear b1 b2 hW
  rintro hW z5 ⟨⟨b1, yb1, k1, f1⟩, ⟨b2, yb2, k2, f2⟩, -⟩
  clear hb3
  go_wp2_with fail
  refine (H_c2.out _ belowAny).mono ?_
  rintro e w6 ⟨rfl, hb6⟩
  have z7 := hb6.size
  try simp at z7
  clear k1 f1 k2 f2
  refine haveB w w6 (Bc w.heap.size #[.string nm, .int .i64 eps, .int .i64 fl, .int .i64 la, .int .i64 sc, .slice p pn cap] 35 <| Bc (w.heap.size + 1) #[.int .i64 er, .int .i64 cn, .int .i64 lo, .int .i64 up, .int .i64 mc, .int .i64 lw, .int .i64 lr, .int .i64 hw, .int .i64 hr] 44 <| Bz) ?_
  clear b1 b2 hW
  rintro hW z8 ⟨⟨b1, yb1, k1, f1⟩, ⟨b2, yb2, k2, f2⟩, -⟩
  clear hb6
  go_upto_region 8 with (fail)
  clear k1 f1 k2 f2
  refine wp_cutB w (Bc w.heap.size #[.string nm, .int .i64 eps, .int .i64 fl, .int .i64 la, .int .i64 sc, .slice p pn cap] 35 <| Bc (w.heap.size + 1) #[.int .i64 er, .int .i64 cn, .int .i64 lo, .int .i64 up, .int .i64 mc, .int .i64 lw, .int .i64 lr, .int .i64 hw, .int .i64 hr] 44 <| Bc w6.heap.size #[.int .i64 n, .int .i64 ea, .int .i64 eb, .int .i64 s1, .int .u64 s2] 91 <| Bc (w6.heap.size + 1) #[.int .i64 er, .int .i64 cn, .int .i64 lo, .int .i64 up, .int .i64 mc, .int .i64 lw, .int .i64 lr, .int .i64 hw, .int .i64 hr] 44 <| Bz) ?_
  clear b1 b2 hW
  rintro W9 hW z10 hL
  obtain ⟨⟨b1, yb1, k1, f1⟩, ⟨b2, yb2, k2, f2⟩, ⟨b3, yb3, k3, f3⟩, ⟨b4, yb4, k4, f4⟩, -⟩ := id hL
  clear k1 f1 k2 f2 k3 f3 k4 f4
  refine wp_regS 6 92 hW hL ?_
  iterate 4 refine dA ?_
  apply nd_det (.bool ((er == 0) && ((cn == n) && ((lo == 0) && ((up == 0) && ((mc == 0) && ((lw == 0) && ((lr == 0) && ((hw == 0) && ((hr == 0))))))))))) (hg := rfl) (hal := rfl)
  · intro a' W' hC hE
    simp [Oper.looksAt, Op.operands, Call.operands, envOf, Det] at hE
    simp [go_sem, Act.eval, hE]
    repeat' split
    all_goals simp_all
  refine dA ?_
  clear hW hL b1 b2 b3 b4
  rintro W11 hW z12 hL
  simp only [ndR]
  intros
  simp only [ndS]
  refine wpList_nil ?_
  obtain ⟨⟨b1, yb1, k1, f1⟩, ⟨b2, yb2, k2, f2⟩, ⟨b3, yb3, k3, f3⟩, ⟨b4, yb4, k4, f4⟩, -⟩ := hL
  go_wp2
  refine bodyPost_ret (by simp [results, Tryz.results15, go_sem, k1, f1, k2, f2, k3, f3, k4, f4, yb1, yb2, yb3, yb4]) rfl ⟨rfl, by exact belowAny⟩
set_option maxRecDepth 100000 in
set_option maxHeartbeats 2000000 in
theorem holds_empty2 (nm : ByteArray) (eps fl la sc : Int) (p : Option Addr) (pn cap : Nat) (a b n ea eb s1 s2 er cn lo up mc lw lr hw hr E : Int) (B : Bool) (w : World)
    (c1 : ∀ W, Below w.heap.size w W → Calls Tryz.prog 32 #[.agg #[.string nm, .int .i64 eps, .int .i64 fl, .int .i64 la, .int .i64 sc, .slice p pn cap]] W fun e w' => e = .returned (.int .i64 0) ∧ Below W.heap.size W w')
    (c2 : ∀ W, Below w.heap.size w W → Calls Tryz.prog 42 #[.agg #[.string nm, .int .i64 eps, .int .i64 fl, .int .i64 la, .int .i64 sc, .slice p pn cap], .int .i64 a, .int .i64 b] W fun e w' => e = .returned (.agg #[.int .i64 0, .int .i64 ea, .int .i64 eb, .int .i64 s1, .int .u64 s2]) ∧ Below W.heap.size W w') :
    Calls Tryz.prog 15 #[.agg #[.string nm, .int .i64 eps, .int .i64 fl, .int .i64 la, .int .i64 sc, .slice p pn cap], .int .i64 2, .int .i64 a, .int .i64 b, .agg #[.int .i64 er, .int .i64 cn, .int .i64 lo, .int .i64 up, .int .i64 mc, .int .i64 lw, .int .i64 lr, .int .i64 hw, .int .i64 hr]] w fun e w' => e = .returned (.bool ((er == 9) && ((cn == 0) && ((lo == 0) && ((up == 0) && ((mc == 0) && ((lw == 0) && ((lr == 0) && ((hw == 0) && ((hr == 0))))))))))) ∧ Below w.heap.size w w' := by
  have H_c1 := Lib.hid c1
  clear c1
  have H_c2 := Lib.hid c2
  clear c2
  go_enter Tryz.func15, Tryz.ntmps15
  go_upto_region 1 with (fail)
  refine wp_cutB w (Bc w.heap.size #[.string nm, .int .i64 eps, .int .i64 fl, .int .i64 la, .int .i64 sc, .slice p pn cap] 35 <| Bc (w.heap.size + 1) #[.int .i64 er, .int .i64 cn, .int .i64 lo, .int .i64 up, .int .i64 mc, .int .i64 lw, .int .i64 lr, .int .i64 hw, .int .i64 hr] 44 <| Bz) ?_
  rintro W1 hW z2 ⟨⟨b1, yb1, k1, f1⟩, ⟨b2, yb2, k2, f2⟩, -⟩
  go_wp2_with fail
  refine (H_c1.out _ belowAny).mono ?_
  rintro e w3 ⟨rfl, hb3⟩
  have z4 := hb3.size
  try simp at z4
  clear k1 f1 k2 f2
  refine haveB w w3 (Bc w.heap.size #[.string nm, .int .i64 eps, .int .i64 fl, .int .i64 la, .int .i64 sc, .slice p pn cap] 35 <| Bc (w.heap.size + 1) #[.int .i64 er, .int .i64 cn, .int .i64 lo, .int .i64 up, .int .i64 mc, .int .i64 lw, .int .i64 lr, .int .i64 hw, .int .i64 hr] 44 <| Bz) ?_
  clear b1 b2 hW
  rintro hW z5 ⟨⟨b1, yb1, k1, f1⟩, ⟨b2, yb2, k2, f2⟩, -⟩
  clear hb3
  go_wp2_with fail
  refine (H_c2.out _ belowAny).mono ?_
  rintro e w6 ⟨rfl, hb6⟩
  have z7 := hb6.size
  try simp at z7
  clear k1 f1 k2 f2
  refine haveB w w6 (Bc w.heap.size #[.string nm, .int .i64 eps, .int .i64 fl, .int .i64 la, .int .i64 sc, .slice p pn cap] 35 <| Bc (w.heap.size + 1) #[.int .i64 er, .int .i64 cn, .int .i64 lo, .int .i64 up, .int .i64 mc, .int .i64 lw, .int .i64 lr, .int .i64 hw, .int .i64 hr] 44 <| Bz) ?_
  clear b1 b2 hW
  rintro hW z8 ⟨⟨b1, yb1, k1, f1⟩, ⟨b2, yb2, k2, f2⟩, -⟩
  clear hb6
  go_upto_region 12 with (fail)
  clear k1 f1 k2 f2
  refine wp_cutB w (Bc w.heap.size #[.string nm, .int .i64 eps, .int .i64 fl, .int .i64 la, .int .i64 sc, .slice p pn cap] 35 <| Bc (w.heap.size + 1) #[.int .i64 er, .int .i64 cn, .int .i64 lo, .int .i64 up, .int .i64 mc, .int .i64 lw, .int .i64 lr, .int .i64 hw, .int .i64 hr] 44 <| Bc w6.heap.size #[.int .i64 0, .int .i64 ea, .int .i64 eb, .int .i64 s1, .int .u64 s2] 91 <| Bc (w6.heap.size + 1) #[.int .i64 er, .int .i64 cn, .int .i64 0, .int .i64 0, .int .i64 mc, .int .i64 lw, .int .i64 lr, .int .i64 hw, .int .i64 hr] 44 <| Bz) ?_
  clear b1 b2 hW
  rintro W9 hW z10 hL
  obtain ⟨⟨b1, yb1, k1, f1⟩, ⟨b2, yb2, k2, f2⟩, ⟨b3, yb3, k3, f3⟩, ⟨b4, yb4, k4, f4⟩, -⟩ := id hL
  clear k1 f1 k2 f2 k3 f3 k4 f4
  refine wp_regS 4 92 hW hL ?_
  iterate 2 refine dA ?_
  apply nd_det (.bool ((er == 9) && ((cn == 0) && ((lo == 0) && ((up == 0) && ((mc == 0) && ((lw == 0) && ((lr == 0) && ((hw == 0) && ((hr == 0))))))))))) (hg := rfl) (hal := rfl)
  · intro a' W' hC hE
    simp [Oper.looksAt, Op.operands, Call.operands, envOf, Det] at hE
    simp [go_sem, Act.eval, hE]
    repeat' split
    all_goals simp_all
  refine dA ?_
  clear hW hL b1 b2 b3 b4
  rintro W11 hW z12 hL
  simp only [ndR]
  intros
  simp only [ndS]
  refine wpList_nil ?_
  obtain ⟨⟨b1, yb1, k1, f1⟩, ⟨b2, yb2, k2, f2⟩, ⟨b3, yb3, k3, f3⟩, ⟨b4, yb4, k4, f4⟩, -⟩ := hL
  go_wp2
  refine bodyPost_ret (by simp [results, Tryz.results15, go_sem, k1, f1, k2, f2, k3, f3, k4, f4, yb1, yb2, yb3, yb4]) rfl ⟨rfl, by exact belowAny⟩
set_option maxRecDepth 100000 in
set_option maxHeartbeats 2000000 in
theorem holds_empty3 (nm : ByteArray) (eps fl la sc : Int) (p : Option Addr) (pn cap : Nat) (a b n ea eb s1 s2 er cn lo up mc lw lr hw hr E : Int) (B : Bool) (w : World)
    (c1 : ∀ W, Below w.heap.size w W → Calls Tryz.prog 32 #[.agg #[.string nm, .int .i64 eps, .int .i64 fl, .int .i64 la, .int .i64 sc, .slice p pn cap]] W fun e w' => e = .returned (.int .i64 0) ∧ Below W.heap.size W w')
    (c2 : ∀ W, Below w.heap.size w W → Calls Tryz.prog 42 #[.agg #[.string nm, .int .i64 eps, .int .i64 fl, .int .i64 la, .int .i64 sc, .slice p pn cap], .int .i64 a, .int .i64 b] W fun e w' => e = .returned (.agg #[.int .i64 0, .int .i64 ea, .int .i64 eb, .int .i64 s1, .int .u64 s2]) ∧ Below W.heap.size W w') :
    Calls Tryz.prog 15 #[.agg #[.string nm, .int .i64 eps, .int .i64 fl, .int .i64 la, .int .i64 sc, .slice p pn cap], .int .i64 3, .int .i64 a, .int .i64 b, .agg #[.int .i64 er, .int .i64 cn, .int .i64 lo, .int .i64 up, .int .i64 mc, .int .i64 lw, .int .i64 lr, .int .i64 hw, .int .i64 hr]] w fun e w' => e = .returned (.bool ((er == 9) && ((cn == 0) && ((lo == 0) && ((up == 0) && ((mc == 0) && ((lw == 0) && ((lr == 0) && ((hw == 0) && ((hr == 0))))))))))) ∧ Below w.heap.size w w' := by
  have H_c1 := Lib.hid c1
  clear c1
  have H_c2 := Lib.hid c2
  clear c2
  go_enter Tryz.func15, Tryz.ntmps15
  go_upto_region 1 with (fail)
  refine wp_cutB w (Bc w.heap.size #[.string nm, .int .i64 eps, .int .i64 fl, .int .i64 la, .int .i64 sc, .slice p pn cap] 35 <| Bc (w.heap.size + 1) #[.int .i64 er, .int .i64 cn, .int .i64 lo, .int .i64 up, .int .i64 mc, .int .i64 lw, .int .i64 lr, .int .i64 hw, .int .i64 hr] 44 <| Bz) ?_
  rintro W1 hW z2 ⟨⟨b1, yb1, k1, f1⟩, ⟨b2, yb2, k2, f2⟩, -⟩
  go_wp2_with fail
  refine (H_c1.out _ belowAny).mono ?_
  rintro e w3 ⟨rfl, hb3⟩
  have z4 := hb3.size
  try simp at z4
  clear k1 f1 k2 f2
  refine haveB w w3 (Bc w.heap.size #[.string nm, .int .i64 eps, .int .i64 fl, .int .i64 la, .int .i64 sc, .slice p pn cap] 35 <| Bc (w.heap.size + 1) #[.int .i64 er, .int .i64 cn, .int .i64 lo, .int .i64 up, .int .i64 mc, .int .i64 lw, .int .i64 lr, .int .i64 hw, .int .i64 hr] 44 <| Bz) ?_
  clear b1 b2 hW
  rintro hW z5 ⟨⟨b1, yb1, k1, f1⟩, ⟨b2, yb2, k2, f2⟩, -⟩
  clear hb3
  go_wp2_with fail
  refine (H_c2.out _ belowAny).mono ?_
  rintro e w6 ⟨rfl, hb6⟩
  have z7 := hb6.size
  try simp at z7
  clear k1 f1 k2 f2
  refine haveB w w6 (Bc w.heap.size #[.string nm, .int .i64 eps, .int .i64 fl, .int .i64 la, .int .i64 sc, .slice p pn cap] 35 <| Bc (w.heap.size + 1) #[.int .i64 er, .int .i64 cn, .int .i64 lo, .int .i64 up, .int .i64 mc, .int .i64 lw, .int .i64 lr, .int .i64 hw, .int .i64 hr] 44 <| Bz) ?_
  clear b1 b2 hW
  rintro hW z8 ⟨⟨b1, yb1, k1, f1⟩, ⟨b2, yb2, k2, f2⟩, -⟩
  clear hb6
  go_upto_region 12 with (fail)
  clear k1 f1 k2 f2
  refine wp_cutB w (Bc w.heap.size #[.string nm, .int .i64 eps, .int .i64 fl, .int .i64 la, .int .i64 sc, .slice p pn cap] 35 <| Bc (w.heap.size + 1) #[.int .i64 er, .int .i64 cn, .int .i64 lo, .int .i64 up, .int .i64 mc, .int .i64 lw, .int .i64 lr, .int .i64 hw, .int .i64 hr] 44 <| Bc w6.heap.size #[.int .i64 0, .int .i64 ea, .int .i64 eb, .int .i64 s1, .int .u64 s2] 91 <| Bc (w6.heap.size + 1) #[.int .i64 er, .int .i64 cn, .int .i64 0, .int .i64 0, .int .i64 mc, .int .i64 lw, .int .i64 lr, .int .i64 hw, .int .i64 hr] 44 <| Bz) ?_
  clear b1 b2 hW
  rintro W9 hW z10 hL
  obtain ⟨⟨b1, yb1, k1, f1⟩, ⟨b2, yb2, k2, f2⟩, ⟨b3, yb3, k3, f3⟩, ⟨b4, yb4, k4, f4⟩, -⟩ := id hL
  clear k1 f1 k2 f2 k3 f3 k4 f4
  refine wp_regS 4 92 hW hL ?_
  iterate 2 refine dA ?_
  apply nd_det (.bool ((er == 9) && ((cn == 0) && ((lo == 0) && ((up == 0) && ((mc == 0) && ((lw == 0) && ((lr == 0) && ((hw == 0) && ((hr == 0))))))))))) (hg := rfl) (hal := rfl)
  · intro a' W' hC hE
    simp [Oper.looksAt, Op.operands, Call.operands, envOf, Det] at hE
    simp [go_sem, Act.eval, hE]
    repeat' split
    all_goals simp_all
  refine dA ?_
  clear hW hL b1 b2 b3 b4
  rintro W11 hW z12 hL
  simp only [ndR]
  intros
  simp only [ndS]
  refine wpList_nil ?_
  obtain ⟨⟨b1, yb1, k1, f1⟩, ⟨b2, yb2, k2, f2⟩, ⟨b3, yb3, k3, f3⟩, ⟨b4, yb4, k4, f4⟩, -⟩ := hL
  go_wp2
  refine bodyPost_ret (by simp [results, Tryz.results15, go_sem, k1, f1, k2, f2, k3, f3, k4, f4, yb1, yb2, yb3, yb4]) rfl ⟨rfl, by exact belowAny⟩
set_option maxRecDepth 100000 in
set_option maxHeartbeats 2000000 in
theorem holds_empty4 (nm : ByteArray) (eps fl la sc : Int) (p : Option Addr) (pn cap : Nat) (a b n ea eb s1 s2 er cn lo up mc lw lr hw hr E : Int) (B : Bool) (w : World)
    (c1 : ∀ W, Below w.heap.size w W → Calls Tryz.prog 32 #[.agg #[.string nm, .int .i64 eps, .int .i64 fl, .int .i64 la, .int .i64 sc, .slice p pn cap]] W fun e w' => e = .returned (.int .i64 0) ∧ Below W.heap.size W w')
    (c2 : ∀ W, Below w.heap.size w W → Calls Tryz.prog 42 #[.agg #[.string nm, .int .i64 eps, .int .i64 fl, .int .i64 la, .int .i64 sc, .slice p pn cap], .int .i64 a, .int .i64 b] W fun e w' => e = .returned (.agg #[.int .i64 0, .int .i64 ea, .int .i64 eb, .int .i64 s1, .int .u64 s2]) ∧ Below W.heap.size W w') :
    Calls Tryz.prog 15 #[.agg #[.string nm, .int .i64 eps, .int .i64 fl, .int .i64 la, .int .i64 sc, .slice p pn cap], .int .i64 4, .int .i64 a, .int .i64 b, .agg #[.int .i64 er, .int .i64 cn, .int .i64 lo, .int .i64 up, .int .i64 mc, .int .i64 lw, .int .i64 lr, .int .i64 hw, .int .i64 hr]] w fun e w' => e = .returned (.bool ((er == 9) && ((cn == 0) && ((lo == 0) && ((up == 0) && ((mc == 0) && ((lw == 0) && ((lr == 0) && ((hw == 0) && ((hr == 0))))))))))) ∧ Below w.heap.size w w' := by
  have H_c1 := Lib.hid c1
  clear c1
  have H_c2 := Lib.hid c2
  clear c2
  go_enter Tryz.func15, Tryz.ntmps15
  go_upto_region 1 with (fail)
  refine wp_cutB w (Bc w.heap.size #[.string nm, .int .i64 eps, .int .i64 fl, .int .i64 la, .int .i64 sc, .slice p pn cap] 35 <| Bc (w.heap.size + 1) #[.int .i64 er, .int .i64 cn, .int .i64 lo, .int .i64 up, .int .i64 mc, .int .i64 lw, .int .i64 lr, .int .i64 hw, .int .i64 hr] 44 <| Bz) ?_
  rintro W1 hW z2 ⟨⟨b1, yb1, k1, f1⟩, ⟨b2, yb2, k2, f2⟩, -⟩
  go_wp2_with fail
  refine (H_c1.out _ belowAny).mono ?_
  rintro e w3 ⟨rfl, hb3⟩
  have z4 := hb3.size
  try simp at z4
  clear k1 f1 k2 f2
  refine haveB w w3 (Bc w.heap.size #[.string nm, .int .i64 eps, .int .i64 fl, .int .i64 la, .int .i64 sc, .slice p pn cap] 35 <| Bc (w.heap.size + 1) #[.int .i64 er, .int .i64 cn, .int .i64 lo, .int .i64 up, .int .i64 mc, .int .i64 lw, .int .i64 lr, .int .i64 hw, .int .i64 hr] 44 <| Bz) ?_
  clear b1 b2 hW
  rintro hW z5 ⟨⟨b1, yb1, k1, f1⟩, ⟨b2, yb2, k2, f2⟩, -⟩
  clear hb3
  go_wp2_with fail
  refine (H_c2.out _ belowAny).mono ?_
  rintro e w6 ⟨rfl, hb6⟩
  have z7 := hb6.size
  try simp at z7
  clear k1 f1 k2 f2
  refine haveB w w6 (Bc w.heap.size #[.string nm, .int .i64 eps, .int .i64 fl, .int .i64 la, .int .i64 sc, .slice p pn cap] 35 <| Bc (w.heap.size + 1) #[.int .i64 er, .int .i64 cn, .int .i64 lo, .int .i64 up, .int .i64 mc, .int .i64 lw, .int .i64 lr, .int .i64 hw, .int .i64 hr] 44 <| Bz) ?_
  clear b1 b2 hW
  rintro hW z8 ⟨⟨b1, yb1, k1, f1⟩, ⟨b2, yb2, k2, f2⟩, -⟩
  clear hb6
  go_upto_region 12 with (fail)
  clear k1 f1 k2 f2
  refine wp_cutB w (Bc w.heap.size #[.string nm, .int .i64 eps, .int .i64 fl, .int .i64 la, .int .i64 sc, .slice p pn cap] 35 <| Bc (w.heap.size + 1) #[.int .i64 er, .int .i64 cn, .int .i64 lo, .int .i64 up, .int .i64 mc, .int .i64 lw, .int .i64 lr, .int .i64 hw, .int .i64 hr] 44 <| Bc w6.heap.size #[.int .i64 0, .int .i64 ea, .int .i64 eb, .int .i64 s1, .int .u64 s2] 91 <| Bc (w6.heap.size + 1) #[.int .i64 er, .int .i64 cn, .int .i64 0, .int .i64 0, .int .i64 mc, .int .i64 lw, .int .i64 lr, .int .i64 hw, .int .i64 hr] 44 <| Bz) ?_
  clear b1 b2 hW
  rintro W9 hW z10 hL
  obtain ⟨⟨b1, yb1, k1, f1⟩, ⟨b2, yb2, k2, f2⟩, ⟨b3, yb3, k3, f3⟩, ⟨b4, yb4, k4, f4⟩, -⟩ := id hL
  clear k1 f1 k2 f2 k3 f3 k4 f4
  refine wp_regS 4 92 hW hL ?_
  iterate 2 refine dA ?_
  apply nd_det (.bool ((er == 9) && ((cn == 0) && ((lo == 0) && ((up == 0) && ((mc == 0) && ((lw == 0) && ((lr == 0) && ((hw == 0) && ((hr == 0))))))))))) (hg := rfl) (hal := rfl)
  · intro a' W' hC hE
    simp [Oper.looksAt, Op.operands, Call.operands, envOf, Det] at hE
    simp [go_sem, Act.eval, hE]
    repeat' split
    all_goals simp_all
  refine dA ?_
  clear hW hL b1 b2 b3 b4
  rintro W11 hW z12 hL
  simp only [ndR]
  intros
  simp only [ndS]
  refine wpList_nil ?_
  obtain ⟨⟨b1, yb1, k1, f1⟩, ⟨b2, yb2, k2, f2⟩, ⟨b3, yb3, k3, f3⟩, ⟨b4, yb4, k4, f4⟩, -⟩ := hL
  go_wp2
  refine bodyPost_ret (by simp [results, Tryz.results15, go_sem, k1, f1, k2, f2, k3, f3, k4, f4, yb1, yb2, yb3, yb4]) rfl ⟨rfl, by exact belowAny⟩
set_option maxRecDepth 100000 in
set_option maxHeartbeats 2000000 in
theorem holds_empty5 (nm : ByteArray) (eps fl la sc : Int) (p : Option Addr) (pn cap : Nat) (a b n ea eb s1 s2 er cn lo up mc lw lr hw hr E : Int) (B : Bool) (w : World)
    (c1 : ∀ W, Below w.heap.size w W → Calls Tryz.prog 32 #[.agg #[.string nm, .int .i64 eps, .int .i64 fl, .int .i64 la, .int .i64 sc, .slice p pn cap]] W fun e w' => e = .returned (.int .i64 0) ∧ Below W.heap.size W w')
    (c2 : ∀ W, Below w.heap.size w W → Calls Tryz.prog 42 #[.agg #[.string nm, .int .i64 eps, .int .i64 fl, .int .i64 la, .int .i64 sc, .slice p pn cap], .int .i64 a, .int .i64 b] W fun e w' => e = .returned (.agg #[.int .i64 0, .int .i64 ea, .int .i64 eb, .int .i64 s1, .int .u64 s2]) ∧ Below W.heap.size W w') :
    Calls Tryz.prog 15 #[.agg #[.string nm, .int .i64 eps, .int .i64 fl, .int .i64 la, .int .i64 sc, .slice p pn cap], .int .i64 5, .int .i64 a, .int .i64 b, .agg #[.int .i64 er, .int .i64 cn, .int .i64 lo, .int .i64 up, .int .i64 mc, .int .i64 lw, .int .i64 lr, .int .i64 hw, .int .i64 hr]] w fun e w' => e = .returned (.bool ((er == 9) && ((cn == 0) && ((lo == 0) && ((up == 0) && ((mc == 0) && ((lw == 0) && ((lr == 0) && ((hw == 0) && ((hr == 0))))))))))) ∧ Below w.heap.size w w' := by
  have H_c1 := Lib.hid c1
  clear c1
  have H_c2 := Lib.hid c2
  clear c2
  go_enter Tryz.func15, Tryz.ntmps15
  go_upto_region 1 with (fail)
  refine wp_cutB w (Bc w.heap.size #[.string nm, .int .i64 eps, .int .i64 fl, .int .i64 la, .int .i64 sc, .slice p pn cap] 35 <| Bc (w.heap.size + 1) #[.int .i64 er, .int .i64 cn, .int .i64 lo, .int .i64 up, .int .i64 mc, .int .i64 lw, .int .i64 lr, .int .i64 hw, .int .i64 hr] 44 <| Bz) ?_
  rintro W1 hW z2 ⟨⟨b1, yb1, k1, f1⟩, ⟨b2, yb2, k2, f2⟩, -⟩
  go_wp2_with fail
  refine (H_c1.out _ belowAny).mono ?_
  rintro e w3 ⟨rfl, hb3⟩
  have z4 := hb3.size
  try simp at z4
  clear k1 f1 k2 f2
  refine haveB w w3 (Bc w.heap.size #[.string nm, .int .i64 eps, .int .i64 fl, .int .i64 la, .int .i64 sc, .slice p pn cap] 35 <| Bc (w.heap.size + 1) #[.int .i64 er, .int .i64 cn, .int .i64 lo, .int .i64 up, .int .i64 mc, .int .i64 lw, .int .i64 lr, .int .i64 hw, .int .i64 hr] 44 <| Bz) ?_
  clear b1 b2 hW
  rintro hW z5 ⟨⟨b1, yb1, k1, f1⟩, ⟨b2, yb2, k2, f2⟩, -⟩
  clear hb3
  go_wp2_with fail
  refine (H_c2.out _ belowAny).mono ?_
  rintro e w6 ⟨rfl, hb6⟩
  have z7 := hb6.size
  try simp at z7
  clear k1 f1 k2 f2
  refine haveB w w6 (Bc w.heap.size #[.string nm, .int .i64 eps, .int .i64 fl, .int .i64 la, .int .i64 sc, .slice p pn cap] 35 <| Bc (w.heap.size + 1) #[.int .i64 er, .int .i64 cn, .int .i64 lo, .int .i64 up, .int .i64 mc, .int .i64 lw, .int .i64 lr, .int .i64 hw, .int .i64 hr] 44 <| Bz) ?_
  clear b1 b2 hW
  rintro hW z8 ⟨⟨b1, yb1, k1, f1⟩, ⟨b2, yb2, k2, f2⟩, -⟩
  clear hb6
  go_upto_region 12 with (fail)
  clear k1 f1 k2 f2
  refine wp_cutB w (Bc w.heap.size #[.string nm, .int .i64 eps, .int .i64 fl, .int .i64 la, .int .i64 sc, .slice p pn cap] 35 <| Bc (w.heap.size + 1) #[.int .i64 er, .int .i64 cn, .int .i64 lo, .int .i64 up, .int .i64 mc, .int .i64 lw, .int .i64 lr, .int .i64 hw, .int .i64 hr] 44 <| Bc w6.heap.size #[.int .i64 0, .int .i64 ea, .int .i64 eb, .int .i64 s1, .int .u64 s2] 91 <| Bc (w6.heap.size + 1) #[.int .i64 er, .int .i64 cn, .int .i64 lo, .int .i64 up, .int .i64 0, .int .i64 0, .int .i64 0, .int .i64 0, .int .i64 0] 44 <| Bz) ?_
  clear b1 b2 hW
  rintro W9 hW z10 hL
  obtain ⟨⟨b1, yb1, k1, f1⟩, ⟨b2, yb2, k2, f2⟩, ⟨b3, yb3, k3, f3⟩, ⟨b4, yb4, k4, f4⟩, -⟩ := id hL
  clear k1 f1 k2 f2 k3 f3 k4 f4
  refine wp_regS 4 92 hW hL ?_
  iterate 2 refine dA ?_
  apply nd_det (.bool ((er == 9) && ((cn == 0) && ((lo == 0) && ((up == 0) && ((mc == 0) && ((lw == 0) && ((lr == 0) && ((hw == 0) && ((hr == 0))))))))))) (hg := rfl) (hal := rfl)
  · intro a' W' hC hE
    simp [Oper.looksAt, Op.operands, Call.operands, envOf, Det] at hE
    simp [go_sem, Act.eval, hE]
    repeat' split
    all_goals simp_all
  refine dA ?_
  clear hW hL b1 b2 b3 b4
  rintro W11 hW z12 hL
  simp only [ndR]
  intros
  simp only [ndS]
  refine wpList_nil ?_
  obtain ⟨⟨b1, yb1, k1, f1⟩, ⟨b2, yb2, k2, f2⟩, ⟨b3, yb3, k3, f3⟩, ⟨b4, yb4, k4, f4⟩, -⟩ := hL
  go_wp2
  refine bodyPost_ret (by simp [results, Tryz.results15, go_sem, k1, f1, k2, f2, k3, f3, k4, f4, yb1, yb2, yb3, yb4]) rfl ⟨rfl, by exact belowAny⟩
set_option maxRecDepth 100000 in
set_option maxHeartbeats 2000000 in
theorem holds_total (nm : ByteArray) (eps fl la sc : Int) (p : Option Addr) (pn cap : Nat) (a b n ea eb s1 s2 er cn lo up mc lw lr hw hr E : Int) (B : Bool) (w : World) (hn : (n == 0) = false)
    (c1 : ∀ W, Below w.heap.size w W → Calls Tryz.prog 32 #[.agg #[.string nm, .int .i64 eps, .int .i64 fl, .int .i64 la, .int .i64 sc, .slice p pn cap]] W fun e w' => e = .returned (.int .i64 0) ∧ Below W.heap.size W w')
    (c2 : ∀ W, Below w.heap.size w W → Calls Tryz.prog 42 #[.agg #[.string nm, .int .i64 eps, .int .i64 fl, .int .i64 la, .int .i64 sc, .slice p pn cap], .int .i64 a, .int .i64 b] W fun e w' => e = .returned (.agg #[.int .i64 n, .int .i64 ea, .int .i64 eb, .int .i64 s1, .int .u64 s2]) ∧ Below W.heap.size W w')
    (c3 : ∀ W, Below w.heap.size w W → Calls Tryz.prog 43 #[.agg #[.int .i64 n, .int .i64 ea, .int .i64 eb, .int .i64 s1, .int .u64 s2], .agg #[.int .i64 er, .int .i64 cn, .int .i64 lo, .int .i64 up, .int .i64 mc, .int .i64 lw, .int .i64 lr, .int .i64 hw, .int .i64 hr], .int .i64 eps] W fun e w' => e = .returned (.bool B) ∧ Below W.heap.size W w') :
    Calls Tryz.prog 15 #[.agg #[.string nm, .int .i64 eps, .int .i64 fl, .int .i64 la, .int .i64 sc, .slice p pn cap], .int .i64 4, .int .i64 a, .int .i64 b, .agg #[.int .i64 er, .int .i64 cn, .int .i64 lo, .int .i64 up, .int .i64 mc, .int .i64 lw, .int .i64 lr, .int .i64 hw, .int .i64 hr]] w fun e w' => e = .returned (.bool (((cn == 0) && ((mc == 0) && ((lw == 0) && ((lr == 0) && ((hw == 0) && ((hr == 0))))))) && B)) ∧ Below w.heap.size w w' := by
  obtain ⟨BB, hBB⟩ : ∃ BB, ((cn == 0) && ((mc == 0) && ((lw == 0) && ((lr == 0) && ((hw == 0) && ((hr == 0))))))) = BB := ⟨_, rfl⟩
  rw [hBB]
  replace hBB := Lib.hid hBB
  have H_c1 := Lib.hid c1
  clear c1
  have H_c2 := Lib.hid c2
  clear c2
  have H_c3 := Lib.hid c3
  clear c3
  go_enter Tryz.func15, Tryz.ntmps15
  go_upto_region 1 with (fail)
  refine wp_cutB w (Bc w.heap.size #[.string nm, .int .i64 eps, .int .i64 fl, .int .i64 la, .int .i64 sc, .slice p pn cap] 35 <| Bc (w.heap.size + 1) #[.int .i64 er, .int .i64 cn, .int .i64 lo, .int .i64 up, .int .i64 mc, .int .i64 lw, .int .i64 lr, .int .i64 hw, .int .i64 hr] 44 <| Bz) ?_
  rintro W1 hW z2 ⟨⟨b1, yb1, k1, f1⟩, ⟨b2, yb2, k2, f2⟩, -⟩
  go_wp2_with fail
  refine (H_c1.out _ belowAny).mono ?_
  rintro e w3 ⟨rfl, hb3⟩
  have z4 := hb3.size
  try simp at z4
  clear k1 f1 k2 f2
  refine haveB w w3 (Bc w.heap.size #[.string nm, .int .i64 eps, .int .i64 fl, .int .i64 la, .int .i64 sc, .slice p pn cap] 35 <| Bc (w.heap.size + 1) #[.int .i64 er, .int .i64 cn, .int .i64 lo, .int .i64 up, .int .i64 mc, .int .i64 lw, .int .i64 lr, .int .i64 hw, .int .i64 hr] 44 <| Bz) ?_
  clear b1 b2 hW
  rintro hW z5 ⟨⟨b1, yb1, k1, f1⟩, ⟨b2, yb2, k2, f2⟩, -⟩
  clear hb3
  go_wp2_with fail
  refine (H_c2.out _ belowAny).mono ?_
  rintro e w6 ⟨rfl, hb6⟩
  have z7 := hb6.size
  try simp at z7
  clear k1 f1 k2 f2
  refine haveB w w6 (Bc w.heap.size #[.string nm, .int .i64 eps, .int .i64 fl, .int .i64 la, .int .i64 sc, .slice p pn cap] 35 <| Bc (w.heap.size + 1) #[.int .i64 er, .int .i64 cn, .int .i64 lo, .int .i64 up, .int .i64 mc, .int .i64 lw, .int .i64 lr, .int .i64 hw, .int .i64 hr] 44 <| Bz) ?_
  clear b1 b2 hW
  rintro hW z8 ⟨⟨b1, yb1, k1, f1⟩, ⟨b2, yb2, k2, f2⟩, -⟩
  clear hb6
  go_upto_region 13 with (fail)
  clear k1 f1 k2 f2
  refine wp_cutB w (Bc w.heap.size #[.string nm, .int .i64 eps, .int .i64 fl, .int .i64 la, .int .i64 sc, .slice p pn cap] 35 <| Bc (w.heap.size + 1) #[.int .i64 er, .int .i64 cn, .int .i64 lo, .int .i64 up, .int .i64 mc, .int .i64 lw, .int .i64 lr, .int .i64 hw, .int .i64 hr] 44 <| Bc w6.heap.size #[.int .i64 n, .int .i64 ea, .int .i64 eb, .int .i64 s1, .int .u64 s2] 91 <| Bc (w6.heap.size + 1) #[.int .i64 er, .int .i64 cn, .int .i64 0, .int .i64 0, .int .i64 mc, .int .i64 lw, .int .i64 lr, .int .i64 hw, .int .i64 hr] 44 <| Bz) ?_
  clear b1 b2 hW
  rintro W9 hW z10 hL
  obtain ⟨⟨b1, yb1, k1, f1⟩, ⟨b2, yb2, k2, f2⟩, ⟨b3, yb3, k3, f3⟩, ⟨b4, yb4, k4, f4⟩, -⟩ := id hL
  clear k1 f1 k2 f2 k3 f3 k4 f4
  refine wp_regS 5 92 hW hL ?_
  iterate 4 refine dA ?_
  apply nd_det (.bool (!BB)) (hg := rfl) (hal := rfl)
  · intro a' W' hC hE
    simp [Oper.looksAt, Op.operands, Call.operands, envOf, Det] at hE
    simp [go_sem, Act.eval, hE]
    rw [← hBB.out]
    repeat' split
    all_goals simp_all
  clear hW hL b1 b2 b3 b4
  rintro W11 hW z12 hL
  simp only [ndR]
  intros
  simp only [ndS]
  refine wpList_nil ?_
  obtain ⟨⟨b1, yb1, k1, f1⟩, ⟨b2, yb2, k2, f2⟩, ⟨b3, yb3, k3, f3⟩, ⟨b4, yb4, k4, f4⟩, -⟩ := hL
  clear hBB
  cases BB with
  | false =>
    go_wp2
    refine bodyPost_ret (by simp [results, Tryz.results15, go_sem, k1, f1, k2, f2, k3, f3, k4, f4, yb1, yb2, yb3, yb4]) rfl ⟨rfl, by exact belowAny⟩
  | true =>
    go_wp2_with fail
    refine (H_c3.out _ belowAny).mono ?_
    rintro e w13 ⟨rfl, hb13⟩
    have z14 := hb13.size
    try simp at z14
    clear k1 f1 k2 f2 k3 f3 k4 f4
    refine haveB w w13 (Bc w.heap.size #[.string nm, .int .i64 eps, .int .i64 fl, .int .i64 la, .int .i64 sc, .slice p pn cap] 35 <| Bc (w.heap.size + 1) #[.int .i64 er, .int .i64 cn, .int .i64 lo, .int .i64 up, .int .i64 mc, .int .i64 lw, .int .i64 lr, .int .i64 hw, .int .i64 hr] 44 <| Bc w6.heap.size #[.int .i64 n, .int .i64 ea, .int .i64 eb, .int .i64 s1, .int .u64 s2] 91 <| Bc (w6.heap.size + 1) #[.int .i64 er, .int .i64 cn, .int .i64 0, .int .i64 0, .int .i64 mc, .int .i64 lw, .int .i64 lr, .int .i64 hw, .int .i64 hr] 44 <| Bz) ?_
    clear b1 b2 b3 b4 hW
    rintro hW z15 ⟨⟨b1, yb1, k1, f1⟩, ⟨b2, yb2, k2, f2⟩, ⟨b3, yb3, k3, f3⟩, ⟨b4, yb4, k4, f4⟩, -⟩
    clear hb13
    go_wp2
    refine bodyPost_ret (by simp [results, Tryz.results15, go_sem, k1, f1, k2, f2, k3, f3, k4, f4, yb1, yb2, yb3, yb4]) rfl ⟨rfl, by exact belowAny⟩
set_option maxRecDepth 100000 in
set_option maxHeartbeats 2000000 in
theorem holds_mean (nm : ByteArray) (eps fl la sc : Int) (p : Option Addr) (pn cap : Nat) (a b n ea eb s1 s2 er cn lo up mc lw lr hw hr E : Int) (B : Bool) (w : World) (hn : (n == 0) = false)
    (c1 : ∀ W, Below w.heap.size w W → Calls Tryz.prog 32 #[.agg #[.string nm, .int .i64 eps, .int .i64 fl, .int .i64 la, .int .i64 sc, .slice p pn cap]] W fun e w' => e = .returned (.int .i64 0) ∧ Below W.heap.size W w')
    (c2 : ∀ W, Below w.heap.size w W → Calls Tryz.prog 42 #[.agg #[.string nm, .int .i64 eps, .int .i64 fl, .int .i64 la, .int .i64 sc, .slice p pn cap], .int .i64 a, .int .i64 b] W fun e w' => e = .returned (.agg #[.int .i64 n, .int .i64 ea, .int .i64 eb, .int .i64 s1, .int .u64 s2]) ∧ Below W.heap.size W w')
    (c3 : ∀ W, Below w.heap.size w W → Calls Tryz.prog 44 #[.agg #[.int .i64 n, .int .i64 ea, .int .i64 eb, .int .i64 s1, .int .u64 s2], .agg #[.int .i64 mc, .int .i64 lw, .int .i64 lr, .int .i64 hw, .int .i64 hr], .int .i64 eps] W fun e w' => e = .returned (.bool B) ∧ Below W.heap.size W w') :
    Calls Tryz.prog 15 #[.agg #[.string nm, .int .i64 eps, .int .i64 fl, .int .i64 la, .int .i64 sc, .slice p pn cap], .int .i64 5, .int .i64 a, .int .i64 b, .agg #[.int .i64 er, .int .i64 cn, .int .i64 lo, .int .i64 up, .int .i64 mc, .int .i64 lw, .int .i64 lr, .int .i64 hw, .int .i64 hr]] w fun e w' => e = .returned (.bool (((cn == 0) && ((lo == 0) && ((up == 0)))) && ((er == 0) && B))) ∧ Below w.heap.size w w' := by
  obtain ⟨BB, hBB⟩ : ∃ BB, ((cn == 0) && ((lo == 0) && ((up == 0)))) = BB := ⟨_, rfl⟩
  rw [hBB]
  replace hBB := Lib.hid hBB
  have H_c1 := Lib.hid c1
  clear c1
  have H_c2 := Lib.hid c2
  clear c2
  have H_c3 := Lib.hid c3
  clear c3
  go_enter Tryz.func15, Tryz.ntmps15
  go_upto_region 1 with (fail)
  refine wp_cutB w (Bc w.heap.size #[.string nm, .int .i64 eps, .int .i64 fl, .int .i64 la, .int .i64 sc, .slice p pn cap] 35 <| Bc (w.heap.size + 1) #[.int .i64 er, .int .i64 cn, .int .i64 lo, .int .i64 up, .int .i64 mc, .int .i64 lw, .int .i64 lr, .int .i64 hw, .int .i64 hr] 44 <| Bz) ?_
  rintro W1 hW z2 ⟨⟨b1, yb1, k1, f1⟩, ⟨b2, yb2, k2, f2⟩, -⟩
  go_wp2_with fail
  refine (H_c1.out _ belowAny).mono ?_
  rintro e w3 ⟨rfl, hb3⟩
  have z4 := hb3.size
  try simp at z4
  clear k1 f1 k2 f2
  refine haveB w w3 (Bc w.heap.size #[.string nm, .int .i64 eps, .int .i64 fl, .int .i64 la, .int .i64 sc, .slice p pn cap] 35 <| Bc (w.heap.size + 1) #[.int .i64 er, .int .i64 cn, .int .i64 lo, .int .i64 up, .int .i64 mc, .int .i64 lw, .int .i64 lr, .int .i64 hw, .int .i64 hr] 44 <| Bz) ?_
  clear b1 b2 hW
  rintro hW z5 ⟨⟨b1, yb1, k1, f1⟩, ⟨b2, yb2, k2, f2⟩, -⟩
  clear hb3
  go_wp2_with fail
  refine (H_c2.out _ belowAny).mono ?_
  rintro e w6 ⟨rfl, hb6⟩
  have z7 := hb6.size
  try simp at z7
  clear k1 f1 k2 f2
  refine haveB w w6 (Bc w.heap.size #[.string nm, .int .i64 eps, .int .i64 fl, .int .i64 la, .int .i64 sc, .slice p pn cap] 35 <| Bc (w.heap.size + 1) #[.int .i64 er, .int .i64 cn, .int .i64 lo, .int .i64 up, .int .i64 mc, .int .i64 lw, .int .i64 lr, .int .i64 hw, .int .i64 hr] 44 <| Bz) ?_
  clear b1 b2 hW
  rintro hW z8 ⟨⟨b1, yb1, k1, f1⟩, ⟨b2, yb2, k2, f2⟩, -⟩
  clear hb6
  go_upto_region 13 with (fail)
  clear k1 f1 k2 f2
  refine wp_cutB w (Bc w.heap.size #[.string nm, .int .i64 eps, .int .i64 fl, .int .i64 la, .int .i64 sc, .slice p pn cap] 35 <| Bc (w.heap.size + 1) #[.int .i64 er, .int .i64 cn, .int .i64 lo, .int .i64 up, .int .i64 mc, .int .i64 lw, .int .i64 lr, .int .i64 hw, .int .i64 hr] 44 <| Bc w6.heap.size #[.int .i64 n, .int .i64 ea, .int .i64 eb, .int .i64 s1, .int .u64 s2] 91 <| Bc (w6.heap.size + 1) #[.int .i64 er, .int .i64 cn, .int .i64 lo, .int .i64 up, .int .i64 0, .int .i64 0, .int .i64 0, .int .i64 0, .int .i64 0] 44 <| Bz) ?_
  clear b1 b2 hW
  rintro W9 hW z10 hL
  obtain ⟨⟨b1, yb1, k1, f1⟩, ⟨b2, yb2, k2, f2⟩, ⟨b3, yb3, k3, f3⟩, ⟨b4, yb4, k4, f4⟩, -⟩ := id hL
  clear k1 f1 k2 f2 k3 f3 k4 f4
  refine wp_regS 5 92 hW hL ?_
  iterate 4 refine dA ?_
  apply nd_det (.bool (!BB)) (hg := rfl) (hal := rfl)
  · intro a' W' hC hE
    simp [Oper.looksAt, Op.operands, Call.operands, envOf, Det] at hE
    simp [go_sem, Act.eval, hE]
    rw [← hBB.out]
    repeat' split
    all_goals simp_all
  clear hW hL b1 b2 b3 b4
  rintro W11 hW z12 hL
  simp only [ndR]
  intros
  simp only [ndS]
  refine wpList_nil ?_
  obtain ⟨⟨b1, yb1, k1, f1⟩, ⟨b2, yb2, k2, f2⟩, ⟨b3, yb3, k3, f3⟩, ⟨b4, yb4, k4, f4⟩, -⟩ := hL
  clear hBB
  cases BB with
  | false =>
    go_wp2
    refine bodyPost_ret (by simp [results, Tryz.results15, go_sem, k1, f1, k2, f2, k3, f3, k4, f4, yb1, yb2, yb3, yb4]) rfl ⟨rfl, by exact belowAny⟩
  | true =>
    go_upto_region 19 with (fail)
    clear k1 f1 k2 f2 k3 f3 k4 f4
    refine wp_cutB w (Bc w.heap.size #[.string nm, .int .i64 eps, .int .i64 fl, .int .i64 la, .int .i64 sc, .slice p pn cap] 35 <| Bc (w.heap.size + 1) #[.int .i64 er, .int .i64 cn, .int .i64 lo, .int .i64 up, .int .i64 mc, .int .i64 lw, .int .i64 lr, .int .i64 hw, .int .i64 hr] 44 <| Bc w6.heap.size #[.int .i64 n, .int .i64 ea, .int .i64 eb, .int .i64 s1, .int .u64 s2] 91 <| Bc (w6.heap.size + 1) #[.int .i64 er, .int .i64 cn, .int .i64 lo, .int .i64 up, .int .i64 0, .int .i64 0, .int .i64 0, .int .i64 0, .int .i64 0] 44 <| Bz) ?_
    clear b1 b2 b3 b4 hW
    rintro W13 hW z14 hL
    refine wp_regS 12 92 hW hL ?_
    iterate 4 refine dA ?_
    iterate 5 refine gA ?_
    refine cG (fun hp hx W' hC => H_c3.out W' (hW.trans (hC.1.of_priv hW.size))) ?_
    refine pA ?_
    refine dA ?_
    clear hW hL
    rintro W15 hW z16 hL
    simp only [ndR]
    intros
    repeat (rename GDet _ _ _ _ => hgd; clear hgd)
    simp only [ndS]
    refine wpList_nil ?_
    obtain ⟨⟨b1, yb1, k1, f1⟩, ⟨b2, yb2, k2, f2⟩, ⟨b3, yb3, k3, f3⟩, ⟨b4, yb4, k4, f4⟩, -⟩ := hL
    go_wp2
    refine bodyPost_ret (by simp [results, Tryz.results15, go_sem, k1, f1, k2, f2, k3, f3, k4, f4, yb1, yb2, yb3, yb4]) rfl ⟨rfl, by exact belowAny⟩
set_option maxRecDepth 100000 in
set_option maxHeartbeats 2000000 in
theorem holds_least (nm : ByteArray) (eps fl la sc : Int) (p : Option Addr) (pn cap : Nat) (a b n ea eb s1 s2 er cn lo up mc lw lr hw hr E : Int) (B : Bool) (w : World) (hn : (n == 0) = false) (he0 : 0 ≤ eps) (he1 : eps ≤ 1099511627776)
    (c1 : ∀ W, Below w.heap.size w W → Calls Tryz.prog 32 #[.agg #[.string nm, .int .i64 eps, .int .i64 fl, .int .i64 la, .int .i64 sc, .slice p pn cap]] W fun e w' => e = .returned (.int .i64 0) ∧ Below W.heap.size W w')
    (c2 : ∀ W, Below w.heap.size w W → Calls Tryz.prog 42 #[.agg #[.string nm, .int .i64 eps, .int .i64 fl, .int .i64 la, .int .i64 sc, .slice p pn cap], .int .i64 a, .int .i64 b] W fun e w' => e = .returned (.agg #[.int .i64 n, .int .i64 ea, .int .i64 eb, .int .i64 s1, .int .u64 s2]) ∧ Below W.heap.size W w')
    (c3 : ∀ W, Below w.heap.size w W → Calls Tryz.prog 45 #[.agg #[.int .i64 lo, .int .i64 up], .int .i64 ea, .int .u64 (2 * eps)] W fun e w' => e = .returned (.bool B) ∧ Below W.heap.size W w') :
    Calls Tryz.prog 15 #[.agg #[.string nm, .int .i64 eps, .int .i64 fl, .int .i64 la, .int .i64 sc, .slice p pn cap], .int .i64 2, .int .i64 a, .int .i64 b, .agg #[.int .i64 er, .int .i64 cn, .int .i64 lo, .int .i64 up, .int .i64 mc, .int .i64 lw, .int .i64 lr, .int .i64 hw, .int .i64 hr]] w fun e w' => e = .returned (.bool (((cn == 0) && ((mc == 0) && ((lw == 0) && ((lr == 0) && ((hw == 0) && ((hr == 0))))))) && ((er == 0) && B))) ∧ Below w.heap.size w w' := by
  obtain ⟨BB, hBB⟩ : ∃ BB, ((cn == 0) && ((mc == 0) && ((lw == 0) && ((lr == 0) && ((hw == 0) && ((hr == 0))))))) = BB := ⟨_, rfl⟩
  rw [hBB]
  replace hBB := Lib.hid hBB
  have EQ4 := Lib.hid (show wrap64 0 = 0 by simp only [wrap64_eq]; omega)
  have EQ2 := Lib.hid (show IntKind.u64.wrap eps = eps by simp [IntKind.wrap, IntKind.bits, IntKind.signed]; omega)
  have EQ3 := Lib.hid (show IntKind.u64.wrap (2 * eps) = 2 * eps by simp [IntKind.wrap, IntKind.bits, IntKind.signed]; omega)
  have H_c1 := Lib.hid c1
  clear c1
  have H_c2 := Lib.hid c2
  clear c2
  have H_c3 := Lib.hid c3
  clear c3
  go_enter Tryz.func15, Tryz.ntmps15
  go_upto_region 1 with (fail)
  refine wp_cutB w (Bc w.heap.size #[.string nm, .int .i64 eps, .int .i64 fl, .int .i64 la, .int .i64 sc, .slice p pn cap] 35 <| Bc (w.heap.size + 1) #[.int .i64 er, .int .i64 cn, .int .i64 lo, .int .i64 up, .int .i64 mc, .int .i64 lw, .int .i64 lr, .int .i64 hw, .int .i64 hr] 44 <| Bz) ?_
  rintro W1 hW z2 ⟨⟨b1, yb1, k1, f1⟩, ⟨b2, yb2, k2, f2⟩, -⟩
  go_wp2_with fail
  refine (H_c1.out _ belowAny).mono ?_
  rintro e w3 ⟨rfl, hb3⟩
  have z4 := hb3.size
  try simp at z4
  clear k1 f1 k2 f2
  refine haveB w w3 (Bc w.heap.size #[.string nm, .int .i64 eps, .int .i64 fl, .int .i64 la, .int .i64 sc, .slice p pn cap] 35 <| Bc (w.heap.size + 1) #[.int .i64 er, .int .i64 cn, .int .i64 lo, .int .i64 up, .int .i64 mc, .int .i64 lw, .int .i64 lr, .int .i64 hw, .int .i64 hr] 44 <| Bz) ?_
  clear b1 b2 hW
  rintro hW z5 ⟨⟨b1, yb1, k1, f1⟩, ⟨b2, yb2, k2, f2⟩, -⟩
  clear hb3
  go_wp2_with fail
  refine (H_c2.out _ belowAny).mono ?_
  rintro e w6 ⟨rfl, hb6⟩
  have z7 := hb6.size
  try simp at z7
  clear k1 f1 k2 f2
  refine haveB w w6 (Bc w.heap.size #[.string nm, .int .i64 eps, .int .i64 fl, .int .i64 la, .int .i64 sc, .slice p pn cap] 35 <| Bc (w.heap.size + 1) #[.int .i64 er, .int .i64 cn, .int .i64 lo, .int .i64 up, .int .i64 mc, .int .i64 lw, .int .i64 lr, .int .i64 hw, .int .i64 hr] 44 <| Bz) ?_
  clear b1 b2 hW
  rintro hW z8 ⟨⟨b1, yb1, k1, f1⟩, ⟨b2, yb2, k2, f2⟩, -⟩
  clear hb6
  go_upto_region 13 with (fail)
  clear k1 f1 k2 f2
  refine wp_cutB w (Bc w.heap.size #[.string nm, .int .i64 eps, .int .i64 fl, .int .i64 la, .int .i64 sc, .slice p pn cap] 35 <| Bc (w.heap.size + 1) #[.int .i64 er, .int .i64 cn, .int .i64 lo, .int .i64 up, .int .i64 mc, .int .i64 lw, .int .i64 lr, .int .i64 hw, .int .i64 hr] 44 <| Bc w6.heap.size #[.int .i64 n, .int .i64 ea, .int .i64 eb, .int .i64 s1, .int .u64 s2] 91 <| Bc (w6.heap.size + 1) #[.int .i64 er, .int .i64 cn, .int .i64 0, .int .i64 0, .int .i64 mc, .int .i64 lw, .int .i64 lr, .int .i64 hw, .int .i64 hr] 44 <| Bz) ?_
  clear b1 b2 hW
  rintro W9 hW z10 hL
  obtain ⟨⟨b1, yb1, k1, f1⟩, ⟨b2, yb2, k2, f2⟩, ⟨b3, yb3, k3, f3⟩, ⟨b4, yb4, k4, f4⟩, -⟩ := id hL
  clear k1 f1 k2 f2 k3 f3 k4 f4
  refine wp_regS 5 92 hW hL ?_
  iterate 4 refine dA ?_
  apply nd_det (.bool (!BB)) (hg := rfl) (hal := rfl)
  · intro a' W' hC hE
    simp [Oper.looksAt, Op.operands, Call.operands, envOf, Det] at hE
    simp [go_sem, Act.eval, hE]
    rw [← hBB.out]
    repeat' split
    all_goals simp_all
  clear hW hL b1 b2 b3 b4
  rintro W11 hW z12 hL
  simp only [ndR]
  intros
  simp only [ndS]
  refine wpList_nil ?_
  obtain ⟨⟨b1, yb1, k1, f1⟩, ⟨b2, yb2, k2, f2⟩, ⟨b3, yb3, k3, f3⟩, ⟨b4, yb4, k4, f4⟩, -⟩ := hL
  clear hBB
  cases BB with
  | false =>
    go_wp2
    refine bodyPost_ret (by simp [results, Tryz.results15, go_sem, k1, f1, k2, f2, k3, f3, k4, f4, yb1, yb2, yb3, yb4]) rfl ⟨rfl, by exact belowAny⟩
  | true =>
    go_upto_region 20 with (fail)
    clear k1 f1 k2 f2 k3 f3 k4 f4
    refine wp_cutB w (Bc w.heap.size #[.string nm, .int .i64 eps, .int .i64 fl, .int .i64 la, .int .i64 sc, .slice p pn cap] 35 <| Bc (w.heap.size + 1) #[.int .i64 er, .int .i64 cn, .int .i64 lo, .int .i64 up, .int .i64 mc, .int .i64 lw, .int .i64 lr, .int .i64 hw, .int .i64 hr] 44 <| Bc w6.heap.size #[.int .i64 n, .int .i64 ea, .int .i64 eb, .int .i64 s1, .int .u64 s2] 91 <| Bc (w6.heap.size + 1) #[.int .i64 er, .int .i64 cn, .int .i64 0, .int .i64 0, .int .i64 mc, .int .i64 lw, .int .i64 lr, .int .i64 hw, .int .i64 hr] 44 <| Bz) ?_
    clear b1 b2 b3 b4 hW
    rintro W13 hW z14 hL
    refine wp_regD 18 92 hW hL ?_
    iterate 4 refine dE (fun W' hC => aI EQ2.out (aI EQ3.out EQ4.out)) ?_
    iterate 11 refine gE (fun W' hC => aI EQ2.out (aI EQ3.out EQ4.out)) ?_
    apply nd_callvg2 (p := true) (hg := rfl) (hd := rfl) (hal := rfl)
    · intro v W' h
      simp [envOf, Det] at h
      simp
      exact h
    · intro hp hx W' hC
      exact H_c3.out W' (hW.trans (hC.1.of_priv hW.size))
    · intro hp hx a W' hC hE
      obtain ⟨_, ⟨-, -, k1, -⟩, ⟨-, -, k2, -⟩, ⟨-, -, k3, -⟩, ⟨-, -, k4, -⟩, -⟩ := hC
      first
        | (simp [Oper.looksAt, Op.operands, Call.operands, envOf, Det, GDet, hx] at hE; simp [go_sem, Act.eval, IntWalk.i64_left, hE, k1, k2, k3, k4, EQ2.out, EQ3.out, EQ4.out]; try rfl)
        | (clear hE; simp [go_sem, Act.eval, IntWalk.i64_left, k1, k2, k3, k4, EQ2.out, EQ3.out, EQ4.out]; try rfl)
    refine pA ?_
    refine dE (fun W' hC => aI EQ2.out (aI EQ3.out EQ4.out)) ?_
    clear hW hL
    rintro W15 hW z16 hL
    simp only [ndR]
    intros
    repeat (rename GDet _ _ _ _ => hgd; clear hgd)
    simp only [ndS]
    refine wpList_nil ?_
    obtain ⟨⟨b1, yb1, k1, f1⟩, ⟨b2, yb2, k2, f2⟩, ⟨b3, yb3, k3, f3⟩, ⟨b4, yb4, k4, f4⟩, -⟩ := hL
    go_wp2
    refine bodyPost_ret (by simp [results, Tryz.results15, go_sem, k1, f1, k2, f2, k3, f3, k4, f4, yb1, yb2, yb3, yb4]) rfl ⟨rfl, by exact belowAny⟩
set_option maxRecDepth 100000 in
set_option maxHeartbeats 2000000 in
theorem holds_most (nm : ByteArray) (eps fl la sc : Int) (p : Option Addr) (pn cap : Nat) (a b n ea eb s1 s2 er cn lo up mc lw lr hw hr E : Int) (B : Bool) (w : World) (hn : (n == 0) = false) (he0 : 0 ≤ eps) (he1 : eps ≤ 1099511627776)
    (c1 : ∀ W, Below w.heap.size w W → Calls Tryz.prog 32 #[.agg #[.string nm, .int .i64 eps, .int .i64 fl, .int .i64 la, .int .i64 sc, .slice p pn cap]] W fun e w' => e = .returned (.int .i64 0) ∧ Below W.heap.size W w')
    (c2 : ∀ W, Below w.heap.size w W → Calls Tryz.prog 42 #[.agg #[.string nm, .int .i64 eps, .int .i64 fl, .int .i64 la, .int .i64 sc, .slice p pn cap], .int .i64 a, .int .i64 b] W fun e w' => e = .returned (.agg #[.int .i64 n, .int .i64 ea, .int .i64 eb, .int .i64 s1, .int .u64 s2]) ∧ Below W.heap.size W w')
    (c3 : ∀ W, Below w.heap.size w W → Calls Tryz.prog 45 #[.agg #[.int .i64 lo, .int .i64 up], .int .i64 eb, .int .u64 (2 * eps)] W fun e w' => e = .returned (.bool B) ∧ Below W.heap.size W w') :
    Calls Tryz.prog 15 #[.agg #[.string nm, .int .i64 eps, .int .i64 fl, .int .i64 la, .int .i64 sc, .slice p pn cap], .int .i64 3, .int .i64 a, .int .i64 b, .agg #[.int .i64 er, .int .i64 cn, .int .i64 lo, .int .i64 up, .int .i64 mc, .int .i64 lw, .int .i64 lr, .int .i64 hw, .int .i64 hr]] w fun e w' => e = .returned (.bool (((cn == 0) && ((mc == 0) && ((lw == 0) && ((lr == 0) && ((hw == 0) && ((hr == 0))))))) && ((er == 0) && B))) ∧ Below w.heap.size w w' := by
  obtain ⟨BB, hBB⟩ : ∃ BB, ((cn == 0) && ((mc == 0) && ((lw == 0) && ((lr == 0) && ((hw == 0) && ((hr == 0))))))) = BB := ⟨_, rfl⟩
  rw [hBB]
  replace hBB := Lib.hid hBB
  have EQ4 := Lib.hid (show wrap64 1 = 1 by simp only [wrap64_eq]; omega)
  have EQ2 := Lib.hid (show IntKind.u64.wrap eps = eps by simp [IntKind.wrap, IntKind.bits, IntKind.signed]; omega)
  have EQ3 := Lib.hid (show IntKind.u64.wrap (2 * eps) = 2 * eps by simp [IntKind.wrap, IntKind.bits, IntKind.signed]; omega)
  have H_c1 := Lib.hid c1
  clear c1
  have H_c2 := Lib.hid c2
  clear c2
  have H_c3 := Lib.hid c3
  clear c3
  go_enter Tryz.func15, Tryz.ntmps15
  go_upto_region 1 with (fail)
  refine wp_cutB w (Bc w.heap.size #[.string nm, .int .i64 eps, .int .i64 fl, .int .i64 la, .int .i64 sc, .slice p pn cap] 35 <| Bc (w.heap.size + 1) #[.int .i64 er, .int .i64 cn, .int .i64 lo, .int .i64 up, .int .i64 mc, .int .i64 lw, .int .i64 lr, .int .i64 hw, .int .i64 hr] 44 <| Bz) ?_
  rintro W1 hW z2 ⟨⟨b1, yb1, k1, f1⟩, ⟨b2, yb2, k2, f2⟩, -⟩
  go_wp2_with fail
  refine (H_c1.out _ belowAny).mono ?_
  rintro e w3 ⟨rfl, hb3⟩
  have z4 := hb3.size
  try simp at z4
  clear k1 f1 k2 f2
  refine haveB w w3 (Bc w.heap.size #[.string nm, .int .i64 eps, .int .i64 fl, .int .i64 la, .int .i64 sc, .slice p pn cap] 35 <| Bc (w.heap.size + 1) #[.int .i64 er, .int .i64 cn, .int .i64 lo, .int .i64 up, .int .i64 mc, .int .i64 lw, .int .i64 lr, .int .i64 hw, .int .i64 hr] 44 <| Bz) ?_
  clear b1 b2 hW
  rintro hW z5 ⟨⟨b1, yb1, k1, f1⟩, ⟨b2, yb2, k2, f2⟩, -⟩
  clear hb3
  go_wp2_with fail
  refine (H_c2.out _ belowAny).mono ?_
  rintro e w6 ⟨rfl, hb6⟩
  have z7 := hb6.size
  try simp at z7
  clear k1 f1 k2 f2
  refine haveB w w6 (Bc w.heap.size #[.string nm, .int .i64 eps, .int .i64 fl, .int .i64 la, .int .i64 sc, .slice p pn cap] 35 <| Bc (w.heap.size + 1) #[.int .i64 er, .int .i64 cn, .int .i64 lo, .int .i64 up, .int .i64 mc, .int .i64 lw, .int .i64 lr, .int .i64 hw, .int .i64 hr] 44 <| Bz) ?_
  clear b1 b2 hW
  rintro hW z8 ⟨⟨b1, yb1, k1, f1⟩, ⟨b2, yb2, k2, f2⟩, -⟩
  clear hb6
  go_upto_region 13 with (fail)
  clear k1 f1 k2 f2
  refine wp_cutB w (Bc w.heap.size #[.string nm, .int .i64 eps, .int .i64 fl, .int .i64 la, .int .i64 sc, .slice p pn cap] 35 <| Bc (w.heap.size + 1) #[.int .i64 er, .int .i64 cn, .int .i64 lo, .int .i64 up, .int .i64 mc, .int .i64 lw, .int .i64 lr, .int .i64 hw, .int .i64 hr] 44 <| Bc w6.heap.size #[.int .i64 n, .int .i64 ea, .int .i64 eb, .int .i64 s1, .int .u64 s2] 91 <| Bc (w6.heap.size + 1) #[.int .i64 er, .int .i64 cn, .int .i64 0, .int .i64 0, .int .i64 mc, .int .i64 lw, .int .i64 lr, .int .i64 hw, .int .i64 hr] 44 <| Bz) ?_
  clear b1 b2 hW
  rintro W9 hW z10 hL
  obtain ⟨⟨b1, yb1, k1, f1⟩, ⟨b2, yb2, k2, f2⟩, ⟨b3, yb3, k3, f3⟩, ⟨b4, yb4, k4, f4⟩, -⟩ := id hL
  clear k1 f1 k2 f2 k3 f3 k4 f4
  refine wp_regS 5 92 hW hL ?_
  iterate 4 refine dA ?_
  apply nd_det (.bool (!BB)) (hg := rfl) (hal := rfl)
  · intro a' W' hC hE
    simp [Oper.looksAt, Op.operands, Call.operands, envOf, Det] at hE
    simp [go_sem, Act.eval, hE]
    rw [← hBB.out]
    repeat' split
    all_goals simp_all
  clear hW hL b1 b2 b3 b4
  rintro W11 hW z12 hL
  simp only [ndR]
  intros
  simp only [ndS]
  refine wpList_nil ?_
  obtain ⟨⟨b1, yb1, k1, f1⟩, ⟨b2, yb2, k2, f2⟩, ⟨b3, yb3, k3, f3⟩, ⟨b4, yb4, k4, f4⟩, -⟩ := hL
  clear hBB
  cases BB with
  | false =>
    go_wp2
    refine bodyPost_ret (by simp [results, Tryz.results15, go_sem, k1, f1, k2, f2, k3, f3, k4, f4, yb1, yb2, yb3, yb4]) rfl ⟨rfl, by exact belowAny⟩
  | true =>
    go_upto_region 20 with (fail)
    clear k1 f1 k2 f2 k3 f3 k4 f4
    refine wp_cutB w (Bc w.heap.size #[.string nm, .int .i64 eps, .int .i64 fl, .int .i64 la, .int .i64 sc, .slice p pn cap] 35 <| Bc (w.heap.size + 1) #[.int .i64 er, .int .i64 cn, .int .i64 lo, .int .i64 up, .int .i64 mc, .int .i64 lw, .int .i64 lr, .int .i64 hw, .int .i64 hr] 44 <| Bc w6.heap.size #[.int .i64 n, .int .i64 ea, .int .i64 eb, .int .i64 s1, .int .u64 s2] 91 <| Bc (w6.heap.size + 1) #[.int .i64 er, .int .i64 cn, .int .i64 0, .int .i64 0, .int .i64 mc, .int .i64 lw, .int .i64 lr, .int .i64 hw, .int .i64 hr] 44 <| Bz) ?_
    clear b1 b2 b3 b4 hW
    rintro W13 hW z14 hL
    refine wp_regD 18 92 hW hL ?_
    iterate 4 refine dE (fun W' hC => aI EQ2.out (aI EQ3.out EQ4.out)) ?_
    iterate 11 refine gE (fun W' hC => aI EQ2.out (aI EQ3.out EQ4.out)) ?_
    apply nd_callvg2 (p := true) (hg := rfl) (hd := rfl) (hal := rfl)
    · intro v W' h
      simp [envOf, Det] at h
      simp
      exact h
    · intro hp hx W' hC
      exact H_c3.out W' (hW.trans (hC.1.of_priv hW.size))
    · intro hp hx a W' hC hE
      obtain ⟨_, ⟨-, -, k1, -⟩, ⟨-, -, k2, -⟩, ⟨-, -, k3, -⟩, ⟨-, -, k4, -⟩, -⟩ := hC
      first
        | (simp [Oper.looksAt, Op.operands, Call.operands, envOf, Det, GDet, hx] at hE; simp [go_sem, Act.eval, IntWalk.i64_left, hE, k1, k2, k3, k4, EQ2.out, EQ3.out, EQ4.out]; try rfl)
        | (clear hE; simp [go_sem, Act.eval, IntWalk.i64_left, k1, k2, k3, k4, EQ2.out, EQ3.out, EQ4.out]; try rfl)
    refine pA ?_
    refine dE (fun W' hC => aI EQ2.out (aI EQ3.out EQ4.out)) ?_
    clear hW hL
    rintro W15 hW z16 hL
    simp only [ndR]
    intros
    repeat (rename GDet _ _ _ _ => hgd; clear hgd)
    simp only [ndS]
    refine wpList_nil ?_
    obtain ⟨⟨b1, yb1, k1, f1⟩, ⟨b2, yb2, k2, f2⟩, ⟨b3, yb3, k3, f3⟩, ⟨b4, yb4, k4, f4⟩, -⟩ := hL
    go_wp2
    refine bodyPost_ret (by simp [results, Tryz.results15, go_sem, k1, f1, k2, f2, k3, f3, k4, f4, yb1, yb2, yb3, yb4]) rfl ⟨rfl, by exact belowAny⟩
end Go.Proofs.YtdeghcgakkhbmaaGreat
namespace Go.Proofs.YtdeghcgakkhbmaaGreat
open Go.RowKit
theorem c_mdTotal (n ea eb s : Int) (y : An9) (eps : Int) (w : World) (h0 : 0 ≤ n) (h1 : n ≤ 1000000) (hs : -170141183460469231731687303715884 ≤ s ∧ s ≤ 170141183460469231731687303715884) (hl : I64 y.lo) (hu : I64 y.up) (he0 : 0 ≤ eps) (he1 : eps ≤ 1099511627776) :
    Calls Tryz.prog 43 #[.agg (exA (n, (ea, eb), s)), .agg (anA y), .int .i64 eps] w fun e w' => e = .returned (.bool (totalB n s y eps)) ∧ Below w.heap.size w w' := by
  have hm0 : 0 ≤ 2 * eps * n := Int.mul_nonneg (by omega) h0
  have hm1 : 2 * eps * n ≤ 2 * eps * 1000000 := Int.mul_le_mul_of_nonneg_left h1 (by omega)
  have hW : W128 s := by unfold W128; omega
  have hW1 : W128 (2 * eps * n) := by unfold W128; omega
  have hW2 : W128 (s - 2 * eps * n) := by unfold W128; omega
  have hW3 : W128 (s + 2 * eps * n) := by unfold W128; omega
  have cM := fun W => c_Mul (2 * eps) n W (by unfold I64; omega) (by unfold I64; omega)
  unfold totalB
  by_cases h5 : y.er = 5
  · rw [if_pos h5]
    have c2 := fun W => c_Sub s (2 * eps * n) W hW hW1
    rw [inW_in hW2, wrapW_in hW2] at c2
    have c3 := fun W => c_Add s (2 * eps * n) W hW hW1
    rw [inW_in hW3, wrapW_in hW3] at c3
    have t := total_over n ea eb _ _ y.cn y.lo y.up y.mc y.lw y.lr y.hw y.hr eps _ _ _ _ _ _ _ _ _ _ _ _ w he0 he1 cM c2 c3 (fun W => c_Int _ W hW2) (fun W => c_Int _ W hW3)
    rw [Bool.and_assoc] at t
    unfold anA exA
    rw [h5]
    exact (Bool.and_assoc _ _ _) ▸ t
  · rw [if_neg h5]
    have t := total_plain n ea eb _ _ y.er y.cn y.lo y.up y.mc y.lw y.lr y.hw y.hr eps _ _ _ _ _ w he0 he1 (by simpa using h5) cM (fun W => c_Int _ W hW) (fun W => c_mdLies y.lo y.up _ _ W hl hu)
    unfold anA exA
    exact t
theorem c_mdHolds (r : RawT) (p : Option Addr) (cap : Nat) (k a b : Int) (y : An9) (w : World) (hp : PtsIn w p r.pts) (hl : r.pts.length ≤ 2000) (hy : y.ok) :
    Calls Tryz.prog 15 #[.agg (rawA r p cap), .int .i64 k, .int .i64 a, .int .i64 b, .agg (anA y)] w fun e w' => e = .returned (.bool (holdsB r k a b y)) ∧ Below w.heap.size w w' := by
  have c1 := fun W (hW : Below w.heap.size w W) => c_mdCheckRaw r p cap W (hp.below hW) hl
  obtain ⟨er, cn, lo, up, mc, lw, lr, hw, hr⟩ := y
  obtain ⟨y1, y2, y3, y4, y5, y6, y7, y8, y9⟩ := hy
  unfold holdsB
  unfold rawA at c1 ⊢
  unfold anA
  by_cases hB : rawB r = true
  · rw [if_pos hB] at c1
    obtain ⟨⟨he0, he1⟩, hlen, hpt⟩ := rawB_parts hB
    rw [hB]
    by_cases hk : 1 ≤ k ∧ k ≤ 5
    · have hk2 : (decide (1 ≤ k) && decide (k ≤ 5)) = true := by simp [hk.1, hk.2]
      rw [hk2]
      simp only [Bool.and_self, Bool.true_and]
      have c2 := fun W (hW : Below w.heap.size w W) => c_mdTold r p cap a b W (hp.below hW) hl hpt
      obtain ⟨hX0, hX1⟩ := told_few hB a b
      have hX2 := (tolds_is (l := tellG a b r.pts) (by have := tellG_length a b r.pts; omega) (fun x hx => hpt x (tellG_mem hx))).2
      obtain ⟨⟨n, ⟨ea, eb⟩, s⟩, hX⟩ : ∃ X, toldsL (tellG a b r.pts) = X := ⟨_, rfl⟩
      rw [hX] at c2 hX0 hX1 hX2 ⊢
      simp only at hX0 hX1 hX2
      unfold exA rawA at c2
      simp only at c2
      have hk' : k = 1 ∨ k = 2 ∨ k = 3 ∨ k = 4 ∨ k = 5 := by omega
      unfold holdsX
      rcases hk' with rfl | rfl | rfl | rfl | rfl
      · exact holds_count r.name r.eps r.floor r.last r.scale p r.pts.length cap a b n ea eb _ _ er cn lo up mc lw lr hw hr 0 true w c1 c2
      · rw [if_neg (by decide)]
        by_cases h0 : n = 0
        · subst h0
          rw [if_pos rfl]
          exact holds_empty2 r.name r.eps r.floor r.last r.scale p r.pts.length cap a b 0 ea eb _ _ er cn lo up mc lw lr hw hr 0 true w c1 c2
        · rw [if_neg h0]
          exact holds_least r.name r.eps r.floor r.last r.scale p r.pts.length cap a b n ea eb _ _ er cn lo up mc lw lr hw hr 0 _ w (by simpa using h0) he0 he1 c1 c2 (fun W _ => c_mdLies lo up ea _ W y3 y4)
      · rw [if_neg (by decide)]
        by_cases h0 : n = 0
        · subst h0
          rw [if_pos rfl]
          exact holds_empty3 r.name r.eps r.floor r.last r.scale p r.pts.length cap a b 0 ea eb _ _ er cn lo up mc lw lr hw hr 0 true w c1 c2
        · rw [if_neg h0]
          exact holds_most r.name r.eps r.floor r.last r.scale p r.pts.length cap a b n ea eb _ _ er cn lo up mc lw lr hw hr 0 _ w (by simpa using h0) he0 he1 c1 c2 (fun W _ => c_mdLies lo up eb _ W y3 y4)
      · rw [if_neg (by decide)]
        by_cases h0 : n = 0
        · subst h0
          rw [if_pos rfl]
          exact holds_empty4 r.name r.eps r.floor r.last r.scale p r.pts.length cap a b 0 ea eb _ _ er cn lo up mc lw lr hw hr 0 true w c1 c2
        · rw [if_neg h0]
          exact holds_total r.name r.eps r.floor r.last r.scale p r.pts.length cap a b n ea eb _ _ er cn lo up mc lw lr hw hr 0 _ w (by simpa using h0) c1 c2 (fun W _ => c_mdTotal n ea eb s ⟨er, cn, lo, up, mc, lw, lr, hw, hr⟩ r.eps W hX0 (by omega) (by omega) y3 y4 he0 he1)
      · rw [if_neg (by decide)]
        by_cases h0 : n = 0
        · subst h0
          rw [if_pos rfl]
          exact holds_empty5 r.name r.eps r.floor r.last r.scale p r.pts.length cap a b 0 ea eb _ _ er cn lo up mc lw lr hw hr 0 true w c1 c2
        · rw [if_neg h0]
          exact holds_mean r.name r.eps r.floor r.last r.scale p r.pts.length cap a b n ea eb _ _ er cn lo up mc lw lr hw hr 0 _ w (by simpa using h0) c1 c2 (fun W _ => c_mdMean n ea eb s mc lw lr hw hr r.eps W hX0 (by omega) (by unfold W128; omega) y6 y7 y8 y9 he0 he1)
    · have hk2 : (decide (1 ≤ k) && decide (k ≤ 5)) = false := by
        rw [Bool.and_eq_false_iff, decide_eq_false_iff_not, decide_eq_false_iff_not]; omega
      rw [hk2]
      exact holds_no r.name r.eps r.floor r.last r.scale p r.pts.length cap a b 0 0 0 0 0 er cn lo up mc lw lr hw hr 0 true k w (.inr ⟨rfl, by omega⟩) c1
  · rw [if_neg hB] at c1
    rw [Bool.not_eq_true] at hB
    rw [hB]
    exact holds_no r.name r.eps r.floor r.last r.scale p r.pts.length cap a b 0 0 0 0 0 er cn lo up mc lw lr hw hr 380 true k w (.inl rfl) c1
end Go.Proofs.YtdeghcgakkhbmaaGreat
namespace Go.Proofs.YtdeghcgakkhbmaaGreat
open Go.RowKit
end Go.Proofs.YtdeghcgakkhbmaaGreat
namespace Go.Proofs.YtdeghcgakkhbmaaGreat
open Go.RowKit
/-- What own leaves of a series. -/
def ownSer (nm : ByteArray) (ep fl la sc : Int) (rows : List SegR) (pts : List (Int × Int)) : SerT := ⟨nm, ep, fl, la, sc, (rows.take (min rows.length 60)).map fun r => ownG r.s, pts.take (min pts.length 60)⟩
/-- A series that came in. -/
structure SerCame (w : World) (ps po : Option Addr) (cs co : Nat) (rows : List SegR) (pts : List (Int × Int)) : Prop where
  segs : SegsCame w ps rows
  opn : PtsIn w po pts
  nilS : ps = none → rows.length = 0 ∧ cs = 0
  nilO : po = none → pts.length = 0 ∧ co = 0
  capS : rows.length ≤ cs
  capO : pts.length ≤ co
theorem SerCame.below {w w' : World} {ps po : Option Addr} {cs co : Nat} {rows : List SegR} {pts : List (Int × Int)} (h : SerCame w ps po cs co rows pts) (hb : Below w.heap.size w w') : SerCame w' ps po cs co rows pts := ⟨h.segs.below hb, h.opn.below hb, h.nilS, h.nilO, h.capS, h.capO⟩
end Go.Proofs.YtdeghcgakkhbmaaGreat
namespace Go.Proofs.YtdeghcgakkhbmaaGreat
open Go.ChangeShapes Go.WideShapes Go.ChangeAt Go.RowKit Go.Deep

section
variable {H : Type} {enc : TypeId × Value → H} {P : Program}
theorem trodAll_stays (hl : laidOutB P = true) {W W' : World} (hb : Below W.heap.size W W') {sp : Nat → Bool} : ∀ (ts : List TypeId) (vs : List Value) (ds : List (DataW H)) (ps : List MemPlace), (∀ t, t ∈ ts → P.readableRec t = true ∧ t < P.types.size) →
    DataW.TrodAll enc P W 0 (fun _ => true) true ts vs ds ps → (∀ p ∈ ps, p.block < W.heap.size) → (∀ p ∈ ps, sp p.block = true) → DataW.TrodAll enc P W' 0 sp true ts vs ds ps
  | [], vs, ds, ps, _, h, _, _ => by
    obtain ⟨rfl, rfl, rfl⟩ := trodAll_nil h
    rfl
  | t :: ts, vs, ds, ps, hr, h, hlt, hs => by
    obtain ⟨v, vs', d, ds', p, q, rfl, rfl, rfl, h1, h2⟩ := trodAll_cons h
    exact ⟨p, q, WideElems.Trod_stays hl (hr t (by simp)).1 (hr t (by simp)).2 h1 (fun x hx => hb.same (hlt x (by simp [hx]))) (fun x hx => hs x (by simp [hx])),
      trodAll_stays hl hb ts vs' ds' q (fun u hu => hr u (by simp [hu])) h2 (fun x hx => hlt x (by simp [hx])) (fun x hx => hs x (by simp [hx])), rfl⟩
theorem law_post {f : Func} {s : ChangeSpec} {apart fresh handsOn again : Bool} {W W' : World} {args : Array Value} {ds : List (DataW H)} {before : List MemPlace} {tb : TypeId} (hl : laidOutB P = true)
    (hpar : ∀ t, t ∈ f.params.toList → P.readableRec t = true ∧ t < P.types.size) (hres : f.resultTypes = #[tb]) (htb : P.underlying tb = some .bool) (hv : s.vars = [])
    (hW : DataW.Whole enc P f.params.toList s.vars apart W args.toList ds [] before) (hb : Below W.heap.size W W') (hfn : s.fn H ds = { results := [.lit (.bool true)], args := ds }) :
    s.post enc P f apart fresh handsOn again W args (.bool true) W' := by
  have hlt : ∀ p ∈ before, p.block < W.heap.size := fun p hp => hW.lt p hp
  have hold : ∀ p ∈ before, (fun b => decide (b < W.heap.size)) p.block = true := fun p hp => by simpa using hlt p hp
  have hW' := hW
  obtain ⟨p, q, hA, hV, rfl, hz, hn⟩ := hW
  rw [hv] at hV
  obtain ⟨_, rfl⟩ := trodVars_none hV
  have hR : ∀ (b : Nat) (sp : Nat → Bool) (hd : Bool), DataW.TrodAll enc P W' b sp hd f.resultTypes.toList ((Value.bool true).resultList f.resultTypes.size) (s.fn H (ds ++ [])).results [] := fun b sp hd => by
    rw [hres, List.append_nil, hfn]
    exact trodAll_mk1 (shut_bool htb _)
  have hargs : ∀ sp : Nat → Bool, (∀ x ∈ p ++ [], sp x.block = true) → DataW.TrodAll enc P W' 0 sp true f.params.toList args.toList (s.fn H (ds ++ [])).args p := fun sp hsp => by
    rw [List.append_nil, hfn]
    exact trodAll_stays hl hb _ _ _ _ hpar hA (fun x hx => hlt x (by simp [hx])) (fun x hx => hsp x (by simp [hx]))
  have hvars : ∀ sp : Nat → Bool, (∀ x ∈ p ++ [], sp x.block = true) → DataW.TrodVars enc P W' sp s.vars (s.fn H (ds ++ [])).vars [] := fun sp _ => by
    rw [hv, List.append_nil, hfn]
    rfl
  refine ⟨ds, [], p ++ [], [], p, [], hW', hR _ _ _, hargs _ hold, hvars _ hold, World.keptBut_mono (fun x hx => ⟨hx, ?_⟩) (hb.frame (· ∈ p ++ [])), fun _ => ?_⟩
  · exact Or.inr (by simpa using hx)
  · refine ⟨?_, _, _, ([] ++ p) ++ [], ⟨[] ++ p, [], trodAll_append (hargs _ (fun _ _ => rfl)) (hR _ _ _), hvars _ (fun _ _ => rfl), rfl, ?_, ?_⟩, ?_⟩
    · exact ok_one hres rfl (okWide_bool_mk htb _)
    · intro b off hx
      have hin : MemPlace.cell b off ∈ p ++ [] := by simpa using hx
      rw [hb.frozen (hlt _ hin)]
      exact hz b off hin
    · intro ha
      simpa using hn ha
    · intro x hx _
      simpa using hx
end

/-- The fields of a struct: type and place. -/
def fieldsOf (P : Program) (t : TypeId) : Array (TypeId × Nat) := match P.underlying t with | some (.struct fs) => fs.map fun f => (f.type, f.offset) | _ => #[]
section
variable {H : Type} {enc : TypeId × Value → H} {P : Program} {w : World} {base : Nat} {spare : Nat → Bool} {held : Bool}
theorem open_struct {t : TypeId} {fl : Array (TypeId × Nat)} {fuel : Nat} {cs : List Value} {x : DataW H × List MemPlace} (hf : fieldsOf P t = fl) (hne : fl.size ≠ 0) (h : DataW.trod enc P w base spare held fuel t cs = some x) :
    cs.length = P.cellsOf t ∧ ∀ (i : Nat) (ty : TypeId) (off : Nat), fl[i]? = some (ty, off) → ∃ n y, DataW.trod enc P w base spare held n ty ((cs.drop off).take (P.cellsOf ty)) = some y := by
  unfold fieldsOf at hf
  split at hf
  · rename_i fs hu
    obtain ⟨xs, n, _, _, hl, hxl, hat⟩ := DataW.trod_struct hu h
    refine ⟨hl, fun i ty off hi => ?_⟩
    subst hf
    simp only [Array.getElem?_map, Option.map_eq_some_iff, Prod.mk.injEq] at hi
    obtain ⟨f, h1, h2, h3⟩ := hi
    have hh := hat i f h1
    have hlt : i < xs.length := by have := (Array.getElem?_eq_some_iff.1 h1).1; omega
    rw [List.getElem?_eq_getElem hlt] at hh
    subst h2; subst h3
    exact ⟨n, _, hh⟩
  · subst hf; simp at hne
theorem struct_of {t : TypeId} {fl : Array (TypeId × Nat)} (hf : fieldsOf P t = fl) (hne : fl.size ≠ 0) : ∃ fs, P.underlying t = some (.struct fs) := by
  unfold fieldsOf at hf
  split at hf
  · rename_i fs hu
    exact ⟨fs, hu⟩
  · subst hf; simp at hne
/-- A struct whose fields are all numbers of 64 bits. -/
theorem open_ints_struct {t : TypeId} {fl : Array (TypeId × Nat)} {fuel : Nat} {cs : List Value} {x : DataW H × List MemPlace} (hf : fieldsOf P t = fl) (hne : fl.size ≠ 0) (hn : P.cellsOf t = fl.size)
    (ha : ∀ i, i < fl.size → ∃ ty, fl[i]? = some (ty, i) ∧ P.underlying ty = some (.int .i64) ∧ P.cellsOf ty = 1) (h : DataW.trod enc P w base spare held fuel t cs = some x) :
    cs.length = fl.size ∧ ∀ i, i < fl.size → ∃ z : Int, cs[i]? = some (.int .i64 z) ∧ I64 z := by
  obtain ⟨hl, hat⟩ := open_struct hf hne h
  refine ⟨by omega, fun i hi => ?_⟩
  obtain ⟨ty, h1, h2, h3⟩ := ha i hi
  obtain ⟨n, y, hy⟩ := hat i ty i h1
  obtain ⟨z, hz, _, hw⟩ := DataW.trod_int h2 hy
  refine ⟨z, ?_, ?_⟩
  · rw [h3] at hz
    have : ((cs.drop i).take 1)[0]? = some (.int .i64 z) := by rw [hz]; rfl
    simpa using this
  · simp [Lit.wf, IntKind.min, IntKind.max, IntKind.signed, IntKind.bits] at hw
    exact ⟨by omega, by omega⟩
theorem list_of {α : Type} {Q : Nat → α → Prop} : ∀ n, (∀ i, i < n → ∃ x, Q i x) → ∃ l : List α, l.length = n ∧ ∀ i x, l[i]? = some x → Q i x
  | 0, _ => ⟨[], rfl, fun i x h => by simp at h⟩
  | n + 1, h => by
    obtain ⟨l, hl, hq⟩ := list_of n fun i hi => h i (by omega)
    obtain ⟨x, hx⟩ := h n (by omega)
    refine ⟨l ++ [x], by simp [hl], fun i y hy => ?_⟩
    rcases Nat.lt_or_ge i l.length with hlt | hge
    · rw [List.getElem?_append_left hlt] at hy
      exact hq i y hy
    · rw [List.getElem?_append_right hge] at hy
      have : i = l.length := by
        rcases Nat.eq_or_lt_of_le hge with e | e
        · exact e.symm
        · rw [List.getElem?_eq_none (by simp; omega)] at hy; cases hy
      subst this
      simp at hy
      rw [hl, ← hy]
      exact hx
theorem spot_none {a : Addr} {v : Value} (h : w.cell? a = some v) : a = ⟨a.block, a.off, none⟩ := by
  obtain ⟨b, o, s⟩ := a
  cases s with
  | none => rfl
  | some k =>
    unfold World.cell? at h
    simp at h
    split at h <;> cases h
theorem add_at {b o n : Nat} : (⟨b, o, none⟩ : Addr).add n = ⟨b, o + n, none⟩ := by unfold Addr.add; split <;> simp_all
/-- A slice of structs of n numbers each. -/
theorem open_rows {t e : TypeId} {n fuel : Nat} {fl : Array (TypeId × Nat)} {cs : List Value} {x : DataW H × List MemPlace} (ht : P.underlying t = some (.slice e)) (hf : fieldsOf P e = fl) (hfl : fl.size = n) (hn0 : n ≠ 0) (hn : P.cellsOf e = n)
    (ha : ∀ i, i < fl.size → ∃ ty, fl[i]? = some (ty, i) ∧ P.underlying ty = some (.int .i64) ∧ P.cellsOf ty = 1) (h : DataW.trod enc P w base spare held fuel t cs = some x) :
    ∃ (p : Option Addr) (len cap : Nat), cs = [.slice p len cap] ∧ (p = none → len = 0 ∧ cap = 0) ∧ len ≤ cap ∧ cap ≤ maxLen ∧
      ∀ i, i < len → ∃ b o, p = some ⟨b, o, none⟩ ∧ ∀ j, j < n → ∃ z : Int, w.cell? ⟨b, o + i * n + j, none⟩ = some (.int .i64 z) ∧ I64 z := by
  rcases open_slice ht h with ⟨rfl, rfl⟩ | ⟨a, len, cap, m, k, D, Pl, rfl, hb, hl, hm, hmm, hx, hi⟩
  · exact ⟨none, 0, 0, rfl, fun _ => ⟨rfl, rfl⟩, Nat.le_refl _, Nat.zero_le _, fun i hi => by omega⟩
  · refine ⟨some a, len, cap, rfl, (fun e => by cases e), hl, hm, fun i hilt => ?_⟩
    have hlm : len ≤ m := by rw [hmm]; split <;> omega
    have key : ∀ i, i < len → ∀ j, j < n → ∃ z : Int, w.cell? (a.add (i * n + j)) = some (.int .i64 z) ∧ I64 z := by
      intro i hilt j hj
      obtain ⟨cs', hc, ht'⟩ := hi i (by omega)
      obtain ⟨_, hcl, hat⟩ := World.cells?_some hc
      obtain ⟨hl', hz⟩ := open_ints_struct hf (by omega) (by omega) ha ht'
      obtain ⟨z, hz1, hz2⟩ := hz j (by omega)
      have := hat j (by omega)
      rw [add_add, hn, hz1] at this
      exact ⟨z, this, hz2⟩
    obtain ⟨z0, hz0, _⟩ := key 0 (by omega) 0 (by omega)
    simp [Addr.add] at hz0
    have hs := spot_none hz0
    refine ⟨a.block, a.off, by rw [← hs], fun j hj => ?_⟩
    obtain ⟨z, h1, h2⟩ := key i hilt j hj
    rw [hs, add_at] at h1
    exact ⟨z, by rw [Nat.add_assoc]; exact h1, h2⟩
theorem wf_I64 {z : Int} (hw : (Lit.int .i64 z).wf = true) : I64 z := by
  simp [Lit.wf, IntKind.min, IntKind.max, IntKind.signed, IntKind.bits] at hw
  exact ⟨by omega, by omega⟩
end
section
variable {H : Type} {enc : TypeId × Value → H} {w : World} {base : Nat} {spare : Nat → Bool} {held : Bool}
theorem Tryz.isInt : Tryz.prog.underlying 3 = some (.int .i64) ∧ Tryz.prog.cellsOf 3 = 1 := ⟨by kernel_rfl, by kernel_rfl⟩
theorem Tryz.isInt64 : Tryz.prog.underlying 2 = some (.int .i64) ∧ Tryz.prog.cellsOf 2 = 1 := ⟨by kernel_rfl, by kernel_rfl⟩
end
theorem pars_ok {P : Program} {ts : List TypeId} (h : (ts.all fun t => P.readableRec t && decide (t < P.types.size)) = true) : ∀ t, t ∈ ts → P.readableRec t = true ∧ t < P.types.size := fun t ht => by
  have := List.all_eq_true.1 h t ht
  simpa using this
theorem Tryz.ownKnob : ownKnob Tryz.prog.godebug = none := by kernel_rfl
theorem Tryz.laidOut : laidOutB Tryz.prog = true := by kernel_rfl
end Go.Proofs.YtdeghcgakkhbmaaGreat
namespace Go.Proofs.YtdeghcgakkhbmaaGreat
open Go.ChangeShapes Go.WideShapes Go.ChangeAt Go.RowKit Go.Deep
section
variable {H : Type} {enc : TypeId × Value → H} {w : World} {base : Nat} {spare : Nat → Bool} {held : Bool}
theorem Tryz.fieldsPoint : fieldsOf Tryz.prog 58 = #[(2, 0), (2, 1)] := by kernel_rfl
theorem open_pts {fuel : Nat} {cs : List Value} {x : DataW H × List MemPlace} (h : DataW.trod enc Tryz.prog w base spare held fuel 33 cs = some x) :
    ∃ (p : Option Addr) (l : List (Int × Int)) (cap : Nat), cs = [.slice p l.length cap] ∧ (p = none → l.length = 0 ∧ cap = 0) ∧ l.length ≤ cap ∧ PtsIn w p l := by
  obtain ⟨p, len, cap, rfl, hn, hl, hm, hi⟩ := open_rows (n := 2) (by kernel_rfl) Tryz.fieldsPoint rfl (by omega) (by kernel_rfl) (fun i hi => by
    match i, hi with
    | 0, _ => exact ⟨_, rfl, Tryz.isInt64⟩
    | 1, _ => exact ⟨_, rfl, Tryz.isInt64⟩) h
  obtain ⟨l, rfl, hq⟩ := list_of (Q := fun i (r : Int × Int) => ∃ b o, p = some ⟨b, o, none⟩ ∧ w.cell? ⟨b, o + i * 2, none⟩ = some (.int .i64 r.1) ∧ w.cell? ⟨b, o + i * 2 + 1, none⟩ = some (.int .i64 r.2)) len (fun i hilt => by
    obtain ⟨b, o, e, hj⟩ := hi i hilt
    obtain ⟨f, f1, f2⟩ := hj 0 (by omega)
    obtain ⟨s, s1, s2⟩ := hj 1 (by omega)
    exact ⟨(f, s), b, o, e, by simpa using f1, s1⟩)
  exact ⟨p, l, cap, rfl, hn, hl, ⟨fun i r hr => hq i r hr⟩⟩
end
end Go.Proofs.YtdeghcgakkhbmaaGreat
