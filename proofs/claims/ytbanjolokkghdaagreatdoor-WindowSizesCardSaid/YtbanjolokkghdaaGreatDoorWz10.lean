/- Parts of the proof that follows: Layer seg: is. | Layer seg: what a segment is; is, told. | Layer seg: linePart, walked. | Layer seg: rawPart, walked. -/
import Derived.Test.YtbanjolokkghdaaGreatDoorWz9
set_option linter.unusedSimpArgs false
set_option linter.unusedVariables false
namespace Go.Proofs.YtbanjolokkghdaaGreatDoor
open Go.RowKit
set_option maxRecDepth 100000 in
set_option maxHeartbeats 2000000 in
theorem is_1 (K A R n d E : Int) (p q : Option Addr) (len cap m vc : Nat) (w : World) (b : Bool)
    (c1 : ∀ W, Below w.heap.size w W → Calls Tryz.prog 93 #[.slice p len cap] W fun e w' => e = .returned (.int .i64 0) ∧ Below W.heap.size W w')
    (c3 : ∀ W, Below w.heap.size w W → Calls Tryz.prog 137 #[.agg #[.int .i64 1, .slice p len cap, .int .i64 A, .int .i64 R, .int .i64 n, .int .i64 d, .slice q m vc, .int .i64 E]] W fun e w' => e = .returned (.bool b) ∧ Below W.heap.size W w') :
    Calls Tryz.prog 70 #[.agg #[.int .i64 1, .slice p len cap, .int .i64 A, .int .i64 R, .int .i64 n, .int .i64 d, .slice q m vc, .int .i64 E]] w fun e w' => e = .returned (.bool (decide (0 ≤ E) && decide (E ≤ 1099511627776) && b)) ∧ Below w.heap.size w w' := by
  have H_c1 := Lib.hid c1
  clear c1
  have H_c3 := Lib.hid c3
  clear c3
  go_enter Tryz.func70, Tryz.ntmps70
  go_upto_region 1 with (fail)
  refine wp_cutB w (Bc w.heap.size #[.int .i64 1, .slice p len cap, .int .i64 A, .int .i64 R, .int .i64 n, .int .i64 d, .slice q m vc, .int .i64 E] 113 <| Bz) ?_
  rintro W1 hW z2 hL
  obtain ⟨⟨b1, yb1, k1, f1⟩, -⟩ := id hL
  clear k1 f1
  refine wp_regD 40 42 hW hL ?_
  iterate 5 refine dA ?_
  iterate 4 refine gA ?_
  refine pA ?_
  refine dA ?_
  iterate 4 refine gA ?_
  refine pA ?_
  refine dA ?_
  iterate 4 refine gA ?_
  refine pA ?_
  refine dA ?_
  iterate 3 refine gA ?_
  refine cG (fun hp hx W' hC => H_c1.out W' (hW.trans (hC.1.of_priv hW.size))) ?_
  refine gA ?_
  refine pA ?_
  refine dA ?_
  refine cG (fun hp hx W' hC => kinds_w W') ?_
  iterate 3 refine gA ?_
  apply nd_detg (p := true) (c := .agg #[.func (.func 137) #[] #[], .func (.func 141) #[] #[]]) (hg := rfl) (hd := rfl) (hal := rfl)
  · intro v W' h
    simp [envOf, Det] at h
    simp
    exact h
  · intro hp hx a W' hC hE
    simp [Oper.looksAt, Op.operands, Call.operands, envOf, Det, GDet, hx] at hE
    simp [go_sem, Act.eval, hE]
    kernel_rfl
  iterate 2 refine gA ?_
  refine cG (fun hp hx W' hC => H_c3.out W' (hW.trans (hC.1.of_priv hW.size))) ?_
  refine pA ?_
  refine dA ?_
  clear hW hL b1
  rintro W3 hW z4 hL
  simp only [ndR]
  intros
  repeat (rename GDet _ _ _ _ => hgd; clear hgd)
  simp only [ndS]
  refine wpList_nil ?_
  obtain ⟨⟨b1, yb1, k1, f1⟩, -⟩ := hL
  go_wp2
  refine bodyPost_ret (v := .bool (decide (0 ≤ E) && decide (E ≤ 1099511627776) && b)) (by simp [results, Tryz.results70, go_sem, k1, f1, yb1]) rfl ⟨rfl, belowAny⟩

set_option maxRecDepth 100000 in
set_option maxHeartbeats 2000000 in
theorem is_2 (K A R n d E : Int) (p q : Option Addr) (len cap m vc : Nat) (w : World) (b : Bool)
    (c1 : ∀ W, Below w.heap.size w W → Calls Tryz.prog 93 #[.slice p len cap] W fun e w' => e = .returned (.int .i64 0) ∧ Below W.heap.size W w')
    (c3 : ∀ W, Below w.heap.size w W → Calls Tryz.prog 139 #[.agg #[.int .i64 2, .slice p len cap, .int .i64 A, .int .i64 R, .int .i64 n, .int .i64 d, .slice q m vc, .int .i64 E]] W fun e w' => e = .returned (.bool b) ∧ Below W.heap.size W w') :
    Calls Tryz.prog 70 #[.agg #[.int .i64 2, .slice p len cap, .int .i64 A, .int .i64 R, .int .i64 n, .int .i64 d, .slice q m vc, .int .i64 E]] w fun e w' => e = .returned (.bool (decide (0 ≤ E) && decide (E ≤ 1099511627776) && b)) ∧ Below w.heap.size w w' := by
  have H_c1 := Lib.hid c1
  clear c1
  have H_c3 := Lib.hid c3
  clear c3
  go_enter Tryz.func70, Tryz.ntmps70
  go_upto_region 1 with (fail)
  refine wp_cutB w (Bc w.heap.size #[.int .i64 2, .slice p len cap, .int .i64 A, .int .i64 R, .int .i64 n, .int .i64 d, .slice q m vc, .int .i64 E] 113 <| Bz) ?_
  rintro W1 hW z2 hL
  obtain ⟨⟨b1, yb1, k1, f1⟩, -⟩ := id hL
  clear k1 f1
  refine wp_regD 40 42 hW hL ?_
  iterate 5 refine dA ?_
  iterate 4 refine gA ?_
  refine pA ?_
  refine dA ?_
  iterate 4 refine gA ?_
  refine pA ?_
  refine dA ?_
  iterate 4 refine gA ?_
  refine pA ?_
  refine dA ?_
  iterate 3 refine gA ?_
  refine cG (fun hp hx W' hC => H_c1.out W' (hW.trans (hC.1.of_priv hW.size))) ?_
  refine gA ?_
  refine pA ?_
  refine dA ?_
  refine cG (fun hp hx W' hC => kinds_w W') ?_
  iterate 3 refine gA ?_
  apply nd_detg (p := true) (c := .agg #[.func (.func 139) #[] #[], .func (.func 141) #[] #[]]) (hg := rfl) (hd := rfl) (hal := rfl)
  · intro v W' h
    simp [envOf, Det] at h
    simp
    exact h
  · intro hp hx a W' hC hE
    simp [Oper.looksAt, Op.operands, Call.operands, envOf, Det, GDet, hx] at hE
    simp [go_sem, Act.eval, hE]
    kernel_rfl
  iterate 2 refine gA ?_
  refine cG (fun hp hx W' hC => H_c3.out W' (hW.trans (hC.1.of_priv hW.size))) ?_
  refine pA ?_
  refine dA ?_
  clear hW hL b1
  rintro W3 hW z4 hL
  simp only [ndR]
  intros
  repeat (rename GDet _ _ _ _ => hgd; clear hgd)
  simp only [ndS]
  refine wpList_nil ?_
  obtain ⟨⟨b1, yb1, k1, f1⟩, -⟩ := hL
  go_wp2
  refine bodyPost_ret (v := .bool (decide (0 ≤ E) && decide (E ≤ 1099511627776) && b)) (by simp [results, Tryz.results70, go_sem, k1, f1, yb1]) rfl ⟨rfl, belowAny⟩

set_option maxRecDepth 100000 in
set_option maxHeartbeats 2000000 in
theorem is_3 (K A R n d E : Int) (p q : Option Addr) (len cap m vc : Nat) (w : World) (b : Bool)
    (c1 : ∀ W, Below w.heap.size w W → Calls Tryz.prog 93 #[.slice p len cap] W fun e w' => e = .returned (.int .i64 0) ∧ Below W.heap.size W w')
    (c3 : ∀ W, Below w.heap.size w W → Calls Tryz.prog 140 #[.agg #[.int .i64 3, .slice p len cap, .int .i64 A, .int .i64 R, .int .i64 n, .int .i64 d, .slice q m vc, .int .i64 E]] W fun e w' => e = .returned (.bool b) ∧ Below W.heap.size W w') :
    Calls Tryz.prog 70 #[.agg #[.int .i64 3, .slice p len cap, .int .i64 A, .int .i64 R, .int .i64 n, .int .i64 d, .slice q m vc, .int .i64 E]] w fun e w' => e = .returned (.bool (decide (0 ≤ E) && decide (E ≤ 1099511627776) && b)) ∧ Below w.heap.size w w' := by
  have H_c1 := Lib.hid c1
  clear c1
  have H_c3 := Lib.hid c3
  clear c3
  go_enter Tryz.func70, Tryz.ntmps70
  go_upto_region 1 with (fail)
  refine wp_cutB w (Bc w.heap.size #[.int .i64 3, .slice p len cap, .int .i64 A, .int .i64 R, .int .i64 n, .int .i64 d, .slice q m vc, .int .i64 E] 113 <| Bz) ?_
  rintro W1 hW z2 hL
  obtain ⟨⟨b1, yb1, k1, f1⟩, -⟩ := id hL
  clear k1 f1
  refine wp_regD 40 42 hW hL ?_
  iterate 5 refine dA ?_
  iterate 4 refine gA ?_
  refine pA ?_
  refine dA ?_
  iterate 4 refine gA ?_
  refine pA ?_
  refine dA ?_
  iterate 4 refine gA ?_
  refine pA ?_
  refine dA ?_
  iterate 3 refine gA ?_
  refine cG (fun hp hx W' hC => H_c1.out W' (hW.trans (hC.1.of_priv hW.size))) ?_
  refine gA ?_
  refine pA ?_
  refine dA ?_
  refine cG (fun hp hx W' hC => kinds_w W') ?_
  iterate 3 refine gA ?_
  apply nd_detg (p := true) (c := .agg #[.func (.func 140) #[] #[], .func (.func 141) #[] #[]]) (hg := rfl) (hd := rfl) (hal := rfl)
  · intro v W' h
    simp [envOf, Det] at h
    simp
    exact h
  · intro hp hx a W' hC hE
    simp [Oper.looksAt, Op.operands, Call.operands, envOf, Det, GDet, hx] at hE
    simp [go_sem, Act.eval, hE]
    kernel_rfl
  iterate 2 refine gA ?_
  refine cG (fun hp hx W' hC => H_c3.out W' (hW.trans (hC.1.of_priv hW.size))) ?_
  refine pA ?_
  refine dA ?_
  clear hW hL b1
  rintro W3 hW z4 hL
  simp only [ndR]
  intros
  repeat (rename GDet _ _ _ _ => hgd; clear hgd)
  simp only [ndS]
  refine wpList_nil ?_
  obtain ⟨⟨b1, yb1, k1, f1⟩, -⟩ := hL
  go_wp2
  refine bodyPost_ret (v := .bool (decide (0 ≤ E) && decide (E ≤ 1099511627776) && b)) (by simp [results, Tryz.results70, go_sem, k1, f1, yb1]) rfl ⟨rfl, belowAny⟩

set_option maxRecDepth 100000 in
set_option maxHeartbeats 2000000 in
theorem is_4 (K A R n d E : Int) (p q : Option Addr) (len cap m vc : Nat) (w : World) (b : Bool)
    (c1 : ∀ W, Below w.heap.size w W → Calls Tryz.prog 93 #[.slice p len cap] W fun e w' => e = .returned (.int .i64 0) ∧ Below W.heap.size W w')
    (c3 : ∀ W, Below w.heap.size w W → Calls Tryz.prog 142 #[.agg #[.int .i64 4, .slice p len cap, .int .i64 A, .int .i64 R, .int .i64 n, .int .i64 d, .slice q m vc, .int .i64 E]] W fun e w' => e = .returned (.bool b) ∧ Below W.heap.size W w') :
    Calls Tryz.prog 70 #[.agg #[.int .i64 4, .slice p len cap, .int .i64 A, .int .i64 R, .int .i64 n, .int .i64 d, .slice q m vc, .int .i64 E]] w fun e w' => e = .returned (.bool (decide (0 ≤ E) && decide (E ≤ 1099511627776) && b)) ∧ Below w.heap.size w w' := by
  have H_c1 := Lib.hid c1
  clear c1
  have H_c3 := Lib.hid c3
  clear c3
  go_enter Tryz.func70, Tryz.ntmps70
  go_upto_region 1 with (fail)
  refine wp_cutB w (Bc w.heap.size #[.int .i64 4, .slice p len cap, .int .i64 A, .int .i64 R, .int .i64 n, .int .i64 d, .slice q m vc, .int .i64 E] 113 <| Bz) ?_
  rintro W1 hW z2 hL
  obtain ⟨⟨b1, yb1, k1, f1⟩, -⟩ := id hL
  clear k1 f1
  refine wp_regD 40 42 hW hL ?_
  iterate 5 refine dA ?_
  iterate 4 refine gA ?_
  refine pA ?_
  refine dA ?_
  iterate 4 refine gA ?_
  refine pA ?_
  refine dA ?_
  iterate 4 refine gA ?_
  refine pA ?_
  refine dA ?_
  iterate 3 refine gA ?_
  refine cG (fun hp hx W' hC => H_c1.out W' (hW.trans (hC.1.of_priv hW.size))) ?_
  refine gA ?_
  refine pA ?_
  refine dA ?_
  refine cG (fun hp hx W' hC => kinds_w W') ?_
  iterate 3 refine gA ?_
  apply nd_detg (p := true) (c := .agg #[.func (.func 142) #[] #[], .func (.func 143) #[] #[]]) (hg := rfl) (hd := rfl) (hal := rfl)
  · intro v W' h
    simp [envOf, Det] at h
    simp
    exact h
  · intro hp hx a W' hC hE
    simp [Oper.looksAt, Op.operands, Call.operands, envOf, Det, GDet, hx] at hE
    simp [go_sem, Act.eval, hE]
    kernel_rfl
  iterate 2 refine gA ?_
  refine cG (fun hp hx W' hC => H_c3.out W' (hW.trans (hC.1.of_priv hW.size))) ?_
  refine pA ?_
  refine dA ?_
  clear hW hL b1
  rintro W3 hW z4 hL
  simp only [ndR]
  intros
  repeat (rename GDet _ _ _ _ => hgd; clear hgd)
  simp only [ndS]
  refine wpList_nil ?_
  obtain ⟨⟨b1, yb1, k1, f1⟩, -⟩ := hL
  go_wp2
  refine bodyPost_ret (v := .bool (decide (0 ≤ E) && decide (E ≤ 1099511627776) && b)) (by simp [results, Tryz.results70, go_sem, k1, f1, yb1]) rfl ⟨rfl, belowAny⟩

set_option maxRecDepth 100000 in
set_option maxHeartbeats 2000000 in
theorem is_runs (K A R n d E : Int) (p q : Option Addr) (len cap m vc : Nat) (w : World)
    (c1 : ∀ W, Below w.heap.size w W → Calls Tryz.prog 93 #[.slice p len cap] W fun e w' => e = .returned (.int .i64 170) ∧ Below W.heap.size W w') :
    Calls Tryz.prog 70 #[.agg #[.int .i64 K, .slice p len cap, .int .i64 A, .int .i64 R, .int .i64 n, .int .i64 d, .slice q m vc, .int .i64 E]] w fun e w' => e = .returned (.bool false) ∧ Below w.heap.size w w' := by
  have H_c1 := Lib.hid c1
  clear c1
  go_enter Tryz.func70, Tryz.ntmps70
  go_upto_region 1 with (fail)
  refine wp_cutB w (Bc w.heap.size #[.int .i64 K, .slice p len cap, .int .i64 A, .int .i64 R, .int .i64 n, .int .i64 d, .slice q m vc, .int .i64 E] 113 <| Bz) ?_
  rintro W1 hW z2 hL
  obtain ⟨⟨b1, yb1, k1, f1⟩, -⟩ := id hL
  clear k1 f1
  refine wp_regD 40 42 hW hL ?_
  iterate 5 refine dA ?_
  iterate 4 refine gA ?_
  refine pA ?_
  refine dA ?_
  iterate 4 refine gA ?_
  refine pA ?_
  refine dA ?_
  iterate 4 refine gA ?_
  refine pA ?_
  refine dA ?_
  iterate 3 refine gA ?_
  refine cG (fun hp hx W' hC => H_c1.out W' (hW.trans (hC.1.of_priv hW.size))) ?_
  refine gA ?_
  refine pA ?_
  refine dA ?_
  apply nd_detg (p := true) (c := undef) (hg := rfl) (hd := rfl) (hal := rfl)
  · intro v W' h
    simp [envOf, Det] at h
    simp
    exact h
  · intro hp hx
    exfalso
    simp at hx
  apply nd_detg (p := true) (c := undef) (hg := rfl) (hd := rfl) (hal := rfl)
  · intro v W' h
    simp [envOf, Det] at h
    simp
    exact h
  · intro hp hx
    exfalso
    simp at hx
  apply nd_detg (p := true) (c := undef) (hg := rfl) (hd := rfl) (hal := rfl)
  · intro v W' h
    simp [envOf, Det] at h
    simp
    exact h
  · intro hp hx
    exfalso
    simp at hx
  apply nd_detg (p := true) (c := undef) (hg := rfl) (hd := rfl) (hal := rfl)
  · intro v W' h
    simp [envOf, Det] at h
    simp
    exact h
  · intro hp hx
    exfalso
    simp at hx
  apply nd_detg (p := true) (c := undef) (hg := rfl) (hd := rfl) (hal := rfl)
  · intro v W' h
    simp [envOf, Det] at h
    simp
    exact h
  · intro hp hx
    exfalso
    simp at hx
  apply nd_detg (p := true) (c := undef) (hg := rfl) (hd := rfl) (hal := rfl)
  · intro v W' h
    simp [envOf, Det] at h
    simp
    exact h
  · intro hp hx
    exfalso
    simp at hx
  apply nd_detg (p := true) (c := undef) (hg := rfl) (hd := rfl) (hal := rfl)
  · intro v W' h
    simp [envOf, Det] at h
    simp
    exact h
  · intro hp hx
    exfalso
    simp at hx
  apply nd_detg (p := true) (c := undef) (hg := rfl) (hd := rfl) (hal := rfl)
  · intro v W' h
    simp [envOf, Det] at h
    simp
    exact h
  · intro hp hx
    exfalso
    simp at hx
  apply nd_det (c := .bool false) (hg := rfl) (hal := rfl)
  · intro a W' hC hE
    have hE1 := hE 32 (by simp [Oper.looksAt, Op.operands])
    simp [envOf, Det] at hE1
    simp [go_sem, Act.eval, hE1]
  refine dA ?_
  clear hW hL b1
  rintro W3 hW z4 hL
  simp only [ndR]
  intros
  repeat (rename GDet _ _ _ _ => hgd; clear hgd)
  simp only [ndS]
  refine wpList_nil ?_
  obtain ⟨⟨b1, yb1, k1, f1⟩, -⟩ := hL
  go_wp2
  refine bodyPost_ret (v := .bool false) (by simp [results, Tryz.results70, go_sem, k1, f1, yb1]) rfl ⟨rfl, belowAny⟩
set_option maxRecDepth 100000 in
set_option maxHeartbeats 2000000 in
theorem is_kind (K A R n d E : Int) (p q : Option Addr) (len cap m vc : Nat) (w : World) (r : Int) (hK : ¬ (1 ≤ K ∧ K ≤ 4))
    (c1 : ∀ W, Below w.heap.size w W → Calls Tryz.prog 93 #[.slice p len cap] W fun e w' => e = .returned (.int .i64 r) ∧ Below W.heap.size W w') :
    Calls Tryz.prog 70 #[.agg #[.int .i64 K, .slice p len cap, .int .i64 A, .int .i64 R, .int .i64 n, .int .i64 d, .slice q m vc, .int .i64 E]] w fun e w' => e = .returned (.bool false) ∧ Below w.heap.size w w' := by
  have hK1 : (decide (1 ≤ K) && decide (K ≤ 4)) = false := by simp; omega
  have H_c1 := Lib.hid c1
  clear c1
  go_enter Tryz.func70, Tryz.ntmps70
  go_upto_region 1 with (fail)
  refine wp_cutB w (Bc w.heap.size #[.int .i64 K, .slice p len cap, .int .i64 A, .int .i64 R, .int .i64 n, .int .i64 d, .slice q m vc, .int .i64 E] 113 <| Bz) ?_
  rintro W1 hW z2 hL
  obtain ⟨⟨b1, yb1, k1, f1⟩, -⟩ := id hL
  clear k1 f1
  refine wp_regD 40 42 hW hL ?_
  iterate 5 refine dA ?_
  iterate 4 refine gA ?_
  refine pA ?_
  refine dA ?_
  iterate 4 refine gA ?_
  refine pA ?_
  refine dA ?_
  iterate 4 refine gA ?_
  refine pA ?_
  refine dA ?_
  iterate 3 refine gA ?_
  refine cG (fun hp hx W' hC => H_c1.out W' (hW.trans (hC.1.of_priv hW.size))) ?_
  refine gA ?_
  refine pA ?_
  refine dA ?_
  apply nd_detg (p := true) (c := undef) (hg := rfl) (hd := rfl) (hal := rfl)
  · intro v W' h
    simp [envOf, Det] at h
    simp
    exact h
  · intro hp hx
    exfalso
    simp at hx
    omega
  apply nd_detg (p := true) (c := undef) (hg := rfl) (hd := rfl) (hal := rfl)
  · intro v W' h
    simp [envOf, Det] at h
    simp
    exact h
  · intro hp hx
    exfalso
    simp at hx
    omega
  apply nd_detg (p := true) (c := undef) (hg := rfl) (hd := rfl) (hal := rfl)
  · intro v W' h
    simp [envOf, Det] at h
    simp
    exact h
  · intro hp hx
    exfalso
    simp at hx
    omega
  apply nd_detg (p := true) (c := undef) (hg := rfl) (hd := rfl) (hal := rfl)
  · intro v W' h
    simp [envOf, Det] at h
    simp
    exact h
  · intro hp hx
    exfalso
    simp at hx
    omega
  apply nd_detg (p := true) (c := undef) (hg := rfl) (hd := rfl) (hal := rfl)
  · intro v W' h
    simp [envOf, Det] at h
    simp
    exact h
  · intro hp hx
    exfalso
    simp at hx
    omega
  apply nd_detg (p := true) (c := undef) (hg := rfl) (hd := rfl) (hal := rfl)
  · intro v W' h
    simp [envOf, Det] at h
    simp
    exact h
  · intro hp hx
    exfalso
    simp at hx
    omega
  apply nd_detg (p := true) (c := undef) (hg := rfl) (hd := rfl) (hal := rfl)
  · intro v W' h
    simp [envOf, Det] at h
    simp
    exact h
  · intro hp hx
    exfalso
    simp at hx
    omega
  apply nd_detg (p := true) (c := undef) (hg := rfl) (hd := rfl) (hal := rfl)
  · intro v W' h
    simp [envOf, Det] at h
    simp
    exact h
  · intro hp hx
    exfalso
    simp at hx
    omega
  apply nd_det (c := .bool false) (hg := rfl) (hal := rfl)
  · intro a W' hC hE
    have hE1 := hE 32 (by simp [Oper.looksAt, Op.operands])
    simp [envOf, Det, hK1] at hE1
    simp [go_sem, Act.eval, hE1]
  refine dA ?_
  clear hW hL b1
  rintro W3 hW z4 hL
  simp only [ndR]
  intros
  repeat (rename GDet _ _ _ _ => hgd; clear hgd)
  simp only [ndS]
  refine wpList_nil ?_
  obtain ⟨⟨b1, yb1, k1, f1⟩, -⟩ := hL
  go_wp2
  refine bodyPost_ret (v := .bool false) (by simp [results, Tryz.results70, go_sem, k1, f1, yb1]) rfl ⟨rfl, belowAny⟩
end Go.Proofs.YtbanjolokkghdaaGreatDoor
namespace Go.Proofs.YtbanjolokkghdaaGreatDoor
open Go.RowKit
/-- What a segment says. -/
structure SegT where
  K : Int
  runs : List RunT
  A : Int
  R : Int
  n : Int
  d : Int
  raw : List Int
  E : Int
def segA (s : SegT) (p q : Option Addr) (cap vc : Nat) : Array Value := #[.int .i64 s.K, .slice p s.runs.length cap, .int .i64 s.A, .int .i64 s.R, .int .i64 s.n, .int .i64 s.d, .slice q s.raw.length vc, .int .i64 s.E]
structure SegIn (w : World) (s : SegT) (p q : Option Addr) : Prop where
  runs : RunsIn w p s.runs
  raw : IntsIn w q s.raw
  fewR : s.runs.length ≤ 300
  fewV : s.raw.length ≤ 300
theorem SegIn.below {w w' : World} {s : SegT} {p q : Option Addr} (h : SegIn w s p q) (hb : Below w.heap.size w w') : SegIn w' s p q := ⟨h.runs.below hb, h.raw.below hb, h.fewR, h.fewV⟩
def firstT (l : List RunT) : Int := atV l 0
def lastT (l : List RunT) : Int := atV l (cnt l - 1)
def lineIsB (s : SegT) : Bool := isLine s.A s.R s.n s.d && endsOk s.A s.R s.n s.d 0 (lastT s.runs - firstT s.runs) && s.raw.isEmpty
def kindB (s : SegT) : Bool :=
  if s.K = 1 then s.n == 0 && lineIsB s
  else if s.K = 2 then s.n != 0 && (s.R == 0 && lineIsB s)
  else if s.K = 3 then s.R != 0 && lineIsB s
  else if s.K = 4 then lineZ s.A s.R s.n s.d && (s.raw.length : Int) == cnt s.runs && s.raw.all isBack
  else false
def segB (s : SegT) : Bool := risesB s.runs && (decide (0 ≤ s.E) && decide (s.E ≤ 1099511627776) && kindB s)

theorem cnt_pos {l : List RunT} (h : RunsOk l) : 1 ≤ cnt l ∧ cnt l ≤ 256 := by
  refine ⟨?_, h.count⟩
  have := h.some'
  cases l with
  | nil => simp at this
  | cons r l =>
    have a := (h.each r (by simp)).c0
    have b := cnt_nonneg l fun r hr => h.each r (by simp [hr])
    simp only [cnt]; omega
theorem atL_some {l : List RunT} (h : RunsOk l) {i : Int} (h0 : 0 ≤ i) (h1 : i < cnt l) : ∃ v, atL l i = some v ∧ v ∈ timesL l ∧ atV l i = v ∧ atE l i = 0 := by
  obtain ⟨k, rfl⟩ : ∃ k : Nat, i = (k : Int) := ⟨i.toNat, by omega⟩
  have hc : ∀ r, r ∈ l → 0 ≤ r.c := fun r hr => by have := (h.each r hr).c0; omega
  have hl := length_timesL l hc
  have hk : k < (timesL l).length := by omega
  have e := atL_eq l k hc
  rw [List.getElem?_eq_getElem hk] at e
  exact ⟨_, e, List.getElem_mem hk, atV_some e, atE_some e⟩
theorem at_in {l : List RunT} (h : RunsOk l) {i : Int} (h0 : 0 ≤ i) (h1 : i < cnt l) : 0 ≤ atV l i ∧ atV l i ≤ 281474976710656 := by
  obtain ⟨v, _, hm, e, _⟩ := atL_some h h0 h1
  rw [e]; exact times_in l h v hm
theorem c_at (p : Option Addr) (cap : Nat) (l : List RunT) (i : Int) (w : World) (hl : RunsOk l) (h : RunsIn w p l) (h0 : 0 ≤ i) (h1 : i < cnt l) :
    Calls Tryz.prog 191 #[.slice p l.length cap, .int .i64 i] w fun e w' => e = .returned (.tuple #[.int .i64 (atV l i), .int .i64 0]) ∧ Below w.heap.size w w' := by
  obtain ⟨v, e, _, _, e0⟩ := atL_some hl h0 h1
  have := at_w p cap l i w hl h h0 (by have := hl.count; omega)
  rw [e0] at this
  exact this
theorem at_mono {l : List RunT} (h : RunsOk l) {i j : Int} (h0 : 0 ≤ i) (h1 : i ≤ j) (h2 : j < cnt l) : atV l i ≤ atV l j := by
  rcases Int.lt_or_eq_of_le h1 with hlt | rfl
  · obtain ⟨a, rfl⟩ : ∃ k : Nat, i = (k : Int) := ⟨i.toNat, by omega⟩
    obtain ⟨b, rfl⟩ : ∃ k : Nat, j = (k : Int) := ⟨j.toNat, by omega⟩
    have hc : ∀ r, r ∈ l → 0 ≤ r.c := fun r hr => by have := (h.each r hr).c0; omega
    have hl := length_timesL l hc
    have hp := times_pairwise l h.each h.chain
    have ha : a < (timesL l).length := by omega
    have hb : b < (timesL l).length := by omega
    have e1 := atL_eq l a hc
    have e2 := atL_eq l b hc
    rw [List.getElem?_eq_getElem ha] at e1
    rw [List.getElem?_eq_getElem hb] at e2
    rw [atV_some e1, atV_some e2]
    exact Int.le_of_lt (List.pairwise_iff_getElem.1 hp a b ha hb (by omega))
  · exact Int.le_refl _

theorem c_rcount_ok (p : Option Addr) (cap : Nat) (l : List RunT) (w : World) (hl : RunsOk l) (h : RunsIn w p l) :
    Calls Tryz.prog 171 #[.slice p l.length cap] w fun e w' => e = .returned (.int .i64 (cnt l)) ∧ Below w.heap.size w w' := by
  have := c_rcount p cap l w (by have := hl.few; omega) h
  rw [if_pos ((risesB_iff l).2 hl)] at this
  exact this
theorem c_span (s : SegT) (p q : Option Addr) (cap vc : Nat) (w : World) (hl : RunsOk s.runs) (h : SegIn w s p q) :
    Calls Tryz.prog 189 #[.agg (segA s p q cap vc)] w fun e w' => e = .returned (.tuple #[.int .i64 (firstT s.runs), .int .i64 (lastT s.runs - firstT s.runs)]) ∧ Below w.heap.size w w' := by
  obtain ⟨n0, n1⟩ := cnt_pos hl
  exact span_w _ _ _ _ _ _ p q _ cap _ vc w (firstT s.runs) (lastT s.runs) (cnt s.runs) (at_in hl (by omega) (by omega)) (at_in hl (by omega) (by omega)) ⟨by omega, n1⟩
    (fun W hW => c_at p cap s.runs 0 W hl (h.runs.below hW) (by omega) (by omega))
    (fun W hW => c_rcount_ok p cap s.runs W hl (h.runs.below hW))
    (fun W hW => c_at p cap s.runs (cnt s.runs - 1) W hl (h.runs.below hW) (by omega) (by omega))
theorem c_lineIs (s : SegT) (p q : Option Addr) (cap vc : Nat) (w : World) (hl : RunsOk s.runs) (h : SegIn w s p q) :
    Calls Tryz.prog 138 #[.agg (segA s p q cap vc)] w fun e w' => e = .returned (.bool (lineIsB s)) ∧ Below w.heap.size w w' := by
  obtain ⟨n0, n1⟩ := cnt_pos hl
  have hs := fun W (hW : Below w.heap.size w W) => c_span s p q cap vc W hl (h.below hW)
  have hf := at_in hl (show (0 : Int) ≤ 0 by omega) (by omega)
  have hla := at_in hl (show 0 ≤ cnt s.runs - 1 by omega) (by omega)
  have hm := at_mono hl (show (0 : Int) ≤ 0 by omega) (show 0 ≤ cnt s.runs - 1 by omega) (by omega)
  unfold lineIsB
  cases hL : isLine s.A s.R s.n s.d with
  | false =>
    exact lineis_no _ _ _ _ _ _ p q _ cap _ vc w _ _ 0 0 hs (fun W _ => c_Ends_no s.A s.R s.n s.d 0 _ W hL)
  | true =>
    have hE := fun W (_ : Below w.heap.size w W) => c_Ends s.A s.R s.n s.d 0 (lastT s.runs - firstT s.runs) W (isLine_ok.1 hL) (by omega) (by unfold lastT firstT; omega) (by unfold lastT firstT; omega)
    cases hO : endsOk s.A s.R s.n s.d 0 (lastT s.runs - firstT s.runs) with
    | false =>
      rw [hO] at hE
      exact lineis_over _ _ _ _ _ _ p q _ cap _ vc w _ _ _ _ hs hE
    | true =>
      rw [hO] at hE
      cases hr : s.raw with
      | nil =>
        have hz : s.raw.length = 0 := by rw [hr]; rfl
        unfold segA at hs ⊢
        rw [hz] at hs ⊢
        exact lineis_yes _ _ _ _ _ _ p q _ cap 0 vc w _ _ _ _ hs hE
      | cons x l => exact lineis_raw _ _ _ _ _ _ p q _ cap _ vc w _ _ _ _ (by rw [hr]; simp) hs hE
theorem c_segIs (s : SegT) (p q : Option Addr) (cap vc : Nat) (w : World) (h : SegIn w s p q) :
    Calls Tryz.prog 70 #[.agg (segA s p q cap vc)] w fun e w' => e = .returned (.bool (segB s)) ∧ Below w.heap.size w w' := by
  have c1 := fun W (hW : Below w.heap.size w W) => c_rcheck p cap s.runs W (by have := h.fewR; omega) (h.runs.below hW)
  unfold segB
  by_cases hK : 1 ≤ s.K ∧ s.K ≤ 4
  · cases hr : risesB s.runs with
    | false =>
      rw [hr] at c1
      exact is_runs _ _ _ _ _ _ p q _ cap _ vc w c1
    | true =>
      rw [hr] at c1
      have hl := (risesB_iff s.runs).1 hr
      have hli := fun W (hW : Below w.heap.size w W) => c_lineIs s p q cap vc W hl (h.below hW)
      rw [Bool.true_and]
      have hk : s.K = 1 ∨ s.K = 2 ∨ s.K = 3 ∨ s.K = 4 := by omega
      unfold kindB
      rcases hk with e | e | e | e
      · rw [if_pos e]
        unfold segA at hli ⊢
        rw [e] at hli ⊢
        refine is_1 0 _ _ _ _ _ p q _ cap _ vc w _ c1 ?_
        intro W hW
        by_cases hn : s.n = 0
        · have hli' := fun W' (hW' : Below W.heap.size W W') => hli W' (hW.trans (hW'.mono hW.size))
          rw [hn] at hli' ⊢
          simpa using kind1_flat _ _ _ 0 _ _ p q _ cap _ vc W _ hli'
        · have : (s.n == 0) = false := by simpa using hn
          rw [this]
          exact kind1_no _ _ _ _ _ _ p q _ cap _ vc W true this
      · rw [if_neg (by omega), if_pos e]
        unfold segA at hli ⊢
        rw [e] at hli ⊢
        refine is_2 0 _ _ _ _ _ p q _ cap _ vc w _ c1 ?_
        intro W hW
        have hli' := fun W' (hW' : Below W.heap.size W W') => hli W' (hW.trans (hW'.mono hW.size))
        by_cases hn : s.n = 0
        · rw [hn]
          exact kind2_flat _ _ _ 0 _ _ p q _ cap _ vc W true
        · have hn' : (s.n != 0) = true := by simpa using hn
          rw [hn', Bool.true_and]
          by_cases hR : s.R = 0
          · rw [hR] at hli' ⊢
            simpa using kind2_tilt _ _ 0 _ _ _ p q _ cap _ vc W _ hn' hli'
          · have hR' : (s.R == 0) = false := by simpa using hR
            rw [hR']
            exact kind2_free _ _ _ _ _ _ p q _ cap _ vc W true hn' hR'
      · rw [if_neg (by omega), if_neg (by omega), if_pos e]
        unfold segA at hli ⊢
        rw [e] at hli ⊢
        refine is_3 0 _ _ _ _ _ p q _ cap _ vc w _ c1 ?_
        intro W hW
        have hli' := fun W' (hW' : Below W.heap.size W W') => hli W' (hW.trans (hW'.mono hW.size))
        by_cases hR : s.R = 0
        · rw [hR]
          exact kind3_no _ _ 0 _ _ _ p q _ cap _ vc W true
        · have hR' : (s.R != 0) = true := by simpa using hR
          rw [hR', Bool.true_and]
          exact kind3_free _ _ _ _ _ _ p q _ cap _ vc W _ hR' hli'
      · rw [if_neg (by omega), if_neg (by omega), if_neg (by omega), if_pos e]
        unfold segA
        rw [e]
        refine is_4 0 _ _ _ _ _ p q _ cap _ vc w _ c1 ?_
        intro W hW
        have := rawis_w 4 s.A s.R s.n s.d s.E p q s.runs.length cap s.raw.length vc W (cnt s.runs) (!(s.raw.all isBack))
          (fun W' hW' => c_rcount_ok p cap s.runs W' hl (h.runs.below (hW.trans (hW'.mono hW.size))))
          (fun W' hW' => c_contains q vc s.raw W' (by have := h.fewV; omega) (h.raw.below (hW.trans (hW'.mono hW.size))))
        rw [Bool.not_not] at this
        exact this
  · have hk : kindB s = false := by
      unfold kindB
      rw [if_neg (by omega), if_neg (by omega), if_neg (by omega), if_neg (by omega)]
    rw [hk]
    simp only [Bool.and_false]
    exact is_kind _ _ _ _ _ _ p q _ cap _ vc w _ hK c1
end Go.Proofs.YtbanjolokkghdaaGreatDoor
namespace Go.Proofs.YtbanjolokkghdaaGreatDoor
open Go.RowKit
theorem RunsIn.alloc {w : World} {p : Option Addr} {l : List RunT} (h : RunsIn w p l) (o : Obj) : RunsIn (w.alloc o) p l := h.below ((Below.refl _ _).alloc (Nat.le_refl _) o)
theorem RunsIn.calls {w w' : World} {p : Option Addr} {l : List RunT} (h : RunsIn w p l) (hb : Below w.heap.size w w') : RunsIn w' p l := h.below hb
theorem RunsIn.set {w : World} {g x o i : Nat} {v : Value} {l : List RunT} (h : RunsIn w (some ⟨g, x, none⟩) l) (hne : g ≠ o) : RunsIn (w.setCell ⟨o, i, none⟩ v) (some ⟨g, x, none⟩) l := ⟨fun k r hr => by
  obtain ⟨b, y, e, h1, h2, h3⟩ := h.at' k r hr
  cases e
  have hc : ∀ z, (w.setCell ⟨o, i, none⟩ v).cell? ⟨g, z, none⟩ = w.cell? ⟨g, z, none⟩ := by
    intro z
    have := heap_setCell_other w ⟨o, i, none⟩ g v hne
    simp only [World.cell?, this]
  exact ⟨g, x, rfl, (hc _).trans h1, (hc _).trans h2, (hc _).trans h3⟩⟩
def lpRel (K A R n d E : Int) (p q : Option Addr) (len cap m vc : Nat) (w : World) (i j x lo hi : Int) (P : List RunT) (SS : Nat → Int) (g o : Nat) (a' : Act) (W : World) : Prop :=
  Below w.heap.size w W ∧ Blk W w.heap.size #[.int .i64 K, .slice p len cap, .int .i64 A, .int .i64 R, .int .i64 n, .int .i64 d, .slice q m vc, .int .i64 E] 113 ∧ Blk W (w.heap.size + 1) #[.int .i64 0, .int .i64 0, .int .i64 0, .int .i64 0, .int .u64 0] 271 ∧ RunsIn W (some ⟨g, 0, none⟩) P ∧ ∃ k : Nat, (∃ u : Nat → Value, a' = { tmps := #[u 0, u 1, u 2, .pointer (some ⟨w.heap.size, 0, none⟩), u 4, u 5, .pointer (some ⟨w.heap.size + 1, 0, none⟩), .int .i64 x, u 8, u 9, u 10, u 11, u 12, u 13, u 14, .pointer (some ⟨o, 0, none⟩), u 16, u 17, u 18, u 19, u 20, u 21, u 22, u 23, u 24, u 25, u 26, u 27, u 28, u 29, u 30, u 31, u 32, u 33, u 34, u 35, u 36, u 37, u 38, u 39, u 40, u 41, u 42, u 43, u 44, u 45, u 46, u 47, u 48, u 49, u 50, u 51, u 52, u 53, u 54, u 55, u 56, u 57, u 58, u 59, u 60, u 61, u 62, u 63, u 64, u 65, u 66, u 67, u 68, u 69, u 70, u 71, u 72, u 73, .slice (some ⟨g, 0, none⟩) P.length P.length, .int .i64 (P.length : Int), .int .i64 (k : Int), u 77, u 78, u 79, u 80, u 81, u 82, u 83, u 84, u 85, u 86, u 87, u 88, u 89, u 90, u 91, u 92, u 93, u 94, u 95, u 96, u 97, u 98, u 99, u 100, u 101, u 102, u 103, u 104], defers := [] }) ∧ k ≤ P.length ∧ Blk W o #[.int .i64 (j - i), .int .i64 lo, .int .i64 hi, .int .i64 (hiW (SS k)), .int .u64 (loW (SS k))] 271
end Go.Proofs.YtbanjolokkghdaaGreatDoor
namespace Go.Proofs.YtbanjolokkghdaaGreatDoor
open Go.RowKit
theorem Tryz.infoInt : (Tryz.prog.info? 2).map (fun i => (i.zero, i.size, i.bytes)) = some (some (.int .i64 0), 1, 8) := by kernel_rfl
theorem IntsIn.part {w : World} {vb vo i n : Nat} {raw : List Int} (h : IntsIn w (some ⟨vb, vo, none⟩) raw) (k : Nat) (v : Value) (hv : (((raw.drop i).take n).map (Value.int .i64))[k]? = some v) : w.cell? ((⟨vb, vo + i, none⟩ : Addr).add k) = some v := by
  have hadd : (⟨vb, vo + i, none⟩ : Addr).add k = ⟨vb, vo + i + k, none⟩ := by unfold Addr.add; split <;> simp_all
  rw [hadd]
  simp only [List.getElem?_map, Option.map_eq_some_iff] at hv
  obtain ⟨x, hx, rfl⟩ := hv
  have hx' : raw[i + k]? = some x := by
    rw [List.getElem?_take] at hx
    split at hx
    · rwa [List.getElem?_drop] at hx
    · cases hx
  obtain ⟨b, y, e, hc⟩ := h.at' _ x hx'
  cases e
  rw [Nat.add_assoc]; exact hc
def rpRel (w : World) (i j : Nat) (lo hi : Int) (V : List Int) (SS : Nat → Int) (o : Nat) (a' : Act) (W : World) : Prop :=
  Below w.heap.size w W ∧ Blk W (w.heap.size + 1) #[.int .i64 0, .int .i64 0, .int .i64 0, .int .i64 0, .int .u64 0] 271 ∧ Blk W (w.heap.size + 1 + 1) (V.map (Value.int .i64)).toArray 2 ∧ ∃ k : Nat, (∃ u : Nat → Value, a' = { tmps := #[u 0, u 1, u 2, u 3, u 4, u 5, .pointer (some ⟨w.heap.size + 1, 0, none⟩), u 7, .pointer (some ⟨o, 0, none⟩), u 9, u 10, u 11, u 12, u 13, u 14, u 15, u 16, u 17, u 18, u 19, u 20, u 21, u 22, u 23, u 24, u 25, u 26, u 27, u 28, u 29, u 30, .slice (some ⟨w.heap.size + 1 + 1, 0, none⟩) V.length V.length, .int .i64 (V.length : Int), .int .i64 (k : Int), u 34, u 35, u 36, u 37, u 38, u 39, u 40, u 41, u 42, u 43, u 44, u 45, u 46, u 47], defers := [] }) ∧ k ≤ V.length ∧ Blk W o #[.int .i64 ((j : Int) - (i : Int)), .int .i64 lo, .int .i64 hi, .int .i64 (hiW (SS k)), .int .u64 (loW (SS k))] 271
end Go.Proofs.YtbanjolokkghdaaGreatDoor
