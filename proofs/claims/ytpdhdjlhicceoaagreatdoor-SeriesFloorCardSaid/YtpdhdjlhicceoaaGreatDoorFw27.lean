/- Parts of the proof that follows: slices.Equal, of runs and of numbers; the segment's Same, and the document's. | The document's segments: Same. | References 13, 24: a series that lies twice is the same as itself. No condition. -/
import Derived.Test.YtpdhdjlhicceoaaGreatDoorFw26
set_option linter.unusedSimpArgs false
set_option linter.unusedVariables false
namespace Go.Proofs.YtpdhdjlhicceoaaGreatDoor
open Go.RowKit
def eqRunRel (w : World) (p : Option Addr) (cap : Nat) (p' : Option Addr) (cap' : Nat) (A B : List RunT) (a' : Act) (W : World) : Prop :=
  Below w.heap.size w W ∧ ∃ (i : Nat), (∃ u : Nat → Value, a' = { tmps := #[.slice p A.length cap, .slice p' A.length cap', u 2, u 3, .bool false, u 5, u 6, u 7, u 8, u 9, u 10, u 11, .int .i64 (A.length : Int), .int .i64 (i : Int), u 14, u 15, u 16, u 17, u 18, u 19, u 20, u 21, u 22, u 23, u 24, u 25], defers := [] }) ∧ i ≤ A.length ∧ ∀ k, k < i → A[k]? = B[k]?
set_option maxRecDepth 100000 in
set_option maxHeartbeats 8000000 in
theorem eqRun_w (p : Option Addr) (cap : Nat) (p' : Option Addr) (cap' : Nat) (A B : List RunT) (w : World) (hl : A.length = B.length) (hlen : A.length ≤ 1000000) (hA0 : RunsIn w p A) (hB0 : RunsIn w p' B) :
    Calls Tryz.prog 111 #[.slice p A.length cap, .slice p' A.length cap'] w fun e w' => e = .returned (.bool (decide (A = B))) ∧ Below w.heap.size w w' := by
  go_enter Tryz.func111, Tryz.ntmps111
  replace hl := Lib.hid hl
  go_wp2
  refine wp_loop (eqRunRel w p cap p' cap' A B) (fun a' _ => A.length - (intAt (a'.tmps.getD 13 undef)).toNat) ?_ ?_
  · unfold eqRunRel
    exact ⟨Below.refl _ _, 0, frame_ex rfl, by omega, fun k hk => by omega⟩
  · rintro a' W ⟨hW0, i, ⟨u, rfl⟩, hi', hall⟩
    have hz := hW0.size
    replace hall := Lib.hid hall
    rcases Nat.lt_or_ge i A.length with hlt | hge
    · obtain ⟨r, tr⟩ : ∃ r, A[i]? = some r := ⟨A[i]'(by omega), List.getElem?_eq_getElem (by omega)⟩
      obtain ⟨q, tq⟩ : ∃ q, B[i]? = some q := ⟨B[i]'(by have := hl.out; omega), List.getElem?_eq_getElem (by have := hl.out; omega)⟩
      obtain ⟨b, o, rfl, -⟩ := hA0.at' i r tr
      obtain ⟨b', o', rfl, -⟩ := hB0.at' i q tq
      have hA : RunsP W b o A := ⟨hA0.below hW0⟩
      have hB : RunsP W b' o' B := ⟨hB0.below hW0⟩
      replace tr := Lib.hid tr
      replace tq := Lib.hid tq
      have l1 := hlt
      have l2 : i < B.length := by have := hl.out; omega
      go_upto_region 6 with (fail)
      refine wp_cutB W (Rc (fun W' => RunsP W' b o A) <| Rc (fun W' => RunsP W' b' o' B) <| Bz) ?_ (hI := by exact belowAny) (hR := (Rc.mk (by exact hA.below belowAny) <| Rc.mk (by exact hB.below belowAny) <| trivial))
      rintro W1 hW z2 hL
      obtain ⟨b1, b2, -⟩ := id hL
      refine wp_regQ 9 26 hW hL ?_
      iterate 9
        apply nd_det (hg := rfl) (hal := rfl)
        · intro a W' hC hE
          obtain ⟨_, k1, k2, -⟩ := hC
          obtain ⟨q0, q1, q2⟩ := k1.cellAt tr.out; obtain ⟨q3, q4, q5⟩ := k2.cellAt tq.out
          first
            | (simp [Oper.looksAt, Op.operands, Call.operands, envOf, Det] at hE; simp [go_sem, Act.eval, IntWalk.i64_left, hE, k1, k2, q0, q1, q2, q3, q4, q5, l1, l2, ite_eq3]; try rfl)
            | (clear hE; simp [go_sem, Act.eval, IntWalk.i64_left, k1, k2, q0, q1, q2, q3, q4, q5, l1, l2, ite_eq3]; try rfl)
      clear hW hL b1 b2
      rintro W3 hW z4 hL
      simp only [ndR]
      intros
      simp only [ndS]
      refine wpList_nil ?_
      obtain ⟨b1, b2, -⟩ := hL
      by_cases hrq : r = q
      · have hall' := Lib.hid (show ∀ k, k < i + 1 → A[k]? = B[k]? from fun k hk => by
          rcases Nat.lt_or_ge k i with h | h
          · exact hall.out k h
          · obtain rfl : k = i := by omega
            rw [tr.out, tq.out, hrq])
        rw [show (!decide (r.f = q.f) || !decide (r.s = q.s) || !decide (r.c = q.c)) = false by subst hrq; simp]
        clear hrq
        go_wp2
        rw [show (i : Int) + 1 = ((i + 1 : Nat) : Int) by omega]
        refine ⟨?_, by simp [intAt]; omega⟩
        unfold eqRunRel
        exact ⟨hW0.trans (hW.mono hz), i + 1, frame_ex rfl, by omega, hall'.out⟩
      · have hne := Lib.hid (show decide (A = B) = false by
          rw [decide_eq_false_iff_not]
          rintro rfl
          rw [tr.out] at tq
          exact hrq (Option.some.inj tq.out))
        rw [show (!decide (r.f = q.f) || !decide (r.s = q.s) || !decide (r.c = q.c)) = true by
          obtain ⟨r1, r2, r3⟩ := r
          obtain ⟨q1, q2, q3⟩ := q
          simp at hrq
          simp
          by_cases h1 : r1 = q1 <;> by_cases h2 : r2 = q2 <;> simp [h1, h2] at hrq ⊢
          exact hrq]
        clear hrq
        go_wp2
        go_ret
        exact ⟨by rw [hne.out]; rfl, hW0.trans (hW.mono hz)⟩
    · obtain rfl : i = A.length := by omega
      have heq := Lib.hid (show decide (A = B) = true by
        rw [decide_eq_true_eq]
        apply List.ext_getElem?
        intro k
        rcases Nat.lt_or_ge k A.length with h | h
        · exact hall.out k h
        · rw [List.getElem?_eq_none h, List.getElem?_eq_none (by have := hl.out; omega)])
      go_wp2
      go_ret
      exact ⟨by rw [heq.out]; rfl, hW0⟩
set_option maxRecDepth 100000 in
set_option maxHeartbeats 8000000 in
theorem eqRun_len (p : Option Addr) (n cap : Nat) (p' : Option Addr) (m cap' : Nat) (w : World) (hl : ¬ n = m) :
    Calls Tryz.prog 111 #[.slice p n cap, .slice p' m cap'] w fun e w' => e = .returned (.bool false) ∧ Below w.heap.size w w' := by
  go_enter Tryz.func111, Tryz.ntmps111
  go_wp2
  go_ret
  exact ⟨rfl, Below.refl _ _⟩
theorem c_eqRun (p : Option Addr) (cap : Nat) (p' : Option Addr) (cap' : Nat) (A B : List RunT) (w : World) (hlen : A.length ≤ 1000000) (hA0 : RunsIn w p A) (hB0 : RunsIn w p' B) :
    Calls Tryz.prog 111 #[.slice p A.length cap, .slice p' B.length cap'] w fun e w' => e = .returned (.bool (decide (A = B))) ∧ Below w.heap.size w w' := by
  by_cases h : A.length = B.length
  · rw [← h]; exact eqRun_w p cap p' cap' A B w h hlen hA0 hB0
  · rw [show decide (A = B) = false by rw [decide_eq_false_iff_not]; rintro rfl; exact h rfl]
    exact eqRun_len p _ cap p' _ cap' w h
def eqIntRel (w : World) (p : Option Addr) (cap : Nat) (p' : Option Addr) (cap' : Nat) (A B : List Int) (a' : Act) (W : World) : Prop :=
  Below w.heap.size w W ∧ ∃ (i : Nat), (∃ u : Nat → Value, a' = { tmps := #[.slice p A.length cap, .slice p' A.length cap', u 2, u 3, .bool false, u 5, u 6, u 7, u 8, u 9, u 10, u 11, .int .i64 (A.length : Int), .int .i64 (i : Int), u 14, u 15, u 16, u 17, u 18, u 19, u 20, u 21, u 22, u 23, u 24, u 25], defers := [] }) ∧ i ≤ A.length ∧ ∀ k, k < i → A[k]? = B[k]?
set_option maxRecDepth 100000 in
set_option maxHeartbeats 8000000 in
theorem eqInt_w (p : Option Addr) (cap : Nat) (p' : Option Addr) (cap' : Nat) (A B : List Int) (w : World) (hl : A.length = B.length) (hlen : A.length ≤ 1000000) (hA0 : IntsIn w p A) (hB0 : IntsIn w p' B) :
    Calls Tryz.prog 112 #[.slice p A.length cap, .slice p' A.length cap'] w fun e w' => e = .returned (.bool (decide (A = B))) ∧ Below w.heap.size w w' := by
  go_enter Tryz.func112, Tryz.ntmps112
  replace hl := Lib.hid hl
  go_wp2
  refine wp_loop (eqIntRel w p cap p' cap' A B) (fun a' _ => A.length - (intAt (a'.tmps.getD 13 undef)).toNat) ?_ ?_
  · unfold eqIntRel
    exact ⟨Below.refl _ _, 0, frame_ex rfl, by omega, fun k hk => by omega⟩
  · rintro a' W ⟨hW0, i, ⟨u, rfl⟩, hi', hall⟩
    have hz := hW0.size
    replace hall := Lib.hid hall
    rcases Nat.lt_or_ge i A.length with hlt | hge
    · obtain ⟨r, tr⟩ : ∃ r, A[i]? = some r := ⟨A[i]'(by omega), List.getElem?_eq_getElem (by omega)⟩
      obtain ⟨q, tq⟩ : ∃ q, B[i]? = some q := ⟨B[i]'(by have := hl.out; omega), List.getElem?_eq_getElem (by have := hl.out; omega)⟩
      obtain ⟨b, o, rfl, -⟩ := hA0.at' i r tr
      obtain ⟨b', o', rfl, -⟩ := hB0.at' i q tq
      have hA : IntsP W b o A := ⟨hA0.below hW0⟩
      have hB : IntsP W b' o' B := ⟨hB0.below hW0⟩
      replace tr := Lib.hid tr
      replace tq := Lib.hid tq
      have l1 := hlt
      have l2 : i < B.length := by have := hl.out; omega
      go_upto_region 6 with (fail)
      refine wp_cutB W (Rc (fun W' => IntsP W' b o A) <| Rc (fun W' => IntsP W' b' o' B) <| Bz) ?_ (hI := by exact belowAny) (hR := (Rc.mk (by exact hA.below belowAny) <| Rc.mk (by exact hB.below belowAny) <| trivial))
      rintro W1 hW z2 hL
      obtain ⟨b1, b2, -⟩ := id hL
      refine wp_regQ 9 26 hW hL ?_
      iterate 9 refine dE (fun W' hC => aI (hC.2.1.cellAt tr.out) (aI (hC.2.2.1.cellAt tq.out) (aI l1 l2))) ?_
      clear hW hL b1 b2
      rintro W3 hW z4 hL
      simp only [ndR]
      intros
      simp only [ndS]
      refine wpList_nil ?_
      obtain ⟨b1, b2, -⟩ := hL
      by_cases hrq : r = q
      · have hall' := Lib.hid (show ∀ k, k < i + 1 → A[k]? = B[k]? from fun k hk => by
          rcases Nat.lt_or_ge k i with h | h
          · exact hall.out k h
          · obtain rfl : k = i := by omega
            rw [tr.out, tq.out, hrq])
        rw [show (r != q) = false by subst hrq; simp]
        clear hrq
        go_wp2
        rw [show (i : Int) + 1 = ((i + 1 : Nat) : Int) by omega]
        refine ⟨?_, by simp [intAt]; omega⟩
        unfold eqIntRel
        exact ⟨hW0.trans (hW.mono hz), i + 1, frame_ex rfl, by omega, hall'.out⟩
      · have hne := Lib.hid (show decide (A = B) = false by
          rw [decide_eq_false_iff_not]
          rintro rfl
          rw [tr.out] at tq
          exact hrq (Option.some.inj tq.out))
        rw [show (r != q) = true by
          simp [hrq]]
        clear hrq
        go_wp2
        go_ret
        exact ⟨by rw [hne.out]; rfl, hW0.trans (hW.mono hz)⟩
    · obtain rfl : i = A.length := by omega
      have heq := Lib.hid (show decide (A = B) = true by
        rw [decide_eq_true_eq]
        apply List.ext_getElem?
        intro k
        rcases Nat.lt_or_ge k A.length with h | h
        · exact hall.out k h
        · rw [List.getElem?_eq_none h, List.getElem?_eq_none (by have := hl.out; omega)])
      go_wp2
      go_ret
      exact ⟨by rw [heq.out]; rfl, hW0⟩
set_option maxRecDepth 100000 in
set_option maxHeartbeats 8000000 in
theorem eqInt_len (p : Option Addr) (n cap : Nat) (p' : Option Addr) (m cap' : Nat) (w : World) (hl : ¬ n = m) :
    Calls Tryz.prog 112 #[.slice p n cap, .slice p' m cap'] w fun e w' => e = .returned (.bool false) ∧ Below w.heap.size w w' := by
  go_enter Tryz.func112, Tryz.ntmps112
  go_wp2
  go_ret
  exact ⟨rfl, Below.refl _ _⟩
theorem c_eqInt (p : Option Addr) (cap : Nat) (p' : Option Addr) (cap' : Nat) (A B : List Int) (w : World) (hlen : A.length ≤ 1000000) (hA0 : IntsIn w p A) (hB0 : IntsIn w p' B) :
    Calls Tryz.prog 112 #[.slice p A.length cap, .slice p' B.length cap'] w fun e w' => e = .returned (.bool (decide (A = B))) ∧ Below w.heap.size w w' := by
  by_cases h : A.length = B.length
  · rw [← h]; exact eqInt_w p cap p' cap' A B w h hlen hA0 hB0
  · rw [show decide (A = B) = false by rw [decide_eq_false_iff_not]; rintro rfl; exact h rfl]
    exact eqInt_len p _ cap p' _ cap' w h
theorem ite_l4 {a b c d e f g h : Int} {w : World} : ((if a = b then (if c = d then (if e = f then (if g = h then Result.ok (Go.Next.value (Value.bool true)) w else Result.ok (Go.Next.value (Value.bool false)) w) else Result.ok (Go.Next.value (Value.bool false)) w) else Result.ok (Go.Next.value (Value.bool false)) w) else Result.ok (Go.Next.value (Value.bool false)) w) : Result Go.Next) = Result.ok (Go.Next.value (Value.bool (decide (a = b) && decide (c = d) && decide (e = f) && decide (g = h)))) w := by
  by_cases h1 : a = b <;> by_cases h2 : c = d <;> by_cases h3 : e = f <;> by_cases h4 : g = h <;> simp [h1, h2, h3, h4]
set_option maxRecDepth 100000 in
set_option maxHeartbeats 8000000 in
theorem same_w (K A R n d E : Int) (p q : Option Addr) (len cap m vc : Nat) (w : World) (K' A' R' n' d' E' : Int) (p' q' : Option Addr) (len' cap' m' vc' : Nat) (r1 r2 : Bool)
    (c1 : ∀ W, Below w.heap.size w W → Calls Tryz.prog 111 #[.slice p len cap, .slice p' len' cap'] W fun e w' => e = .returned (.bool r1) ∧ Below W.heap.size W w')
    (c2 : ∀ W, Below w.heap.size w W → Calls Tryz.prog 112 #[.slice q m vc, .slice q' m' vc'] W fun e w' => e = .returned (.bool r2) ∧ Below W.heap.size W w') :
    Calls Tryz.prog 80 #[.agg #[.int .i64 K, .slice p len cap, .int .i64 A, .int .i64 R, .int .i64 n, .int .i64 d, .slice q m vc, .int .i64 E], .agg #[.int .i64 K', .slice p' len' cap', .int .i64 A', .int .i64 R', .int .i64 n', .int .i64 d', .slice q' m' vc', .int .i64 E']] w fun e w' => e = .returned (.bool ((K == K') && (decide (A = A') && decide (R = R') && decide (n = n') && decide (d = d')) && (E == E') && r1 && r2)) ∧ Below w.heap.size w w' := by
  have H_c1 := Lib.hid c1
  clear c1
  have H_c2 := Lib.hid c2
  clear c2
  go_enter Tryz.func80, Tryz.ntmps80
  go_upto_region 1 with (fail)
  refine wp_cutB w (Bc w.heap.size #[.int .i64 K, .slice p len cap, .int .i64 A, .int .i64 R, .int .i64 n, .int .i64 d, .slice q m vc, .int .i64 E] 49 <| Bc (w.heap.size + 1) #[.int .i64 K', .slice p' len' cap', .int .i64 A', .int .i64 R', .int .i64 n', .int .i64 d', .slice q' m' vc', .int .i64 E'] 49 <| Bz) ?_
  rintro W1 hW z2 hL
  refine wp_regS 33 38 hW hL ?_
  iterate 6
    apply nd_det (hg := rfl) (hal := rfl)
    · intro a W' hC hE
      obtain ⟨_, ⟨-, -, k1, -⟩, ⟨-, -, k2, -⟩, -⟩ := hC
      first
        | (simp [Oper.looksAt, Op.operands, Call.operands, envOf, Det] at hE; simp [go_sem, Act.eval, IntWalk.i64_left, hE, k1, k2, ite_l4]; try rfl)
        | (clear hE; simp [go_sem, Act.eval, IntWalk.i64_left, k1, k2, ite_l4]; try rfl)
  iterate 5
    apply nd_detg (p := true) (hg := rfl) (hd := rfl) (hal := rfl)
    · intro v W' h
      simp [envOf, Det, GDet] at h
      simp
      exact h
    · intro hp hx a W' hC hE
      obtain ⟨_, ⟨-, -, k1, -⟩, ⟨-, -, k2, -⟩, -⟩ := hC
      simp [Oper.looksAt, Op.operands, Call.operands, envOf, Det, GDet, hx] at hE
      simp [go_sem, Act.eval, IntWalk.i64_left, hE, k1, k2, ite_l4]
      try rfl
  refine pA ?_
  iterate 1
    apply nd_det (hg := rfl) (hal := rfl)
    · intro a W' hC hE
      obtain ⟨_, ⟨-, -, k1, -⟩, ⟨-, -, k2, -⟩, -⟩ := hC
      first
        | (simp [Oper.looksAt, Op.operands, Call.operands, envOf, Det] at hE; simp [go_sem, Act.eval, IntWalk.i64_left, hE, k1, k2, ite_l4]; try rfl)
        | (clear hE; simp [go_sem, Act.eval, IntWalk.i64_left, k1, k2, ite_l4]; try rfl)
  iterate 5
    apply nd_detg (p := true) (hg := rfl) (hd := rfl) (hal := rfl)
    · intro v W' h
      simp [envOf, Det, GDet] at h
      simp
      exact h
    · intro hp hx a W' hC hE
      obtain ⟨_, ⟨-, -, k1, -⟩, ⟨-, -, k2, -⟩, -⟩ := hC
      simp [Oper.looksAt, Op.operands, Call.operands, envOf, Det, GDet, hx] at hE
      simp [go_sem, Act.eval, IntWalk.i64_left, hE, k1, k2, ite_l4]
      try rfl
  refine pA ?_
  iterate 1
    apply nd_det (hg := rfl) (hal := rfl)
    · intro a W' hC hE
      obtain ⟨_, ⟨-, -, k1, -⟩, ⟨-, -, k2, -⟩, -⟩ := hC
      first
        | (simp [Oper.looksAt, Op.operands, Call.operands, envOf, Det] at hE; simp [go_sem, Act.eval, IntWalk.i64_left, hE, k1, k2, ite_l4]; try rfl)
        | (clear hE; simp [go_sem, Act.eval, IntWalk.i64_left, k1, k2, ite_l4]; try rfl)
  iterate 4
    apply nd_detg (p := true) (hg := rfl) (hd := rfl) (hal := rfl)
    · intro v W' h
      simp [envOf, Det, GDet] at h
      simp
      exact h
    · intro hp hx a W' hC hE
      obtain ⟨_, ⟨-, -, k1, -⟩, ⟨-, -, k2, -⟩, -⟩ := hC
      simp [Oper.looksAt, Op.operands, Call.operands, envOf, Det, GDet, hx] at hE
      simp [go_sem, Act.eval, IntWalk.i64_left, hE, k1, k2, ite_l4]
      try rfl
  apply nd_callvg2 (p := true) (hg := rfl) (hd := rfl) (hal := rfl)
  · intro v W' h
    simp [envOf, Det] at h
    simp
    exact h
  · intro hp hx W' hC
    exact H_c1.out W' (hW.trans (hC.1.of_priv hW.size))
  · intro hp hx a W' hC hE
    obtain ⟨_, ⟨-, -, k1, -⟩, ⟨-, -, k2, -⟩, -⟩ := hC
    first
      | (simp [Oper.looksAt, Op.operands, Call.operands, envOf, Det, GDet, hx] at hE; simp [go_sem, Act.eval, IntWalk.i64_left, hE, k1, k2, ite_l4]; try rfl)
      | (clear hE; simp [go_sem, Act.eval, IntWalk.i64_left, k1, k2, ite_l4]; try rfl)
  refine pA ?_
  iterate 1
    apply nd_det (hg := rfl) (hal := rfl)
    · intro a W' hC hE
      obtain ⟨_, ⟨-, -, k1, -⟩, ⟨-, -, k2, -⟩, -⟩ := hC
      first
        | (simp [Oper.looksAt, Op.operands, Call.operands, envOf, Det] at hE; simp [go_sem, Act.eval, IntWalk.i64_left, hE, k1, k2, ite_l4]; try rfl)
        | (clear hE; simp [go_sem, Act.eval, IntWalk.i64_left, k1, k2, ite_l4]; try rfl)
  iterate 4
    apply nd_detg (p := true) (hg := rfl) (hd := rfl) (hal := rfl)
    · intro v W' h
      simp [envOf, Det, GDet] at h
      simp
      exact h
    · intro hp hx a W' hC hE
      obtain ⟨_, ⟨-, -, k1, -⟩, ⟨-, -, k2, -⟩, -⟩ := hC
      simp [Oper.looksAt, Op.operands, Call.operands, envOf, Det, GDet, hx] at hE
      simp [go_sem, Act.eval, IntWalk.i64_left, hE, k1, k2, ite_l4]
      try rfl
  apply nd_callvg2 (p := true) (hg := rfl) (hd := rfl) (hal := rfl)
  · intro v W' h
    simp [envOf, Det] at h
    simp
    exact h
  · intro hp hx W' hC
    exact H_c2.out W' (hW.trans (hC.1.of_priv hW.size))
  · intro hp hx a W' hC hE
    obtain ⟨_, ⟨-, -, k1, -⟩, ⟨-, -, k2, -⟩, -⟩ := hC
    first
      | (simp [Oper.looksAt, Op.operands, Call.operands, envOf, Det, GDet, hx] at hE; simp [go_sem, Act.eval, IntWalk.i64_left, hE, k1, k2, ite_l4]; try rfl)
      | (clear hE; simp [go_sem, Act.eval, IntWalk.i64_left, k1, k2, ite_l4]; try rfl)
  refine pA ?_
  clear hW hL
  rintro W3 hW z4 hL
  simp only [ndR]
  intros
  repeat (rename GDet _ _ _ _ => hgd; clear hgd)
  simp only [ndS]
  obtain ⟨⟨b1, yb1, k1, f1⟩, ⟨b2, yb2, k2, f2⟩, -⟩ := hL
  go_wp2
  refine bodyPost_ret (v := .bool ((K == K') && (decide (A = A') && decide (R = R') && decide (n = n') && decide (d = d')) && (E == E') && r1 && r2)) (by simp [results, Tryz.results80, go_sem, k1, f1, k2, f2, yb1, yb2]) rfl ⟨rfl, hW⟩
end Go.Proofs.YtpdhdjlhicceoaaGreatDoor
namespace Go.Proofs.YtpdhdjlhicceoaaGreatDoor
open Go.RowKit
def rsRel (w : World) (K A R n d E : Int) (p q : Option Addr) (len cap vc : Nat) (K' A' R' n' d' E' : Int) (p' q' : Option Addr) (len' cap' vc' : Nat) (V V' : List Int) (a' : Act) (W : World) : Prop :=
  Below w.heap.size w W ∧ Blk W w.heap.size #[.int .i64 K, .slice p len cap, .int .i64 A, .int .i64 R, .int .i64 n, .int .i64 d, .slice q V.length vc, .int .i64 E] 49 ∧ Blk W (w.heap.size + 1) #[.int .i64 K', .slice p' len' cap', .int .i64 A', .int .i64 R', .int .i64 n', .int .i64 d', .slice q' V.length vc', .int .i64 E'] 49 ∧ ∃ (i : Nat), (∃ u : Nat → Value, a' = { tmps := #[u 0, u 1, .pointer (some ⟨w.heap.size, 0, none⟩), .pointer (some ⟨w.heap.size + 1, 0, none⟩), .bool false, .int .i64 (i : Int), u 6, u 7, u 8, u 9, u 10, u 11, u 12, u 13, u 14, u 15, u 16, u 17, u 18, u 19, u 20, u 21, u 22, u 23, u 24, u 25, u 26, u 27, u 28, u 29, u 30, u 31, u 32, u 33, u 34, u 35, u 36, u 37, u 38, u 39, u 40, u 41, u 42, u 43, u 44, u 45, u 46, u 47, u 48, u 49, u 50, u 51, u 52, u 53, u 54, u 55, u 56, u 57, u 58, u 59], defers := [] }) ∧ i ≤ V.length ∧ ∀ k, k < i → V[k]? = V'[k]?
/-- Are two segments the same? -/
def sameT (s t : SegT) : Bool := (s.K == t.K) && (decide (s.A = t.A) && decide (s.R = t.R) && decide (s.n = t.n) && decide (s.d = t.d)) && (s.E == t.E) && decide (s.runs = t.runs) && decide (s.raw = t.raw)
theorem sameT_refl (s : SegT) : sameT s s = true := by simp [sameT]
theorem c_segSame (s t : SegT) (p q p' q' : Option Addr) (cap vc cap' vc' : Nat) (w : World) (h : SegIn w s p q) (h' : SegIn w t p' q') :
    Calls Tryz.prog 80 #[.agg (segA s p q cap vc), .agg (segA t p' q' cap' vc')] w fun e w' => e = .returned (.bool (sameT s t)) ∧ Below w.heap.size w w' := by
  have a := h.fewR; have b := h.fewV
  exact same_w _ _ _ _ _ _ p q _ cap _ vc w _ _ _ _ _ _ p' q' _ cap' _ vc' _ _ (fun W hW => c_eqRun p cap p' cap' s.runs t.runs W (by omega) (h.runs.below hW) (h'.runs.below hW)) (fun W hW => c_eqInt q vc q' vc' s.raw t.raw W (by omega) (h.raw.below hW) (h'.raw.below hW))
end Go.Proofs.YtpdhdjlhicceoaaGreatDoor
namespace Go.Proofs.YtpdhdjlhicceoaaGreatDoor
open Go.RowKit
def s13Rel (w : World) (p p' : Option Addr) (cap cap' : Nat) (l : List SegT) (a' : Act) (W : World) : Prop :=
  Below w.heap.size w W ∧ ∃ i : Nat, (∃ u : Nat → Value, a' = { tmps := #[.slice p l.length cap, .slice p' l.length cap', u 2, u 3, u 4, .int .i64 (i : Int), u 6, u 7, u 8, u 9, u 10, u 11, u 12, u 13, u 14, u 15, u 16, u 17, u 18, u 19, u 20, u 21, u 22, u 23, u 24, u 25, u 26], defers := [] }) ∧ i ≤ l.length
def s24Rel (w : World) (s : SerT) (ps1 ps2 : Option Addr) (cs1 cs2 : Nat) (po1 po2 : Option Addr) (co1 co2 : Nat) (a' : Act) (W : World) : Prop :=
  Below w.heap.size w W ∧ Blk W w.heap.size #[.string s.name, .int .i64 s.eps, .int .i64 s.floor, .int .i64 s.last, .int .i64 s.scale, .slice ps1 s.segs.length cs1, .slice po1 s.opn.length co1] 26 ∧ Blk W (w.heap.size + 1) #[.string s.name, .int .i64 s.eps, .int .i64 s.floor, .int .i64 s.last, .int .i64 s.scale, .slice ps2 s.segs.length cs2, .slice po2 s.opn.length co2] 26 ∧ ∃ i : Nat, (∃ u : Nat → Value, a' = { tmps := #[u 0, u 1, .pointer (some ⟨w.heap.size, 0, none⟩), .pointer (some ⟨w.heap.size + 1, 0, none⟩), u 4, u 5, u 6, u 7, u 8, u 9, u 10, u 11, u 12, u 13, u 14, u 15, u 16, u 17, u 18, u 19, u 20, u 21, u 22, u 23, u 24, u 25, u 26, u 27, u 28, u 29, u 30, u 31, u 32, u 33, u 34, u 35, u 36, u 37, u 38, u 39, u 40, u 41, u 42, u 43, u 44, u 45, u 46, u 47, u 48, u 49, u 50, u 51, u 52, u 53, u 54, u 55, u 56, u 57, .int .i64 (s.opn.length : Int), .int .i64 (i : Int), u 60, u 61, u 62, u 63, u 64, u 65, u 66, u 67, u 68, u 69, u 70, u 71, u 72, u 73], defers := [] }) ∧ i ≤ s.opn.length
end Go.Proofs.YtpdhdjlhicceoaaGreatDoor
