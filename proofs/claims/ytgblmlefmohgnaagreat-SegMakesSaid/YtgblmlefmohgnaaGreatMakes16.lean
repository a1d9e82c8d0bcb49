/- For all runs, every line, all numbers and every bound that come in: SegMakes returns true; the arguments read as before. No condition. -/
import Derived.Test.YtgblmlefmohgnaaGreatRows
import Derived.ProofKit
import Derived.Deep.Slices
import Derived.OpenShut
import Derived.Test.YtgblmlefmohgnaaGreatMakes15
set_option linter.unusedSimpArgs false
set_option linter.unusedVariables false
namespace Go.Proofs.YtgblmlefmohgnaaGreat
open Go.RowKit
def eqRunRel (w : World) (p : Option Addr) (cap : Nat) (p' : Option Addr) (cap' : Nat) (A B : List RunT) (a' : Act) (W : World) : Prop :=
  Below w.heap.size w W ∧ ∃ (i : Nat), (∃ u : Nat → Value, a' = { tmps := #[.slice p A.length cap, .slice p' A.length cap', u 2, u 3, .bool false, u 5, u 6, u 7, u 8, u 9, u 10, u 11, .int .i64 (A.length : Int), .int .i64 (i : Int), u 14, u 15, u 16, u 17, u 18, u 19, u 20, u 21, u 22, u 23, u 24, u 25], defers := [] }) ∧ i ≤ A.length ∧ ∀ k, k < i → A[k]? = B[k]?
set_option maxRecDepth 100000 in
set_option maxHeartbeats 8000000 in
theorem eqRun_w (p : Option Addr) (cap : Nat) (p' : Option Addr) (cap' : Nat) (A B : List RunT) (w : World) (hl : A.length = B.length) (hlen : A.length ≤ 1000000) (hA0 : RunsIn w p A) (hB0 : RunsIn w p' B) :
    Calls Tryz.prog 53 #[.slice p A.length cap, .slice p' A.length cap'] w fun e w' => e = .returned (.bool (decide (A = B))) ∧ Below w.heap.size w w' := by
  go_enter Tryz.func53, Tryz.ntmps53
  replace hl := Lib.hid hl
  go_wp2
  refine wp_loop (eqRunRel w p cap p' cap' A B) (fun a' _ => A.length - (intAt (a'.tmps.getD 13 undef)).toNat) ?_ ?_
  · unfold eqRunRel
    exact ⟨Below.refl _ _, 0, frame_ex rfl, by omega, fun k hk => by omega⟩
  · rintro a' W ⟨hW0, i, ⟨u, rfl⟩, hi', hall⟩
    have hz := hW0.size
    replace hall := Lib.hid hall
    rcases Nat.lt_or_ge i A.length with hlt | hge
    · obtain ⟨r, tr⟩ : ∃ r, A[i]? = some r := ⟨A[i]'(by omega), List.getElem?_eq_getElem (by omega)⟩
      obtain ⟨q, tq⟩ : ∃ q, B[i]? = some q := ⟨B[i]'(by have := hl.out; omega), List.getElem?_eq_getElem (by have := hl.out; omega)⟩
      obtain ⟨b, o, rfl, -⟩ := hA0.at' i r tr
      obtain ⟨b', o', rfl, -⟩ := hB0.at' i q tq
      have hA : RunsP W b o A := ⟨hA0.below hW0⟩
      have hB : RunsP W b' o' B := ⟨hB0.below hW0⟩
      replace tr := Lib.hid tr
      replace tq := Lib.hid tq
      have l1 := hlt
      have l2 : i < B.length := by have := hl.out; omega
      go_upto_region 6 with (fail)
      refine wp_facts (fun W' => Below W.heap.size W W' ∧ RunsP W' b o A ∧ RunsP W' b' o' B) ⟨by exact belowAny, by exact hA.below belowAny, by exact hB.below belowAny⟩ ?_
      rintro W1 ⟨hW, b1, b2⟩
      have z2 := hW.size
      refine wp_region_ndQ 9 26 [] (fun W' => Rex [] W1 W' ∧ RunsP W' b o A ∧ RunsP W' b' o' B) mixed (by kernel_rfl) rfl ⟨(Rex.refl _ _).drew, b1.drew, b2.drew⟩ (fun w w' ⟨h0, h1, h2⟩ hr => ⟨h0.trans hr, h1.rex hr (by simp <;> omega), h2.rex hr (by simp <;> omega)⟩) rfl ?_
      iterate 9
        apply nd_det (hg := rfl) (hal := rfl)
        · intro a W' hC hE
          obtain ⟨_, k1, k2⟩ := hC
          obtain ⟨q0, q1, q2⟩ := k1.cellAt tr.out; obtain ⟨q3, q4, q5⟩ := k2.cellAt tq.out
          first
            | (simp [Oper.looksAt, Op.operands, Call.operands, envOf, Det] at hE; simp [go_sem, Act.eval, IntWalk.i64_left, hE, k1, k2, q0, q1, q2, q3, q4, q5, l1, l2, ite_eq3]; try rfl)
            | (clear hE; simp [go_sem, Act.eval, IntWalk.i64_left, k1, k2, q0, q1, q2, q3, q4, q5, l1, l2, ite_eq3]; try rfl)
      rintro W3 ⟨hR, d1, d2⟩
      simp only [ndFinR, Det, forall_eq]
      intros
      repeat (rename GDet _ _ _ _ => hgd; clear hgd)
      simp only [Act.put, List.setIfInBounds_toArray, List.set_cons_zero, List.set_cons_succ]
      refine wpList_nil ?_
      replace hW := hW.trans (hR.of_priv hW.size)
      clear hR
      try clear b1 b2
      have b1 := d1
      clear d1
      have b2 := d2
      clear d2
      by_cases hrq : r = q
      · have hall' := Lib.hid (show ∀ k, k < i + 1 → A[k]? = B[k]? from fun k hk => by
          rcases Nat.lt_or_ge k i with h | h
          · exact hall.out k h
          · obtain rfl : k = i := by omega
            rw [tr.out, tq.out, hrq])
        rw [show (!decide (r.f = q.f) || !decide (r.s = q.s) || !decide (r.c = q.c)) = false by subst hrq; simp]
        clear hrq
        go_wp2
        rw [show (i : Int) + 1 = ((i + 1 : Nat) : Int) by omega]
        refine ⟨?_, by simp [intAt]; omega⟩
        unfold eqRunRel
        exact ⟨hW0.trans (hW.mono hz), i + 1, frame_ex rfl, by omega, hall'.out⟩
      · have hne := Lib.hid (show decide (A = B) = false by
          rw [decide_eq_false_iff_not]
          rintro rfl
          rw [tr.out] at tq
          exact hrq (Option.some.inj tq.out))
        rw [show (!decide (r.f = q.f) || !decide (r.s = q.s) || !decide (r.c = q.c)) = true by
          obtain ⟨r1, r2, r3⟩ := r
          obtain ⟨q1, q2, q3⟩ := q
          simp at hrq
          simp
          by_cases h1 : r1 = q1 <;> by_cases h2 : r2 = q2 <;> simp [h1, h2] at hrq ⊢
          exact hrq]
        clear hrq
        go_wp2
        go_ret
        exact ⟨by rw [hne.out]; rfl, hW0.trans (hW.mono hz)⟩
    · obtain rfl : i = A.length := by omega
      have heq := Lib.hid (show decide (A = B) = true by
        rw [decide_eq_true_eq]
        apply List.ext_getElem?
        intro k
        rcases Nat.lt_or_ge k A.length with h | h
        · exact hall.out k h
        · rw [List.getElem?_eq_none h, List.getElem?_eq_none (by have := hl.out; omega)])
      go_wp2
      go_ret
      exact ⟨by rw [heq.out]; rfl, hW0⟩
set_option maxRecDepth 100000 in
set_option maxHeartbeats 8000000 in
theorem eqRun_len (p : Option Addr) (n cap : Nat) (p' : Option Addr) (m cap' : Nat) (w : World) (hl : ¬ n = m) :
    Calls Tryz.prog 53 #[.slice p n cap, .slice p' m cap'] w fun e w' => e = .returned (.bool false) ∧ Below w.heap.size w w' := by
  go_enter Tryz.func53, Tryz.ntmps53
  go_wp2
  go_ret
  exact ⟨rfl, Below.refl _ _⟩
theorem c_eqRun (p : Option Addr) (cap : Nat) (p' : Option Addr) (cap' : Nat) (A B : List RunT) (w : World) (hlen : A.length ≤ 1000000) (hA0 : RunsIn w p A) (hB0 : RunsIn w p' B) :
    Calls Tryz.prog 53 #[.slice p A.length cap, .slice p' B.length cap'] w fun e w' => e = .returned (.bool (decide (A = B))) ∧ Below w.heap.size w w' := by
  by_cases h : A.length = B.length
  · rw [← h]; exact eqRun_w p cap p' cap' A B w h hlen hA0 hB0
  · rw [show decide (A = B) = false by rw [decide_eq_false_iff_not]; rintro rfl; exact h rfl]
    exact eqRun_len p _ cap p' _ cap' w h
def eqIntRel (w : World) (p : Option Addr) (cap : Nat) (p' : Option Addr) (cap' : Nat) (A B : List Int) (a' : Act) (W : World) : Prop :=
  Below w.heap.size w W ∧ ∃ (i : Nat), (∃ u : Nat → Value, a' = { tmps := #[.slice p A.length cap, .slice p' A.length cap', u 2, u 3, .bool false, u 5, u 6, u 7, u 8, u 9, u 10, u 11, .int .i64 (A.length : Int), .int .i64 (i : Int), u 14, u 15, u 16, u 17, u 18, u 19, u 20, u 21, u 22, u 23, u 24, u 25], defers := [] }) ∧ i ≤ A.length ∧ ∀ k, k < i → A[k]? = B[k]?
set_option maxRecDepth 100000 in
set_option maxHeartbeats 8000000 in
theorem eqInt_w (p : Option Addr) (cap : Nat) (p' : Option Addr) (cap' : Nat) (A B : List Int) (w : World) (hl : A.length = B.length) (hlen : A.length ≤ 1000000) (hA0 : IntsIn w p A) (hB0 : IntsIn w p' B) :
    Calls Tryz.prog 54 #[.slice p A.length cap, .slice p' A.length cap'] w fun e w' => e = .returned (.bool (decide (A = B))) ∧ Below w.heap.size w w' := by
  go_enter Tryz.func54, Tryz.ntmps54
  replace hl := Lib.hid hl
  go_wp2
  refine wp_loop (eqIntRel w p cap p' cap' A B) (fun a' _ => A.length - (intAt (a'.tmps.getD 13 undef)).toNat) ?_ ?_
  · unfold eqIntRel
    exact ⟨Below.refl _ _, 0, frame_ex rfl, by omega, fun k hk => by omega⟩
  · rintro a' W ⟨hW0, i, ⟨u, rfl⟩, hi', hall⟩
    have hz := hW0.size
    replace hall := Lib.hid hall
    rcases Nat.lt_or_ge i A.length with hlt | hge
    · obtain ⟨r, tr⟩ : ∃ r, A[i]? = some r := ⟨A[i]'(by omega), List.getElem?_eq_getElem (by omega)⟩
      obtain ⟨q, tq⟩ : ∃ q, B[i]? = some q := ⟨B[i]'(by have := hl.out; omega), List.getElem?_eq_getElem (by have := hl.out; omega)⟩
      obtain ⟨b, o, rfl, -⟩ := hA0.at' i r tr
      obtain ⟨b', o', rfl, -⟩ := hB0.at' i q tq
      have hA : IntsP W b o A := ⟨hA0.below hW0⟩
      have hB : IntsP W b' o' B := ⟨hB0.below hW0⟩
      replace tr := Lib.hid tr
      replace tq := Lib.hid tq
      have l1 := hlt
      have l2 : i < B.length := by have := hl.out; omega
      go_upto_region 6 with (fail)
      refine wp_facts (fun W' => Below W.heap.size W W' ∧ IntsP W' b o A ∧ IntsP W' b' o' B) ⟨by exact belowAny, by exact hA.below belowAny, by exact hB.below belowAny⟩ ?_
      rintro W1 ⟨hW, b1, b2⟩
      have z2 := hW.size
      refine wp_region_ndQ 9 26 [] (fun W' => Rex [] W1 W' ∧ IntsP W' b o A ∧ IntsP W' b' o' B) mixed (by kernel_rfl) rfl ⟨(Rex.refl _ _).drew, b1.drew, b2.drew⟩ (fun w w' ⟨h0, h1, h2⟩ hr => ⟨h0.trans hr, h1.rex hr (by simp <;> omega), h2.rex hr (by simp <;> omega)⟩) rfl ?_
      iterate 9
        apply nd_det (hg := rfl) (hal := rfl)
        · intro a W' hC hE
          obtain ⟨_, k1, k2⟩ := hC
          have q0 := k1.cellAt tr.out; have q1 := k2.cellAt tq.out
          first
            | (simp [Oper.looksAt, Op.operands, Call.operands, envOf, Det] at hE; simp [go_sem, Act.eval, IntWalk.i64_left, hE, k1, k2, q0, q1, l1, l2]; try rfl)
            | (clear hE; simp [go_sem, Act.eval, IntWalk.i64_left, k1, k2, q0, q1, l1, l2]; try rfl)
      rintro W3 ⟨hR, d1, d2⟩
      simp only [ndFinR, Det, forall_eq]
      intros
      repeat (rename GDet _ _ _ _ => hgd; clear hgd)
      simp only [Act.put, List.setIfInBounds_toArray, List.set_cons_zero, List.set_cons_succ]
      refine wpList_nil ?_
      replace hW := hW.trans (hR.of_priv hW.size)
      clear hR
      try clear b1 b2
      have b1 := d1
      clear d1
      have b2 := d2
      clear d2
      by_cases hrq : r = q
      · have hall' := Lib.hid (show ∀ k, k < i + 1 → A[k]? = B[k]? from fun k hk => by
          rcases Nat.lt_or_ge k i with h | h
          · exact hall.out k h
          · obtain rfl : k = i := by omega
            rw [tr.out, tq.out, hrq])
        rw [show (r != q) = false by subst hrq; simp]
        clear hrq
        go_wp2
        rw [show (i : Int) + 1 = ((i + 1 : Nat) : Int) by omega]
        refine ⟨?_, by simp [intAt]; omega⟩
        unfold eqIntRel
        exact ⟨hW0.trans (hW.mono hz), i + 1, frame_ex rfl, by omega, hall'.out⟩
      · have hne := Lib.hid (show decide (A = B) = false by
          rw [decide_eq_false_iff_not]
          rintro rfl
          rw [tr.out] at tq
          exact hrq (Option.some.inj tq.out))
        rw [show (r != q) = true by
          simp [hrq]]
        clear hrq
        go_wp2
        go_ret
        exact ⟨by rw [hne.out]; rfl, hW0.trans (hW.mono hz)⟩
    · obtain rfl : i = A.length := by omega
      have heq := Lib.hid (show decide (A = B) = true by
        rw [decide_eq_true_eq]
        apply List.ext_getElem?
        intro k
        rcases Nat.lt_or_ge k A.length with h | h
        · exact hall.out k h
        · rw [List.getElem?_eq_none h, List.getElem?_eq_none (by have := hl.out; omega)])
      go_wp2
      go_ret
      exact ⟨by rw [heq.out]; rfl, hW0⟩
set_option maxRecDepth 100000 in
set_option maxHeartbeats 8000000 in
theorem eqInt_len (p : Option Addr) (n cap : Nat) (p' : Option Addr) (m cap' : Nat) (w : World) (hl : ¬ n = m) :
    Calls Tryz.prog 54 #[.slice p n cap, .slice p' m cap'] w fun e w' => e = .returned (.bool false) ∧ Below w.heap.size w w' := by
  go_enter Tryz.func54, Tryz.ntmps54
  go_wp2
  go_ret
  exact ⟨rfl, Below.refl _ _⟩
theorem c_eqInt (p : Option Addr) (cap : Nat) (p' : Option Addr) (cap' : Nat) (A B : List Int) (w : World) (hlen : A.length ≤ 1000000) (hA0 : IntsIn w p A) (hB0 : IntsIn w p' B) :
    Calls Tryz.prog 54 #[.slice p A.length cap, .slice p' B.length cap'] w fun e w' => e = .returned (.bool (decide (A = B))) ∧ Below w.heap.size w w' := by
  by_cases h : A.length = B.length
  · rw [← h]; exact eqInt_w p cap p' cap' A B w h hlen hA0 hB0
  · rw [show decide (A = B) = false by rw [decide_eq_false_iff_not]; rintro rfl; exact h rfl]
    exact eqInt_len p _ cap p' _ cap' w h
theorem ite_l4 {a b c d e f g h : Int} {w : World} : ((if a = b then (if c = d then (if e = f then (if g = h then Result.ok (Go.Next.value (Value.bool true)) w else Result.ok (Go.Next.value (Value.bool false)) w) else Result.ok (Go.Next.value (Value.bool false)) w) else Result.ok (Go.Next.value (Value.bool false)) w) else Result.ok (Go.Next.value (Value.bool false)) w) : Result Go.Next) = Result.ok (Go.Next.value (Value.bool (decide (a = b) && decide (c = d) && decide (e = f) && decide (g = h)))) w := by
  by_cases h1 : a = b <;> by_cases h2 : c = d <;> by_cases h3 : e = f <;> by_cases h4 : g = h <;> simp [h1, h2, h3, h4]
set_option maxRecDepth 100000 in
set_option maxHeartbeats 8000000 in
theorem same_w (K A R n d E : Int) (p q : Option Addr) (len cap m vc : Nat) (w : World) (K' A' R' n' d' E' : Int) (p' q' : Option Addr) (len' cap' m' vc' : Nat) (r1 r2 : Bool)
    (c1 : ∀ W, Below w.heap.size w W → Calls Tryz.prog 53 #[.slice p len cap, .slice p' len' cap'] W fun e w' => e = .returned (.bool r1) ∧ Below W.heap.size W w')
    (c2 : ∀ W, Below w.heap.size w W → Calls Tryz.prog 54 #[.slice q m vc, .slice q' m' vc'] W fun e w' => e = .returned (.bool r2) ∧ Below W.heap.size W w') :
    Calls Tryz.prog 21 #[.agg #[.int .i64 K, .slice p len cap, .int .i64 A, .int .i64 R, .int .i64 n, .int .i64 d, .slice q m vc, .int .i64 E], .agg #[.int .i64 K', .slice p' len' cap', .int .i64 A', .int .i64 R', .int .i64 n', .int .i64 d', .slice q' m' vc', .int .i64 E']] w fun e w' => e = .returned (.bool ((K == K') && (decide (A = A') && decide (R = R') && decide (n = n') && decide (d = d')) && (E == E') && r1 && r2)) ∧ Below w.heap.size w w' := by
  have H_c1 := Lib.hid c1
  clear c1
  have H_c2 := Lib.hid c2
  clear c2
  go_enter Tryz.func21, Tryz.ntmps21
  go_upto_region 1 with (fail)
  refine wp_facts (fun W' => Below w.heap.size w W' ∧ Blk W' w.heap.size #[.int .i64 K, .slice p len cap, .int .i64 A, .int .i64 R, .int .i64 n, .int .i64 d, .slice q m vc, .int .i64 E] 27 ∧ Blk W' (w.heap.size + 1) #[.int .i64 K', .slice p' len' cap', .int .i64 A', .int .i64 R', .int .i64 n', .int .i64 d', .slice q' m' vc', .int .i64 E'] 27) ⟨by exact belowAny, by exact blkAny2, by exact blkAny2⟩ ?_
  rintro W1 ⟨hW, b1, b2⟩
  have z2 := hW.size
  have z3 := b1.lt
  have z4 := b2.lt
  have c1 := H_c1.out
  have c2 := H_c2.out
  refine wp_region_sq 33 38 [] (fun W' => Rex [] W1 W' ∧ Blk W' w.heap.size #[.int .i64 K, .slice p len cap, .int .i64 A, .int .i64 R, .int .i64 n, .int .i64 d, .slice q m vc, .int .i64 E] 27 ∧ Blk W' (w.heap.size + 1) #[.int .i64 K', .slice p' len' cap', .int .i64 A', .int .i64 R', .int .i64 n', .int .i64 d', .slice q' m' vc', .int .i64 E'] 27) (by kernel_rfl) rfl ⟨(Rex.refl _ _), b1, b2⟩ (fun w w' ⟨h0, h1, h2⟩ hr => ⟨h0.trans hr, h1.rex hr (by simp <;> omega), h2.rex hr (by simp <;> omega)⟩) ?_
  iterate 6
    apply nd_det (hg := rfl) (hal := rfl)
    · intro a W' hC hE
      obtain ⟨_, k1, k2⟩ := hC
      have k1 := k1.cell
      have k2 := k2.cell
      first
        | (simp [Oper.looksAt, Op.operands, Call.operands, envOf, Det] at hE; simp [go_sem, Act.eval, IntWalk.i64_left, hE, k1, k2, ite_l4]; try rfl)
        | (clear hE; simp [go_sem, Act.eval, IntWalk.i64_left, k1, k2, ite_l4]; try rfl)
  iterate 5
    apply nd_detg (p := true) (hg := rfl) (hd := rfl) (hal := rfl)
    · intro v W' h
      simp [envOf, Det] at h
      simp
      exact h
    · intro hp hx a W' hC hE
      obtain ⟨_, k1, k2⟩ := hC
      have k1 := k1.cell
      have k2 := k2.cell
      simp [Oper.looksAt, Op.operands, Call.operands, envOf, Det, GDet, hx] at hE
      simp [go_sem, Act.eval, IntWalk.i64_left, hE, k1, k2, ite_l4]
      try rfl
  apply nd_pick_and (ho := rfl) (hg := rfl)
  · intro v W' h
    simp [envOf, Det] at h
    exact h
  · intro v W' h hx
    simp [envOf, GDet, hx] at h
    exact h
  iterate 1
    apply nd_det (hg := rfl) (hal := rfl)
    · intro a W' hC hE
      obtain ⟨_, k1, k2⟩ := hC
      have k1 := k1.cell
      have k2 := k2.cell
      first
        | (simp [Oper.looksAt, Op.operands, Call.operands, envOf, Det] at hE; simp [go_sem, Act.eval, IntWalk.i64_left, hE, k1, k2, ite_l4]; try rfl)
        | (clear hE; simp [go_sem, Act.eval, IntWalk.i64_left, k1, k2, ite_l4]; try rfl)
  iterate 5
    apply nd_detg (p := true) (hg := rfl) (hd := rfl) (hal := rfl)
    · intro v W' h
      simp [envOf, Det] at h
      simp
      exact h
    · intro hp hx a W' hC hE
      obtain ⟨_, k1, k2⟩ := hC
      have k1 := k1.cell
      have k2 := k2.cell
      simp [Oper.looksAt, Op.operands, Call.operands, envOf, Det, GDet, hx] at hE
      simp [go_sem, Act.eval, IntWalk.i64_left, hE, k1, k2, ite_l4]
      try rfl
  apply nd_pick_and (ho := rfl) (hg := rfl)
  · intro v W' h
    simp [envOf, Det] at h
    exact h
  · intro v W' h hx
    simp [envOf, GDet, hx] at h
    exact h
  iterate 1
    apply nd_det (hg := rfl) (hal := rfl)
    · intro a W' hC hE
      obtain ⟨_, k1, k2⟩ := hC
      have k1 := k1.cell
      have k2 := k2.cell
      first
        | (simp [Oper.looksAt, Op.operands, Call.operands, envOf, Det] at hE; simp [go_sem, Act.eval, IntWalk.i64_left, hE, k1, k2, ite_l4]; try rfl)
        | (clear hE; simp [go_sem, Act.eval, IntWalk.i64_left, k1, k2, ite_l4]; try rfl)
  iterate 4
    apply nd_detg (p := true) (hg := rfl) (hd := rfl) (hal := rfl)
    · intro v W' h
      simp [envOf, Det] at h
      simp
      exact h
    · intro hp hx a W' hC hE
      obtain ⟨_, k1, k2⟩ := hC
      have k1 := k1.cell
      have k2 := k2.cell
      simp [Oper.looksAt, Op.operands, Call.operands, envOf, Det, GDet, hx] at hE
      simp [go_sem, Act.eval, IntWalk.i64_left, hE, k1, k2, ite_l4]
      try rfl
  apply nd_callvg2 (p := true) (hg := rfl) (hd := rfl) (hal := rfl)
  · intro v W' h
    simp [envOf, Det] at h
    simp
    exact h
  · intro hp hx W' hC
    exact c1 W' (hW.trans (hC.1.of_priv hW.size))
  · intro hp hx a W' hC hE
    obtain ⟨_, k1, k2⟩ := hC
    have k1 := k1.cell
    have k2 := k2.cell
    first
      | (simp [Oper.looksAt, Op.operands, Call.operands, envOf, Det, GDet, hx] at hE; simp [go_sem, Act.eval, IntWalk.i64_left, hE, k1, k2, ite_l4]; try rfl)
      | (clear hE; simp [go_sem, Act.eval, IntWalk.i64_left, k1, k2, ite_l4]; try rfl)
  apply nd_pick_and (ho := rfl) (hg := rfl)
  · intro v W' h
    simp [envOf, Det] at h
    exact h
  · intro v W' h hx
    simp [envOf, GDet, hx] at h
    exact h
  iterate 1
    apply nd_det (hg := rfl) (hal := rfl)
    · intro a W' hC hE
      obtain ⟨_, k1, k2⟩ := hC
      have k1 := k1.cell
      have k2 := k2.cell
      first
        | (simp [Oper.looksAt, Op.operands, Call.operands, envOf, Det] at hE; simp [go_sem, Act.eval, IntWalk.i64_left, hE, k1, k2, ite_l4]; try rfl)
        | (clear hE; simp [go_sem, Act.eval, IntWalk.i64_left, k1, k2, ite_l4]; try rfl)
  iterate 4
    apply nd_detg (p := true) (hg := rfl) (hd := rfl) (hal := rfl)
    · intro v W' h
      simp [envOf, Det] at h
      simp
      exact h
    · intro hp hx a W' hC hE
      obtain ⟨_, k1, k2⟩ := hC
      have k1 := k1.cell
      have k2 := k2.cell
      simp [Oper.looksAt, Op.operands, Call.operands, envOf, Det, GDet, hx] at hE
      simp [go_sem, Act.eval, IntWalk.i64_left, hE, k1, k2, ite_l4]
      try rfl
  apply nd_callvg2 (p := true) (hg := rfl) (hd := rfl) (hal := rfl)
  · intro v W' h
    simp [envOf, Det] at h
    simp
    exact h
  · intro hp hx W' hC
    exact c2 W' (hW.trans (hC.1.of_priv hW.size))
  · intro hp hx a W' hC hE
    obtain ⟨_, k1, k2⟩ := hC
    have k1 := k1.cell
    have k2 := k2.cell
    first
      | (simp [Oper.looksAt, Op.operands, Call.operands, envOf, Det, GDet, hx] at hE; simp [go_sem, Act.eval, IntWalk.i64_left, hE, k1, k2, ite_l4]; try rfl)
      | (clear hE; simp [go_sem, Act.eval, IntWalk.i64_left, k1, k2, ite_l4]; try rfl)
  apply nd_pick_and (ho := rfl) (hg := rfl)
  · intro v W' h
    simp [envOf, Det] at h
    exact h
  · intro v W' h hx
    simp [envOf, GDet, hx] at h
    exact h
  rintro W5 ⟨hR, d1, d2⟩
  simp only [ndFinR, Det, forall_eq]
  intros
  repeat (rename GDet _ _ _ _ => hgd; clear hgd)
  simp only [Act.put, List.setIfInBounds_toArray, List.set_cons_zero, List.set_cons_succ, List.drop_succ_cons, List.drop_zero]
  replace hW := hW.trans (hR.of_priv hW.size)
  clear hR
  clear c1
  clear c2
  try clear b1 b2
  have b1 := d1
  clear d1
  have b2 := d2
  clear d2
  have k1 := b1.cell
  have f1 := b1.frozen
  have k2 := b2.cell
  have f2 := b2.frozen
  go_wp2
  have y_1 := b1.lt
  have y_2 := b2.lt
  refine bodyPost_ret (v := .bool ((K == K') && (decide (A = A') && decide (R = R') && decide (n = n') && decide (d = d')) && (E == E') && r1 && r2)) (by simp [results, Tryz.results21, go_sem, k1, f1, k2, f2, y_1, y_2]) rfl ⟨rfl, hW⟩
end Go.Proofs.YtgblmlefmohgnaaGreat
namespace Go.Proofs.YtgblmlefmohgnaaGreat
open Go.RowKit
def rsRel (w : World) (K A R n d E : Int) (p q : Option Addr) (len cap vc : Nat) (K' A' R' n' d' E' : Int) (p' q' : Option Addr) (len' cap' vc' : Nat) (V V' : List Int) (a' : Act) (W : World) : Prop :=
  Below w.heap.size w W ∧ Blk W w.heap.size #[.int .i64 K, .slice p len cap, .int .i64 A, .int .i64 R, .int .i64 n, .int .i64 d, .slice q V.length vc, .int .i64 E] 27 ∧ Blk W (w.heap.size + 1) #[.int .i64 K', .slice p' len' cap', .int .i64 A', .int .i64 R', .int .i64 n', .int .i64 d', .slice q' V.length vc', .int .i64 E'] 27 ∧ ∃ (i : Nat), (∃ u : Nat → Value, a' = { tmps := #[u 0, u 1, .pointer (some ⟨w.heap.size, 0, none⟩), .pointer (some ⟨w.heap.size + 1, 0, none⟩), .bool false, .int .i64 (i : Int), u 6, u 7, u 8, u 9, u 10, u 11, u 12, u 13, u 14, u 15, u 16, u 17, u 18, u 19, u 20, u 21, u 22, u 23, u 24, u 25, u 26, u 27, u 28, u 29, u 30, u 31, u 32, u 33, u 34, u 35, u 36, u 37, u 38, u 39, u 40, u 41, u 42, u 43, u 44, u 45, u 46, u 47, u 48, u 49, u 50, u 51, u 52, u 53, u 54, u 55, u 56, u 57, u 58, u 59], defers := [] }) ∧ i ≤ V.length ∧ ∀ k, k < i → V[k]? = V'[k]?
/-- Are two segments the same? -/
def sameT (s t : SegT) : Bool := (s.K == t.K) && (decide (s.A = t.A) && decide (s.R = t.R) && decide (s.n = t.n) && decide (s.d = t.d)) && (s.E == t.E) && decide (s.runs = t.runs) && decide (s.raw = t.raw)
theorem sameT_refl (s : SegT) : sameT s s = true := by simp [sameT]
theorem c_segSame (s t : SegT) (p q p' q' : Option Addr) (cap vc cap' vc' : Nat) (w : World) (h : SegIn w s p q) (h' : SegIn w t p' q') :
    Calls Tryz.prog 21 #[.agg (segA s p q cap vc), .agg (segA t p' q' cap' vc')] w fun e w' => e = .returned (.bool (sameT s t)) ∧ Below w.heap.size w w' := by
  have a := h.fewR; have b := h.fewV
  exact same_w _ _ _ _ _ _ p q _ cap _ vc w _ _ _ _ _ _ p' q' _ cap' _ vc' _ _ (fun W hW => c_eqRun p cap p' cap' s.runs t.runs W (by omega) (h.runs.below hW) (h'.runs.below hW)) (fun W hW => c_eqInt q vc q' vc' s.raw t.raw W (by omega) (h.raw.below hW) (h'.raw.below hW))
end Go.Proofs.YtgblmlefmohgnaaGreat
namespace Go.Proofs.YtgblmlefmohgnaaGreat
open Go.ChangeShapes Go.WideShapes Go.ChangeAt Go.RowKit Go.Deep

section
variable {H : Type} {enc : TypeId × Value → H} {P : Program}
theorem trodAll_stays (hl : laidOutB P = true) {W W' : World} (hb : Below W.heap.size W W') {sp : Nat → Bool} : ∀ (ts : List TypeId) (vs : List Value) (ds : List (DataW H)) (ps : List MemPlace), (∀ t, t ∈ ts → P.readableRec t = true ∧ t < P.types.size) →
    DataW.TrodAll enc P W 0 (fun _ => true) true ts vs ds ps → (∀ p ∈ ps, p.block < W.heap.size) → (∀ p ∈ ps, sp p.block = true) → DataW.TrodAll enc P W' 0 sp true ts vs ds ps
  | [], vs, ds, ps, _, h, _, _ => by
    obtain ⟨rfl, rfl, rfl⟩ := trodAll_nil h
    rfl
  | t :: ts, vs, ds, ps, hr, h, hlt, hs => by
    obtain ⟨v, vs', d, ds', p, q, rfl, rfl, rfl, h1, h2⟩ := trodAll_cons h
    exact ⟨p, q, WideElems.Trod_stays hl (hr t (by simp)).1 (hr t (by simp)).2 h1 (fun x hx => hb.same (hlt x (by simp [hx]))) (fun x hx => hs x (by simp [hx])),
      trodAll_stays hl hb ts vs' ds' q (fun u hu => hr u (by simp [hu])) h2 (fun x hx => hlt x (by simp [hx])) (fun x hx => hs x (by simp [hx])), rfl⟩
theorem law_post {f : Func} {s : ChangeSpec} {apart fresh handsOn again : Bool} {W W' : World} {args : Array Value} {ds : List (DataW H)} {before : List MemPlace} {tb : TypeId} (hl : laidOutB P = true)
    (hpar : ∀ t, t ∈ f.params.toList → P.readableRec t = true ∧ t < P.types.size) (hres : f.resultTypes = #[tb]) (htb : P.underlying tb = some .bool) (hv : s.vars = [])
    (hW : DataW.Whole enc P f.params.toList s.vars apart W args.toList ds [] before) (hb : Below W.heap.size W W') (hfn : s.fn H ds = { results := [.lit (.bool true)], args := ds }) :
    s.post enc P f apart fresh handsOn again W args (.bool true) W' := by
  have hlt : ∀ p ∈ before, p.block < W.heap.size := fun p hp => hW.lt p hp
  have hold : ∀ p ∈ before, (fun b => decide (b < W.heap.size)) p.block = true := fun p hp => by simpa using hlt p hp
  have hW' := hW
  obtain ⟨p, q, hA, hV, rfl, hz, hn⟩ := hW
  rw [hv] at hV
  obtain ⟨_, rfl⟩ := trodVars_none hV
  have hR : ∀ (b : Nat) (sp : Nat → Bool) (hd : Bool), DataW.TrodAll enc P W' b sp hd f.resultTypes.toList ((Value.bool true).resultList f.resultTypes.size) (s.fn H (ds ++ [])).results [] := fun b sp hd => by
    rw [hres, List.append_nil, hfn]
    exact trodAll_mk1 (shut_bool htb _)
  have hargs : ∀ sp : Nat → Bool, (∀ x ∈ p ++ [], sp x.block = true) → DataW.TrodAll enc P W' 0 sp true f.params.toList args.toList (s.fn H (ds ++ [])).args p := fun sp hsp => by
    rw [List.append_nil, hfn]
    exact trodAll_stays hl hb _ _ _ _ hpar hA (fun x hx => hlt x (by simp [hx])) (fun x hx => hsp x (by simp [hx]))
  have hvars : ∀ sp : Nat → Bool, (∀ x ∈ p ++ [], sp x.block = true) → DataW.TrodVars enc P W' sp s.vars (s.fn H (ds ++ [])).vars [] := fun sp _ => by
    rw [hv, List.append_nil, hfn]
    rfl
  refine ⟨ds, [], p ++ [], [], p, [], hW', hR _ _ _, hargs _ hold, hvars _ hold, World.keptBut_mono (fun x hx => ⟨hx, ?_⟩) (hb.frame (· ∈ p ++ [])), fun _ => ?_⟩
  · exact Or.inr (by simpa using hx)
  · refine ⟨?_, _, _, ([] ++ p) ++ [], ⟨[] ++ p, [], trodAll_append (hargs _ (fun _ _ => rfl)) (hR _ _ _), hvars _ (fun _ _ => rfl), rfl, ?_, ?_⟩, ?_⟩
    · exact ok_one hres rfl (okWide_bool_mk htb _)
    · intro b off hx
      have hin : MemPlace.cell b off ∈ p ++ [] := by simpa using hx
      rw [hb.frozen (hlt _ hin)]
      exact hz b off hin
    · intro ha
      simpa using hn ha
    · intro x hx _
      simpa using hx
end

/-- The fields of a struct: type and place. -/
def fieldsOf (P : Program) (t : TypeId) : Array (TypeId × Nat) := match P.underlying t with | some (.struct fs) => fs.map fun f => (f.type, f.offset) | _ => #[]
section
variable {H : Type} {enc : TypeId × Value → H} {P : Program} {w : World} {base : Nat} {spare : Nat → Bool} {held : Bool}
theorem open_struct {t : TypeId} {fl : Array (TypeId × Nat)} {fuel : Nat} {cs : List Value} {x : DataW H × List MemPlace} (hf : fieldsOf P t = fl) (hne : fl.size ≠ 0) (h : DataW.trod enc P w base spare held fuel t cs = some x) :
    cs.length = P.cellsOf t ∧ ∀ (i : Nat) (ty : TypeId) (off : Nat), fl[i]? = some (ty, off) → ∃ n y, DataW.trod enc P w base spare held n ty ((cs.drop off).take (P.cellsOf ty)) = some y := by
  unfold fieldsOf at hf
  split at hf
  · rename_i fs hu
    obtain ⟨xs, n, _, _, hl, hxl, hat⟩ := DataW.trod_struct hu h
    refine ⟨hl, fun i ty off hi => ?_⟩
    subst hf
    simp only [Array.getElem?_map, Option.map_eq_some_iff, Prod.mk.injEq] at hi
    obtain ⟨f, h1, h2, h3⟩ := hi
    have hh := hat i f h1
    have hlt : i < xs.length := by have := (Array.getElem?_eq_some_iff.1 h1).1; omega
    rw [List.getElem?_eq_getElem hlt] at hh
    subst h2; subst h3
    exact ⟨n, _, hh⟩
  · subst hf; simp at hne
theorem struct_of {t : TypeId} {fl : Array (TypeId × Nat)} (hf : fieldsOf P t = fl) (hne : fl.size ≠ 0) : ∃ fs, P.underlying t = some (.struct fs) := by
  unfold fieldsOf at hf
  split at hf
  · rename_i fs hu
    exact ⟨fs, hu⟩
  · subst hf; simp at hne
/-- A struct whose fields are all numbers of 64 bits. -/
theorem open_ints_struct {t : TypeId} {fl : Array (TypeId × Nat)} {fuel : Nat} {cs : List Value} {x : DataW H × List MemPlace} (hf : fieldsOf P t = fl) (hne : fl.size ≠ 0) (hn : P.cellsOf t = fl.size)
    (ha : ∀ i, i < fl.size → ∃ ty, fl[i]? = some (ty, i) ∧ P.underlying ty = some (.int .i64) ∧ P.cellsOf ty = 1) (h : DataW.trod enc P w base spare held fuel t cs = some x) :
    cs.length = fl.size ∧ ∀ i, i < fl.size → ∃ z : Int, cs[i]? = some (.int .i64 z) ∧ I64 z := by
  obtain ⟨hl, hat⟩ := open_struct hf hne h
  refine ⟨by omega, fun i hi => ?_⟩
  obtain ⟨ty, h1, h2, h3⟩ := ha i hi
  obtain ⟨n, y, hy⟩ := hat i ty i h1
  obtain ⟨z, hz, _, hw⟩ := DataW.trod_int h2 hy
  refine ⟨z, ?_, ?_⟩
  · rw [h3] at hz
    have : ((cs.drop i).take 1)[0]? = some (.int .i64 z) := by rw [hz]; rfl
    simpa using this
  · simp [Lit.wf, IntKind.min, IntKind.max, IntKind.signed, IntKind.bits] at hw
    exact ⟨by omega, by omega⟩
theorem list_of {α : Type} {Q : Nat → α → Prop} : ∀ n, (∀ i, i < n → ∃ x, Q i x) → ∃ l : List α, l.length = n ∧ ∀ i x, l[i]? = some x → Q i x
  | 0, _ => ⟨[], rfl, fun i x h => by simp at h⟩
  | n + 1, h => by
    obtain ⟨l, hl, hq⟩ := list_of n fun i hi => h i (by omega)
    obtain ⟨x, hx⟩ := h n (by omega)
    refine ⟨l ++ [x], by simp [hl], fun i y hy => ?_⟩
    rcases Nat.lt_or_ge i l.length with hlt | hge
    · rw [List.getElem?_append_left hlt] at hy
      exact hq i y hy
    · rw [List.getElem?_append_right hge] at hy
      have : i = l.length := by
        rcases Nat.eq_or_lt_of_le hge with e | e
        · exact e.symm
        · rw [List.getElem?_eq_none (by simp; omega)] at hy; cases hy
      subst this
      simp at hy
      rw [hl, ← hy]
      exact hx
theorem spot_none {a : Addr} {v : Value} (h : w.cell? a = some v) : a = ⟨a.block, a.off, none⟩ := by
  obtain ⟨b, o, s⟩ := a
  cases s with
  | none => rfl
  | some k =>
    unfold World.cell? at h
    simp at h
    split at h <;> cases h
theorem add_at {b o n : Nat} : (⟨b, o, none⟩ : Addr).add n = ⟨b, o + n, none⟩ := by unfold Addr.add; split <;> simp_all
/-- A slice of structs of n numbers each. -/
theorem open_rows {t e : TypeId} {n fuel : Nat} {fl : Array (TypeId × Nat)} {cs : List Value} {x : DataW H × List MemPlace} (ht : P.underlying t = some (.slice e)) (hf : fieldsOf P e = fl) (hfl : fl.size = n) (hn0 : n ≠ 0) (hn : P.cellsOf e = n)
    (ha : ∀ i, i < fl.size → ∃ ty, fl[i]? = some (ty, i) ∧ P.underlying ty = some (.int .i64) ∧ P.cellsOf ty = 1) (h : DataW.trod enc P w base spare held fuel t cs = some x) :
    ∃ (p : Option Addr) (len cap : Nat), cs = [.slice p len cap] ∧ (p = none → len = 0 ∧ cap = 0) ∧ len ≤ cap ∧ cap ≤ maxLen ∧
      ∀ i, i < len → ∃ b o, p = some ⟨b, o, none⟩ ∧ ∀ j, j < n → ∃ z : Int, w.cell? ⟨b, o + i * n + j, none⟩ = some (.int .i64 z) ∧ I64 z := by
  rcases open_slice ht h with ⟨rfl, rfl⟩ | ⟨a, len, cap, m, k, D, Pl, rfl, hb, hl, hm, hmm, hx, hi⟩
  · exact ⟨none, 0, 0, rfl, fun _ => ⟨rfl, rfl⟩, Nat.le_refl _, Nat.zero_le _, fun i hi => by omega⟩
  · refine ⟨some a, len, cap, rfl, (fun e => by cases e), hl, hm, fun i hilt => ?_⟩
    have hlm : len ≤ m := by rw [hmm]; split <;> omega
    have key : ∀ i, i < len → ∀ j, j < n → ∃ z : Int, w.cell? (a.add (i * n + j)) = some (.int .i64 z) ∧ I64 z := by
      intro i hilt j hj
      obtain ⟨cs', hc, ht'⟩ := hi i (by omega)
      obtain ⟨_, hcl, hat⟩ := World.cells?_some hc
      obtain ⟨hl', hz⟩ := open_ints_struct hf (by omega) (by omega) ha ht'
      obtain ⟨z, hz1, hz2⟩ := hz j (by omega)
      have := hat j (by omega)
      rw [add_add, hn, hz1] at this
      exact ⟨z, this, hz2⟩
    obtain ⟨z0, hz0, _⟩ := key 0 (by omega) 0 (by omega)
    simp [Addr.add] at hz0
    have hs := spot_none hz0
    refine ⟨a.block, a.off, by rw [← hs], fun j hj => ?_⟩
    obtain ⟨z, h1, h2⟩ := key i hilt j hj
    rw [hs, add_at] at h1
    exact ⟨z, by rw [Nat.add_assoc]; exact h1, h2⟩
/-- A slice of numbers. -/
theorem open_nums {t e : TypeId} {fuel : Nat} {cs : List Value} {x : DataW H × List MemPlace} (ht : P.underlying t = some (.slice e)) (he : P.underlying e = some (.int .i64)) (hc : P.cellsOf e = 1) (h : DataW.trod enc P w base spare held fuel t cs = some x) :
    ∃ (p : Option Addr) (l : List Int) (cap : Nat), cs = [.slice p l.length cap] ∧ (p = none → l = [] ∧ cap = 0) ∧ l.length ≤ cap ∧ cap ≤ maxLen ∧ IntsIn w p l ∧ ∀ z, z ∈ l → I64 z := by
  rcases open_ints ht he hc h with ⟨rfl, _⟩ | ⟨a, len, cap, zs, rfl, hb, hl, hm, hzl, _, hz, hw⟩
  · exact ⟨none, [], 0, rfl, fun _ => ⟨rfl, rfl⟩, Nat.le_refl _, Nat.zero_le _, ⟨fun i x h => by simp at h⟩, fun z h => by simp at h⟩
  · have hle : len ≤ zs.length := by rw [hzl]; split <;> omega
    refine ⟨some a, zs.take len, cap, by simp [hle], (fun e => by cases e), by simp; omega, hm, ⟨fun i x hx => ?_⟩, fun z hz' => ?_⟩
    · rw [List.getElem?_take] at hx
      split at hx
      · rename_i hil
        have h0 := hz 0 (by omega)
        simp [Addr.add] at h0
        have hs := spot_none h0
        have hi := hz i (by omega)
        rw [hs, add_at] at hi
        refine ⟨a.block, a.off, by rw [← hs], ?_⟩
        rw [hi, List.getD_eq_getElem?_getD, hx]
        rfl
      · cases hx
    · have := hw z (List.mem_of_mem_take hz')
      simp [Lit.wf, IntKind.min, IntKind.max, IntKind.signed, IntKind.bits] at this
      exact ⟨by omega, by omega⟩
end
section
variable {H : Type} {enc : TypeId × Value → H} {w : World} {base : Nat} {spare : Nat → Bool} {held : Bool}
theorem Tryz.fieldsRun : fieldsOf Tryz.prog 51 = #[(2, 0), (2, 1), (3, 2)] := by kernel_rfl
theorem Tryz.fieldsLine : fieldsOf Tryz.prog 24 = #[(2, 0), (2, 1), (2, 2), (2, 3)] := by kernel_rfl
theorem Tryz.isInt : Tryz.prog.underlying 3 = some (.int .i64) ∧ Tryz.prog.cellsOf 3 = 1 := ⟨by kernel_rfl, by kernel_rfl⟩
theorem Tryz.isInt64 : Tryz.prog.underlying 2 = some (.int .i64) ∧ Tryz.prog.cellsOf 2 = 1 := ⟨by kernel_rfl, by kernel_rfl⟩
set_option maxRecDepth 100000 in
theorem open_run_list {fuel : Nat} {cs : List Value} {x : DataW H × List MemPlace} (h : DataW.trod enc Tryz.prog w base spare held fuel 22 cs = some x) :
    ∃ (p : Option Addr) (l : List RunT) (cap : Nat), cs = [.slice p l.length cap] ∧ (p = none → l = [] ∧ cap = 0) ∧ l.length ≤ cap ∧ cap ≤ maxLen ∧ RunsIn w p l ∧ ∀ r, r ∈ l → I64 r.f ∧ I64 r.s ∧ I64 r.c := by
  obtain ⟨p, len, cap, rfl, hn, hl, hm, hi⟩ := open_rows (n := 3) (by kernel_rfl) Tryz.fieldsRun rfl (by omega) (by kernel_rfl) (fun i hi => by
    match i, hi with
    | 0, _ => exact ⟨_, rfl, Tryz.isInt64⟩
    | 1, _ => exact ⟨_, rfl, Tryz.isInt64⟩
    | 2, _ => exact ⟨_, rfl, Tryz.isInt⟩) h
  obtain ⟨l, rfl, hq⟩ := list_of (Q := fun i (r : RunT) => (∃ b o, p = some ⟨b, o, none⟩ ∧ w.cell? ⟨b, o + i * 3, none⟩ = some (.int .i64 r.f) ∧ w.cell? ⟨b, o + i * 3 + 1, none⟩ = some (.int .i64 r.s) ∧ w.cell? ⟨b, o + i * 3 + 2, none⟩ = some (.int .i64 r.c)) ∧ I64 r.f ∧ I64 r.s ∧ I64 r.c) len (fun i hilt => by
    obtain ⟨b, o, e, hj⟩ := hi i hilt
    obtain ⟨f, f1, f2⟩ := hj 0 (by omega)
    obtain ⟨s, s1, s2⟩ := hj 1 (by omega)
    obtain ⟨c, c1, c2⟩ := hj 2 (by omega)
    exact ⟨⟨f, s, c⟩, ⟨b, o, e, by simpa using f1, s1, c1⟩, f2, s2, c2⟩)
  refine ⟨p, l, cap, rfl, fun e => ⟨List.length_eq_zero_iff.1 (hn e).1, (hn e).2⟩, hl, hm, ⟨fun i r hr => (hq i r hr).1⟩, fun r hr => ?_⟩
  obtain ⟨i, hi⟩ := List.getElem?_of_mem hr
  exact (hq i r hi).2
end
theorem pars_ok {P : Program} {ts : List TypeId} (h : (ts.all fun t => P.readableRec t && decide (t < P.types.size)) = true) : ∀ t, t ∈ ts → P.readableRec t = true ∧ t < P.types.size := fun t ht => by
  have := List.all_eq_true.1 h t ht
  simpa using this
theorem Tryz.ownKnob : ownKnob Tryz.prog.godebug = none := by kernel_rfl
theorem Tryz.laidOut : laidOutB Tryz.prog = true := by kernel_rfl
end Go.Proofs.YtgblmlefmohgnaaGreat
namespace Go.Proofs.YtgblmlefmohgnaaGreat
open Go.ChangeShapes Go.WideShapes Go.ChangeAt Go.RowKit
theorem c_sameI (s : SegT) (p q p' q' : Option Addr) (cap vc cap' vc' : Nat) (w : World) (h : SegIn w s p q) (h' : SegIn w s p' q') :
    Calls Tryz.prog 21 #[.agg (segA s p q cap vc), .agg (segA s p' q' cap' vc')] w fun e w' => e = .returned (.bool true) ∧ Below w.heap.size w w' := by
  have := c_segSame s s p q p' q' cap vc cap' vc' w h h'
  rw [sameT_refl] at this
  exact this
theorem c_sameZ (w : World) :
    Calls Tryz.prog 21 #[.agg (segA ⟨0, [], 0, 0, 0, 0, [], 0⟩ none none 0 0), .agg (segA ⟨0, [], 0, 0, 0, 0, [], 0⟩ none none 0 0)] w fun e w' => e = .returned (.bool true) ∧ Below w.heap.size w w' :=
  c_sameI ⟨0, [], 0, 0, 0, 0, [], 0⟩ none none none none 0 0 0 0 w ⟨⟨fun i r h => by simp at h⟩, ints_nil w none, by simp, by simp⟩ ⟨⟨fun i r h => by simp at h⟩, ints_nil w none, by simp, by simp⟩
theorem TyP.lt {w : World} {p : Option Addr} {T : TypeId} (h : TyP w p T) : ∀ a, p = some a → a.block < w.heap.size := fun a e => by
  obtain ⟨cur, fz, hh⟩ := h a e
  exact (Array.getElem?_eq_some_iff.1 hh).1
theorem raw_pos {l : List RunT} {v : List Int} {E : Int} (h : segB ⟨4, l, 0, 0, 0, 0, v, E⟩ = true) : 0 < l.length ∧ 0 < v.length := by
  have hc := cnt_pos (segB_runs h)
  have hn := segB_ne h
  refine ⟨List.length_pos_iff.2 hn, ?_⟩
  rcases segB_cases h with ⟨hk, _⟩ | ⟨_, he, _⟩
  · simp at hk
  · simp only at he hc
    omega
theorem kind0 {l : List RunT} {A R n d E : Int} : segB ⟨0, l, A, R, n, d, [], E⟩ = false := by
  cases h : segB ⟨0, l, A, R, n, d, [], E⟩ with
  | false => rfl
  | true =>
    rcases segB_cases h with ⟨hk, _⟩ | ⟨hk, _⟩ <;> simp at hk
theorem c_makes (A R n d E : Int) (p q : Option Addr) (cap vc : Nat) (l : List RunT) (v : List Int) (w : World) (hl : RunsIn w p l) (hv : IntsIn w q v) (np : p = none → l = [] ∧ cap = 0) (nq : q = none → v = [] ∧ vc = 0) (lp : l.length ≤ cap) (lq : v.length ≤ vc) (mp : cap ≤ maxLen) (mq : vc ≤ maxLen) :
    Calls Tryz.prog 4 #[.slice p l.length cap, .agg #[.int .i64 A, .int .i64 R, .int .i64 n, .int .i64 d], .slice q v.length vc, .int .i64 E] w fun e w' => e = .returned (.bool true) ∧ Below w.heap.size w w' := by
  unfold maxLen at mp mq
  have ht : (l.take 300).length ≤ 300 := by simp; omega
  have hvt : (v.take 300).length ≤ 300 := by simp; omega
  have ml : l.length ≤ 9223372036854775807 := by omega
  have mv : v.length ≤ 9223372036854775807 := by omega
  have own1 := fun (K0 : Int) W (hW : Below w.heap.size w W) => (c_own ⟨K0, l, A, R, n, d, [], E⟩ p none cap 0 W ⟨hl.below hW, ints_nil W none, np, fun _ => ⟨rfl, rfl⟩, lp, Nat.le_refl _, ml, by simp⟩).mono (R' := fun e w' => ∃ p1 c1 q1 v1, e = .returned (.agg (segA ⟨K0, l.take 300, A, R, n, d, [], E⟩ p1 q1 c1 v1)) ∧ Below W.heap.size W w' ∧ SegIn w' ⟨K0, l.take 300, A, R, n, d, [], E⟩ p1 q1)
    (fun e w' ⟨p1, c1, q1, v1, e1, hB, hS, _⟩ => ⟨p1, c1, q1, v1, e1, hB, hS⟩)
  have ownT := fun W (hW : Below w.heap.size w W) => c_ownT ⟨4, l, 0, 0, 0, 0, v, E⟩ p q cap vc W ⟨hl.below hW, hv.below hW, np, nq, lp, lq, ml, mv⟩
  have own2 := fun W (hW : Below w.heap.size w W) => (ownT W hW).mono (R' := fun e w' => ∃ p2 c2 q2 v2, e = .returned (.agg (segA ⟨4, l.take 300, 0, 0, 0, 0, v.take 300, E⟩ p2 q2 c2 v2)) ∧ Below W.heap.size W w' ∧ SegIn w' ⟨4, l.take 300, 0, 0, 0, 0, v.take 300, E⟩ p2 q2 ∧ (∀ a, p2 = some a → a.block < w'.heap.size) ∧ (∀ a, q2 = some a → a.block < w'.heap.size))
    (fun e w' ⟨p2, c2, q2, v2, e1, hB, hS, _, t1, t2⟩ => ⟨p2, c2, q2, v2, e1, hB, hS, t1.lt, t2.lt⟩)
  have own3 := fun W (hW : Below w.heap.size w W) => (ownT W hW).mono (R' := fun e w' => ∃ x, e = .returned x ∧ Below W.heap.size W w' ∧ OM ⟨4, l.take 300, 0, 0, 0, 0, v.take 300, E⟩ E (l.take 300).length (v.take 300).length x w')
    (fun e w' ⟨p2, c2, q2, v2, e1, hB, hS, _, _, _⟩ => ⟨_, e1, hB, p2, q2, c2, v2, rfl, hS⟩)
  have rawYes := fun (hs2 : segB ⟨4, l.take 300, 0, 0, 0, 0, v.take 300, E⟩ = true) (W : World) (p2 q2 : Option Addr) (c2 v2 : Nat) (h : SegIn W ⟨4, l.take 300, 0, 0, 0, 0, v.take 300, E⟩ p2 q2) =>
    (c_segRawYes E p2 q2 c2 v2 (l.take 300) (v.take 300) W h hs2 (List.length_pos_iff.1 (raw_pos hs2).2) ht hvt).mono (R' := fun e w' => ∃ c4 v4 j4 o4 g4 r4 z4 y4, e = .returned (.tuple #[.agg (segA ⟨4, l.take 300, 0, 0, 0, 0, v.take 300, E⟩ (some ⟨j4, o4, none⟩) (some ⟨g4, r4, none⟩) c4 v4), .int .i64 0]) ∧ Below W.heap.size W w' ∧ SegIn w' ⟨4, l.take 300, 0, 0, 0, 0, v.take 300, E⟩ (some ⟨j4, o4, none⟩) (some ⟨g4, r4, none⟩) ∧ W.heap.size ≤ j4 ∧ W.heap.size ≤ g4 ∧ j4 ≠ g4 ∧ WrP w' j4 o4 z4 ∧ WrP w' g4 r4 y4)
      (fun e w' ⟨p', c', q', v', e1, hB, hR, hI, hc, hd, hf, hg, hF, hG⟩ => by
        obtain ⟨r, hr⟩ : ∃ r, (l.take 300)[0]? = some r := ⟨_, List.getElem?_eq_getElem (raw_pos hs2).1⟩
        obtain ⟨z, hz⟩ : ∃ z, (v.take 300)[0]? = some z := ⟨_, List.getElem?_eq_getElem (raw_pos hs2).2⟩
        obtain ⟨j4, o4, rfl, k1, -, -⟩ := hR.at' 0 r hr
        obtain ⟨g4, r4, rfl, k2⟩ := hI.at' 0 z hz
        obtain ⟨cur, f1⟩ := hF _ rfl
        obtain ⟨cur', f2⟩ := hG _ rfl
        simp only [Nat.zero_mul, Nat.add_zero] at k1 k2
        refine ⟨c', v', j4, o4, g4, r4, r.f, z, e1, hB, ⟨hR, hI, ht, hvt⟩, hf _ rfl, hg _ rfl, fun e9 => ?_, ⟨k1, cur, _, f1⟩, ⟨k2, cur', _, f2⟩⟩
        simp only at f1 f2
        rw [e9, f2] at f1
        simp at f1)
  cases hL : isLine A R n d with
  | false =>
    have hK : kindL A R n d = 0 := by unfold kindL; rw [hL]; rfl
    have hs1 : segB ⟨0, l.take 300, A, R, n, d, [], E⟩ = false := kind0
    cases hs2 : segB ⟨4, l.take 300, 0, 0, 0, 0, v.take 300, E⟩ with
    | false =>
      exact makes_00 A R n d E p q l.length cap v.length vc w (l.take 300).length 0 (l.take 300).length (v.take 300).length ⟨0, l.take 300, A, R, n, d, [], E⟩ ⟨4, l.take 300, 0, 0, 0, 0, v.take 300, E⟩ (fun W _ => c_wakes W) (fun W _ => by have := c_rline A R n d W; rw [hL] at this; exact this) (fun W _ => by have := c_Kind A R n d W; rw [hK] at this; exact this) (own1 0) own2 (fun W p1 q1 c1 v1 h => by have := c_segOfNo A R n d E p1 c1 (l.take 300) W h.runs (by rw [hK]; exact hs1) ht; exact this) (fun W p2 q2 c2 v2 h => c_segRawNo E p2 q2 c2 v2 (l.take 300) (v.take 300) W h hs2) (fun W => c_sameZ W) (fun W p2 q2 c2 v2 h => by have := c_refRight ⟨4, l.take 300, 0, 0, 0, 0, v.take 300, E⟩ p2 q2 c2 v2 W h; rw [hs2] at this; exact this)
    | true =>
      obtain ⟨hr1, hr2⟩ := raw_pos hs2
      exact makes_01 A R n d E p q l.length cap v.length vc w (l.take 300).length 0 (l.take 300).length (v.take 300).length ⟨0, l.take 300, A, R, n, d, [], E⟩ ⟨4, l.take 300, 0, 0, 0, 0, v.take 300, E⟩ hr1 hr2 (fun W _ => c_wakes W) (fun W _ => by have := c_rline A R n d W; rw [hL] at this; exact this) (fun W _ => by have := c_Kind A R n d W; rw [hK] at this; exact this) (own1 0) own2 (fun W p1 q1 c1 v1 h => by have := c_segOfNo A R n d E p1 c1 (l.take 300) W h.runs (by rw [hK]; exact hs1) ht; exact this) (rawYes hs2) (fun W => c_sameZ W) (fun W p2 q2 c2 v2 h => by have := c_refRight ⟨4, l.take 300, 0, 0, 0, 0, v.take 300, E⟩ p2 q2 c2 v2 W h; rw [hs2] at this; exact this) (fun W j4 o4 g4 r4 c4 v4 p2 q2 c2 v2 h h' => c_sameI ⟨4, l.take 300, 0, 0, 0, 0, v.take 300, E⟩ _ _ p2 q2 c4 v4 c2 v2 W h h') own3 (fun W p2 q2 c2 v2 p9 q9 c9 v9 h h' => c_sameI ⟨4, l.take 300, 0, 0, 0, 0, v.take 300, E⟩ p2 q2 p9 q9 c2 v2 c9 v9 W h h')
  | true =>
    obtain ⟨K0, hR⟩ : ∃ K0, kindR R n = K0 := ⟨_, rfl⟩
    have hK : kindL A R n d = K0 := by rw [← hR]; unfold kindL kindR; rw [hL]; rfl
    have hk : (K0 == 0) = false := by rw [← hR]; unfold kindR; split; rfl; split <;> rfl
    cases hs1 : segB ⟨K0, l.take 300, A, R, n, d, [], E⟩ with
    | false =>
      cases hs2 : segB ⟨4, l.take 300, 0, 0, 0, 0, v.take 300, E⟩ with
      | false =>
        exact makes_10 A R n d E p q l.length cap v.length vc w (l.take 300).length 0 (l.take 300).length (v.take 300).length ⟨K0, l.take 300, A, R, n, d, [], E⟩ ⟨4, l.take 300, 0, 0, 0, 0, v.take 300, E⟩ K0 hk (fun W _ => c_wakes W) (fun W _ => by have := c_rline A R n d W; rw [hL] at this; exact this) (fun W _ => by have := c_rkind A R n d W; rw [hR] at this; exact this) (fun W _ => by have := c_Kind A R n d W; rw [hK] at this; exact this) (own1 K0) own2 (fun W p1 q1 c1 v1 h => by have := c_segOfNo A R n d E p1 c1 (l.take 300) W h.runs (by rw [hK]; exact hs1) ht; exact this) (fun W p2 q2 c2 v2 h => c_segRawNo E p2 q2 c2 v2 (l.take 300) (v.take 300) W h hs2) (fun W p1 q1 c1 v1 h => by have := c_refRight ⟨K0, l.take 300, A, R, n, d, [], E⟩ p1 q1 c1 v1 W h; rw [hs1] at this; exact this) (fun W => c_sameZ W) (fun W p2 q2 c2 v2 h => by have := c_refRight ⟨4, l.take 300, 0, 0, 0, 0, v.take 300, E⟩ p2 q2 c2 v2 W h; rw [hs2] at this; exact this)
      | true =>
        obtain ⟨hr1, hr2⟩ := raw_pos hs2
        exact makes_11 A R n d E p q l.length cap v.length vc w (l.take 300).length 0 (l.take 300).length (v.take 300).length ⟨K0, l.take 300, A, R, n, d, [], E⟩ ⟨4, l.take 300, 0, 0, 0, 0, v.take 300, E⟩ hr1 hr2 K0 hk (fun W _ => c_wakes W) (fun W _ => by have := c_rline A R n d W; rw [hL] at this; exact this) (fun W _ => by have := c_rkind A R n d W; rw [hR] at this; exact this) (fun W _ => by have := c_Kind A R n d W; rw [hK] at this; exact this) (own1 K0) own2 (fun W p1 q1 c1 v1 h => by have := c_segOfNo A R n d E p1 c1 (l.take 300) W h.runs (by rw [hK]; exact hs1) ht; exact this) (rawYes hs2) (fun W p1 q1 c1 v1 h => by have := c_refRight ⟨K0, l.take 300, A, R, n, d, [], E⟩ p1 q1 c1 v1 W h; rw [hs1] at this; exact this) (fun W => c_sameZ W) (fun W p2 q2 c2 v2 h => by have := c_refRight ⟨4, l.take 300, 0, 0, 0, 0, v.take 300, E⟩ p2 q2 c2 v2 W h; rw [hs2] at this; exact this) (fun W j4 o4 g4 r4 c4 v4 p2 q2 c2 v2 h h' => c_sameI ⟨4, l.take 300, 0, 0, 0, 0, v.take 300, E⟩ _ _ p2 q2 c4 v4 c2 v2 W h h') own3 (fun W p2 q2 c2 v2 p9 q9 c9 v9 h h' => c_sameI ⟨4, l.take 300, 0, 0, 0, 0, v.take 300, E⟩ p2 q2 p9 q9 c2 v2 c9 v9 W h h')
    | true =>
      cases hs2 : segB ⟨4, l.take 300, 0, 0, 0, 0, v.take 300, E⟩ with
      | false =>
        exact makes_20 A R n d E p q l.length cap v.length vc w (l.take 300).length 0 (l.take 300).length (v.take 300).length ⟨K0, l.take 300, A, R, n, d, [], E⟩ ⟨4, l.take 300, 0, 0, 0, 0, v.take 300, E⟩ K0 hk (fun W _ => c_wakes W) (fun W _ => by have := c_rline A R n d W; rw [hL] at this; exact this) (fun W _ => by have := c_rkind A R n d W; rw [hR] at this; exact this) (fun W _ => by have := c_Kind A R n d W; rw [hK] at this; exact this) (own1 K0) own2 (fun W p1 q1 c1 v1 h => by have := c_segOfYes A R n d E p1 c1 (l.take 300) W h.runs (by rw [hK]; exact hs1) ht; rw [hK] at this; exact this) (fun W p2 q2 c2 v2 h => c_segRawNo E p2 q2 c2 v2 (l.take 300) (v.take 300) W h hs2) (fun W p1 q1 c1 v1 h => by have := c_refRight ⟨K0, l.take 300, A, R, n, d, [], E⟩ p1 q1 c1 v1 W h; rw [hs1] at this; exact this) (fun W => c_sameZ W) (fun W p3 q3 c3 v3 p1 q1 c1 v1 h h' => c_sameI ⟨K0, l.take 300, A, R, n, d, [], E⟩ p3 q3 p1 q1 c3 v3 c1 v1 W h h') (fun W p2 q2 c2 v2 h => by have := c_refRight ⟨4, l.take 300, 0, 0, 0, 0, v.take 300, E⟩ p2 q2 c2 v2 W h; rw [hs2] at this; exact this)
      | true =>
        obtain ⟨hr1, hr2⟩ := raw_pos hs2
        exact makes_21 A R n d E p q l.length cap v.length vc w (l.take 300).length 0 (l.take 300).length (v.take 300).length ⟨K0, l.take 300, A, R, n, d, [], E⟩ ⟨4, l.take 300, 0, 0, 0, 0, v.take 300, E⟩ hr1 hr2 K0 hk (fun W _ => c_wakes W) (fun W _ => by have := c_rline A R n d W; rw [hL] at this; exact this) (fun W _ => by have := c_rkind A R n d W; rw [hR] at this; exact this) (fun W _ => by have := c_Kind A R n d W; rw [hK] at this; exact this) (own1 K0) own2 (fun W p1 q1 c1 v1 h => by have := c_segOfYes A R n d E p1 c1 (l.take 300) W h.runs (by rw [hK]; exact hs1) ht; rw [hK] at this; exact this) (rawYes hs2) (fun W p1 q1 c1 v1 h => by have := c_refRight ⟨K0, l.take 300, A, R, n, d, [], E⟩ p1 q1 c1 v1 W h; rw [hs1] at this; exact this) (fun W p3 q3 c3 v3 p1 q1 c1 v1 h h' => c_sameI ⟨K0, l.take 300, A, R, n, d, [], E⟩ p3 q3 p1 q1 c3 v3 c1 v1 W h h') (fun W p2 q2 c2 v2 h => by have := c_refRight ⟨4, l.take 300, 0, 0, 0, 0, v.take 300, E⟩ p2 q2 c2 v2 W h; rw [hs2] at this; exact this) (fun W j4 o4 g4 r4 c4 v4 p2 q2 c2 v2 h h' => c_sameI ⟨4, l.take 300, 0, 0, 0, 0, v.take 300, E⟩ _ _ p2 q2 c4 v4 c2 v2 W h h') own3 (fun W p2 q2 c2 v2 p9 q9 c9 v9 h h' => c_sameI ⟨4, l.take 300, 0, 0, 0, 0, v.take 300, E⟩ p2 q2 p9 q9 c2 v2 c9 v9 W h h')
section
variable {H : Type} {enc : TypeId × Value → H} {w : World} {base : Nat} {spare : Nat → Bool} {held : Bool}
set_option maxRecDepth 100000 in
theorem open_num_argM {r : Reach} {b0 : Nat} {v : Value} {d : DataW H} {ps : List MemPlace} (hv : Value.okWide Tryz.prog w r b0 25 v) (h : DataW.Trod enc Tryz.prog w base spare held 25 v d ps) :
    ∃ (p : Option Addr) (l : List Int) (cap : Nat), v = .slice p l.length cap ∧ (p = none → l = [] ∧ cap = 0) ∧ l.length ≤ cap ∧ cap ≤ maxLen ∧ IntsIn w p l ∧ ∀ z, z ∈ l → I64 z := by
  have hu : Tryz.prog.underlying 25 = some (.slice 2) := by kernel_rfl
  obtain ⟨a, len, cap, rfl⟩ := okWide_slice hu hv
  obtain ⟨fuel, hf⟩ := h
  obtain ⟨p, l, c, e, r⟩ := open_nums hu Tryz.isInt64.1 Tryz.isInt64.2 hf
  simp [Value.cells] at e
  obtain ⟨rfl, rfl, rfl⟩ := e
  exact ⟨_, l, _, rfl, r⟩
set_option maxRecDepth 100000 in
theorem open_run_arg {r : Reach} {b0 : Nat} {v : Value} {d : DataW H} {ps : List MemPlace} (hv : Value.okWide Tryz.prog w r b0 22 v) (h : DataW.Trod enc Tryz.prog w base spare held 22 v d ps) :
    ∃ (p : Option Addr) (l : List RunT) (cap : Nat), v = .slice p l.length cap ∧ (p = none → l = [] ∧ cap = 0) ∧ l.length ≤ cap ∧ cap ≤ maxLen ∧ RunsIn w p l ∧ ∀ r, r ∈ l → I64 r.f ∧ I64 r.s ∧ I64 r.c := by
  have hu : Tryz.prog.underlying 22 = some (.slice 51) := by kernel_rfl
  obtain ⟨a, len, cap, rfl⟩ := okWide_slice hu hv
  obtain ⟨fuel, hf⟩ := h
  obtain ⟨p, l, c, e, r⟩ := open_run_list hf
  simp [Value.cells] at e
  obtain ⟨rfl, rfl, rfl⟩ := e
  exact ⟨_, l, _, rfl, r⟩
set_option maxRecDepth 100000 in
theorem open_line_arg {r : Reach} {b0 : Nat} {v : Value} {d : DataW H} {ps : List MemPlace} (hv : Value.okWide Tryz.prog w r b0 24 v) (h : DataW.Trod enc Tryz.prog w base spare held 24 v d ps) :
    ∃ A R N D : Int, v = .agg #[.int .i64 A, .int .i64 R, .int .i64 N, .int .i64 D] := by
  obtain ⟨fs, hfs⟩ : ∃ fs, Tryz.prog.underlying 24 = some (.struct fs) := struct_of Tryz.fieldsLine (by simp)
  obtain ⟨cs, rfl, hsz⟩ := okWide_struct hfs hv
  have hL : Tryz.prog.cellsOf 24 = 4 := by kernel_rfl
  obtain ⟨fuel, hf⟩ := h
  obtain ⟨l⟩ := cs
  obtain ⟨_, hln⟩ := open_ints_struct Tryz.fieldsLine (by simp) (by rw [hL]; rfl) (fun i hi => by
    match i, hi with
    | 0, _ => exact ⟨_, rfl, Tryz.isInt64⟩
    | 1, _ => exact ⟨_, rfl, Tryz.isInt64⟩
    | 2, _ => exact ⟨_, rfl, Tryz.isInt64⟩
    | 3, _ => exact ⟨_, rfl, Tryz.isInt64⟩) hf
  rw [hL] at hsz
  match l, hsz with
  | [x0, x1, x2, x3], _ =>
    obtain ⟨A, a1, _⟩ := hln 0 (by simp)
    obtain ⟨R, b1, _⟩ := hln 1 (by simp)
    obtain ⟨N, g1, _⟩ := hln 2 (by simp)
    obtain ⟨D, d1, _⟩ := hln 3 (by simp)
    simp [Value.cells] at a1 b1 g1 d1
    subst a1; subst b1; subst g1; subst d1
    exact ⟨A, R, N, D, rfl⟩
end
set_option maxRecDepth 100000 in
theorem makes_lifted (os : Os) (started : os.Started) (H : Type) (enc : TypeId × Value → H) :
    ReturnsInHanded {} Tryz.checked os 4 .any (Rows.segMakesSpec.pre6 enc Tryz.prog Tryz.f4 Rows.segMakesRow.domain false) (Rows.segMakesSpec.post enc Tryz.prog Tryz.f4 false true false false) := by
  refine returnsInHanded_of_change (C := Tryz.checked) Tryz.ownKnob started (by kernel_rfl) Tryz.func4
    (ChangeSpec.witness6 (enc := enc) (C := Tryz.checked) false ⟨#[], #[.slice none 0 0, .agg #[.int .i64 0, .int .i64 0, .int .i64 0, .int .i64 0], .slice none 0 0, .int .i64 0], []⟩ 8 (by kernel_rfl) (by kernel_rfl) (by kernel_rfl) (by kernel_rfl)) ?_
  intro W base args ds gs before hval0 hW hcnd _
  have hval : ∀ (j : Nat) t v, Tryz.f4.params[j]? = some t → args[j]? = some v → Value.okWide Tryz.prog W .any base t v := hval0
  have hW' := hW
  obtain ⟨p, q, hA0, hV, rfl, hfz, hnd⟩ := hW
  have hA : DataW.TrodAll enc Tryz.prog W 0 (fun _ => true) true Tryz.f4.params.toList args.toList ds p := hA0
  rw [Tryz.params4] at hA hval
  obtain ⟨v0, v1, v2, v3, d0, d1, d2, d3, p0, p1, p2, p3, rfl, rfl, rfl, h0, h1, h2, h3⟩ := trodAll_four hA
  obtain ⟨rfl, rfl⟩ := trodVars_none hV
  obtain ⟨pa, l, ca, rfl, nl, ll, ml, hl, _⟩ := open_run_arg (hval 0 _ v0 rfl rfl) h0
  obtain ⟨A, R, N, D, rfl⟩ := open_line_arg (hval 1 _ v1 rfl rfl) h1
  obtain ⟨pb, v, cb, rfl, nv, lv, mv, hv, _⟩ := open_num_argM (hval 2 _ v2 rfl rfl) h2
  obtain ⟨b, rfl, rfl, rfl, wb⟩ := open_int Tryz.isInt64.1 (hval 3 _ v3 rfl rfl) h3
  clear hA0 hval0
  refine (c_makes A R N D b pa pb ca cb l v W hl hv nl nv ll lv ml mv).mono fun e W' ⟨he, hb⟩ => ?_
  subst he
  exact ⟨_, rfl, law_post Tryz.laidOut (pars_ok (by kernel_rfl)) rfl (by kernel_rfl) rfl hW' hb rfl⟩
theorem segMakes_holds : Rows.SegMakesSaid :=
  OpenClaim.holds_of_wide 4 Tryz.f4 rfl rfl rfl rfl rfl rfl rfl ⟨rfl, rfl, rfl, rfl, rfl⟩ rfl rfl rfl rfl rfl (by kernel_rfl) Tryz.func4 (by kernel_rfl)
    (of_decide_eq_true (by kernel_rfl)) (by unfold Func.isWrapper; first | (rw [if_pos (by decide +kernel)]; kernel_rfl) | (rw [if_neg (by decide +kernel)]; exact ⟨rfl, rfl⟩))
    (fun os started H enc _ => makes_lifted os started H enc)
end Go.Proofs.YtgblmlefmohgnaaGreat
