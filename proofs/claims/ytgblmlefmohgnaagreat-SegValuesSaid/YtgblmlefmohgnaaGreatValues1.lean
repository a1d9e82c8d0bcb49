/- For every segment that comes in, whatever is in it, every i and every t: SegValues returns true; the arguments read as before. No condition. -/
import Derived.Test.YtgblmlefmohgnaaGreatBk14
set_option linter.unusedSimpArgs false
set_option linter.unusedVariables false
namespace Go.Proofs.YtgblmlefmohgnaaGreat
open Go.RowKit
def eqRunRel (w : World) (p : Option Addr) (cap : Nat) (p' : Option Addr) (cap' : Nat) (A B : List RunT) (a' : Act) (W : World) : Prop :=
  Below w.heap.size w W ∧ ∃ (i : Nat), (∃ u : Nat → Value, a' = { tmps := #[.slice p A.length cap, .slice p' A.length cap', u 2, u 3, .bool false, u 5, u 6, u 7, u 8, u 9, u 10, u 11, .int .i64 (A.length : Int), .int .i64 (i : Int), u 14, u 15, u 16, u 17, u 18, u 19, u 20, u 21, u 22, u 23, u 24, u 25], defers := [] }) ∧ i ≤ A.length ∧ ∀ k, k < i → A[k]? = B[k]?
set_option maxRecDepth 100000 in
set_option maxHeartbeats 8000000 in
theorem eqRun_w (p : Option Addr) (cap : Nat) (p' : Option Addr) (cap' : Nat) (A B : List RunT) (w : World) (hl : A.length = B.length) (hlen : A.length ≤ 1000000) (hA0 : RunsIn w p A) (hB0 : RunsIn w p' B) :
    Calls Tryz.prog 53 #[.slice p A.length cap, .slice p' A.length cap'] w fun e w' => e = .returned (.bool (decide (A = B))) ∧ Below w.heap.size w w' := by
  go_enter Tryz.func53, Tryz.ntmps53
  replace hl := Lib.hid hl
  go_wp2
  refine wp_loop (eqRunRel w p cap p' cap' A B) (fun a' _ => A.length - (intAt (a'.tmps.getD 13 undef)).toNat) ?_ ?_
  · unfold eqRunRel
    exact ⟨Below.refl _ _, 0, frame_ex rfl, by omega, fun k hk => by omega⟩
  · rintro a' W ⟨hW0, i, ⟨u, rfl⟩, hi', hall⟩
    have hz := hW0.size
    replace hall := Lib.hid hall
    rcases Nat.lt_or_ge i A.length with hlt | hge
    · obtain ⟨r, tr⟩ : ∃ r, A[i]? = some r := ⟨A[i]'(by omega), List.getElem?_eq_getElem (by omega)⟩
      obtain ⟨q, tq⟩ : ∃ q, B[i]? = some q := ⟨B[i]'(by have := hl.out; omega), List.getElem?_eq_getElem (by have := hl.out; omega)⟩
      obtain ⟨b, o, rfl, -⟩ := hA0.at' i r tr
      obtain ⟨b', o', rfl, -⟩ := hB0.at' i q tq
      have hA : RunsP W b o A := ⟨hA0.below hW0⟩
      have hB : RunsP W b' o' B := ⟨hB0.below hW0⟩
      replace tr := Lib.hid tr
      replace tq := Lib.hid tq
      have l1 := hlt
      have l2 : i < B.length := by have := hl.out; omega
      go_upto_region 6 with (fail)
      refine wp_facts (fun W' => Below W.heap.size W W' ∧ RunsP W' b o A ∧ RunsP W' b' o' B) ⟨by exact belowAny, by exact hA.below belowAny, by exact hB.below belowAny⟩ ?_
      rintro W1 ⟨hW, b1, b2⟩
      have z2 := hW.size
      refine wp_region_ndQ 9 26 [] (fun W' => Rex [] W1 W' ∧ RunsP W' b o A ∧ RunsP W' b' o' B) mixed (by kernel_rfl) rfl ⟨(Rex.refl _ _).drew, b1.drew, b2.drew⟩ (fun w w' ⟨h0, h1, h2⟩ hr => ⟨h0.trans hr, h1.rex hr (by simp <;> omega), h2.rex hr (by simp <;> omega)⟩) rfl ?_
      iterate 9
        apply nd_det (hg := rfl) (hal := rfl)
        · intro a W' hC hE
          obtain ⟨_, k1, k2⟩ := hC
          obtain ⟨q0, q1, q2⟩ := k1.cellAt tr.out; obtain ⟨q3, q4, q5⟩ := k2.cellAt tq.out
          first
            | (simp [Oper.looksAt, Op.operands, Call.operands, envOf, Det] at hE; simp [go_sem, Act.eval, IntWalk.i64_left, hE, k1, k2, q0, q1, q2, q3, q4, q5, l1, l2, ite_eq3]; try rfl)
            | (clear hE; simp [go_sem, Act.eval, IntWalk.i64_left, k1, k2, q0, q1, q2, q3, q4, q5, l1, l2, ite_eq3]; try rfl)
      rintro W3 ⟨hR, d1, d2⟩
      simp only [ndFinR, Det, forall_eq]
      intros
      repeat (rename GDet _ _ _ _ => hgd; clear hgd)
      simp only [Act.put, List.setIfInBounds_toArray, List.set_cons_zero, List.set_cons_succ]
      refine wpList_nil ?_
      replace hW := hW.trans (hR.of_priv hW.size)
      clear hR
      try clear b1 b2
      have b1 := d1
      clear d1
      have b2 := d2
      clear d2
      by_cases hrq : r = q
      · have hall' := Lib.hid (show ∀ k, k < i + 1 → A[k]? = B[k]? from fun k hk => by
          rcases Nat.lt_or_ge k i with h | h
          · exact hall.out k h
          · obtain rfl : k = i := by omega
            rw [tr.out, tq.out, hrq])
        rw [show (!decide (r.f = q.f) || !decide (r.s = q.s) || !decide (r.c = q.c)) = false by subst hrq; simp]
        clear hrq
        go_wp2
        rw [show (i : Int) + 1 = ((i + 1 : Nat) : Int) by omega]
        refine ⟨?_, by simp [intAt]; omega⟩
        unfold eqRunRel
        exact ⟨hW0.trans (hW.mono hz), i + 1, frame_ex rfl, by omega, hall'.out⟩
      · have hne := Lib.hid (show decide (A = B) = false by
          rw [decide_eq_false_iff_not]
          rintro rfl
          rw [tr.out] at tq
          exact hrq (Option.some.inj tq.out))
        rw [show (!decide (r.f = q.f) || !decide (r.s = q.s) || !decide (r.c = q.c)) = true by
          obtain ⟨r1, r2, r3⟩ := r
          obtain ⟨q1, q2, q3⟩ := q
          simp at hrq
          simp
          by_cases h1 : r1 = q1 <;> by_cases h2 : r2 = q2 <;> simp [h1, h2] at hrq ⊢
          exact hrq]
        clear hrq
        go_wp2
        go_ret
        exact ⟨by rw [hne.out]; rfl, hW0.trans (hW.mono hz)⟩
    · obtain rfl : i = A.length := by omega
      have heq := Lib.hid (show decide (A = B) = true by
        rw [decide_eq_true_eq]
        apply List.ext_getElem?
        intro k
        rcases Nat.lt_or_ge k A.length with h | h
        · exact hall.out k h
        · rw [List.getElem?_eq_none h, List.getElem?_eq_none (by have := hl.out; omega)])
      go_wp2
      go_ret
      exact ⟨by rw [heq.out]; rfl, hW0⟩
set_option maxRecDepth 100000 in
set_option maxHeartbeats 8000000 in
theorem eqRun_len (p : Option Addr) (n cap : Nat) (p' : Option Addr) (m cap' : Nat) (w : World) (hl : ¬ n = m) :
    Calls Tryz.prog 53 #[.slice p n cap, .slice p' m cap'] w fun e w' => e = .returned (.bool false) ∧ Below w.heap.size w w' := by
  go_enter Tryz.func53, Tryz.ntmps53
  go_wp2
  go_ret
  exact ⟨rfl, Below.refl _ _⟩
theorem c_eqRun (p : Option Addr) (cap : Nat) (p' : Option Addr) (cap' : Nat) (A B : List RunT) (w : World) (hlen : A.length ≤ 1000000) (hA0 : RunsIn w p A) (hB0 : RunsIn w p' B) :
    Calls Tryz.prog 53 #[.slice p A.length cap, .slice p' B.length cap'] w fun e w' => e = .returned (.bool (decide (A = B))) ∧ Below w.heap.size w w' := by
  by_cases h : A.length = B.length
  · rw [← h]; exact eqRun_w p cap p' cap' A B w h hlen hA0 hB0
  · rw [show decide (A = B) = false by rw [decide_eq_false_iff_not]; rintro rfl; exact h rfl]
    exact eqRun_len p _ cap p' _ cap' w h
def eqIntRel (w : World) (p : Option Addr) (cap : Nat) (p' : Option Addr) (cap' : Nat) (A B : List Int) (a' : Act) (W : World) : Prop :=
  Below w.heap.size w W ∧ ∃ (i : Nat), (∃ u : Nat → Value, a' = { tmps := #[.slice p A.length cap, .slice p' A.length cap', u 2, u 3, .bool false, u 5, u 6, u 7, u 8, u 9, u 10, u 11, .int .i64 (A.length : Int), .int .i64 (i : Int), u 14, u 15, u 16, u 17, u 18, u 19, u 20, u 21, u 22, u 23, u 24, u 25], defers := [] }) ∧ i ≤ A.length ∧ ∀ k, k < i → A[k]? = B[k]?
set_option maxRecDepth 100000 in
set_option maxHeartbeats 8000000 in
theorem eqInt_w (p : Option Addr) (cap : Nat) (p' : Option Addr) (cap' : Nat) (A B : List Int) (w : World) (hl : A.length = B.length) (hlen : A.length ≤ 1000000) (hA0 : IntsIn w p A) (hB0 : IntsIn w p' B) :
    Calls Tryz.prog 54 #[.slice p A.length cap, .slice p' A.length cap'] w fun e w' => e = .returned (.bool (decide (A = B))) ∧ Below w.heap.size w w' := by
  go_enter Tryz.func54, Tryz.ntmps54
  replace hl := Lib.hid hl
  go_wp2
  refine wp_loop (eqIntRel w p cap p' cap' A B) (fun a' _ => A.length - (intAt (a'.tmps.getD 13 undef)).toNat) ?_ ?_
  · unfold eqIntRel
    exact ⟨Below.refl _ _, 0, frame_ex rfl, by omega, fun k hk => by omega⟩
  · rintro a' W ⟨hW0, i, ⟨u, rfl⟩, hi', hall⟩
    have hz := hW0.size
    replace hall := Lib.hid hall
    rcases Nat.lt_or_ge i A.length with hlt | hge
    · obtain ⟨r, tr⟩ : ∃ r, A[i]? = some r := ⟨A[i]'(by omega), List.getElem?_eq_getElem (by omega)⟩
      obtain ⟨q, tq⟩ : ∃ q, B[i]? = some q := ⟨B[i]'(by have := hl.out; omega), List.getElem?_eq_getElem (by have := hl.out; omega)⟩
      obtain ⟨b, o, rfl, -⟩ := hA0.at' i r tr
      obtain ⟨b', o', rfl, -⟩ := hB0.at' i q tq
      have hA : IntsP W b o A := ⟨hA0.below hW0⟩
      have hB : IntsP W b' o' B := ⟨hB0.below hW0⟩
      replace tr := Lib.hid tr
      replace tq := Lib.hid tq
      have l1 := hlt
      have l2 : i < B.length := by have := hl.out; omega
      go_upto_region 6 with (fail)
      refine wp_facts (fun W' => Below W.heap.size W W' ∧ IntsP W' b o A ∧ IntsP W' b' o' B) ⟨by exact belowAny, by exact hA.below belowAny, by exact hB.below belowAny⟩ ?_
      rintro W1 ⟨hW, b1, b2⟩
      have z2 := hW.size
      refine wp_region_ndQ 9 26 [] (fun W' => Rex [] W1 W' ∧ IntsP W' b o A ∧ IntsP W' b' o' B) mixed (by kernel_rfl) rfl ⟨(Rex.refl _ _).drew, b1.drew, b2.drew⟩ (fun w w' ⟨h0, h1, h2⟩ hr => ⟨h0.trans hr, h1.rex hr (by simp <;> omega), h2.rex hr (by simp <;> omega)⟩) rfl ?_
      iterate 9
        apply nd_det (hg := rfl) (hal := rfl)
        · intro a W' hC hE
          obtain ⟨_, k1, k2⟩ := hC
          have q0 := k1.cellAt tr.out; have q1 := k2.cellAt tq.out
          first
            | (simp [Oper.looksAt, Op.operands, Call.operands, envOf, Det] at hE; simp [go_sem, Act.eval, IntWalk.i64_left, hE, k1, k2, q0, q1, l1, l2]; try rfl)
            | (clear hE; simp [go_sem, Act.eval, IntWalk.i64_left, k1, k2, q0, q1, l1, l2]; try rfl)
      rintro W3 ⟨hR, d1, d2⟩
      simp only [ndFinR, Det, forall_eq]
      intros
      repeat (rename GDet _ _ _ _ => hgd; clear hgd)
      simp only [Act.put, List.setIfInBounds_toArray, List.set_cons_zero, List.set_cons_succ]
      refine wpList_nil ?_
      replace hW := hW.trans (hR.of_priv hW.size)
      clear hR
      try clear b1 b2
      have b1 := d1
      clear d1
      have b2 := d2
      clear d2
      by_cases hrq : r = q
      · have hall' := Lib.hid (show ∀ k, k < i + 1 → A[k]? = B[k]? from fun k hk => by
          rcases Nat.lt_or_ge k i with h | h
          · exact hall.out k h
          · obtain rfl : k = i := by omega
            rw [tr.out, tq.out, hrq])
        rw [show (r != q) = false by subst hrq; simp]
        clear hrq
        go_wp2
        rw [show (i : Int) + 1 = ((i + 1 : Nat) : Int) by omega]
        refine ⟨?_, by simp [intAt]; omega⟩
        unfold eqIntRel
        exact ⟨hW0.trans (hW.mono hz), i + 1, frame_ex rfl, by omega, hall'.out⟩
      · have hne := Lib.hid (show decide (A = B) = false by
          rw [decide_eq_false_iff_not]
          rintro rfl
          rw [tr.out] at tq
          exact hrq (Option.some.inj tq.out))
        rw [show (r != q) = true by
          simp [hrq]]
        clear hrq
        go_wp2
        go_ret
        exact ⟨by rw [hne.out]; rfl, hW0.trans (hW.mono hz)⟩
    · obtain rfl : i = A.length := by omega
      have heq := Lib.hid (show decide (A = B) = true by
        rw [decide_eq_true_eq]
        apply List.ext_getElem?
        intro k
        rcases Nat.lt_or_ge k A.length with h | h
        · exact hall.out k h
        · rw [List.getElem?_eq_none h, List.getElem?_eq_none (by have := hl.out; omega)])
      go_wp2
      go_ret
      exact ⟨by rw [heq.out]; rfl, hW0⟩
set_option maxRecDepth 100000 in
set_option maxHeartbeats 8000000 in
theorem eqInt_len (p : Option Addr) (n cap : Nat) (p' : Option Addr) (m cap' : Nat) (w : World) (hl : ¬ n = m) :
    Calls Tryz.prog 54 #[.slice p n cap, .slice p' m cap'] w fun e w' => e = .returned (.bool false) ∧ Below w.heap.size w w' := by
  go_enter Tryz.func54, Tryz.ntmps54
  go_wp2
  go_ret
  exact ⟨rfl, Below.refl _ _⟩
theorem c_eqInt (p : Option Addr) (cap : Nat) (p' : Option Addr) (cap' : Nat) (A B : List Int) (w : World) (hlen : A.length ≤ 1000000) (hA0 : IntsIn w p A) (hB0 : IntsIn w p' B) :
    Calls Tryz.prog 54 #[.slice p A.length cap, .slice p' B.length cap'] w fun e w' => e = .returned (.bool (decide (A = B))) ∧ Below w.heap.size w w' := by
  by_cases h : A.length = B.length
  · rw [← h]; exact eqInt_w p cap p' cap' A B w h hlen hA0 hB0
  · rw [show decide (A = B) = false by rw [decide_eq_false_iff_not]; rintro rfl; exact h rfl]
    exact eqInt_len p _ cap p' _ cap' w h
theorem ite_l4 {a b c d e f g h : Int} {w : World} : ((if a = b then (if c = d then (if e = f then (if g = h then Result.ok (Go.Next.value (Value.bool true)) w else Result.ok (Go.Next.value (Value.bool false)) w) else Result.ok (Go.Next.value (Value.bool false)) w) else Result.ok (Go.Next.value (Value.bool false)) w) else Result.ok (Go.Next.value (Value.bool false)) w) : Result Go.Next) = Result.ok (Go.Next.value (Value.bool (decide (a = b) && decide (c = d) && decide (e = f) && decide (g = h)))) w := by
  by_cases h1 : a = b <;> by_cases h2 : c = d <;> by_cases h3 : e = f <;> by_cases h4 : g = h <;> simp [h1, h2, h3, h4]
set_option maxRecDepth 100000 in
set_option maxHeartbeats 8000000 in
theorem same_w (K A R n d E : Int) (p q : Option Addr) (len cap m vc : Nat) (w : World) (K' A' R' n' d' E' : Int) (p' q' : Option Addr) (len' cap' m' vc' : Nat) (r1 r2 : Bool)
    (c1 : ∀ W, Below w.heap.size w W → Calls Tryz.prog 53 #[.slice p len cap, .slice p' len' cap'] W fun e w' => e = .returned (.bool r1) ∧ Below W.heap.size W w')
    (c2 : ∀ W, Below w.heap.size w W → Calls Tryz.prog 54 #[.slice q m vc, .slice q' m' vc'] W fun e w' => e = .returned (.bool r2) ∧ Below W.heap.size W w') :
    Calls Tryz.prog 21 #[.agg #[.int .i64 K, .slice p len cap, .int .i64 A, .int .i64 R, .int .i64 n, .int .i64 d, .slice q m vc, .int .i64 E], .agg #[.int .i64 K', .slice p' len' cap', .int .i64 A', .int .i64 R', .int .i64 n', .int .i64 d', .slice q' m' vc', .int .i64 E']] w fun e w' => e = .returned (.bool ((K == K') && (decide (A = A') && decide (R = R') && decide (n = n') && decide (d = d')) && (E == E') && r1 && r2)) ∧ Below w.heap.size w w' := by
  have H_c1 := Lib.hid c1
  clear c1
  have H_c2 := Lib.hid c2
  clear c2
  go_enter Tryz.func21, Tryz.ntmps21
  go_upto_region 1 with (fail)
  refine wp_facts (fun W' => Below w.heap.size w W' ∧ Blk W' w.heap.size #[.int .i64 K, .slice p len cap, .int .i64 A, .int .i64 R, .int .i64 n, .int .i64 d, .slice q m vc, .int .i64 E] 27 ∧ Blk W' (w.heap.size + 1) #[.int .i64 K', .slice p' len' cap', .int .i64 A', .int .i64 R', .int .i64 n', .int .i64 d', .slice q' m' vc', .int .i64 E'] 27) ⟨by exact belowAny, by exact blkAny2, by exact blkAny2⟩ ?_
  rintro W1 ⟨hW, b1, b2⟩
  have z2 := hW.size
  have z3 := b1.lt
  have z4 := b2.lt
  have c1 := H_c1.out
  have c2 := H_c2.out
  refine wp_region_sq 33 38 [] (fun W' => Rex [] W1 W' ∧ Blk W' w.heap.size #[.int .i64 K, .slice p len cap, .int .i64 A, .int .i64 R, .int .i64 n, .int .i64 d, .slice q m vc, .int .i64 E] 27 ∧ Blk W' (w.heap.size + 1) #[.int .i64 K', .slice p' len' cap', .int .i64 A', .int .i64 R', .int .i64 n', .int .i64 d', .slice q' m' vc', .int .i64 E'] 27) (by kernel_rfl) rfl ⟨(Rex.refl _ _), b1, b2⟩ (fun w w' ⟨h0, h1, h2⟩ hr => ⟨h0.trans hr, h1.rex hr (by simp <;> omega), h2.rex hr (by simp <;> omega)⟩) ?_
  iterate 6
    apply nd_det (hg := rfl) (hal := rfl)
    · intro a W' hC hE
      obtain ⟨_, k1, k2⟩ := hC
      have k1 := k1.cell
      have k2 := k2.cell
      first
        | (simp [Oper.looksAt, Op.operands, Call.operands, envOf, Det] at hE; simp [go_sem, Act.eval, IntWalk.i64_left, hE, k1, k2, ite_l4]; try rfl)
        | (clear hE; simp [go_sem, Act.eval, IntWalk.i64_left, k1, k2, ite_l4]; try rfl)
  iterate 5
    apply nd_detg (p := true) (hg := rfl) (hd := rfl) (hal := rfl)
    · intro v W' h
      simp [envOf, Det] at h
      simp
      exact h
    · intro hp hx a W' hC hE
      obtain ⟨_, k1, k2⟩ := hC
      have k1 := k1.cell
      have k2 := k2.cell
      simp [Oper.looksAt, Op.operands, Call.operands, envOf, Det, GDet, hx] at hE
      simp [go_sem, Act.eval, IntWalk.i64_left, hE, k1, k2, ite_l4]
      try rfl
  apply nd_pick_and (ho := rfl) (hg := rfl)
  · intro v W' h
    simp [envOf, Det] at h
    exact h
  · intro v W' h hx
    simp [envOf, GDet, hx] at h
    exact h
  iterate 1
    apply nd_det (hg := rfl) (hal := rfl)
    · intro a W' hC hE
      obtain ⟨_, k1, k2⟩ := hC
      have k1 := k1.cell
      have k2 := k2.cell
      first
        | (simp [Oper.looksAt, Op.operands, Call.operands, envOf, Det] at hE; simp [go_sem, Act.eval, IntWalk.i64_left, hE, k1, k2, ite_l4]; try rfl)
        | (clear hE; simp [go_sem, Act.eval, IntWalk.i64_left, k1, k2, ite_l4]; try rfl)
  iterate 5
    apply nd_detg (p := true) (hg := rfl) (hd := rfl) (hal := rfl)
    · intro v W' h
      simp [envOf, Det] at h
      simp
      exact h
    · intro hp hx a W' hC hE
      obtain ⟨_, k1, k2⟩ := hC
      have k1 := k1.cell
      have k2 := k2.cell
      simp [Oper.looksAt, Op.operands, Call.operands, envOf, Det, GDet, hx] at hE
      simp [go_sem, Act.eval, IntWalk.i64_left, hE, k1, k2, ite_l4]
      try rfl
  apply nd_pick_and (ho := rfl) (hg := rfl)
  · intro v W' h
    simp [envOf, Det] at h
    exact h
  · intro v W' h hx
    simp [envOf, GDet, hx] at h
    exact h
  iterate 1
    apply nd_det (hg := rfl) (hal := rfl)
    · intro a W' hC hE
      obtain ⟨_, k1, k2⟩ := hC
      have k1 := k1.cell
      have k2 := k2.cell
      first
        | (simp [Oper.looksAt, Op.operands, Call.operands, envOf, Det] at hE; simp [go_sem, Act.eval, IntWalk.i64_left, hE, k1, k2, ite_l4]; try rfl)
        | (clear hE; simp [go_sem, Act.eval, IntWalk.i64_left, k1, k2, ite_l4]; try rfl)
  iterate 4
    apply nd_detg (p := true) (hg := rfl) (hd := rfl) (hal := rfl)
    · intro v W' h
      simp [envOf, Det] at h
      simp
      exact h
    · intro hp hx a W' hC hE
      obtain ⟨_, k1, k2⟩ := hC
      have k1 := k1.cell
      have k2 := k2.cell
      simp [Oper.looksAt, Op.operands, Call.operands, envOf, Det, GDet, hx] at hE
      simp [go_sem, Act.eval, IntWalk.i64_left, hE, k1, k2, ite_l4]
      try rfl
  apply nd_callvg2 (p := true) (hg := rfl) (hd := rfl) (hal := rfl)
  · intro v W' h
    simp [envOf, Det] at h
    simp
    exact h
  · intro hp hx W' hC
    exact c1 W' (hW.trans (hC.1.of_priv hW.size))
  · intro hp hx a W' hC hE
    obtain ⟨_, k1, k2⟩ := hC
    have k1 := k1.cell
    have k2 := k2.cell
    first
      | (simp [Oper.looksAt, Op.operands, Call.operands, envOf, Det, GDet, hx] at hE; simp [go_sem, Act.eval, IntWalk.i64_left, hE, k1, k2, ite_l4]; try rfl)
      | (clear hE; simp [go_sem, Act.eval, IntWalk.i64_left, k1, k2, ite_l4]; try rfl)
  apply nd_pick_and (ho := rfl) (hg := rfl)
  · intro v W' h
    simp [envOf, Det] at h
    exact h
  · intro v W' h hx
    simp [envOf, GDet, hx] at h
    exact h
  iterate 1
    apply nd_det (hg := rfl) (hal := rfl)
    · intro a W' hC hE
      obtain ⟨_, k1, k2⟩ := hC
      have k1 := k1.cell
      have k2 := k2.cell
      first
        | (simp [Oper.looksAt, Op.operands, Call.operands, envOf, Det] at hE; simp [go_sem, Act.eval, IntWalk.i64_left, hE, k1, k2, ite_l4]; try rfl)
        | (clear hE; simp [go_sem, Act.eval, IntWalk.i64_left, k1, k2, ite_l4]; try rfl)
  iterate 4
    apply nd_detg (p := true) (hg := rfl) (hd := rfl) (hal := rfl)
    · intro v W' h
      simp [envOf, Det] at h
      simp
      exact h
    · intro hp hx a W' hC hE
      obtain ⟨_, k1, k2⟩ := hC
      have k1 := k1.cell
      have k2 := k2.cell
      simp [Oper.looksAt, Op.operands, Call.operands, envOf, Det, GDet, hx] at hE
      simp [go_sem, Act.eval, IntWalk.i64_left, hE, k1, k2, ite_l4]
      try rfl
  apply nd_callvg2 (p := true) (hg := rfl) (hd := rfl) (hal := rfl)
  · intro v W' h
    simp [envOf, Det] at h
    simp
    exact h
  · intro hp hx W' hC
    exact c2 W' (hW.trans (hC.1.of_priv hW.size))
  · intro hp hx a W' hC hE
    obtain ⟨_, k1, k2⟩ := hC
    have k1 := k1.cell
    have k2 := k2.cell
    first
      | (simp [Oper.looksAt, Op.operands, Call.operands, envOf, Det, GDet, hx] at hE; simp [go_sem, Act.eval, IntWalk.i64_left, hE, k1, k2, ite_l4]; try rfl)
      | (clear hE; simp [go_sem, Act.eval, IntWalk.i64_left, k1, k2, ite_l4]; try rfl)
  apply nd_pick_and (ho := rfl) (hg := rfl)
  · intro v W' h
    simp [envOf, Det] at h
    exact h
  · intro v W' h hx
    simp [envOf, GDet, hx] at h
    exact h
  rintro W5 ⟨hR, d1, d2⟩
  simp only [ndFinR, Det, forall_eq]
  intros
  repeat (rename GDet _ _ _ _ => hgd; clear hgd)
  simp only [Act.put, List.setIfInBounds_toArray, List.set_cons_zero, List.set_cons_succ, List.drop_succ_cons, List.drop_zero]
  replace hW := hW.trans (hR.of_priv hW.size)
  clear hR
  clear c1
  clear c2
  try clear b1 b2
  have b1 := d1
  clear d1
  have b2 := d2
  clear d2
  have k1 := b1.cell
  have f1 := b1.frozen
  have k2 := b2.cell
  have f2 := b2.frozen
  go_wp2
  have y_1 := b1.lt
  have y_2 := b2.lt
  refine bodyPost_ret (v := .bool ((K == K') && (decide (A = A') && decide (R = R') && decide (n = n') && decide (d = d')) && (E == E') && r1 && r2)) (by simp [results, Tryz.results21, go_sem, k1, f1, k2, f2, y_1, y_2]) rfl ⟨rfl, hW⟩
end Go.Proofs.YtgblmlefmohgnaaGreat
namespace Go.Proofs.YtgblmlefmohgnaaGreat
open Go.RowKit
set_option maxRecDepth 100000 in
set_option maxHeartbeats 2000000 in
theorem value1_none (K A R n d E : Int) (p q : Option Addr) (len cap m vc : Nat) (w : World) (g : Nat) (i N : Int) (hF : Hid ((decide (i < 0) || decide (N ≤ i)) = true)) (hg : Blk w g #[.int .i64 i] 3)
    (c1 : ∀ W, Below w.heap.size w W → Calls Tryz.prog 58 #[.slice p len cap] W fun e w' => e = .returned (.int .i64 N) ∧ Below W.heap.size W w') :
    Calls Tryz.prog 67 #[.agg #[.int .i64 K, .slice p len cap, .int .i64 A, .int .i64 R, .int .i64 n, .int .i64 d, .slice q m vc, .int .i64 E], .pointer (some ⟨g, 0, none⟩)] w fun e w' => e = .returned (.tuple #[.int .i64 0, .int .i64 4]) ∧ Below w.heap.size w w' := by
  have y1 := hg.lt
  have H_c1 := Lib.hid c1
  clear c1
  go_enter Tryz.func67, Tryz.ntmps67
  go_upto_region 1 with (fail)
  refine wp_facts (fun W' => Below w.heap.size w W' ∧ Blk W' w.heap.size #[.int .i64 K, .slice p len cap, .int .i64 A, .int .i64 R, .int .i64 n, .int .i64 d, .slice q m vc, .int .i64 E] 78 ∧ Blk W' g #[.int .i64 i] 3) ⟨by exact belowAny, by exact blkAny2, by exact blkAny2⟩ ?_
  rintro W1 ⟨hW, b1, b2⟩
  have z2 := hW.size
  have z3 := b1.lt
  have z4 := b2.lt
  have c1 := H_c1.out
  refine wp_region_nd 10 18 [] (fun W' => Rex [] W1 W' ∧ Blk W' w.heap.size #[.int .i64 K, .slice p len cap, .int .i64 A, .int .i64 R, .int .i64 n, .int .i64 d, .slice q m vc, .int .i64 E] 78 ∧ Blk W' g #[.int .i64 i] 3) mixed (by kernel_rfl) rfl ⟨(Rex.refl _ _).drew, b1, b2⟩ (fun w w' ⟨h0, h1, h2⟩ hr => ⟨h0.trans hr, h1.rex hr (by simp <;> omega), h2.rex hr (by simp <;> omega)⟩) (fun c a d v w h => by cases d <;> exact h) ?_
  iterate 3
    apply nd_det (hg := rfl) (hal := rfl)
    · intro a W' hC hE
      obtain ⟨_, k1, k2⟩ := hC
      have k1 := k1.cell
      have k2 := k2.cell
      first
        | (simp [Oper.looksAt, Op.operands, Call.operands, envOf, Det] at hE; simp [go_sem, Act.eval, IntWalk.i64_left, hE, k1, k2]; try rfl)
        | (clear hE; simp [go_sem, Act.eval, IntWalk.i64_left, k1, k2]; try rfl)
  iterate 4
    apply nd_detg (p := true) (hg := rfl) (hd := rfl) (hal := rfl)
    · intro v W' h
      simp [envOf, Det] at h
      simp
      exact h
    · intro hp hx a W' hC hE
      obtain ⟨_, k1, k2⟩ := hC
      have k1 := k1.cell
      have k2 := k2.cell
      simp [Oper.looksAt, Op.operands, Call.operands, envOf, Det, GDet, hx] at hE
      simp [go_sem, Act.eval, IntWalk.i64_left, hE, k1, k2]
      try rfl
  apply nd_callvg2 (p := true) (hg := rfl) (hd := rfl) (hal := rfl)
  · intro v W' h
    simp [envOf, Det] at h
    simp
    exact h
  · intro hp hx W' hC
    exact c1 W' (hW.trans (hC.1.of_priv hW.size))
  · intro hp hx a W' hC hE
    obtain ⟨_, k1, k2⟩ := hC
    have k1 := k1.cell
    have k2 := k2.cell
    first
      | (simp [Oper.looksAt, Op.operands, Call.operands, envOf, Det, GDet, hx] at hE; simp [go_sem, Act.eval, IntWalk.i64_left, hE, k1, k2]; try rfl)
      | (clear hE; simp [go_sem, Act.eval, IntWalk.i64_left, k1, k2]; try rfl)
  iterate 1
    apply nd_detg (p := true) (hg := rfl) (hd := rfl) (hal := rfl)
    · intro v W' h
      simp [envOf, Det] at h
      simp
      exact h
    · intro hp hx a W' hC hE
      obtain ⟨_, k1, k2⟩ := hC
      have k1 := k1.cell
      have k2 := k2.cell
      simp [Oper.looksAt, Op.operands, Call.operands, envOf, Det, GDet, hx] at hE
      simp [go_sem, Act.eval, IntWalk.i64_left, hE, k1, k2]
      try rfl
  apply nd_pick_or (ho := rfl) (hg := rfl)
  · intro v W' h
    simp [envOf, Det] at h
    exact h
  · intro v W' h hx
    simp [envOf, GDet, hx] at h
    exact h
  rintro W5 ⟨hR, d1, d2⟩
  simp only [ndFinR, Det, forall_eq]
  intros
  repeat (rename GDet _ _ _ _ => hgd; clear hgd)
  simp only [Act.put, List.setIfInBounds_toArray, List.set_cons_zero, List.set_cons_succ]
  refine wpList_nil ?_
  replace hW := hW.trans (hR.of_priv hW.size)
  clear hR
  clear c1
  try clear b1 b2
  have b1 := d1
  clear d1
  have b2 := d2
  clear d2
  rw [hF.out]
  have z71 := hW.size
  have z72 := b1.lt
  have z73 := b2.lt
  have k1 := b1.cell
  have f1 := b1.frozen
  have k2 := b2.cell
  have f2 := b2.frozen
  go_wp2
  have y_1 := b1.lt
  have y_2 := b2.lt
  refine bodyPost_ret (v := .tuple #[.int .i64 0, .int .i64 4]) (by simp [results, Tryz.results67, go_sem, k1, f1, k2, f2, y_1, y_2]) rfl ⟨rfl, by exact belowAny⟩
set_option maxRecDepth 100000 in
set_option maxHeartbeats 2000000 in
theorem value1_some (K A R n d E : Int) (p q : Option Addr) (len cap m vc : Nat) (w : World) (g : Nat) (i N v : Int) (hF : Hid ((decide (i < 0) || decide (N ≤ i)) = false)) (hg : Blk w g #[.int .i64 i] 3)
    (c1 : ∀ W, Below w.heap.size w W → Calls Tryz.prog 58 #[.slice p len cap] W fun e w' => e = .returned (.int .i64 N) ∧ Below W.heap.size W w')
    (c2 : ∀ W, Below w.heap.size w W → Calls Tryz.prog 68 #[.agg #[.int .i64 K, .slice p len cap, .int .i64 A, .int .i64 R, .int .i64 n, .int .i64 d, .slice q m vc, .int .i64 E], .int .i64 i] W fun e w' => e = .returned (.int .i64 v) ∧ Below W.heap.size W w') :
    Calls Tryz.prog 67 #[.agg #[.int .i64 K, .slice p len cap, .int .i64 A, .int .i64 R, .int .i64 n, .int .i64 d, .slice q m vc, .int .i64 E], .pointer (some ⟨g, 0, none⟩)] w fun e w' => e = .returned (.tuple #[.int .i64 v, .int .i64 0]) ∧ Below w.heap.size w w' := by
  have y1 := hg.lt
  have H_c1 := Lib.hid c1
  clear c1
  have H_c2 := Lib.hid c2
  clear c2
  go_enter Tryz.func67, Tryz.ntmps67
  go_upto_region 1 with (fail)
  refine wp_facts (fun W' => Below w.heap.size w W' ∧ Blk W' w.heap.size #[.int .i64 K, .slice p len cap, .int .i64 A, .int .i64 R, .int .i64 n, .int .i64 d, .slice q m vc, .int .i64 E] 78 ∧ Blk W' g #[.int .i64 i] 3) ⟨by exact belowAny, by exact blkAny2, by exact blkAny2⟩ ?_
  rintro W1 ⟨hW, b1, b2⟩
  have z2 := hW.size
  have z3 := b1.lt
  have z4 := b2.lt
  have c1 := H_c1.out
  refine wp_region_nd 10 18 [] (fun W' => Rex [] W1 W' ∧ Blk W' w.heap.size #[.int .i64 K, .slice p len cap, .int .i64 A, .int .i64 R, .int .i64 n, .int .i64 d, .slice q m vc, .int .i64 E] 78 ∧ Blk W' g #[.int .i64 i] 3) mixed (by kernel_rfl) rfl ⟨(Rex.refl _ _).drew, b1, b2⟩ (fun w w' ⟨h0, h1, h2⟩ hr => ⟨h0.trans hr, h1.rex hr (by simp <;> omega), h2.rex hr (by simp <;> omega)⟩) (fun c a d v w h => by cases d <;> exact h) ?_
  iterate 3
    apply nd_det (hg := rfl) (hal := rfl)
    · intro a W' hC hE
      obtain ⟨_, k1, k2⟩ := hC
      have k1 := k1.cell
      have k2 := k2.cell
      first
        | (simp [Oper.looksAt, Op.operands, Call.operands, envOf, Det] at hE; simp [go_sem, Act.eval, IntWalk.i64_left, hE, k1, k2]; try rfl)
        | (clear hE; simp [go_sem, Act.eval, IntWalk.i64_left, k1, k2]; try rfl)
  iterate 4
    apply nd_detg (p := true) (hg := rfl) (hd := rfl) (hal := rfl)
    · intro v W' h
      simp [envOf, Det] at h
      simp
      exact h
    · intro hp hx a W' hC hE
      obtain ⟨_, k1, k2⟩ := hC
      have k1 := k1.cell
      have k2 := k2.cell
      simp [Oper.looksAt, Op.operands, Call.operands, envOf, Det, GDet, hx] at hE
      simp [go_sem, Act.eval, IntWalk.i64_left, hE, k1, k2]
      try rfl
  apply nd_callvg2 (p := true) (hg := rfl) (hd := rfl) (hal := rfl)
  · intro v W' h
    simp [envOf, Det] at h
    simp
    exact h
  · intro hp hx W' hC
    exact c1 W' (hW.trans (hC.1.of_priv hW.size))
  · intro hp hx a W' hC hE
    obtain ⟨_, k1, k2⟩ := hC
    have k1 := k1.cell
    have k2 := k2.cell
    first
      | (simp [Oper.looksAt, Op.operands, Call.operands, envOf, Det, GDet, hx] at hE; simp [go_sem, Act.eval, IntWalk.i64_left, hE, k1, k2]; try rfl)
      | (clear hE; simp [go_sem, Act.eval, IntWalk.i64_left, k1, k2]; try rfl)
  iterate 1
    apply nd_detg (p := true) (hg := rfl) (hd := rfl) (hal := rfl)
    · intro v W' h
      simp [envOf, Det] at h
      simp
      exact h
    · intro hp hx a W' hC hE
      obtain ⟨_, k1, k2⟩ := hC
      have k1 := k1.cell
      have k2 := k2.cell
      simp [Oper.looksAt, Op.operands, Call.operands, envOf, Det, GDet, hx] at hE
      simp [go_sem, Act.eval, IntWalk.i64_left, hE, k1, k2]
      try rfl
  apply nd_pick_or (ho := rfl) (hg := rfl)
  · intro v W' h
    simp [envOf, Det] at h
    exact h
  · intro v W' h hx
    simp [envOf, GDet, hx] at h
    exact h
  rintro W5 ⟨hR, d1, d2⟩
  simp only [ndFinR, Det, forall_eq]
  intros
  repeat (rename GDet _ _ _ _ => hgd; clear hgd)
  simp only [Act.put, List.setIfInBounds_toArray, List.set_cons_zero, List.set_cons_succ]
  refine wpList_nil ?_
  replace hW := hW.trans (hR.of_priv hW.size)
  clear hR
  clear c1
  try clear b1 b2
  have b1 := d1
  clear d1
  have b2 := d2
  clear d2
  rw [hF.out]
  have z71 := hW.size
  have z72 := b1.lt
  have z73 := b2.lt
  have k1 := b1.cell
  have f1 := b1.frozen
  have k2 := b2.cell
  have f2 := b2.frozen
  have c2 := H_c2.out
  go_wp2_with fail
  refine (c2 _ (belowAny)).mono ?_
  rintro e w6 ⟨rfl, hb6⟩
  clear c2
  have z7 := hb6.size
  try simp at z7
  clear k1 f1 k2 f2
  have b1 : Blk w6 w.heap.size #[.int .i64 K, .slice p len cap, .int .i64 A, .int .i64 R, .int .i64 n, .int .i64 d, .slice q m vc, .int .i64 E] 78 := by exact blkAny2
  have b2 : Blk w6 g #[.int .i64 i] 3 := by exact blkAny2
  have hW : Below w.heap.size w w6 := by exact belowAny
  have z8 := b1.lt
  have z9 := b2.lt
  clear hb6
  have k1 := b1.cell
  have f1 := b1.frozen
  have k2 := b2.cell
  have f2 := b2.frozen
  go_wp2
  have y_1 := b1.lt
  have y_2 := b2.lt
  refine bodyPost_ret (v := .tuple #[.int .i64 v, .int .i64 0]) (by simp [results, Tryz.results67, go_sem, k1, f1, k2, f2, y_1, y_2]) rfl ⟨rfl, by exact belowAny⟩
set_option maxRecDepth 100000 in
set_option maxHeartbeats 2000000 in
theorem ofi_val (K A R n d E : Int) (p q : Option Addr) (len cap m vc : Nat) (w : World) (g : Nat) (v er : Int)
    (c1 : ∀ W, Below w.heap.size w W → Calls Tryz.prog 55 #[.agg #[.int .i64 K, .slice p len cap, .int .i64 A, .int .i64 R, .int .i64 n, .int .i64 d, .slice q m vc, .int .i64 E]] W fun e w' => e = .returned (.bool true) ∧ Below W.heap.size W w')
    (c3 : ∀ W, Below w.heap.size w W → Calls Tryz.prog 67 #[.agg #[.int .i64 K, .slice p len cap, .int .i64 A, .int .i64 R, .int .i64 n, .int .i64 d, .slice q m vc, .int .i64 E], .pointer (some ⟨g, 0, none⟩)] W fun e w' => e = .returned (.tuple #[.int .i64 v, .int .i64 er]) ∧ Below W.heap.size W w') :
    Calls Tryz.prog 64 #[.agg #[.int .i64 K, .slice p len cap, .int .i64 A, .int .i64 R, .int .i64 n, .int .i64 d, .slice q m vc, .int .i64 E], .func (.func 67) #[] #[.pointer (some ⟨g, 0, none⟩)]] w fun e w' => e = .returned (.tuple #[.int .i64 v, .int .i64 er]) ∧ Below w.heap.size w w' := by
  have H_c1 := Lib.hid c1
  clear c1
  have H_c3 := Lib.hid c3
  clear c3
  go_enter Tryz.func64, Tryz.ntmps64
  go_upto_region 1 with (fail)
  refine wp_facts (fun W' => Below w.heap.size w W' ∧ Blk W' w.heap.size #[.int .i64 K, .slice p len cap, .int .i64 A, .int .i64 R, .int .i64 n, .int .i64 d, .slice q m vc, .int .i64 E] 27) ⟨by exact belowAny, by exact blkAny2⟩ ?_
  rintro W1 ⟨hW, b1⟩
  have z2 := hW.size
  have z3 := b1.lt
  have k1 := b1.cell
  have f1 := b1.frozen
  have c1 := H_c1.out
  go_wp2_with fail
  refine (c1 _ (belowAny)).mono ?_
  rintro e w4 ⟨rfl, hb4⟩
  clear c1
  have z5 := hb4.size
  try simp at z5
  clear k1 f1
  have b1 : Blk w4 w.heap.size #[.int .i64 K, .slice p len cap, .int .i64 A, .int .i64 R, .int .i64 n, .int .i64 d, .slice q m vc, .int .i64 E] 27 := by exact blkAny2
  have hW : Below w.heap.size w w4 := by exact belowAny
  have z6 := b1.lt
  clear hb4
  have k1 := b1.cell
  have f1 := b1.frozen
  have c3 := H_c3.out
  go_wp2_with fail
  refine (c3 _ (belowAny)).mono ?_
  rintro e w7 ⟨rfl, hb7⟩
  clear c3
  have z8 := hb7.size
  try simp at z8
  clear k1 f1
  have b1 : Blk w7 w.heap.size #[.int .i64 K, .slice p len cap, .int .i64 A, .int .i64 R, .int .i64 n, .int .i64 d, .slice q m vc, .int .i64 E] 27 := by exact blkAny2
  have hW : Below w.heap.size w w7 := by exact belowAny
  have z9 := b1.lt
  clear hb7
  have k1 := b1.cell
  have f1 := b1.frozen
  go_wp2
  have y_1 := b1.lt
  refine bodyPost_ret (v := .tuple #[.int .i64 v, .int .i64 er]) (by simp [results, Tryz.results64, go_sem, k1, f1, y_1]) rfl ⟨rfl, by exact belowAny⟩
set_option maxRecDepth 100000 in
set_option maxHeartbeats 2000000 in
theorem val_seg (K A R n d E : Int) (p q : Option Addr) (len cap m vc : Nat) (w : World) (i v er : Int)
    (c1 : ∀ W g, Below w.heap.size w W → Blk W g #[.int .i64 i] 3 → Calls Tryz.prog 64 #[.agg #[.int .i64 K, .slice p len cap, .int .i64 A, .int .i64 R, .int .i64 n, .int .i64 d, .slice q m vc, .int .i64 E], .func (.func 67) #[] #[.pointer (some ⟨g, 0, none⟩)]] W fun e w' => e = .returned (.tuple #[.int .i64 v, .int .i64 er]) ∧ Below W.heap.size W w') :
    Calls Tryz.prog 31 #[.agg #[.int .i64 K, .slice p len cap, .int .i64 A, .int .i64 R, .int .i64 n, .int .i64 d, .slice q m vc, .int .i64 E], .int .i64 i] w fun e w' => e = .returned (.tuple #[.int .i64 v, .int .i64 er]) ∧ Below w.heap.size w w' := by
  have H_c1 := Lib.hid c1
  clear c1
  go_enter Tryz.func31, Tryz.ntmps31
  go_upto_region 1 with (fail)
  refine wp_facts (fun W' => Below w.heap.size w W' ∧ Blk W' w.heap.size #[.int .i64 K, .slice p len cap, .int .i64 A, .int .i64 R, .int .i64 n, .int .i64 d, .slice q m vc, .int .i64 E] 27 ∧ Blk W' (w.heap.size + 1) #[.int .i64 i] 3) ⟨by exact belowAny, by exact blkAny2, by exact blkAny2⟩ ?_
  rintro W1 ⟨hW, b1, b2⟩
  have z2 := hW.size
  have z3 := b1.lt
  have z4 := b2.lt
  have k1 := b1.cell
  have f1 := b1.frozen
  have k2 := b2.cell
  have f2 := b2.frozen
  have c1 := H_c1.out
  go_wp2_with fail
  refine (c1 _ _ (belowAny) (blkAny2)).mono ?_
  rintro e w5 ⟨rfl, hb5⟩
  clear c1
  have z6 := hb5.size
  try simp at z6
  clear k1 f1 k2 f2
  have b1 : Blk w5 w.heap.size #[.int .i64 K, .slice p len cap, .int .i64 A, .int .i64 R, .int .i64 n, .int .i64 d, .slice q m vc, .int .i64 E] 27 := by exact blkAny2
  have b2 : Blk w5 (w.heap.size + 1) #[.int .i64 i] 3 := by exact blkAny2
  have hW : Below w.heap.size w w5 := by exact belowAny
  have z7 := b1.lt
  have z8 := b2.lt
  clear hb5
  have k1 := b1.cell
  have f1 := b1.frozen
  have k2 := b2.cell
  have f2 := b2.frozen
  go_wp2
  have y_1 := b1.lt
  have y_2 := b2.lt
  refine bodyPost_ret (v := .tuple #[.int .i64 v, .int .i64 er]) (by simp [results, Tryz.results31, go_sem, k1, f1, k2, f2, y_1, y_2]) rfl ⟨rfl, by exact belowAny⟩
def segValV (s : SegT) (i : Int) : Int := if segB s && decide (0 ≤ i) && decide (i < cnt s.runs) then valI s i else 0
def segValE (s : SegT) (i : Int) : Int := if segB s then (if decide (0 ≤ i) && decide (i < cnt s.runs) then 0 else 4) else 210
theorem c_segVal (s : SegT) (p q : Option Addr) (cap vc : Nat) (i : Int) (w : World) (h : SegIn w s p q) :
    Calls Tryz.prog 31 #[.agg (segA s p q cap vc), .int .i64 i] w fun e w' => e = .returned (.tuple #[.int .i64 (segValV s i), .int .i64 (segValE s i)]) ∧ Below w.heap.size w w' := by
  refine val_seg _ _ _ _ _ _ p q _ cap _ vc w i _ _ fun W g hW hg => ?_
  have hi := fun W' (hW' : Below W.heap.size W W') => c_segIs s p q cap vc W' ((h.below hW).below hW')
  unfold segValV segValE
  cases hs : segB s with
  | false =>
    rw [hs] at hi
    exact ofi_no _ _ _ _ _ _ p q _ cap _ vc W _ hi
  | true =>
    rw [hs] at hi
    have hl := segB_runs hs
    have hc := fun W' (hW' : Below W.heap.size W W') => fun W2 (hW2 : Below W'.heap.size W' W2) => c_rcount_ok p cap s.runs W2 hl (((h.below hW).below hW').below hW2).runs
    by_cases h0 : 0 ≤ i
    · by_cases h1 : i < cnt s.runs
      · rw [if_pos (by simp [h0, h1]), if_pos rfl, if_pos (by simp [h0, h1])]
        exact ofi_val _ _ _ _ _ _ p q _ cap _ vc W g _ _ hi fun W' hW' => value1_some _ _ _ _ _ _ p q _ cap _ vc W' g i (cnt s.runs) _ (Lib.hid (by simp; omega)) (hg.below hW') (hc W' hW') fun W2 hW2 => c_segValue s p q cap vc i W2 (((h.below hW).below hW').below hW2) hs h0 h1
      · rw [if_neg (by simp [h1]), if_pos rfl, if_neg (by simp [h1])]
        exact ofi_val _ _ _ _ _ _ p q _ cap _ vc W g _ _ hi fun W' hW' => value1_none _ _ _ _ _ _ p q _ cap _ vc W' g i (cnt s.runs) (Lib.hid (by simp; omega)) (hg.below hW') (hc W' hW')
    · rw [if_neg (by simp [h0]), if_pos rfl, if_neg (by simp [h0])]
      exact ofi_val _ _ _ _ _ _ p q _ cap _ vc W g _ _ hi fun W' hW' => value1_none _ _ _ _ _ _ p q _ cap _ vc W' g i (cnt s.runs) (Lib.hid (by simp; omega)) (hg.below hW') (hc W' hW')
def eqpRel (w : World) (p : Option Addr) (cap : Nat) (p' : Option Addr) (cap' : Nat) (A : List (Int × Int)) (a' : Act) (W : World) : Prop :=
  Below w.heap.size w W ∧ ∃ (i : Nat), (∃ u : Nat → Value, a' = { tmps := #[.slice p A.length cap, .slice p' A.length cap', u 2, u 3, .bool false, u 5, u 6, u 7, u 8, u 9, u 10, u 11, .int .i64 (A.length : Int), .int .i64 (i : Int), u 14, u 15, u 16, u 17, u 18, u 19, u 20, u 21, u 22, u 23, u 24, u 25], defers := [] }) ∧ i ≤ A.length
set_option maxRecDepth 100000 in
set_option maxHeartbeats 8000000 in
/-- Two slices of the same points are the same. -/
theorem c_eqPts (p : Option Addr) (cap : Nat) (p' : Option Addr) (cap' : Nat) (A : List (Int × Int)) (w : World) (hlen : A.length ≤ 1000000) (hA0 : PtsIn w p A) (hB0 : PtsIn w p' A) :
    Calls Tryz.prog 33 #[.slice p A.length cap, .slice p' A.length cap'] w fun e w' => e = .returned (.bool true) ∧ Below w.heap.size w w' := by
  go_enter Tryz.func33, Tryz.ntmps33
  go_wp2
  refine wp_loop (eqpRel w p cap p' cap' A) (fun a' _ => A.length - (intAt (a'.tmps.getD 13 undef)).toNat) ?_ ?_
  · unfold eqpRel
    exact ⟨Below.refl _ _, 0, frame_ex rfl, by omega⟩
  · rintro a' W ⟨hW0, i, ⟨u, rfl⟩, hi'⟩
    have hz := hW0.size
    rcases Nat.lt_or_ge i A.length with hlt | hge
    · obtain ⟨r, tr⟩ : ∃ r, A[i]? = some r := ⟨A[i]'(by omega), List.getElem?_eq_getElem (by omega)⟩
      obtain ⟨b, o, rfl, -⟩ := hA0.at' i r tr
      obtain ⟨b', o', rfl, -⟩ := hB0.at' i r tr
      have hA : PtsP W b o A := ⟨hA0.below hW0⟩
      have hB : PtsP W b' o' A := ⟨hB0.below hW0⟩
      replace tr := Lib.hid tr
      have l1 := hlt
      go_upto_region 6 with (fail)
      refine wp_facts (fun W' => Below W.heap.size W W' ∧ PtsP W' b o A ∧ PtsP W' b' o' A) ⟨by exact belowAny, by exact hA.below belowAny, by exact hB.below belowAny⟩ ?_
      rintro W1 ⟨hW, b1, b2⟩
      have z2 := hW.size
      refine wp_region_ndQ 9 26 [] (fun W' => Rex [] W1 W' ∧ PtsP W' b o A ∧ PtsP W' b' o' A) mixed (by kernel_rfl) rfl ⟨(Rex.refl _ _).drew, b1.drew, b2.drew⟩ (fun w w' ⟨h0, h1, h2⟩ hr => ⟨h0.trans hr, h1.rex hr (by simp <;> omega), h2.rex hr (by simp <;> omega)⟩) rfl ?_
      iterate 9
        apply nd_det (hg := rfl) (hal := rfl)
        · intro a W' hC hE
          obtain ⟨_, k1, k2⟩ := hC
          obtain ⟨q0, q1⟩ := k1.cellAt tr.out; obtain ⟨q2, q3⟩ := k2.cellAt tr.out
          first
            | (simp [Oper.looksAt, Op.operands, Call.operands, envOf, Det] at hE; simp [go_sem, Act.eval, IntWalk.i64_left, hE, k1, k2, q0, q1, q2, q3, l1]; try rfl)
            | (clear hE; simp [go_sem, Act.eval, IntWalk.i64_left, k1, k2, q0, q1, q2, q3, l1]; try rfl)
      rintro W3 ⟨hR, d1, d2⟩
      simp only [ndFinR, Det, forall_eq]
      intros
      repeat (rename GDet _ _ _ _ => hgd; clear hgd)
      simp only [Act.put, List.setIfInBounds_toArray, List.set_cons_zero, List.set_cons_succ]
      refine wpList_nil ?_
      replace hW := hW.trans (hR.of_priv hW.size)
      clear hR
      try clear b1 b2
      have b1 := d1
      clear d1
      have b2 := d2
      clear d2
      go_wp2
      rw [show (i : Int) + 1 = ((i + 1 : Nat) : Int) by omega]
      refine ⟨?_, by simp [intAt]; omega⟩
      unfold eqpRel
      exact ⟨hW0.trans (hW.mono hz), i + 1, frame_ex rfl, by omega⟩
    · obtain rfl : i = A.length := by omega
      go_wp2
      go_ret
      exact ⟨rfl, hW0⟩
end Go.Proofs.YtgblmlefmohgnaaGreat
namespace Go.Proofs.YtgblmlefmohgnaaGreat
open Go.RowKit
def vlRel (w1 : World) (t wv we : Int) (P : List (Int × Int)) (g2 cp2 : Nat) (a' : Act) (W : World) : Prop :=
  Below w1.heap.size w1 W ∧ ∃ (k : Nat), (∃ u : Nat → Value, a' = { tmps := #[u 0, u 1, .int .i64 t, u 3, u 4, u 5, u 6, u 7, u 8, u 9, .int .i64 wv, .int .i64 we, u 12, u 13, u 14, u 15, u 16, u 17, u 18, u 19, u 20, u 21, u 22, u 23, u 24, u 25, u 26, u 27, u 28, u 29, u 30, u 31, u 32, u 33, u 34, u 35, u 36, u 37, u 38, u 39, u 40, u 41, u 42, u 43, u 44, u 45, u 46, u 47, u 48, u 49, u 50, u 51, u 52, u 53, u 54, u 55, u 56, u 57, u 58, u 59, u 60, u 61, u 62, u 63, u 64, u 65, u 66, u 67, u 68, u 69, u 70, u 71, u 72, u 73, u 74, u 75, u 76, u 77, u 78, u 79, u 80, u 81, u 82, u 83, u 84, u 85, u 86, u 87, u 88, u 89, u 90, u 91, u 92, u 93, u 94, u 95, u 96, u 97, u 98, u 99, u 100, u 101, u 102, .slice (some ⟨g2, 0, none⟩) P.length cp2, .int .i64 (P.length : Int), .int .i64 (k : Int), u 106, u 107, u 108, u 109, u 110, u 111, u 112, u 113, u 114, u 115, u 116, u 117, u 118, u 119, u 120, u 121, u 122, u 123, u 124, u 125, u 126, u 127], defers := [] }) ∧ k ≤ P.length ∧ ∀ (j : Nat) (x : Int × Int), j < k → P[j]? = some x → x.1 ≠ t
set_option maxRecDepth 100000 in
set_option maxHeartbeats 2000000 in
theorem values_no (K A R n d E : Int) (p q : Option Addr) (len cap m vc : Nat) (w : World) (len2 m2 : Nat) (s' : SegT) (i t : Int)
    (c1 : ∀ W, Below w.heap.size w W → Calls Tryz.prog 10 #[] W fun e w' => e = .returned (.bool true) ∧ Below W.heap.size W w')
    (c2 : ∀ W, Below w.heap.size w W → Calls Tryz.prog 11 #[.agg #[.int .i64 K, .slice p len cap, .int .i64 A, .int .i64 R, .int .i64 n, .int .i64 d, .slice q m vc, .int .i64 E]] W fun e w' => ∃ p' cap' q' vc', e = .returned (.agg #[.int .i64 K, .slice p' len2 cap', .int .i64 A, .int .i64 R, .int .i64 n, .int .i64 d, .slice q' m2 vc', .int .i64 E]) ∧ Below W.heap.size W w' ∧ SegIn w' s' p' q' ∧ m2 ≤ vc')
    (c3 : ∀ W p' q' cap' vc', SegIn W s' p' q' → Calls Tryz.prog 31 #[.agg #[.int .i64 K, .slice p' len2 cap', .int .i64 A, .int .i64 R, .int .i64 n, .int .i64 d, .slice q' m2 vc', .int .i64 E], .int .i64 i] W fun e w' => e = .returned (.tuple #[.int .i64 0, .int .i64 210]) ∧ Below W.heap.size W w')
    (c4 : ∀ W p' q' cap' vc', SegIn W s' p' q' → Calls Tryz.prog 32 #[.agg #[.int .i64 K, .slice p' len2 cap', .int .i64 A, .int .i64 R, .int .i64 n, .int .i64 d, .slice q' m2 vc', .int .i64 E], .int .i64 t] W fun e w' => e = .returned (.tuple #[.int .i64 0, .int .i64 210]) ∧ Below W.heap.size W w')
    (c5 : ∀ W p' q' cap' vc', SegIn W s' p' q' → Calls Tryz.prog 25 #[.agg #[.int .i64 K, .slice p' len2 cap', .int .i64 A, .int .i64 R, .int .i64 n, .int .i64 d, .slice q' m2 vc', .int .i64 E]] W fun e w' => e = .returned (.tuple #[.slice none 0 0, .int .i64 210]) ∧ Below W.heap.size W w')
    (c6 : ∀ W p' q' cap' vc', SegIn W s' p' q' → Calls Tryz.prog 13 #[.agg #[.int .i64 K, .slice p' len2 cap', .int .i64 A, .int .i64 R, .int .i64 n, .int .i64 d, .slice q' m2 vc', .int .i64 E]] W fun e w' => e = .returned (.bool false) ∧ Below W.heap.size W w') :
    Calls Tryz.prog 8 #[.agg #[.int .i64 K, .slice p len cap, .int .i64 A, .int .i64 R, .int .i64 n, .int .i64 d, .slice q m vc, .int .i64 E], .int .i64 i, .int .i64 t] w fun e w' => e = .returned (.bool true) ∧ Below w.heap.size w w' := by
  have H_c1 := Lib.hid c1
  clear c1
  have H_c2 := Lib.hid c2
  clear c2
  have H_c3 := Lib.hid c3
  clear c3
  have H_c4 := Lib.hid c4
  clear c4
  have H_c5 := Lib.hid c5
  clear c5
  have H_c6 := Lib.hid c6
  clear c6
  go_enter Tryz.func8, Tryz.ntmps8
  go_upto_region 1 with (fail)
  refine wp_facts (fun W' => Below w.heap.size w W' ∧ Blk W' w.heap.size #[.int .i64 K, .slice p len cap, .int .i64 A, .int .i64 R, .int .i64 n, .int .i64 d, .slice q m vc, .int .i64 E] 27) ⟨by exact belowAny, by exact blkAny2⟩ ?_
  rintro W1 ⟨hW, b1⟩
  have z2 := hW.size
  have z3 := b1.lt
  have k1 := b1.cell
  have f1 := b1.frozen
  have c1 := H_c1.out
  go_wp2_with fail
  refine (c1 _ (belowAny)).mono ?_
  rintro e w4 ⟨rfl, hb4⟩
  clear c1
  have z5 := hb4.size
  try simp at z5
  clear k1 f1
  have b1 : Blk w4 w.heap.size #[.int .i64 K, .slice p len cap, .int .i64 A, .int .i64 R, .int .i64 n, .int .i64 d, .slice q m vc, .int .i64 E] 27 := by exact blkAny2
  have hW : Below w.heap.size w w4 := by exact belowAny
  have z6 := b1.lt
  clear hb4
  have k1 := b1.cell
  have f1 := b1.frozen
  have c2 := H_c2.out
  go_wp2_with fail
  refine (c2 _ (belowAny)).mono ?_
  rintro e w7 ⟨p', cap', q', vc', rfl, hb7, hS, hvc⟩
  clear c2
  have z8 := hb7.size
  try simp at z8
  clear k1 f1
  have b1 : Blk w7 w.heap.size #[.int .i64 K, .slice p len cap, .int .i64 A, .int .i64 R, .int .i64 n, .int .i64 d, .slice q m vc, .int .i64 E] 27 := by exact blkAny2
  have hW : Below w.heap.size w w7 := by exact belowAny
  have z9 := b1.lt
  have k1 := b1.cell
  have f1 := b1.frozen
  have b2 : SegP _ _ _ _ := ⟨hS⟩
  clear hS hvc
  have c3 := H_c3.out
  go_wp2_with fail
  refine (c3 _ p' q' cap' vc' segNow).mono ?_
  rintro e w10 ⟨rfl, hb10⟩
  clear c3
  have z11 := hb10.size
  try simp at z11
  clear k1 f1
  have b1 : Blk w10 w.heap.size #[.int .i64 K, .slice p len cap, .int .i64 A, .int .i64 R, .int .i64 n, .int .i64 d, .slice q m vc, .int .i64 E] 27 := by exact blkAny2
  have b2 : SegP w10 s' p' q' := by exact segPAny
  have b3 : Blk w10 w7.heap.size #[.int .i64 K, .slice p' len2 cap', .int .i64 A, .int .i64 R, .int .i64 n, .int .i64 d, .slice q' m2 vc', .int .i64 E] 27 := by exact blkAny2
  have hW : Below w.heap.size w w10 := by exact belowAny
  have z12 := b1.lt
  have z13 := b3.lt
  clear hb10
  have k1 := b1.cell
  have f1 := b1.frozen
  have k3 := b3.cell
  have f3 := b3.frozen
  have c4 := H_c4.out
  go_wp2_with fail
  refine (c4 _ p' q' cap' vc' segNow).mono ?_
  rintro e w14 ⟨rfl, hb14⟩
  clear c4
  have z15 := hb14.size
  try simp at z15
  clear k1 f1 k3 f3
  have b1 : Blk w14 w.heap.size #[.int .i64 K, .slice p len cap, .int .i64 A, .int .i64 R, .int .i64 n, .int .i64 d, .slice q m vc, .int .i64 E] 27 := by exact blkAny2
  have b2 : SegP w14 s' p' q' := by exact segPAny
  have b3 : Blk w14 w7.heap.size #[.int .i64 K, .slice p' len2 cap', .int .i64 A, .int .i64 R, .int .i64 n, .int .i64 d, .slice q' m2 vc', .int .i64 E] 27 := by exact blkAny2
  have hW : Below w.heap.size w w14 := by exact belowAny
  have z16 := b1.lt
  have z17 := b3.lt
  clear hb14
  have k1 := b1.cell
  have f1 := b1.frozen
  have k3 := b3.cell
  have f3 := b3.frozen
  have c5 := H_c5.out
  go_wp2_with fail
  refine (c5 _ p' q' cap' vc' segNow).mono ?_
  rintro e w18 ⟨rfl, hb18⟩
  clear c5
  have z19 := hb18.size
  try simp at z19
  clear k1 f1 k3 f3
  have b1 : Blk w18 w.heap.size #[.int .i64 K, .slice p len cap, .int .i64 A, .int .i64 R, .int .i64 n, .int .i64 d, .slice q m vc, .int .i64 E] 27 := by exact blkAny2
  have b2 : SegP w18 s' p' q' := by exact segPAny
  have b3 : Blk w18 w7.heap.size #[.int .i64 K, .slice p' len2 cap', .int .i64 A, .int .i64 R, .int .i64 n, .int .i64 d, .slice q' m2 vc', .int .i64 E] 27 := by exact blkAny2
  have hW : Below w.heap.size w w18 := by exact belowAny
  have z20 := b1.lt
  have z21 := b3.lt
  clear hb18
  have k1 := b1.cell
  have f1 := b1.frozen
  have k3 := b3.cell
  have f3 := b3.frozen
  have c6 := H_c6.out
  go_wp2_with fail
  refine (c6 _ p' q' cap' vc' segNow).mono ?_
  rintro e w22 ⟨rfl, hb22⟩
  clear c6
  have z23 := hb22.size
  try simp at z23
  clear k1 f1 k3 f3
  have b1 : Blk w22 w.heap.size #[.int .i64 K, .slice p len cap, .int .i64 A, .int .i64 R, .int .i64 n, .int .i64 d, .slice q m vc, .int .i64 E] 27 := by exact blkAny2
  have b2 : SegP w22 s' p' q' := by exact segPAny
  have b3 : Blk w22 w7.heap.size #[.int .i64 K, .slice p' len2 cap', .int .i64 A, .int .i64 R, .int .i64 n, .int .i64 d, .slice q' m2 vc', .int .i64 E] 27 := by exact blkAny2
  have hW : Below w.heap.size w w22 := by exact belowAny
  have z24 := b1.lt
  have z25 := b3.lt
  clear hb22
  have k1 := b1.cell
  have f1 := b1.frozen
  have k3 := b3.cell
  have f3 := b3.frozen
  go_wp2
  have y_1 := b1.lt
  have y_3 := b3.lt
  refine bodyPost_ret (v := .bool true) (by simp [results, Tryz.results8, go_sem, k1, f1, k3, f3, y_1, y_3]) rfl ⟨rfl, by exact belowAny⟩
set_option maxRecDepth 100000 in
set_option maxHeartbeats 8000000 in
theorem values_yes (K A R n d E : Int) (p q : Option Addr) (len cap m vc : Nat) (w : World) (len2 m2 : Nat) (s' : SegT) (i t v ev wv we : Int) (P : List (Int × Int)) (h300 : P.length ≤ 1000)
    (hat : ∀ (k : Nat) (y : Int), P[k]? = some (t, y) → wv = y ∧ we = 0) (hno : (∀ (k : Nat) (x : Int × Int), P[k]? = some x → x.1 ≠ t) → wv = 0 ∧ we = 4)
    (hin : ∀ (k : Nat) (x : Int × Int), i = (k : Int) → P[k]? = some x → v = x.2 ∧ ev = 0) (hout : (i < 0 ∨ (P.length : Int) ≤ i) → v = 0 ∧ ev = 4)
    (c1 : ∀ W, Below w.heap.size w W → Calls Tryz.prog 10 #[] W fun e w' => e = .returned (.bool true) ∧ Below W.heap.size W w')
    (c2 : ∀ W, Below w.heap.size w W → Calls Tryz.prog 11 #[.agg #[.int .i64 K, .slice p len cap, .int .i64 A, .int .i64 R, .int .i64 n, .int .i64 d, .slice q m vc, .int .i64 E]] W fun e w' => ∃ p' cap' q' vc', e = .returned (.agg #[.int .i64 K, .slice p' len2 cap', .int .i64 A, .int .i64 R, .int .i64 n, .int .i64 d, .slice q' m2 vc', .int .i64 E]) ∧ Below W.heap.size W w' ∧ SegIn w' s' p' q' ∧ m2 ≤ vc')
    (c3 : ∀ W p' q' cap' vc', SegIn W s' p' q' → Calls Tryz.prog 31 #[.agg #[.int .i64 K, .slice p' len2 cap', .int .i64 A, .int .i64 R, .int .i64 n, .int .i64 d, .slice q' m2 vc', .int .i64 E], .int .i64 i] W fun e w' => e = .returned (.tuple #[.int .i64 v, .int .i64 ev]) ∧ Below W.heap.size W w')
    (c4 : ∀ W p' q' cap' vc', SegIn W s' p' q' → Calls Tryz.prog 32 #[.agg #[.int .i64 K, .slice p' len2 cap', .int .i64 A, .int .i64 R, .int .i64 n, .int .i64 d, .slice q' m2 vc', .int .i64 E], .int .i64 t] W fun e w' => e = .returned (.tuple #[.int .i64 wv, .int .i64 we]) ∧ Below W.heap.size W w')
    (c5 : ∀ W p' q' cap' vc', SegIn W s' p' q' → Calls Tryz.prog 25 #[.agg #[.int .i64 K, .slice p' len2 cap', .int .i64 A, .int .i64 R, .int .i64 n, .int .i64 d, .slice q' m2 vc', .int .i64 E]] W fun e w' => ∃ g cp, e = .returned (.tuple #[.slice (some ⟨g, 0, none⟩) P.length cp, .int .i64 0]) ∧ Below W.heap.size W w' ∧ PtsIn w' (some ⟨g, 0, none⟩) P)
    (c6 : ∀ W p' q' cap' vc', SegIn W s' p' q' → Calls Tryz.prog 13 #[.agg #[.int .i64 K, .slice p' len2 cap', .int .i64 A, .int .i64 R, .int .i64 n, .int .i64 d, .slice q' m2 vc', .int .i64 E]] W fun e w' => e = .returned (.bool true) ∧ Below W.heap.size W w')
    (c7 : ∀ W p' q' cap' vc', SegIn W s' p' q' → Calls Tryz.prog 14 #[.agg #[.int .i64 K, .slice p' len2 cap', .int .i64 A, .int .i64 R, .int .i64 n, .int .i64 d, .slice q' m2 vc', .int .i64 E]] W fun e w' => ∃ g cp, e = .returned (.tuple #[.slice (some ⟨g, 0, none⟩) P.length cp, .bool true]) ∧ Below W.heap.size W w' ∧ PtsIn w' (some ⟨g, 0, none⟩) P)
    (c8 : ∀ W g cp g2 cp2, PtsIn W (some ⟨g, 0, none⟩) P → PtsIn W (some ⟨g2, 0, none⟩) P → Calls Tryz.prog 33 #[.slice (some ⟨g, 0, none⟩) P.length cp, .slice (some ⟨g2, 0, none⟩) P.length cp2] W fun e w' => e = .returned (.bool true) ∧ Below W.heap.size W w') :
    Calls Tryz.prog 8 #[.agg #[.int .i64 K, .slice p len cap, .int .i64 A, .int .i64 R, .int .i64 n, .int .i64 d, .slice q m vc, .int .i64 E], .int .i64 i, .int .i64 t] w fun e w' => e = .returned (.bool true) ∧ Below w.heap.size w w' := by
  replace hat := Lib.hid hat
  replace hno := Lib.hid hno
  replace hin := Lib.hid hin
  replace hout := Lib.hid hout
  have H_c1 := Lib.hid c1
  clear c1
  have H_c2 := Lib.hid c2
  clear c2
  have H_c3 := Lib.hid c3
  clear c3
  have H_c4 := Lib.hid c4
  clear c4
  have H_c5 := Lib.hid c5
  clear c5
  have H_c6 := Lib.hid c6
  clear c6
  have H_c7 := Lib.hid c7
  clear c7
  have H_c8 := Lib.hid c8
  clear c8
  go_enter Tryz.func8, Tryz.ntmps8
  go_upto_region 1 with (fail)
  refine wp_facts (fun W' => Below w.heap.size w W' ∧ Blk W' w.heap.size #[.int .i64 K, .slice p len cap, .int .i64 A, .int .i64 R, .int .i64 n, .int .i64 d, .slice q m vc, .int .i64 E] 27) ⟨by exact belowAny, by exact blkAny2⟩ ?_
  rintro W1 ⟨hW, b1⟩
  have z2 := hW.size
  have z3 := b1.lt
  have k1 := b1.cell
  have f1 := b1.frozen
  have c1 := H_c1.out
  go_wp2_with fail
  refine (c1 _ (belowAny)).mono ?_
  rintro e w4 ⟨rfl, hb4⟩
  clear c1
  have z5 := hb4.size
  try simp at z5
  clear k1 f1
  have b1 : Blk w4 w.heap.size #[.int .i64 K, .slice p len cap, .int .i64 A, .int .i64 R, .int .i64 n, .int .i64 d, .slice q m vc, .int .i64 E] 27 := by exact blkAny2
  have hW : Below w.heap.size w w4 := by exact belowAny
  have z6 := b1.lt
  clear hb4
  have k1 := b1.cell
  have f1 := b1.frozen
  have c2 := H_c2.out
  go_wp2_with fail
  refine (c2 _ (belowAny)).mono ?_
  rintro e w7 ⟨p', cap', q', vc', rfl, hb7, hS, hvc⟩
  clear c2
  have z8 := hb7.size
  try simp at z8
  clear k1 f1
  have b1 : Blk w7 w.heap.size #[.int .i64 K, .slice p len cap, .int .i64 A, .int .i64 R, .int .i64 n, .int .i64 d, .slice q m vc, .int .i64 E] 27 := by exact blkAny2
  have hW : Below w.heap.size w w7 := by exact belowAny
  have z9 := b1.lt
  have k1 := b1.cell
  have f1 := b1.frozen
  have b2 : SegP _ _ _ _ := ⟨hS⟩
  clear hS hvc
  have c3 := H_c3.out
  go_wp2_with fail
  refine (c3 _ p' q' cap' vc' segNow).mono ?_
  rintro e w10 ⟨rfl, hb10⟩
  clear c3
  have z11 := hb10.size
  try simp at z11
  clear k1 f1
  have b1 : Blk w10 w.heap.size #[.int .i64 K, .slice p len cap, .int .i64 A, .int .i64 R, .int .i64 n, .int .i64 d, .slice q m vc, .int .i64 E] 27 := by exact blkAny2
  have b2 : SegP w10 s' p' q' := by exact segPAny
  have b3 : Blk w10 w7.heap.size #[.int .i64 K, .slice p' len2 cap', .int .i64 A, .int .i64 R, .int .i64 n, .int .i64 d, .slice q' m2 vc', .int .i64 E] 27 := by exact blkAny2
  have hW : Below w.heap.size w w10 := by exact belowAny
  have z12 := b1.lt
  have z13 := b3.lt
  clear hb10
  have k1 := b1.cell
  have f1 := b1.frozen
  have k3 := b3.cell
  have f3 := b3.frozen
  have c4 := H_c4.out
  go_wp2_with fail
  refine (c4 _ p' q' cap' vc' segNow).mono ?_
  rintro e w14 ⟨rfl, hb14⟩
  clear c4
  have z15 := hb14.size
  try simp at z15
  clear k1 f1 k3 f3
  have b1 : Blk w14 w.heap.size #[.int .i64 K, .slice p len cap, .int .i64 A, .int .i64 R, .int .i64 n, .int .i64 d, .slice q m vc, .int .i64 E] 27 := by exact blkAny2
  have b2 : SegP w14 s' p' q' := by exact segPAny
  have b3 : Blk w14 w7.heap.size #[.int .i64 K, .slice p' len2 cap', .int .i64 A, .int .i64 R, .int .i64 n, .int .i64 d, .slice q' m2 vc', .int .i64 E] 27 := by exact blkAny2
  have hW : Below w.heap.size w w14 := by exact belowAny
  have z16 := b1.lt
  have z17 := b3.lt
  clear hb14
  have k1 := b1.cell
  have f1 := b1.frozen
  have k3 := b3.cell
  have f3 := b3.frozen
  have c5 := H_c5.out
  go_wp2_with fail
  refine (c5 _ p' q' cap' vc' segNow).mono ?_
  rintro e w18 ⟨g, cp, rfl, hb18, hP⟩
  clear c5
  have z19 := hb18.size
  try simp at z19
  clear k1 f1 k3 f3
  have b1 : Blk w18 w.heap.size #[.int .i64 K, .slice p len cap, .int .i64 A, .int .i64 R, .int .i64 n, .int .i64 d, .slice q m vc, .int .i64 E] 27 := by exact blkAny2
  have b2 : SegP w18 s' p' q' := by exact segPAny
  have b3 : Blk w18 w7.heap.size #[.int .i64 K, .slice p' len2 cap', .int .i64 A, .int .i64 R, .int .i64 n, .int .i64 d, .slice q' m2 vc', .int .i64 E] 27 := by exact blkAny2
  have hW : Below w.heap.size w w18 := by exact belowAny
  have z20 := b1.lt
  have z21 := b3.lt
  have k1 := b1.cell
  have f1 := b1.frozen
  have k3 := b3.cell
  have f3 := b3.frozen
  have b4 : PtsP _ _ _ _ := ⟨hP⟩
  clear hP
  have c6 := H_c6.out
  go_wp2_with fail
  refine (c6 _ p' q' cap' vc' segNow).mono ?_
  rintro e w22 ⟨rfl, hb22⟩
  clear c6
  have z23 := hb22.size
  try simp at z23
  clear k1 f1 k3 f3
  have b1 : Blk w22 w.heap.size #[.int .i64 K, .slice p len cap, .int .i64 A, .int .i64 R, .int .i64 n, .int .i64 d, .slice q m vc, .int .i64 E] 27 := by exact blkAny2
  have b2 : SegP w22 s' p' q' := by exact segPAny
  have b3 : Blk w22 w7.heap.size #[.int .i64 K, .slice p' len2 cap', .int .i64 A, .int .i64 R, .int .i64 n, .int .i64 d, .slice q' m2 vc', .int .i64 E] 27 := by exact blkAny2
  have b4 : PtsP w22 g 0 P := by exact b4.below (by assumption)
  have hW : Below w.heap.size w w22 := by exact belowAny
  have z24 := b1.lt
  have z25 := b3.lt
  clear hb22
  have k1 := b1.cell
  have f1 := b1.frozen
  have k3 := b3.cell
  have f3 := b3.frozen
  have c7 := H_c7.out
  go_wp2_with fail
  refine (c7 _ p' q' cap' vc' segNow).mono ?_
  rintro e w26 ⟨g2, cp2, rfl, hb26, hP2⟩
  clear c7
  have z27 := hb26.size
  try simp at z27
  clear k1 f1 k3 f3
  have b1 : Blk w26 w.heap.size #[.int .i64 K, .slice p len cap, .int .i64 A, .int .i64 R, .int .i64 n, .int .i64 d, .slice q m vc, .int .i64 E] 27 := by exact blkAny2
  have b2 : SegP w26 s' p' q' := by exact segPAny
  have b3 : Blk w26 w7.heap.size #[.int .i64 K, .slice p' len2 cap', .int .i64 A, .int .i64 R, .int .i64 n, .int .i64 d, .slice q' m2 vc', .int .i64 E] 27 := by exact blkAny2
  have b4 : PtsP w26 g 0 P := by exact b4.below (by assumption)
  have hW : Below w.heap.size w w26 := by exact belowAny
  have z28 := b1.lt
  have z29 := b3.lt
  have k1 := b1.cell
  have f1 := b1.frozen
  have k3 := b3.cell
  have f3 := b3.frozen
  have b5 : PtsP _ _ _ _ := ⟨hP2⟩
  clear hP2
  have c8 := H_c8.out
  go_wp2_with fail
  refine (c8 _ g cp g2 cp2 b4.pts b5.pts).mono ?_
  rintro e w30 ⟨rfl, hb30⟩
  clear c8
  have z31 := hb30.size
  try simp at z31
  clear k1 f1 k3 f3
  have b1 : Blk w30 w.heap.size #[.int .i64 K, .slice p len cap, .int .i64 A, .int .i64 R, .int .i64 n, .int .i64 d, .slice q m vc, .int .i64 E] 27 := by exact blkAny2
  have b2 : SegP w30 s' p' q' := by exact segPAny
  have b3 : Blk w30 w7.heap.size #[.int .i64 K, .slice p' len2 cap', .int .i64 A, .int .i64 R, .int .i64 n, .int .i64 d, .slice q' m2 vc', .int .i64 E] 27 := by exact blkAny2
  have b4 : PtsP w30 g 0 P := by exact b4.below (by assumption)
  have b5 : PtsP w30 g2 0 P := by exact b5.below (by assumption)
  have hW : Below w.heap.size w w30 := by exact belowAny
  have z32 := b1.lt
  have z33 := b3.lt
  clear hb30
  have k1 := b1.cell
  have f1 := b1.frozen
  have k3 := b3.cell
  have f3 := b3.frozen
  clear b1 b2 b3 b4 k1 f1 k3 f3
  rcases Int.lt_or_le i 0 with hi0 | hi0
  · obtain ⟨rfl, rfl⟩ := hout.out (.inl hi0)
    clear hout hin
    go_wp2
    refine wp_loop (vlRel w30 t wv we P g2 cp2) (fun a' _ => P.length - (intAt (a'.tmps.getD 105 undef)).toNat) ?_ ?_
    · unfold vlRel
      exact ⟨Below.refl _ _, 0, frame_ex rfl, by omega, fun k y hk => by omega⟩
    · rintro a' W99 ⟨hW9, k, ⟨u, rfl⟩, hk, hnot⟩
      have hz9 := hW9.size
      have hP := b5.below hW9
      replace hnot := Lib.hid hnot
      rcases Nat.lt_or_ge k P.length with hlt | hge
      · obtain ⟨⟨tx, y⟩, hx⟩ : ∃ x, P[k]? = some x := ⟨P[k], List.getElem?_eq_getElem hlt⟩
        obtain ⟨q0, q1⟩ := hP.cellAt hx
        simp only [Nat.zero_add] at q0 q1
        have hxx := Lib.hid hx
        clear hx
        by_cases h : tx = t
        · subst h
          obtain ⟨e1, e2⟩ := hat.out k y hxx.out
          subst e1
          subst e2
          clear hat hno
          go_wp2
          go_ret
          exact ⟨rfl, hW.trans ((show Below w30.heap.size w30 _ from by exact belowAny).mono hW.size)⟩
        · have hnot' := Lib.hid (show ∀ (j : Nat) (x : Int × Int), j < k + 1 → P[j]? = some x → x.1 ≠ t from fun j x hj hjx => by
            rcases Nat.lt_or_ge j k with h3 | h3
            · exact hnot.out j x h3 hjx
            · obtain rfl : j = k := by omega
              rw [hxx.out] at hjx
              injection hjx with hjx
              rw [← hjx]; exact h)
          go_wp2
          rw [show (k : Int) + 1 = ((k + 1 : Nat) : Int) by omega]
          refine ⟨?_, by simp [intAt]; omega⟩
          unfold vlRel
          exact ⟨(show Below _ _ _ from by exact belowAny), k + 1, frame_ex rfl, by omega, hnot'.out⟩
      · obtain ⟨e1, e2⟩ := hno.out fun j x hjx => hnot.out j x (by have := (List.getElem?_eq_some_iff.1 hjx).1; omega) hjx
        subst e1
        subst e2
        obtain rfl : k = P.length := by omega
        clear hat hno
        go_wp2
        go_ret
        exact ⟨rfl, hW.trans ((show Below w30.heap.size w30 _ from by exact belowAny).mono hW.size)⟩
  · rcases Int.lt_or_le i P.length with hi1 | hi1
    · obtain ⟨j, rfl⟩ : ∃ j : Nat, i = (j : Int) := ⟨i.toNat, by omega⟩
      have hj : j < P.length := by omega
      obtain ⟨x, hx⟩ : ∃ x, P[j]? = some x := ⟨P[j], List.getElem?_eq_getElem hj⟩
      obtain ⟨rfl, rfl⟩ := hin.out j x rfl hx
      obtain ⟨q0, q1⟩ := b5.cellAt hx
      simp only [Nat.zero_add] at q0 q1
      clear hout hin hx
      go_wp2
      refine wp_loop (vlRel w30 t wv we P g2 cp2) (fun a' _ => P.length - (intAt (a'.tmps.getD 105 undef)).toNat) ?_ ?_
      · unfold vlRel
        exact ⟨Below.refl _ _, 0, frame_ex rfl, by omega, fun k y hk => by omega⟩
      · rintro a' W99 ⟨hW9, k, ⟨u, rfl⟩, hk, hnot⟩
        have hz9 := hW9.size
        have hP := b5.below hW9
        replace hnot := Lib.hid hnot
        rcases Nat.lt_or_ge k P.length with hlt | hge
        · obtain ⟨⟨tx, y⟩, hx⟩ : ∃ x, P[k]? = some x := ⟨P[k], List.getElem?_eq_getElem hlt⟩
          obtain ⟨q0, q1⟩ := hP.cellAt hx
          simp only [Nat.zero_add] at q0 q1
          have hxx := Lib.hid hx
          clear hx
          by_cases h : tx = t
          · subst h
            obtain ⟨e1, e2⟩ := hat.out k y hxx.out
            subst e1
            subst e2
            clear hat hno
            go_wp2
            go_ret
            exact ⟨rfl, hW.trans ((show Below w30.heap.size w30 _ from by exact belowAny).mono hW.size)⟩
          · have hnot' := Lib.hid (show ∀ (j : Nat) (x : Int × Int), j < k + 1 → P[j]? = some x → x.1 ≠ t from fun j x hj hjx => by
              rcases Nat.lt_or_ge j k with h3 | h3
              · exact hnot.out j x h3 hjx
              · obtain rfl : j = k := by omega
                rw [hxx.out] at hjx
                injection hjx with hjx
                rw [← hjx]; exact h)
            go_wp2
            rw [show (k : Int) + 1 = ((k + 1 : Nat) : Int) by omega]
            refine ⟨?_, by simp [intAt]; omega⟩
            unfold vlRel
            exact ⟨(show Below _ _ _ from by exact belowAny), k + 1, frame_ex rfl, by omega, hnot'.out⟩
        · obtain ⟨e1, e2⟩ := hno.out fun j x hjx => hnot.out j x (by have := (List.getElem?_eq_some_iff.1 hjx).1; omega) hjx
          subst e1
          subst e2
          obtain rfl : k = P.length := by omega
          clear hat hno
          go_wp2
          go_ret
          exact ⟨rfl, hW.trans ((show Below w30.heap.size w30 _ from by exact belowAny).mono hW.size)⟩
    · obtain ⟨rfl, rfl⟩ := hout.out (.inr hi1)
      clear hout hin
      go_wp2
      refine wp_loop (vlRel w30 t wv we P g2 cp2) (fun a' _ => P.length - (intAt (a'.tmps.getD 105 undef)).toNat) ?_ ?_
      · unfold vlRel
        exact ⟨Below.refl _ _, 0, frame_ex rfl, by omega, fun k y hk => by omega⟩
      · rintro a' W99 ⟨hW9, k, ⟨u, rfl⟩, hk, hnot⟩
        have hz9 := hW9.size
        have hP := b5.below hW9
        replace hnot := Lib.hid hnot
        rcases Nat.lt_or_ge k P.length with hlt | hge
        · obtain ⟨⟨tx, y⟩, hx⟩ : ∃ x, P[k]? = some x := ⟨P[k], List.getElem?_eq_getElem hlt⟩
          obtain ⟨q0, q1⟩ := hP.cellAt hx
          simp only [Nat.zero_add] at q0 q1
          have hxx := Lib.hid hx
          clear hx
          by_cases h : tx = t
          · subst h
            obtain ⟨e1, e2⟩ := hat.out k y hxx.out
            subst e1
            subst e2
            clear hat hno
            go_wp2
            go_ret
            exact ⟨rfl, hW.trans ((show Below w30.heap.size w30 _ from by exact belowAny).mono hW.size)⟩
          · have hnot' := Lib.hid (show ∀ (j : Nat) (x : Int × Int), j < k + 1 → P[j]? = some x → x.1 ≠ t from fun j x hj hjx => by
              rcases Nat.lt_or_ge j k with h3 | h3
              · exact hnot.out j x h3 hjx
              · obtain rfl : j = k := by omega
                rw [hxx.out] at hjx
                injection hjx with hjx
                rw [← hjx]; exact h)
            go_wp2
            rw [show (k : Int) + 1 = ((k + 1 : Nat) : Int) by omega]
            refine ⟨?_, by simp [intAt]; omega⟩
            unfold vlRel
            exact ⟨(show Below _ _ _ from by exact belowAny), k + 1, frame_ex rfl, by omega, hnot'.out⟩
        · obtain ⟨e1, e2⟩ := hno.out fun j x hjx => hnot.out j x (by have := (List.getElem?_eq_some_iff.1 hjx).1; omega) hjx
          subst e1
          subst e2
          obtain rfl : k = P.length := by omega
          clear hat hno
          go_wp2
          go_ret
          exact ⟨rfl, hW.trans ((show Below w30.heap.size w30 _ from by exact belowAny).mono hW.size)⟩
end Go.Proofs.YtgblmlefmohgnaaGreat
namespace Go.Proofs.YtgblmlefmohgnaaGreat
open Go.ChangeShapes Go.WideShapes Go.ChangeAt Go.RowKit
theorem OwnR.ptsV {w : World} {B n : Nat} {t : TypeId} {v : Value} {l : List (Int × Int)} (h : OwnR w B t 2 v n (flatPts l)) (hn : 0 < n) : ∃ g cp, v = .slice (some ⟨g, 0, none⟩) n cp ∧ PtsIn w (some ⟨g, 0, none⟩) l := by
  rcases h.own.2 with ⟨_, h0⟩ | ⟨g, cap, cur, rfl, _, hb, _, _, _, ht⟩
  · omega
  · exact ⟨g, cap, rfl, pts_in hb ht⟩
theorem Came.callsV {w w' : World} {s : SegT} {p q : Option Addr} {cap vc : Nat} (h : Came w s p q cap vc) (hb : Below w.heap.size w w') : Came w' s p q cap vc := ⟨h.runs.below hb, h.raw.below hb, h.nilR, h.nilV, h.capR, h.capV, h.maxR, h.maxV⟩
theorem c_refPointsV (s : SegT) (p q : Option Addr) (cap vc : Nat) (w : World) (h : SegIn w s p q) (hs : segB s = true) :
    Calls Tryz.prog 14 #[.agg (segA s p q cap vc)] w fun e w' => ∃ g cp, e = .returned (.tuple #[.slice (some ⟨g, 0, none⟩) (ptsL s).length cp, .bool true]) ∧ Below w.heap.size w w' ∧ PtsIn w' (some ⟨g, 0, none⟩) (ptsL s) := by
  refine (c_refPoints s p q cap vc w h hs).mono ?_
  rintro e w' ⟨v, rfl, hv, hB⟩
  have hn := length_pts hs
  have hc := cnt_pos (segB_runs hs)
  obtain ⟨g, cp, rfl, hp⟩ := hv.ptsV (by omega)
  exact ⟨g, cp, rfl, hB, hp⟩
theorem c_PointsV (s : SegT) (p q : Option Addr) (cap vc : Nat) (w : World) (h : SegIn w s p q) (hs : segB s = true) :
    Calls Tryz.prog 25 #[.agg (segA s p q cap vc)] w fun e w' => ∃ g cp, e = .returned (.tuple #[.slice (some ⟨g, 0, none⟩) (ptsL s).length cp, .int .i64 0]) ∧ Below w.heap.size w w' ∧ PtsIn w' (some ⟨g, 0, none⟩) (ptsL s) := by
  refine (c_Points s p q cap vc w h hs).mono ?_
  rintro e w' ⟨v, rfl, hv, hB⟩
  have hn := length_pts hs
  have hc := cnt_pos (segB_runs hs)
  obtain ⟨g, cp, cur, rfl, _, _, _, hb, _, htk⟩ := pts_is hv (by omega)
  exact ⟨g, cp, rfl, hB, pts_in hb htk⟩
/-- The place of a time. -/
theorem find_at {l : List RunT} (hl : RunsOk l) {k : Nat} {t : Int} (h : (timesL l)[k]? = some t) : findL l t = some (k : Int) := by
  have hb := below_is l t hl.each hl.chain
  have hk := (List.getElem?_eq_some_iff.1 h).1
  have h1 : ¬ (k : Int) < belowL l t := fun h2 => absurd ((hb.2.2 k t h).2 h2) (by omega)
  have hlen := length_times hl
  have h2 : belowL l t = (k : Int) := by
    rcases Int.lt_or_le (belowL l t) (k : Int) with h3 | h3
    · obtain ⟨j, hj⟩ : ∃ j : Nat, belowL l t = (j : Int) := ⟨(belowL l t).toNat, by have := hb.1; omega⟩
      have hjk : j < k := by omega
      have hx : (timesL l)[j]? = some ((timesL l)[j]'(by omega)) := List.getElem?_eq_getElem (by omega)
      have hlt : (timesL l)[j]'(by omega) < (timesL l)[k] := List.pairwise_iff_getElem.1 (times_pairwise l hl.each hl.chain) j k (by omega) hk hjk
      rw [List.getElem?_eq_getElem hk] at h
      injection h with h
      have := (hb.2.2 j _ hx).1 (by omega)
      omega
    · omega
  unfold findL
  rw [h2, atL_eq l k fun r hr => by have := (hl.each r hr).c0; omega, if_pos h]
theorem find_no {l : List RunT} (hl : RunsOk l) {t : Int} (h : ∀ (k : Nat), (timesL l)[k]? ≠ some t) : findL l t = none := by
  have hb := below_is l t hl.each hl.chain
  unfold findL
  rw [if_neg]
  intro h2
  obtain ⟨j, hj⟩ : ∃ j : Nat, belowL l t = (j : Int) := ⟨(belowL l t).toNat, by have := hb.1; omega⟩
  rw [hj, atL_eq l j fun r hr => by have := (hl.each r hr).c0; omega] at h2
  exact h j h2
theorem c_segValuesLaw (s : SegT) (p q : Option Addr) (cap vc : Nat) (i t : Int) (w : World) (h : Came w s p q cap vc) :
    Calls Tryz.prog 8 #[.agg (segA s p q cap vc), .int .i64 i, .int .i64 t] w fun e w' => e = .returned (.bool true) ∧ Below w.heap.size w w' := by
  have c1 := fun W (_ : Below w.heap.size w W) => c_wakes W
  have c2 := fun W (hW : Below w.heap.size w W) => c_own s p q cap vc W (h.callsV hW)
  cases hs : segB (ownS s) with
  | false =>
    refine values_no _ _ _ _ _ _ p q _ cap _ vc w _ _ (ownS s) i t c1 c2 ?_ ?_ ?_ ?_
    · intro W p' q' cap' vc' h1
      have := c_segVal (ownS s) p' q' cap' vc' i W h1
      unfold segValV segValE at this
      rw [hs] at this
      exact this
    · intro W p' q' cap' vc' h1
      have := c_segAt (ownS s) p' q' cap' vc' t W h1
      unfold segAtV segAtE at this
      rw [hs] at this
      exact this
    · exact fun W p' q' cap' vc' h1 => c_Points_no (ownS s) p' q' cap' vc' W h1 hs
    · intro W p' q' cap' vc' h1
      have := c_refRight (ownS s) p' q' cap' vc' W h1
      rw [hs] at this
      exact this
  | true =>
    have hl := segB_runs hs
    have hn := length_pts hs
    have hc := cnt_pos hl
    refine values_yes _ _ _ _ _ _ p q _ cap _ vc w _ _ (ownS s) i t (segValV (ownS s) i) (segValE (ownS s) i) (segAtV (ownS s) t) (segAtE (ownS s) t) (ptsL (ownS s)) (by omega) ?_ ?_ ?_ ?_ c1 c2
      (fun W p' q' cap' vc' h1 => c_segVal (ownS s) p' q' cap' vc' i W h1) (fun W p' q' cap' vc' h1 => c_segAt (ownS s) p' q' cap' vc' t W h1)
      (fun W p' q' cap' vc' h1 => c_PointsV (ownS s) p' q' cap' vc' W h1 hs) (fun W p' q' cap' vc' h1 => by have := c_refRight (ownS s) p' q' cap' vc' W h1; rw [hs] at this; exact this)
      (fun W p' q' cap' vc' h1 => c_refPointsV (ownS s) p' q' cap' vc' W h1 hs) (fun W g cp g2 cp2 h1 h2 => c_eqPts (some ⟨g, 0, none⟩) cp (some ⟨g2, 0, none⟩) cp2 (ptsL (ownS s)) W (by omega) h1 h2)
    · intro k y hk
      obtain ⟨a, b⟩ := pts_times hs hk
      unfold segAtV segAtE
      rw [find_at hl a, hs]
      refine ⟨?_, rfl⟩
      rw [if_pos rfl]
      simp only [Option.map_some, Option.getD_some]
      unfold valI
      rw [Int.toNat_natCast, b]; rfl
    · intro hall
      have hf := find_no hl (t := t) fun k hk => by
        have hk' := (List.getElem?_eq_some_iff.1 hk).1
        have hlen := length_times hl
        have hx : (ptsL (ownS s))[k]? = some ((ptsL (ownS s))[k]'(by omega)) := List.getElem?_eq_getElem (by omega)
        have := (pts_times hs hx).1
        rw [hk] at this
        injection this with this
        exact hall k _ hx this.symm
      unfold segAtV segAtE
      rw [hf, hs]
      exact ⟨rfl, rfl⟩
    · intro k x hi hk
      have hk' := (List.getElem?_eq_some_iff.1 hk).1
      have b := (pts_times hs hk).2
      unfold segValV segValE
      rw [hs, if_pos (by simp; omega), if_pos rfl, if_pos (by simp; omega)]
      refine ⟨?_, rfl⟩
      unfold valI
      rw [hi, Int.toNat_natCast, b]; rfl
    · intro hi
      unfold segValV segValE
      rw [hs]
      have : (decide (0 ≤ i) && decide (i < cnt (ownS s).runs)) = false := by
        rcases hi with hi | hi
        · rw [decide_eq_false (by omega)]; rfl
        · rw [decide_eq_false (show ¬ i < cnt (ownS s).runs by omega), Bool.and_false]
      rw [Bool.true_and, this]
      exact ⟨rfl, rfl⟩
set_option maxRecDepth 100000 in
theorem values_lifted (os : Os) (started : os.Started) (H : Type) (enc : TypeId × Value → H) :
    ReturnsInHanded {} Tryz.checked os 8 .any (Rows.segValuesSpec.pre6 enc Tryz.prog Tryz.f8 Rows.segValuesRow.domain false) (Rows.segValuesSpec.post enc Tryz.prog Tryz.f8 false true false false) := by
  refine returnsInHanded_of_change (C := Tryz.checked) Tryz.ownKnob started (by kernel_rfl) Tryz.func8
    (ChangeSpec.witness6 (enc := enc) (C := Tryz.checked) false ⟨#[], #[.agg #[.int .i64 0, .slice none 0 0, .int .i64 0, .int .i64 0, .int .i64 0, .int .i64 0, .slice none 0 0, .int .i64 0], .int .i64 0, .int .i64 0], []⟩ 8 (by kernel_rfl) (by kernel_rfl) (by kernel_rfl) (by kernel_rfl)) ?_
  intro W base args ds gs before hval0 hW hcnd _
  have hval : ∀ (j : Nat) t v, Tryz.f8.params[j]? = some t → args[j]? = some v → Value.okWide Tryz.prog W .any base t v := hval0
  have hW' := hW
  obtain ⟨p, q, hA0, hV, rfl, hfz, hnd⟩ := hW
  have hA : DataW.TrodAll enc Tryz.prog W 0 (fun _ => true) true Tryz.f8.params.toList args.toList ds p := hA0
  rw [Tryz.params8] at hA hval
  obtain ⟨v0, v1, v2, d0, d1, d2, p0, p1, p2, rfl, rfl, rfl, h0, h1, h2⟩ := trodAll_three hA
  obtain ⟨rfl, rfl⟩ := trodVars_none hV
  obtain ⟨s, p', q', cap, vc, rfl, hs, _⟩ := open_seg (hval 0 _ v0 rfl rfl) h0
  obtain ⟨a, rfl, rfl, rfl, wa⟩ := open_int Tryz.isInt.1 (hval 1 _ v1 rfl rfl) h1
  obtain ⟨b, rfl, rfl, rfl, wb⟩ := open_int Tryz.isInt64.1 (hval 2 _ v2 rfl rfl) h2
  clear hA0 hval0
  refine (c_segValuesLaw s p' q' cap vc a b W hs).mono fun e W' ⟨he, hb⟩ => ?_
  subst he
  exact ⟨_, rfl, law_post Tryz.laidOut (pars_ok (by kernel_rfl)) rfl (by kernel_rfl) rfl hW' hb rfl⟩
theorem segValues_holds : Rows.SegValuesSaid :=
  OpenClaim.holds_of_wide 8 Tryz.f8 rfl rfl rfl rfl rfl rfl rfl ⟨rfl, rfl, rfl, rfl, rfl⟩ rfl rfl rfl rfl rfl (by kernel_rfl) Tryz.func8 (by kernel_rfl)
    (of_decide_eq_true (by kernel_rfl)) (by unfold Func.isWrapper; first | (rw [if_pos (by decide +kernel)]; kernel_rfl) | (rw [if_neg (by decide +kernel)]; exact ⟨rfl, rfl⟩))
    (fun os started H enc _ => values_lifted os started H enc)
end Go.Proofs.YtgblmlefmohgnaaGreat
