/- Parts of the proof that follows: slices.Equal, of runs and of numbers; the segment's Same, and the document's. | The document's segments: Same. | Layer seg: Check, Count told. -/
import Derived.Test.YtgblmlefmohgnaaGreatBk14
set_option linter.unusedSimpArgs false
set_option linter.unusedVariables false
namespace Go.Proofs.YtgblmlefmohgnaaGreat
open Go.RowKit
def eqRunRel (w : World) (p : Option Addr) (cap : Nat) (p' : Option Addr) (cap' : Nat) (A B : List RunT) (a' : Act) (W : World) : Prop :=
  Below w.heap.size w W ∧ ∃ (i : Nat), (∃ u : Nat → Value, a' = { tmps := #[.slice p A.length cap, .slice p' A.length cap', u 2, u 3, .bool false, u 5, u 6, u 7, u 8, u 9, u 10, u 11, .int .i64 (A.length : Int), .int .i64 (i : Int), u 14, u 15, u 16, u 17, u 18, u 19, u 20, u 21, u 22, u 23, u 24, u 25], defers := [] }) ∧ i ≤ A.length ∧ ∀ k, k < i → A[k]? = B[k]?
set_option maxRecDepth 100000 in
set_option maxHeartbeats 8000000 in
theorem eqRun_w (p : Option Addr) (cap : Nat) (p' : Option Addr) (cap' : Nat) (A B : List RunT) (w : World) (hl : A.length = B.length) (hlen : A.length ≤ 1000000) (hA0 : RunsIn w p A) (hB0 : RunsIn w p' B) :
    Calls Tryz.prog 53 #[.slice p A.length cap, .slice p' A.length cap'] w fun e w' => e = .returned (.bool (decide (A = B))) ∧ Below w.heap.size w w' := by
  go_enter Tryz.func53, Tryz.ntmps53
  replace hl := Lib.hid hl
  go_wp2
  refine wp_loop (eqRunRel w p cap p' cap' A B) (fun a' _ => A.length - (intAt (a'.tmps.getD 13 undef)).toNat) ?_ ?_
  · unfold eqRunRel
    exact ⟨Below.refl _ _, 0, frame_ex rfl, by omega, fun k hk => by omega⟩
  · rintro a' W ⟨hW0, i, ⟨u, rfl⟩, hi', hall⟩
    have hz := hW0.size
    replace hall := Lib.hid hall
    rcases Nat.lt_or_ge i A.length with hlt | hge
    · obtain ⟨r, tr⟩ : ∃ r, A[i]? = some r := ⟨A[i]'(by omega), List.getElem?_eq_getElem (by omega)⟩
      obtain ⟨q, tq⟩ : ∃ q, B[i]? = some q := ⟨B[i]'(by have := hl.out; omega), List.getElem?_eq_getElem (by have := hl.out; omega)⟩
      obtain ⟨b, o, rfl, -⟩ := hA0.at' i r tr
      obtain ⟨b', o', rfl, -⟩ := hB0.at' i q tq
      have hA : RunsP W b o A := ⟨hA0.below hW0⟩
      have hB : RunsP W b' o' B := ⟨hB0.below hW0⟩
      replace tr := Lib.hid tr
      replace tq := Lib.hid tq
      have l1 := hlt
      have l2 : i < B.length := by have := hl.out; omega
      go_upto_region 6 with (fail)
      refine wp_facts (fun W' => Below W.heap.size W W' ∧ RunsP W' b o A ∧ RunsP W' b' o' B) ⟨by exact belowAny, by exact hA.below belowAny, by exact hB.below belowAny⟩ ?_
      rintro W1 ⟨hW, b1, b2⟩
      have z2 := hW.size
      refine wp_region_ndQ 9 26 [] (fun W' => Rex [] W1 W' ∧ RunsP W' b o A ∧ RunsP W' b' o' B) mixed (by kernel_rfl) rfl ⟨(Rex.refl _ _).drew, b1.drew, b2.drew⟩ (fun w w' ⟨h0, h1, h2⟩ hr => ⟨h0.trans hr, h1.rex hr (by simp <;> omega), h2.rex hr (by simp <;> omega)⟩) rfl ?_
      iterate 9
        apply nd_det (hg := rfl) (hal := rfl)
        · intro a W' hC hE
          obtain ⟨_, k1, k2⟩ := hC
          obtain ⟨q0, q1, q2⟩ := k1.cellAt tr.out; obtain ⟨q3, q4, q5⟩ := k2.cellAt tq.out
          first
            | (simp [Oper.looksAt, Op.operands, Call.operands, envOf, Det] at hE; simp [go_sem, Act.eval, IntWalk.i64_left, hE, k1, k2, q0, q1, q2, q3, q4, q5, l1, l2, ite_eq3]; try rfl)
            | (clear hE; simp [go_sem, Act.eval, IntWalk.i64_left, k1, k2, q0, q1, q2, q3, q4, q5, l1, l2, ite_eq3]; try rfl)
      rintro W3 ⟨hR, d1, d2⟩
      simp only [ndFinR, Det, forall_eq]
      intros
      repeat (rename GDet _ _ _ _ => hgd; clear hgd)
      simp only [Act.put, List.setIfInBounds_toArray, List.set_cons_zero, List.set_cons_succ]
      refine wpList_nil ?_
      replace hW := hW.trans (hR.of_priv hW.size)
      clear hR
      try clear b1 b2
      have b1 := d1
      clear d1
      have b2 := d2
      clear d2
      by_cases hrq : r = q
      · have hall' := Lib.hid (show ∀ k, k < i + 1 → A[k]? = B[k]? from fun k hk => by
          rcases Nat.lt_or_ge k i with h | h
          · exact hall.out k h
          · obtain rfl : k = i := by omega
            rw [tr.out, tq.out, hrq])
        rw [show (!decide (r.f = q.f) || !decide (r.s = q.s) || !decide (r.c = q.c)) = false by subst hrq; simp]
        clear hrq
        go_wp2
        rw [show (i : Int) + 1 = ((i + 1 : Nat) : Int) by omega]
        refine ⟨?_, by simp [intAt]; omega⟩
        unfold eqRunRel
        exact ⟨hW0.trans (hW.mono hz), i + 1, frame_ex rfl, by omega, hall'.out⟩
      · have hne := Lib.hid (show decide (A = B) = false by
          rw [decide_eq_false_iff_not]
          rintro rfl
          rw [tr.out] at tq
          exact hrq (Option.some.inj tq.out))
        rw [show (!decide (r.f = q.f) || !decide (r.s = q.s) || !decide (r.c = q.c)) = true by
          obtain ⟨r1, r2, r3⟩ := r
          obtain ⟨q1, q2, q3⟩ := q
          simp at hrq
          simp
          by_cases h1 : r1 = q1 <;> by_cases h2 : r2 = q2 <;> simp [h1, h2] at hrq ⊢
          exact hrq]
        clear hrq
        go_wp2
        go_ret
        exact ⟨by rw [hne.out]; rfl, hW0.trans (hW.mono hz)⟩
    · obtain rfl : i = A.length := by omega
      have heq := Lib.hid (show decide (A = B) = true by
        rw [decide_eq_true_eq]
        apply List.ext_getElem?
        intro k
        rcases Nat.lt_or_ge k A.length with h | h
        · exact hall.out k h
        · rw [List.getElem?_eq_none h, List.getElem?_eq_none (by have := hl.out; omega)])
      go_wp2
      go_ret
      exact ⟨by rw [heq.out]; rfl, hW0⟩
set_option maxRecDepth 100000 in
set_option maxHeartbeats 8000000 in
theorem eqRun_len (p : Option Addr) (n cap : Nat) (p' : Option Addr) (m cap' : Nat) (w : World) (hl : ¬ n = m) :
    Calls Tryz.prog 53 #[.slice p n cap, .slice p' m cap'] w fun e w' => e = .returned (.bool false) ∧ Below w.heap.size w w' := by
  go_enter Tryz.func53, Tryz.ntmps53
  go_wp2
  go_ret
  exact ⟨rfl, Below.refl _ _⟩
theorem c_eqRun (p : Option Addr) (cap : Nat) (p' : Option Addr) (cap' : Nat) (A B : List RunT) (w : World) (hlen : A.length ≤ 1000000) (hA0 : RunsIn w p A) (hB0 : RunsIn w p' B) :
    Calls Tryz.prog 53 #[.slice p A.length cap, .slice p' B.length cap'] w fun e w' => e = .returned (.bool (decide (A = B))) ∧ Below w.heap.size w w' := by
  by_cases h : A.length = B.length
  · rw [← h]; exact eqRun_w p cap p' cap' A B w h hlen hA0 hB0
  · rw [show decide (A = B) = false by rw [decide_eq_false_iff_not]; rintro rfl; exact h rfl]
    exact eqRun_len p _ cap p' _ cap' w h
def eqIntRel (w : World) (p : Option Addr) (cap : Nat) (p' : Option Addr) (cap' : Nat) (A B : List Int) (a' : Act) (W : World) : Prop :=
  Below w.heap.size w W ∧ ∃ (i : Nat), (∃ u : Nat → Value, a' = { tmps := #[.slice p A.length cap, .slice p' A.length cap', u 2, u 3, .bool false, u 5, u 6, u 7, u 8, u 9, u 10, u 11, .int .i64 (A.length : Int), .int .i64 (i : Int), u 14, u 15, u 16, u 17, u 18, u 19, u 20, u 21, u 22, u 23, u 24, u 25], defers := [] }) ∧ i ≤ A.length ∧ ∀ k, k < i → A[k]? = B[k]?
set_option maxRecDepth 100000 in
set_option maxHeartbeats 8000000 in
theorem eqInt_w (p : Option Addr) (cap : Nat) (p' : Option Addr) (cap' : Nat) (A B : List Int) (w : World) (hl : A.length = B.length) (hlen : A.length ≤ 1000000) (hA0 : IntsIn w p A) (hB0 : IntsIn w p' B) :
    Calls Tryz.prog 54 #[.slice p A.length cap, .slice p' A.length cap'] w fun e w' => e = .returned (.bool (decide (A = B))) ∧ Below w.heap.size w w' := by
  go_enter Tryz.func54, Tryz.ntmps54
  replace hl := Lib.hid hl
  go_wp2
  refine wp_loop (eqIntRel w p cap p' cap' A B) (fun a' _ => A.length - (intAt (a'.tmps.getD 13 undef)).toNat) ?_ ?_
  · unfold eqIntRel
    exact ⟨Below.refl _ _, 0, frame_ex rfl, by omega, fun k hk => by omega⟩
  · rintro a' W ⟨hW0, i, ⟨u, rfl⟩, hi', hall⟩
    have hz := hW0.size
    replace hall := Lib.hid hall
    rcases Nat.lt_or_ge i A.length with hlt | hge
    · obtain ⟨r, tr⟩ : ∃ r, A[i]? = some r := ⟨A[i]'(by omega), List.getElem?_eq_getElem (by omega)⟩
      obtain ⟨q, tq⟩ : ∃ q, B[i]? = some q := ⟨B[i]'(by have := hl.out; omega), List.getElem?_eq_getElem (by have := hl.out; omega)⟩
      obtain ⟨b, o, rfl, -⟩ := hA0.at' i r tr
      obtain ⟨b', o', rfl, -⟩ := hB0.at' i q tq
      have hA : IntsP W b o A := ⟨hA0.below hW0⟩
      have hB : IntsP W b' o' B := ⟨hB0.below hW0⟩
      replace tr := Lib.hid tr
      replace tq := Lib.hid tq
      have l1 := hlt
      have l2 : i < B.length := by have := hl.out; omega
      go_upto_region 6 with (fail)
      refine wp_facts (fun W' => Below W.heap.size W W' ∧ IntsP W' b o A ∧ IntsP W' b' o' B) ⟨by exact belowAny, by exact hA.below belowAny, by exact hB.below belowAny⟩ ?_
      rintro W1 ⟨hW, b1, b2⟩
      have z2 := hW.size
      refine wp_region_ndQ 9 26 [] (fun W' => Rex [] W1 W' ∧ IntsP W' b o A ∧ IntsP W' b' o' B) mixed (by kernel_rfl) rfl ⟨(Rex.refl _ _).drew, b1.drew, b2.drew⟩ (fun w w' ⟨h0, h1, h2⟩ hr => ⟨h0.trans hr, h1.rex hr (by simp <;> omega), h2.rex hr (by simp <;> omega)⟩) rfl ?_
      iterate 9
        apply nd_det (hg := rfl) (hal := rfl)
        · intro a W' hC hE
          obtain ⟨_, k1, k2⟩ := hC
          have q0 := k1.cellAt tr.out; have q1 := k2.cellAt tq.out
          first
            | (simp [Oper.looksAt, Op.operands, Call.operands, envOf, Det] at hE; simp [go_sem, Act.eval, IntWalk.i64_left, hE, k1, k2, q0, q1, l1, l2]; try rfl)
            | (clear hE; simp [go_sem, Act.eval, IntWalk.i64_left, k1, k2, q0, q1, l1, l2]; try rfl)
      rintro W3 ⟨hR, d1, d2⟩
      simp only [ndFinR, Det, forall_eq]
      intros
      repeat (rename GDet _ _ _ _ => hgd; clear hgd)
      simp only [Act.put, List.setIfInBounds_toArray, List.set_cons_zero, List.set_cons_succ]
      refine wpList_nil ?_
      replace hW := hW.trans (hR.of_priv hW.size)
      clear hR
      try clear b1 b2
      have b1 := d1
      clear d1
      have b2 := d2
      clear d2
      by_cases hrq : r = q
      · have hall' := Lib.hid (show ∀ k, k < i + 1 → A[k]? = B[k]? from fun k hk => by
          rcases Nat.lt_or_ge k i with h | h
          · exact hall.out k h
          · obtain rfl : k = i := by omega
            rw [tr.out, tq.out, hrq])
        rw [show (r != q) = false by subst hrq; simp]
        clear hrq
        go_wp2
        rw [show (i : Int) + 1 = ((i + 1 : Nat) : Int) by omega]
        refine ⟨?_, by simp [intAt]; omega⟩
        unfold eqIntRel
        exact ⟨hW0.trans (hW.mono hz), i + 1, frame_ex rfl, by omega, hall'.out⟩
      · have hne := Lib.hid (show decide (A = B) = false by
          rw [decide_eq_false_iff_not]
          rintro rfl
          rw [tr.out] at tq
          exact hrq (Option.some.inj tq.out))
        rw [show (r != q) = true by
          simp [hrq]]
        clear hrq
        go_wp2
        go_ret
        exact ⟨by rw [hne.out]; rfl, hW0.trans (hW.mono hz)⟩
    · obtain rfl : i = A.length := by omega
      have heq := Lib.hid (show decide (A = B) = true by
        rw [decide_eq_true_eq]
        apply List.ext_getElem?
        intro k
        rcases Nat.lt_or_ge k A.length with h | h
        · exact hall.out k h
        · rw [List.getElem?_eq_none h, List.getElem?_eq_none (by have := hl.out; omega)])
      go_wp2
      go_ret
      exact ⟨by rw [heq.out]; rfl, hW0⟩
set_option maxRecDepth 100000 in
set_option maxHeartbeats 8000000 in
theorem eqInt_len (p : Option Addr) (n cap : Nat) (p' : Option Addr) (m cap' : Nat) (w : World) (hl : ¬ n = m) :
    Calls Tryz.prog 54 #[.slice p n cap, .slice p' m cap'] w fun e w' => e = .returned (.bool false) ∧ Below w.heap.size w w' := by
  go_enter Tryz.func54, Tryz.ntmps54
  go_wp2
  go_ret
  exact ⟨rfl, Below.refl _ _⟩
theorem c_eqInt (p : Option Addr) (cap : Nat) (p' : Option Addr) (cap' : Nat) (A B : List Int) (w : World) (hlen : A.length ≤ 1000000) (hA0 : IntsIn w p A) (hB0 : IntsIn w p' B) :
    Calls Tryz.prog 54 #[.slice p A.length cap, .slice p' B.length cap'] w fun e w' => e = .returned (.bool (decide (A = B))) ∧ Below w.heap.size w w' := by
  by_cases h : A.length = B.length
  · rw [← h]; exact eqInt_w p cap p' cap' A B w h hlen hA0 hB0
  · rw [show decide (A = B) = false by rw [decide_eq_false_iff_not]; rintro rfl; exact h rfl]
    exact eqInt_len p _ cap p' _ cap' w h
theorem ite_l4 {a b c d e f g h : Int} {w : World} : ((if a = b then (if c = d then (if e = f then (if g = h then Result.ok (Go.Next.value (Value.bool true)) w else Result.ok (Go.Next.value (Value.bool false)) w) else Result.ok (Go.Next.value (Value.bool false)) w) else Result.ok (Go.Next.value (Value.bool false)) w) else Result.ok (Go.Next.value (Value.bool false)) w) : Result Go.Next) = Result.ok (Go.Next.value (Value.bool (decide (a = b) && decide (c = d) && decide (e = f) && decide (g = h)))) w := by
  by_cases h1 : a = b <;> by_cases h2 : c = d <;> by_cases h3 : e = f <;> by_cases h4 : g = h <;> simp [h1, h2, h3, h4]
set_option maxRecDepth 100000 in
set_option maxHeartbeats 8000000 in
theorem same_w (K A R n d E : Int) (p q : Option Addr) (len cap m vc : Nat) (w : World) (K' A' R' n' d' E' : Int) (p' q' : Option Addr) (len' cap' m' vc' : Nat) (r1 r2 : Bool)
    (c1 : ∀ W, Below w.heap.size w W → Calls Tryz.prog 53 #[.slice p len cap, .slice p' len' cap'] W fun e w' => e = .returned (.bool r1) ∧ Below W.heap.size W w')
    (c2 : ∀ W, Below w.heap.size w W → Calls Tryz.prog 54 #[.slice q m vc, .slice q' m' vc'] W fun e w' => e = .returned (.bool r2) ∧ Below W.heap.size W w') :
    Calls Tryz.prog 21 #[.agg #[.int .i64 K, .slice p len cap, .int .i64 A, .int .i64 R, .int .i64 n, .int .i64 d, .slice q m vc, .int .i64 E], .agg #[.int .i64 K', .slice p' len' cap', .int .i64 A', .int .i64 R', .int .i64 n', .int .i64 d', .slice q' m' vc', .int .i64 E']] w fun e w' => e = .returned (.bool ((K == K') && (decide (A = A') && decide (R = R') && decide (n = n') && decide (d = d')) && (E == E') && r1 && r2)) ∧ Below w.heap.size w w' := by
  have H_c1 := Lib.hid c1
  clear c1
  have H_c2 := Lib.hid c2
  clear c2
  go_enter Tryz.func21, Tryz.ntmps21
  go_upto_region 1 with (fail)
  refine wp_facts (fun W' => Below w.heap.size w W' ∧ Blk W' w.heap.size #[.int .i64 K, .slice p len cap, .int .i64 A, .int .i64 R, .int .i64 n, .int .i64 d, .slice q m vc, .int .i64 E] 27 ∧ Blk W' (w.heap.size + 1) #[.int .i64 K', .slice p' len' cap', .int .i64 A', .int .i64 R', .int .i64 n', .int .i64 d', .slice q' m' vc', .int .i64 E'] 27) ⟨by exact belowAny, by exact blkAny2, by exact blkAny2⟩ ?_
  rintro W1 ⟨hW, b1, b2⟩
  have z2 := hW.size
  have z3 := b1.lt
  have z4 := b2.lt
  have c1 := H_c1.out
  have c2 := H_c2.out
  refine wp_region_sq 33 38 [] (fun W' => Rex [] W1 W' ∧ Blk W' w.heap.size #[.int .i64 K, .slice p len cap, .int .i64 A, .int .i64 R, .int .i64 n, .int .i64 d, .slice q m vc, .int .i64 E] 27 ∧ Blk W' (w.heap.size + 1) #[.int .i64 K', .slice p' len' cap', .int .i64 A', .int .i64 R', .int .i64 n', .int .i64 d', .slice q' m' vc', .int .i64 E'] 27) (by kernel_rfl) rfl ⟨(Rex.refl _ _), b1, b2⟩ (fun w w' ⟨h0, h1, h2⟩ hr => ⟨h0.trans hr, h1.rex hr (by simp <;> omega), h2.rex hr (by simp <;> omega)⟩) ?_
  iterate 6
    apply nd_det (hg := rfl) (hal := rfl)
    · intro a W' hC hE
      obtain ⟨_, k1, k2⟩ := hC
      have k1 := k1.cell
      have k2 := k2.cell
      first
        | (simp [Oper.looksAt, Op.operands, Call.operands, envOf, Det] at hE; simp [go_sem, Act.eval, IntWalk.i64_left, hE, k1, k2, ite_l4]; try rfl)
        | (clear hE; simp [go_sem, Act.eval, IntWalk.i64_left, k1, k2, ite_l4]; try rfl)
  iterate 5
    apply nd_detg (p := true) (hg := rfl) (hd := rfl) (hal := rfl)
    · intro v W' h
      simp [envOf, Det] at h
      simp
      exact h
    · intro hp hx a W' hC hE
      obtain ⟨_, k1, k2⟩ := hC
      have k1 := k1.cell
      have k2 := k2.cell
      simp [Oper.looksAt, Op.operands, Call.operands, envOf, Det, GDet, hx] at hE
      simp [go_sem, Act.eval, IntWalk.i64_left, hE, k1, k2, ite_l4]
      try rfl
  apply nd_pick_and (ho := rfl) (hg := rfl)
  · intro v W' h
    simp [envOf, Det] at h
    exact h
  · intro v W' h hx
    simp [envOf, GDet, hx] at h
    exact h
  iterate 1
    apply nd_det (hg := rfl) (hal := rfl)
    · intro a W' hC hE
      obtain ⟨_, k1, k2⟩ := hC
      have k1 := k1.cell
      have k2 := k2.cell
      first
        | (simp [Oper.looksAt, Op.operands, Call.operands, envOf, Det] at hE; simp [go_sem, Act.eval, IntWalk.i64_left, hE, k1, k2, ite_l4]; try rfl)
        | (clear hE; simp [go_sem, Act.eval, IntWalk.i64_left, k1, k2, ite_l4]; try rfl)
  iterate 5
    apply nd_detg (p := true) (hg := rfl) (hd := rfl) (hal := rfl)
    · intro v W' h
      simp [envOf, Det] at h
      simp
      exact h
    · intro hp hx a W' hC hE
      obtain ⟨_, k1, k2⟩ := hC
      have k1 := k1.cell
      have k2 := k2.cell
      simp [Oper.looksAt, Op.operands, Call.operands, envOf, Det, GDet, hx] at hE
      simp [go_sem, Act.eval, IntWalk.i64_left, hE, k1, k2, ite_l4]
      try rfl
  apply nd_pick_and (ho := rfl) (hg := rfl)
  · intro v W' h
    simp [envOf, Det] at h
    exact h
  · intro v W' h hx
    simp [envOf, GDet, hx] at h
    exact h
  iterate 1
    apply nd_det (hg := rfl) (hal := rfl)
    · intro a W' hC hE
      obtain ⟨_, k1, k2⟩ := hC
      have k1 := k1.cell
      have k2 := k2.cell
      first
        | (simp [Oper.looksAt, Op.operands, Call.operands, envOf, Det] at hE; simp [go_sem, Act.eval, IntWalk.i64_left, hE, k1, k2, ite_l4]; try rfl)
        | (clear hE; simp [go_sem, Act.eval, IntWalk.i64_left, k1, k2, ite_l4]; try rfl)
  iterate 4
    apply nd_detg (p := true) (hg := rfl) (hd := rfl) (hal := rfl)
    · intro v W' h
      simp [envOf, Det] at h
      simp
      exact h
    · intro hp hx a W' hC hE
      obtain ⟨_, k1, k2⟩ := hC
      have k1 := k1.cell
      have k2 := k2.cell
      simp [Oper.looksAt, Op.operands, Call.operands, envOf, Det, GDet, hx] at hE
      simp [go_sem, Act.eval, IntWalk.i64_left, hE, k1, k2, ite_l4]
      try rfl
  apply nd_callvg2 (p := true) (hg := rfl) (hd := rfl) (hal := rfl)
  · intro v W' h
    simp [envOf, Det] at h
    simp
    exact h
  · intro hp hx W' hC
    exact c1 W' (hW.trans (hC.1.of_priv hW.size))
  · intro hp hx a W' hC hE
    obtain ⟨_, k1, k2⟩ := hC
    have k1 := k1.cell
    have k2 := k2.cell
    first
      | (simp [Oper.looksAt, Op.operands, Call.operands, envOf, Det, GDet, hx] at hE; simp [go_sem, Act.eval, IntWalk.i64_left, hE, k1, k2, ite_l4]; try rfl)
      | (clear hE; simp [go_sem, Act.eval, IntWalk.i64_left, k1, k2, ite_l4]; try rfl)
  apply nd_pick_and (ho := rfl) (hg := rfl)
  · intro v W' h
    simp [envOf, Det] at h
    exact h
  · intro v W' h hx
    simp [envOf, GDet, hx] at h
    exact h
  iterate 1
    apply nd_det (hg := rfl) (hal := rfl)
    · intro a W' hC hE
      obtain ⟨_, k1, k2⟩ := hC
      have k1 := k1.cell
      have k2 := k2.cell
      first
        | (simp [Oper.looksAt, Op.operands, Call.operands, envOf, Det] at hE; simp [go_sem, Act.eval, IntWalk.i64_left, hE, k1, k2, ite_l4]; try rfl)
        | (clear hE; simp [go_sem, Act.eval, IntWalk.i64_left, k1, k2, ite_l4]; try rfl)
  iterate 4
    apply nd_detg (p := true) (hg := rfl) (hd := rfl) (hal := rfl)
    · intro v W' h
      simp [envOf, Det] at h
      simp
      exact h
    · intro hp hx a W' hC hE
      obtain ⟨_, k1, k2⟩ := hC
      have k1 := k1.cell
      have k2 := k2.cell
      simp [Oper.looksAt, Op.operands, Call.operands, envOf, Det, GDet, hx] at hE
      simp [go_sem, Act.eval, IntWalk.i64_left, hE, k1, k2, ite_l4]
      try rfl
  apply nd_callvg2 (p := true) (hg := rfl) (hd := rfl) (hal := rfl)
  · intro v W' h
    simp [envOf, Det] at h
    simp
    exact h
  · intro hp hx W' hC
    exact c2 W' (hW.trans (hC.1.of_priv hW.size))
  · intro hp hx a W' hC hE
    obtain ⟨_, k1, k2⟩ := hC
    have k1 := k1.cell
    have k2 := k2.cell
    first
      | (simp [Oper.looksAt, Op.operands, Call.operands, envOf, Det, GDet, hx] at hE; simp [go_sem, Act.eval, IntWalk.i64_left, hE, k1, k2, ite_l4]; try rfl)
      | (clear hE; simp [go_sem, Act.eval, IntWalk.i64_left, k1, k2, ite_l4]; try rfl)
  apply nd_pick_and (ho := rfl) (hg := rfl)
  · intro v W' h
    simp [envOf, Det] at h
    exact h
  · intro v W' h hx
    simp [envOf, GDet, hx] at h
    exact h
  rintro W5 ⟨hR, d1, d2⟩
  simp only [ndFinR, Det, forall_eq]
  intros
  repeat (rename GDet _ _ _ _ => hgd; clear hgd)
  simp only [Act.put, List.setIfInBounds_toArray, List.set_cons_zero, List.set_cons_succ, List.drop_succ_cons, List.drop_zero]
  replace hW := hW.trans (hR.of_priv hW.size)
  clear hR
  clear c1
  clear c2
  try clear b1 b2
  have b1 := d1
  clear d1
  have b2 := d2
  clear d2
  have k1 := b1.cell
  have f1 := b1.frozen
  have k2 := b2.cell
  have f2 := b2.frozen
  go_wp2
  have y_1 := b1.lt
  have y_2 := b2.lt
  refine bodyPost_ret (v := .bool ((K == K') && (decide (A = A') && decide (R = R') && decide (n = n') && decide (d = d')) && (E == E') && r1 && r2)) (by simp [results, Tryz.results21, go_sem, k1, f1, k2, f2, y_1, y_2]) rfl ⟨rfl, hW⟩
end Go.Proofs.YtgblmlefmohgnaaGreat
namespace Go.Proofs.YtgblmlefmohgnaaGreat
open Go.RowKit
theorem ite_n4 {a b c d e f g h : Int} {w : World} : ((if a = b then (if c = d then (if e = f then (if g = h then Result.ok (Go.Next.value (Value.bool false)) w else Result.ok (Go.Next.value (Value.bool true)) w) else Result.ok (Go.Next.value (Value.bool true)) w) else Result.ok (Go.Next.value (Value.bool true)) w) else Result.ok (Go.Next.value (Value.bool true)) w) : Result Go.Next) = Result.ok (Go.Next.value (Value.bool (!(decide (a = b) && decide (c = d) && decide (e = f) && decide (g = h))))) w := by
  by_cases h1 : a = b <;> by_cases h2 : c = d <;> by_cases h3 : e = f <;> by_cases h4 : g = h <;> simp [h1, h2, h3, h4]
set_option maxRecDepth 100000 in
set_option maxHeartbeats 8000000 in
theorem rsame_no (K A R n d E : Int) (p q : Option Addr) (len cap vc : Nat) (V : List Int) (w : World) (K' A' R' n' d' E' : Int) (p' q' : Option Addr) (len' cap' m' vc' : Nat) (r1 : Bool)
    (hF : Hid ((K != K' || (!decide (A = A') || !decide (R = R') || !decide (n = n') || !decide (d = d')) || E != E' || !r1 || (V.length : Int) != (m' : Int)) = true))
    (c1 : ∀ W, Below w.heap.size w W → Calls Tryz.prog 59 #[.slice p len cap, .slice p' len' cap'] W fun e w' => e = .returned (.bool r1) ∧ Below W.heap.size W w') :
    Calls Tryz.prog 24 #[.agg #[.int .i64 K, .slice p len cap, .int .i64 A, .int .i64 R, .int .i64 n, .int .i64 d, .slice q V.length vc, .int .i64 E], .agg #[.int .i64 K', .slice p' len' cap', .int .i64 A', .int .i64 R', .int .i64 n', .int .i64 d', .slice q' m' vc', .int .i64 E']] w fun e w' => e = .returned (.bool false) ∧ Below w.heap.size w w' := by
  have H_c1 := Lib.hid c1
  clear c1
  go_enter Tryz.func24, Tryz.ntmps24
  go_upto_region 1 with (fail)
  refine wp_facts (fun W' => Below w.heap.size w W' ∧ Blk W' w.heap.size #[.int .i64 K, .slice p len cap, .int .i64 A, .int .i64 R, .int .i64 n, .int .i64 d, .slice q V.length vc, .int .i64 E] 27 ∧ Blk W' (w.heap.size + 1) #[.int .i64 K', .slice p' len' cap', .int .i64 A', .int .i64 R', .int .i64 n', .int .i64 d', .slice q' m' vc', .int .i64 E'] 27) ⟨by exact belowAny, by exact blkAny2, by exact blkAny2⟩ ?_
  rintro W1 ⟨hW, b1, b2⟩
  have z2 := hW.size
  have z3 := b1.lt
  have z4 := b2.lt
  have c1 := H_c1.out
  refine wp_region_sq 36 60 [] (fun W' => Rex [] W1 W' ∧ Blk W' w.heap.size #[.int .i64 K, .slice p len cap, .int .i64 A, .int .i64 R, .int .i64 n, .int .i64 d, .slice q V.length vc, .int .i64 E] 27 ∧ Blk W' (w.heap.size + 1) #[.int .i64 K', .slice p' len' cap', .int .i64 A', .int .i64 R', .int .i64 n', .int .i64 d', .slice q' m' vc', .int .i64 E'] 27) (by kernel_rfl) rfl ⟨(Rex.refl _ _), b1, b2⟩ (fun w w' ⟨h0, h1, h2⟩ hr => ⟨h0.trans hr, h1.rex hr (by simp <;> omega), h2.rex hr (by simp <;> omega)⟩) ?_
  iterate 6
    apply nd_det (hg := rfl) (hal := rfl)
    · intro a W' hC hE
      obtain ⟨_, k1, k2⟩ := hC
      have k1 := k1.cell
      have k2 := k2.cell
      first
        | (simp [Oper.looksAt, Op.operands, Call.operands, envOf, Det] at hE; simp [go_sem, Act.eval, IntWalk.i64_left, hE, k1, k2, ite_n4]; try rfl)
        | (clear hE; simp [go_sem, Act.eval, IntWalk.i64_left, k1, k2, ite_n4]; try rfl)
  iterate 5
    apply nd_detg (p := true) (hg := rfl) (hd := rfl) (hal := rfl)
    · intro v W' h
      simp [envOf, Det] at h
      simp
      exact h
    · intro hp hx a W' hC hE
      obtain ⟨_, k1, k2⟩ := hC
      have k1 := k1.cell
      have k2 := k2.cell
      simp [Oper.looksAt, Op.operands, Call.operands, envOf, Det, GDet, hx] at hE
      simp [go_sem, Act.eval, IntWalk.i64_left, hE, k1, k2, ite_n4]
      try rfl
  apply nd_pick_or (ho := rfl) (hg := rfl)
  · intro v W' h
    simp [envOf, Det] at h
    exact h
  · intro v W' h hx
    simp [envOf, GDet, hx] at h
    exact h
  iterate 1
    apply nd_det (hg := rfl) (hal := rfl)
    · intro a W' hC hE
      obtain ⟨_, k1, k2⟩ := hC
      have k1 := k1.cell
      have k2 := k2.cell
      first
        | (simp [Oper.looksAt, Op.operands, Call.operands, envOf, Det] at hE; simp [go_sem, Act.eval, IntWalk.i64_left, hE, k1, k2, ite_n4]; try rfl)
        | (clear hE; simp [go_sem, Act.eval, IntWalk.i64_left, k1, k2, ite_n4]; try rfl)
  iterate 5
    apply nd_detg (p := true) (hg := rfl) (hd := rfl) (hal := rfl)
    · intro v W' h
      simp [envOf, Det] at h
      simp
      exact h
    · intro hp hx a W' hC hE
      obtain ⟨_, k1, k2⟩ := hC
      have k1 := k1.cell
      have k2 := k2.cell
      simp [Oper.looksAt, Op.operands, Call.operands, envOf, Det, GDet, hx] at hE
      simp [go_sem, Act.eval, IntWalk.i64_left, hE, k1, k2, ite_n4]
      try rfl
  apply nd_pick_or (ho := rfl) (hg := rfl)
  · intro v W' h
    simp [envOf, Det] at h
    exact h
  · intro v W' h hx
    simp [envOf, GDet, hx] at h
    exact h
  iterate 1
    apply nd_det (hg := rfl) (hal := rfl)
    · intro a W' hC hE
      obtain ⟨_, k1, k2⟩ := hC
      have k1 := k1.cell
      have k2 := k2.cell
      first
        | (simp [Oper.looksAt, Op.operands, Call.operands, envOf, Det] at hE; simp [go_sem, Act.eval, IntWalk.i64_left, hE, k1, k2, ite_n4]; try rfl)
        | (clear hE; simp [go_sem, Act.eval, IntWalk.i64_left, k1, k2, ite_n4]; try rfl)
  iterate 4
    apply nd_detg (p := true) (hg := rfl) (hd := rfl) (hal := rfl)
    · intro v W' h
      simp [envOf, Det] at h
      simp
      exact h
    · intro hp hx a W' hC hE
      obtain ⟨_, k1, k2⟩ := hC
      have k1 := k1.cell
      have k2 := k2.cell
      simp [Oper.looksAt, Op.operands, Call.operands, envOf, Det, GDet, hx] at hE
      simp [go_sem, Act.eval, IntWalk.i64_left, hE, k1, k2, ite_n4]
      try rfl
  apply nd_callvg2 (p := true) (hg := rfl) (hd := rfl) (hal := rfl)
  · intro v W' h
    simp [envOf, Det] at h
    simp
    exact h
  · intro hp hx W' hC
    exact c1 W' (hW.trans (hC.1.of_priv hW.size))
  · intro hp hx a W' hC hE
    obtain ⟨_, k1, k2⟩ := hC
    have k1 := k1.cell
    have k2 := k2.cell
    first
      | (simp [Oper.looksAt, Op.operands, Call.operands, envOf, Det, GDet, hx] at hE; simp [go_sem, Act.eval, IntWalk.i64_left, hE, k1, k2, ite_n4]; try rfl)
      | (clear hE; simp [go_sem, Act.eval, IntWalk.i64_left, k1, k2, ite_n4]; try rfl)
  iterate 1
    apply nd_detg (p := true) (hg := rfl) (hd := rfl) (hal := rfl)
    · intro v W' h
      simp [envOf, Det] at h
      simp
      exact h
    · intro hp hx a W' hC hE
      obtain ⟨_, k1, k2⟩ := hC
      have k1 := k1.cell
      have k2 := k2.cell
      simp [Oper.looksAt, Op.operands, Call.operands, envOf, Det, GDet, hx] at hE
      simp [go_sem, Act.eval, IntWalk.i64_left, hE, k1, k2, ite_n4]
      try rfl
  apply nd_pick_or (ho := rfl) (hg := rfl)
  · intro v W' h
    simp [envOf, Det] at h
    exact h
  · intro v W' h hx
    simp [envOf, GDet, hx] at h
    exact h
  iterate 1
    apply nd_det (hg := rfl) (hal := rfl)
    · intro a W' hC hE
      obtain ⟨_, k1, k2⟩ := hC
      have k1 := k1.cell
      have k2 := k2.cell
      first
        | (simp [Oper.looksAt, Op.operands, Call.operands, envOf, Det] at hE; simp [go_sem, Act.eval, IntWalk.i64_left, hE, k1, k2, ite_n4]; try rfl)
        | (clear hE; simp [go_sem, Act.eval, IntWalk.i64_left, k1, k2, ite_n4]; try rfl)
  iterate 7
    apply nd_detg (p := true) (hg := rfl) (hd := rfl) (hal := rfl)
    · intro v W' h
      simp [envOf, Det] at h
      simp
      exact h
    · intro hp hx a W' hC hE
      obtain ⟨_, k1, k2⟩ := hC
      have k1 := k1.cell
      have k2 := k2.cell
      simp [Oper.looksAt, Op.operands, Call.operands, envOf, Det, GDet, hx] at hE
      simp [go_sem, Act.eval, IntWalk.i64_left, hE, k1, k2, ite_n4]
      try rfl
  apply nd_pick_or (ho := rfl) (hg := rfl)
  · intro v W' h
    simp [envOf, Det] at h
    exact h
  · intro v W' h hx
    simp [envOf, GDet, hx] at h
    exact h
  rintro W5 ⟨hR, d1, d2⟩
  simp only [ndFinR, Det, forall_eq]
  intros
  repeat (rename GDet _ _ _ _ => hgd; clear hgd)
  simp only [Act.put, List.setIfInBounds_toArray, List.set_cons_zero, List.set_cons_succ]
  refine wpList_nil ?_
  replace hW := hW.trans (hR.of_priv hW.size)
  clear hR
  clear c1
  try clear b1 b2
  have b1 := d1
  clear d1
  have b2 := d2
  clear d2
  have z51 := hW.size
  have z52 := b1.lt
  have z53 := b2.lt
  have k1 := b1.cell
  have f1 := b1.frozen
  have k2 := b2.cell
  have f2 := b2.frozen
  rw [hF.out]
  go_wp2
  have y_1 := b1.lt
  have y_2 := b2.lt
  refine bodyPost_ret (v := .bool false) (by simp [results, Tryz.results24, go_sem, k1, f1, k2, f2, y_1, y_2]) rfl ⟨rfl, hW⟩
def rsRel (w : World) (K A R n d E : Int) (p q : Option Addr) (len cap vc : Nat) (K' A' R' n' d' E' : Int) (p' q' : Option Addr) (len' cap' vc' : Nat) (V V' : List Int) (a' : Act) (W : World) : Prop :=
  Below w.heap.size w W ∧ Blk W w.heap.size #[.int .i64 K, .slice p len cap, .int .i64 A, .int .i64 R, .int .i64 n, .int .i64 d, .slice q V.length vc, .int .i64 E] 27 ∧ Blk W (w.heap.size + 1) #[.int .i64 K', .slice p' len' cap', .int .i64 A', .int .i64 R', .int .i64 n', .int .i64 d', .slice q' V.length vc', .int .i64 E'] 27 ∧ ∃ (i : Nat), (∃ u : Nat → Value, a' = { tmps := #[u 0, u 1, .pointer (some ⟨w.heap.size, 0, none⟩), .pointer (some ⟨w.heap.size + 1, 0, none⟩), .bool false, .int .i64 (i : Int), u 6, u 7, u 8, u 9, u 10, u 11, u 12, u 13, u 14, u 15, u 16, u 17, u 18, u 19, u 20, u 21, u 22, u 23, u 24, u 25, u 26, u 27, u 28, u 29, u 30, u 31, u 32, u 33, u 34, u 35, u 36, u 37, u 38, u 39, u 40, u 41, u 42, u 43, u 44, u 45, u 46, u 47, u 48, u 49, u 50, u 51, u 52, u 53, u 54, u 55, u 56, u 57, u 58, u 59], defers := [] }) ∧ i ≤ V.length ∧ ∀ k, k < i → V[k]? = V'[k]?
set_option maxRecDepth 100000 in
set_option maxHeartbeats 8000000 in
theorem rsame_yes (K A R n d E : Int) (p q : Option Addr) (len cap vc : Nat) (V V' : List Int) (w : World) (K' A' R' n' d' E' : Int) (p' q' : Option Addr) (len' cap' vc' : Nat) (r1 : Bool) (hl : V.length = V'.length) (hlen : V.length ≤ 1000000) (hA0 : IntsIn w q V) (hB0 : IntsIn w q' V')
    (hF : Hid ((K != K' || (!decide (A = A') || !decide (R = R') || !decide (n = n') || !decide (d = d')) || E != E' || !r1 || false) = false))
    (c1 : ∀ W, Below w.heap.size w W → Calls Tryz.prog 59 #[.slice p len cap, .slice p' len' cap'] W fun e w' => e = .returned (.bool r1) ∧ Below W.heap.size W w') :
    Calls Tryz.prog 24 #[.agg #[.int .i64 K, .slice p len cap, .int .i64 A, .int .i64 R, .int .i64 n, .int .i64 d, .slice q V.length vc, .int .i64 E], .agg #[.int .i64 K', .slice p' len' cap', .int .i64 A', .int .i64 R', .int .i64 n', .int .i64 d', .slice q' V.length vc', .int .i64 E']] w fun e w' => e = .returned (.bool (decide (V = V'))) ∧ Below w.heap.size w w' := by
  replace hl := Lib.hid hl
  have H_c1 := Lib.hid c1
  clear c1
  go_enter Tryz.func24, Tryz.ntmps24
  go_upto_region 1 with (fail)
  refine wp_facts (fun W' => Below w.heap.size w W' ∧ Blk W' w.heap.size #[.int .i64 K, .slice p len cap, .int .i64 A, .int .i64 R, .int .i64 n, .int .i64 d, .slice q V.length vc, .int .i64 E] 27 ∧ Blk W' (w.heap.size + 1) #[.int .i64 K', .slice p' len' cap', .int .i64 A', .int .i64 R', .int .i64 n', .int .i64 d', .slice q' V.length vc', .int .i64 E'] 27) ⟨by exact belowAny, by exact blkAny2, by exact blkAny2⟩ ?_
  rintro W1 ⟨hW, b1, b2⟩
  have z2 := hW.size
  have z3 := b1.lt
  have z4 := b2.lt
  have c1 := H_c1.out
  refine wp_region_sq 36 60 [] (fun W' => Rex [] W1 W' ∧ Blk W' w.heap.size #[.int .i64 K, .slice p len cap, .int .i64 A, .int .i64 R, .int .i64 n, .int .i64 d, .slice q V.length vc, .int .i64 E] 27 ∧ Blk W' (w.heap.size + 1) #[.int .i64 K', .slice p' len' cap', .int .i64 A', .int .i64 R', .int .i64 n', .int .i64 d', .slice q' V.length vc', .int .i64 E'] 27) (by kernel_rfl) rfl ⟨(Rex.refl _ _), b1, b2⟩ (fun w w' ⟨h0, h1, h2⟩ hr => ⟨h0.trans hr, h1.rex hr (by simp <;> omega), h2.rex hr (by simp <;> omega)⟩) ?_
  iterate 6
    apply nd_det (hg := rfl) (hal := rfl)
    · intro a W' hC hE
      obtain ⟨_, k1, k2⟩ := hC
      have k1 := k1.cell
      have k2 := k2.cell
      first
        | (simp [Oper.looksAt, Op.operands, Call.operands, envOf, Det] at hE; simp [go_sem, Act.eval, IntWalk.i64_left, hE, k1, k2, ite_n4]; try rfl)
        | (clear hE; simp [go_sem, Act.eval, IntWalk.i64_left, k1, k2, ite_n4]; try rfl)
  iterate 5
    apply nd_detg (p := true) (hg := rfl) (hd := rfl) (hal := rfl)
    · intro v W' h
      simp [envOf, Det] at h
      simp
      exact h
    · intro hp hx a W' hC hE
      obtain ⟨_, k1, k2⟩ := hC
      have k1 := k1.cell
      have k2 := k2.cell
      simp [Oper.looksAt, Op.operands, Call.operands, envOf, Det, GDet, hx] at hE
      simp [go_sem, Act.eval, IntWalk.i64_left, hE, k1, k2, ite_n4]
      try rfl
  apply nd_pick_or (ho := rfl) (hg := rfl)
  · intro v W' h
    simp [envOf, Det] at h
    exact h
  · intro v W' h hx
    simp [envOf, GDet, hx] at h
    exact h
  iterate 1
    apply nd_det (hg := rfl) (hal := rfl)
    · intro a W' hC hE
      obtain ⟨_, k1, k2⟩ := hC
      have k1 := k1.cell
      have k2 := k2.cell
      first
        | (simp [Oper.looksAt, Op.operands, Call.operands, envOf, Det] at hE; simp [go_sem, Act.eval, IntWalk.i64_left, hE, k1, k2, ite_n4]; try rfl)
        | (clear hE; simp [go_sem, Act.eval, IntWalk.i64_left, k1, k2, ite_n4]; try rfl)
  iterate 5
    apply nd_detg (p := true) (hg := rfl) (hd := rfl) (hal := rfl)
    · intro v W' h
      simp [envOf, Det] at h
      simp
      exact h
    · intro hp hx a W' hC hE
      obtain ⟨_, k1, k2⟩ := hC
      have k1 := k1.cell
      have k2 := k2.cell
      simp [Oper.looksAt, Op.operands, Call.operands, envOf, Det, GDet, hx] at hE
      simp [go_sem, Act.eval, IntWalk.i64_left, hE, k1, k2, ite_n4]
      try rfl
  apply nd_pick_or (ho := rfl) (hg := rfl)
  · intro v W' h
    simp [envOf, Det] at h
    exact h
  · intro v W' h hx
    simp [envOf, GDet, hx] at h
    exact h
  iterate 1
    apply nd_det (hg := rfl) (hal := rfl)
    · intro a W' hC hE
      obtain ⟨_, k1, k2⟩ := hC
      have k1 := k1.cell
      have k2 := k2.cell
      first
        | (simp [Oper.looksAt, Op.operands, Call.operands, envOf, Det] at hE; simp [go_sem, Act.eval, IntWalk.i64_left, hE, k1, k2, ite_n4]; try rfl)
        | (clear hE; simp [go_sem, Act.eval, IntWalk.i64_left, k1, k2, ite_n4]; try rfl)
  iterate 4
    apply nd_detg (p := true) (hg := rfl) (hd := rfl) (hal := rfl)
    · intro v W' h
      simp [envOf, Det] at h
      simp
      exact h
    · intro hp hx a W' hC hE
      obtain ⟨_, k1, k2⟩ := hC
      have k1 := k1.cell
      have k2 := k2.cell
      simp [Oper.looksAt, Op.operands, Call.operands, envOf, Det, GDet, hx] at hE
      simp [go_sem, Act.eval, IntWalk.i64_left, hE, k1, k2, ite_n4]
      try rfl
  apply nd_callvg2 (p := true) (hg := rfl) (hd := rfl) (hal := rfl)
  · intro v W' h
    simp [envOf, Det] at h
    simp
    exact h
  · intro hp hx W' hC
    exact c1 W' (hW.trans (hC.1.of_priv hW.size))
  · intro hp hx a W' hC hE
    obtain ⟨_, k1, k2⟩ := hC
    have k1 := k1.cell
    have k2 := k2.cell
    first
      | (simp [Oper.looksAt, Op.operands, Call.operands, envOf, Det, GDet, hx] at hE; simp [go_sem, Act.eval, IntWalk.i64_left, hE, k1, k2, ite_n4]; try rfl)
      | (clear hE; simp [go_sem, Act.eval, IntWalk.i64_left, k1, k2, ite_n4]; try rfl)
  iterate 1
    apply nd_detg (p := true) (hg := rfl) (hd := rfl) (hal := rfl)
    · intro v W' h
      simp [envOf, Det] at h
      simp
      exact h
    · intro hp hx a W' hC hE
      obtain ⟨_, k1, k2⟩ := hC
      have k1 := k1.cell
      have k2 := k2.cell
      simp [Oper.looksAt, Op.operands, Call.operands, envOf, Det, GDet, hx] at hE
      simp [go_sem, Act.eval, IntWalk.i64_left, hE, k1, k2, ite_n4]
      try rfl
  apply nd_pick_or (ho := rfl) (hg := rfl)
  · intro v W' h
    simp [envOf, Det] at h
    exact h
  · intro v W' h hx
    simp [envOf, GDet, hx] at h
    exact h
  iterate 1
    apply nd_det (hg := rfl) (hal := rfl)
    · intro a W' hC hE
      obtain ⟨_, k1, k2⟩ := hC
      have k1 := k1.cell
      have k2 := k2.cell
      first
        | (simp [Oper.looksAt, Op.operands, Call.operands, envOf, Det] at hE; simp [go_sem, Act.eval, IntWalk.i64_left, hE, k1, k2, ite_n4]; try rfl)
        | (clear hE; simp [go_sem, Act.eval, IntWalk.i64_left, k1, k2, ite_n4]; try rfl)
  iterate 7
    apply nd_detg (p := true) (hg := rfl) (hd := rfl) (hal := rfl)
    · intro v W' h
      simp [envOf, Det] at h
      simp
      exact h
    · intro hp hx a W' hC hE
      obtain ⟨_, k1, k2⟩ := hC
      have k1 := k1.cell
      have k2 := k2.cell
      simp [Oper.looksAt, Op.operands, Call.operands, envOf, Det, GDet, hx] at hE
      simp [go_sem, Act.eval, IntWalk.i64_left, hE, k1, k2, ite_n4]
      try rfl
  apply nd_pick_or (ho := rfl) (hg := rfl)
  · intro v W' h
    simp [envOf, Det] at h
    exact h
  · intro v W' h hx
    simp [envOf, GDet, hx] at h
    exact h
  rintro W5 ⟨hR, d1, d2⟩
  simp only [ndFinR, Det, forall_eq]
  intros
  repeat (rename GDet _ _ _ _ => hgd; clear hgd)
  simp only [Act.put, List.setIfInBounds_toArray, List.set_cons_zero, List.set_cons_succ]
  refine wpList_nil ?_
  replace hW := hW.trans (hR.of_priv hW.size)
  clear hR
  clear c1
  try clear b1 b2
  have b1 := d1
  clear d1
  have b2 := d2
  clear d2
  have z51 := hW.size
  have z52 := b1.lt
  have z53 := b2.lt
  have k1 := b1.cell
  have f1 := b1.frozen
  have k2 := b2.cell
  have f2 := b2.frozen
  rw [hF.out]
  clear k1 f1 k2 f2
  have k1 := b1.cell
  have f1 := b1.frozen
  have k2 := b2.cell
  have f2 := b2.frozen
  go_wp2
  refine wp_loop (rsRel w K A R n d E p q len cap vc K' A' R' n' d' E' p' q' len' cap' vc' V V') (fun a' _ => V.length - (intAt (a'.tmps.getD 5 undef)).toNat) ?_ ?_
  · unfold rsRel
    exact ⟨hW, b1, b2, 0, frame_ex rfl, by omega, fun k hk => by omega⟩
  · clear b1 b2 hW k1 f1 k2 f2
    rintro a' W ⟨hW0, b1, b2, i, ⟨u, rfl⟩, hi', hall⟩
    have hz := hW0.size
    have z61 := b1.lt
    have z62 := b2.lt
    replace hall := Lib.hid hall
    rcases Nat.lt_or_ge i V.length with hlt | hge
    · obtain ⟨r, tr⟩ : ∃ r, V[i]? = some r := ⟨V[i]'(by omega), List.getElem?_eq_getElem (by omega)⟩
      obtain ⟨t, tq⟩ : ∃ q, V'[i]? = some q := ⟨V'[i]'(by have := hl.out; omega), List.getElem?_eq_getElem (by have := hl.out; omega)⟩
      obtain ⟨b, o, rfl, -⟩ := hA0.at' i r tr
      obtain ⟨b', o', rfl, -⟩ := hB0.at' i t tq
      have hA : IntsP W b o V := ⟨hA0.below hW0⟩
      have hB : IntsP W b' o' V' := ⟨hB0.below hW0⟩
      replace tr := Lib.hid tr
      replace tq := Lib.hid tq
      have l1 := hlt
      have l2 : i < V'.length := by have := hl.out; omega
      have k1 := b1.cell
      have f1 := b1.frozen
      have k2 := b2.cell
      have f2 := b2.frozen
      go_upto_region 6 with (fail)
      clear k1 f1 k2 f2
      refine wp_facts (fun W' => Below W.heap.size W W' ∧ Blk W' w.heap.size #[.int .i64 K, .slice p len cap, .int .i64 A, .int .i64 R, .int .i64 n, .int .i64 d, .slice (some ⟨b, o, none⟩) V.length vc, .int .i64 E] 27 ∧ Blk W' (w.heap.size + 1) #[.int .i64 K', .slice p' len' cap', .int .i64 A', .int .i64 R', .int .i64 n', .int .i64 d', .slice (some ⟨b', o', none⟩) V.length vc', .int .i64 E'] 27 ∧ IntsP W' b o V ∧ IntsP W' b' o' V') ⟨by exact belowAny, by exact blkAny2, by exact blkAny2, by exact hA.below belowAny, by exact hB.below belowAny⟩ ?_
      clear b1 b2
      rintro W61 ⟨hW, b1, b2, b3, b4⟩
      have z62 := hW.size
      have z63 := b1.lt
      have z64 := b2.lt
      refine wp_region_ndQ 11 60 [] (fun W' => Rex [] W61 W' ∧ Blk W' w.heap.size #[.int .i64 K, .slice p len cap, .int .i64 A, .int .i64 R, .int .i64 n, .int .i64 d, .slice (some ⟨b, o, none⟩) V.length vc, .int .i64 E] 27 ∧ Blk W' (w.heap.size + 1) #[.int .i64 K', .slice p' len' cap', .int .i64 A', .int .i64 R', .int .i64 n', .int .i64 d', .slice (some ⟨b', o', none⟩) V.length vc', .int .i64 E'] 27 ∧ IntsP W' b o V ∧ IntsP W' b' o' V') mixed (by kernel_rfl) rfl ⟨(Rex.refl _ _).drew, b1, b2, b3.drew, b4.drew⟩ (fun w w' ⟨h0, h1, h2, h3, h4⟩ hr => ⟨h0.trans hr, h1.rex hr (by simp <;> omega), h2.rex hr (by simp <;> omega), h3.rex hr (by simp <;> omega), h4.rex hr (by simp <;> omega)⟩) rfl ?_
      iterate 11
        apply nd_det (hg := rfl) (hal := rfl)
        · intro a W' hC hE
          obtain ⟨_, k1, k2, k3, k4⟩ := hC
          have k1 := k1.cell
          have k2 := k2.cell
          have q0 := k3.cellAt tr.out; have q1 := k4.cellAt tq.out
          first
            | (simp [Oper.looksAt, Op.operands, Call.operands, envOf, Det] at hE; simp [go_sem, Act.eval, IntWalk.i64_left, hE, k1, k2, k3, k4, q0, q1, l1, l2]; try rfl)
            | (clear hE; simp [go_sem, Act.eval, IntWalk.i64_left, k1, k2, k3, k4, q0, q1, l1, l2]; try rfl)
      rintro W65 ⟨hR, d1, d2, d3, d4⟩
      simp only [ndFinR, Det, forall_eq]
      intros
      repeat (rename GDet _ _ _ _ => hgd; clear hgd)
      simp only [Act.put, List.setIfInBounds_toArray, List.set_cons_zero, List.set_cons_succ]
      refine wpList_nil ?_
      replace hW := hW.trans (hR.of_priv hW.size)
      clear hR
      try clear b1 b2 b3 b4
      have b1 := d1
      clear d1
      have b2 := d2
      clear d2
      have b3 := d3
      clear d3
      have b4 := d4
      clear d4
      by_cases hrq : r = t
      · have hall' := Lib.hid (show ∀ k, k < i + 1 → V[k]? = V'[k]? from fun k hk => by
          rcases Nat.lt_or_ge k i with h | h
          · exact hall.out k h
          · obtain rfl : k = i := by omega
            rw [tr.out, tq.out, hrq])
        rw [show (r != t) = false by subst hrq; simp]
        clear hrq
        go_wp2
        rw [show (i : Int) + 1 = ((i + 1 : Nat) : Int) by omega]
        refine ⟨?_, by simp [intAt]; omega⟩
        unfold rsRel
        exact ⟨hW0.trans (hW.mono hz), b1, b2, i + 1, frame_ex rfl, by omega, hall'.out⟩
      · have hne := Lib.hid (show decide (V = V') = false by
          rw [decide_eq_false_iff_not]
          rintro rfl
          rw [tr.out] at tq
          exact hrq (Option.some.inj tq.out))
        rw [show (r != t) = true by simp [hrq]]
        clear hrq
        go_wp2
        go_ret
        exact ⟨by rw [hne.out]; rfl, hW0.trans (hW.mono hz)⟩
    · obtain rfl : i = V.length := by omega
      have heq := Lib.hid (show decide (V = V') = true by
        rw [decide_eq_true_eq]
        apply List.ext_getElem?
        intro k
        rcases Nat.lt_or_ge k V.length with h | h
        · exact hall.out k h
        · rw [List.getElem?_eq_none h, List.getElem?_eq_none (by have := hl.out; omega)])
      have k1 := b1.cell
      have f1 := b1.frozen
      go_wp2
      go_ret
      exact ⟨by rw [heq.out]; rfl, hW0⟩
/-- Are two segments the same? -/
def sameT (s t : SegT) : Bool := (s.K == t.K) && (decide (s.A = t.A) && decide (s.R = t.R) && decide (s.n = t.n) && decide (s.d = t.d)) && (s.E == t.E) && decide (s.runs = t.runs) && decide (s.raw = t.raw)
theorem sameT_refl (s : SegT) : sameT s s = true := by simp [sameT]
theorem c_segSame (s t : SegT) (p q p' q' : Option Addr) (cap vc cap' vc' : Nat) (w : World) (h : SegIn w s p q) (h' : SegIn w t p' q') :
    Calls Tryz.prog 21 #[.agg (segA s p q cap vc), .agg (segA t p' q' cap' vc')] w fun e w' => e = .returned (.bool (sameT s t)) ∧ Below w.heap.size w w' := by
  have a := h.fewR; have b := h.fewV
  exact same_w _ _ _ _ _ _ p q _ cap _ vc w _ _ _ _ _ _ p' q' _ cap' _ vc' _ _ (fun W hW => c_eqRun p cap p' cap' s.runs t.runs W (by omega) (h.runs.below hW) (h'.runs.below hW)) (fun W hW => c_eqInt q vc q' vc' s.raw t.raw W (by omega) (h.raw.below hW) (h'.raw.below hW))
theorem c_refSame (s t : SegT) (p q p' q' : Option Addr) (cap vc cap' vc' : Nat) (w : World) (h : SegIn w s p q) (h' : SegIn w t p' q') :
    Calls Tryz.prog 24 #[.agg (segA s p q cap vc), .agg (segA t p' q' cap' vc')] w fun e w' => e = .returned (.bool (sameT s t)) ∧ Below w.heap.size w w' := by
  have a := h.fewR; have b := h.fewV
  have c1 := fun (W : World) (hW : Below w.heap.size w W) => c_refsame p cap p' cap' s.runs t.runs W (by omega) (h.runs.below hW) (h'.runs.below hW)
  cases hF : (s.K != t.K || (!decide (s.A = t.A) || !decide (s.R = t.R) || !decide (s.n = t.n) || !decide (s.d = t.d)) || s.E != t.E || !decide (s.runs = t.runs) || (s.raw.length : Int) != (t.raw.length : Int)) with
  | true =>
    rw [show sameT s t = false by
      cases hs : sameT s t with
      | false => rfl
      | true =>
        unfold sameT at hs
        simp only [Bool.and_eq_true, decide_eq_true_eq, beq_iff_eq] at hs
        obtain ⟨⟨⟨⟨h1, ⟨⟨h2, h3⟩, h4⟩, h5⟩, h6⟩, h7⟩, h8⟩ := hs
        rw [h1, h2, h3, h4, h5, h6, h7, h8] at hF
        simp at hF]
    exact rsame_no _ _ _ _ _ _ p q _ cap vc s.raw w _ _ _ _ _ _ p' q' _ cap' _ vc' _ (Lib.hid hF) c1
  | false =>
    have hF' := hF
    simp only [Bool.or_eq_false_iff, Bool.not_eq_false', bne_eq_false_iff_eq, Bool.and_eq_true, decide_eq_true_eq] at hF
    obtain ⟨⟨⟨⟨h1, ⟨⟨h2, h3⟩, h4⟩, h5⟩, h6⟩, h7⟩, h8⟩ := hF
    have hl : s.raw.length = t.raw.length := by omega
    rw [← hl, show ((s.raw.length : Int) != (s.raw.length : Int)) = false by simp] at hF'
    rw [show sameT s t = decide (s.raw = t.raw) by simp [sameT, h1, h2, h3, h4, h5, h6, h7]]
    have := rsame_yes _ _ _ _ _ _ p q _ cap vc s.raw t.raw w _ _ _ _ _ _ p' q' _ cap' vc' _ hl (by omega) h.raw h'.raw (Lib.hid hF') c1
    unfold segA
    rw [← hl]
    exact this
end Go.Proofs.YtgblmlefmohgnaaGreat
namespace Go.Proofs.YtgblmlefmohgnaaGreat
open Go.RowKit
set_option maxRecDepth 100000 in
set_option maxHeartbeats 2000000 in
theorem scheck_no (K A R n d E : Int) (p q : Option Addr) (len cap m vc : Nat) (w : World)
    (c1 : ∀ W, Below w.heap.size w W → Calls Tryz.prog 55 #[.agg #[.int .i64 K, .slice p len cap, .int .i64 A, .int .i64 R, .int .i64 n, .int .i64 d, .slice q m vc, .int .i64 E]] W fun e w' => e = .returned (.bool false) ∧ Below W.heap.size W w') :
    Calls Tryz.prog 22 #[.agg #[.int .i64 K, .slice p len cap, .int .i64 A, .int .i64 R, .int .i64 n, .int .i64 d, .slice q m vc, .int .i64 E]] w fun e w' => e = .returned (.int .i64 210) ∧ Below w.heap.size w w' := by
  have H_c1 := Lib.hid c1
  clear c1
  go_enter Tryz.func22, Tryz.ntmps22
  go_upto_region 1 with (fail)
  refine wp_facts (fun W' => Below w.heap.size w W' ∧ Blk W' w.heap.size #[.int .i64 K, .slice p len cap, .int .i64 A, .int .i64 R, .int .i64 n, .int .i64 d, .slice q m vc, .int .i64 E] 27) ⟨by exact belowAny, by exact blkAny⟩ ?_
  rintro W1 ⟨hW, b1⟩
  have z2 := hW.size
  have z3 := b1.lt
  have k1 := b1.cell
  have f1 := b1.frozen
  have c1 := H_c1.out
  go_wp2_with fail
  refine (c1 _ (belowAny)).mono ?_
  rintro e w4 ⟨rfl, hb4⟩
  clear c1
  have z5 := hb4.size
  try simp at z5
  clear k1 f1
  have b1 : Blk w4 w.heap.size #[.int .i64 K, .slice p len cap, .int .i64 A, .int .i64 R, .int .i64 n, .int .i64 d, .slice q m vc, .int .i64 E] 27 := by exact blkAny
  have hW : Below w.heap.size w w4 := by exact belowAny
  have z6 := b1.lt
  clear hb4
  have k1 := b1.cell
  have f1 := b1.frozen
  go_wp2
  have y_1 := b1.lt
  refine bodyPost_ret (v := .int .i64 210) (by simp [results, Tryz.results22, go_sem, k1, f1, y_1]) rfl ⟨rfl, by exact belowAny⟩
set_option maxRecDepth 100000 in
set_option maxHeartbeats 2000000 in
theorem scheck_yes (K A R n d E : Int) (p q : Option Addr) (len cap m vc : Nat) (w : World)
    (c1 : ∀ W, Below w.heap.size w W → Calls Tryz.prog 55 #[.agg #[.int .i64 K, .slice p len cap, .int .i64 A, .int .i64 R, .int .i64 n, .int .i64 d, .slice q m vc, .int .i64 E]] W fun e w' => e = .returned (.bool true) ∧ Below W.heap.size W w') :
    Calls Tryz.prog 22 #[.agg #[.int .i64 K, .slice p len cap, .int .i64 A, .int .i64 R, .int .i64 n, .int .i64 d, .slice q m vc, .int .i64 E]] w fun e w' => e = .returned (.int .i64 0) ∧ Below w.heap.size w w' := by
  have H_c1 := Lib.hid c1
  clear c1
  go_enter Tryz.func22, Tryz.ntmps22
  go_upto_region 1 with (fail)
  refine wp_facts (fun W' => Below w.heap.size w W' ∧ Blk W' w.heap.size #[.int .i64 K, .slice p len cap, .int .i64 A, .int .i64 R, .int .i64 n, .int .i64 d, .slice q m vc, .int .i64 E] 27) ⟨by exact belowAny, by exact blkAny⟩ ?_
  rintro W1 ⟨hW, b1⟩
  have z2 := hW.size
  have z3 := b1.lt
  have k1 := b1.cell
  have f1 := b1.frozen
  have c1 := H_c1.out
  go_wp2_with fail
  refine (c1 _ (belowAny)).mono ?_
  rintro e w4 ⟨rfl, hb4⟩
  clear c1
  have z5 := hb4.size
  try simp at z5
  clear k1 f1
  have b1 : Blk w4 w.heap.size #[.int .i64 K, .slice p len cap, .int .i64 A, .int .i64 R, .int .i64 n, .int .i64 d, .slice q m vc, .int .i64 E] 27 := by exact blkAny
  have hW : Below w.heap.size w w4 := by exact belowAny
  have z6 := b1.lt
  clear hb4
  have k1 := b1.cell
  have f1 := b1.frozen
  go_wp2
  have y_1 := b1.lt
  refine bodyPost_ret (v := .int .i64 0) (by simp [results, Tryz.results22, go_sem, k1, f1, y_1]) rfl ⟨rfl, by exact belowAny⟩
set_option maxRecDepth 100000 in
set_option maxHeartbeats 2000000 in
theorem count1_w (K A R n d E : Int) (p q : Option Addr) (len cap m vc : Nat) (w : World) (N : Int)
    (c1 : ∀ W, Below w.heap.size w W → Calls Tryz.prog 58 #[.slice p len cap] W fun e w' => e = .returned (.int .i64 N) ∧ Below W.heap.size W w') :
    Calls Tryz.prog 57 #[.agg #[.int .i64 K, .slice p len cap, .int .i64 A, .int .i64 R, .int .i64 n, .int .i64 d, .slice q m vc, .int .i64 E]] w fun e w' => e = .returned (.tuple #[.int .i64 N, .int .i64 0]) ∧ Below w.heap.size w w' := by
  have H_c1 := Lib.hid c1
  clear c1
  go_enter Tryz.func57, Tryz.ntmps57
  go_upto_region 1 with (fail)
  refine wp_facts (fun W' => Below w.heap.size w W' ∧ Blk W' w.heap.size #[.int .i64 K, .slice p len cap, .int .i64 A, .int .i64 R, .int .i64 n, .int .i64 d, .slice q m vc, .int .i64 E] 78) ⟨by exact belowAny, by exact blkAny⟩ ?_
  rintro W1 ⟨hW, b1⟩
  have z2 := hW.size
  have z3 := b1.lt
  have k1 := b1.cell
  have f1 := b1.frozen
  have c1 := H_c1.out
  go_wp2_with fail
  refine (c1 _ (belowAny)).mono ?_
  rintro e w4 ⟨rfl, hb4⟩
  clear c1
  have z5 := hb4.size
  try simp at z5
  clear k1 f1
  have b1 : Blk w4 w.heap.size #[.int .i64 K, .slice p len cap, .int .i64 A, .int .i64 R, .int .i64 n, .int .i64 d, .slice q m vc, .int .i64 E] 78 := by exact blkAny
  have hW : Below w.heap.size w w4 := by exact belowAny
  have z6 := b1.lt
  clear hb4
  have k1 := b1.cell
  have f1 := b1.frozen
  go_wp2
  have y_1 := b1.lt
  refine bodyPost_ret (v := .tuple #[.int .i64 N, .int .i64 0]) (by simp [results, Tryz.results57, go_sem, k1, f1, y_1]) rfl ⟨rfl, by exact belowAny⟩
set_option maxRecDepth 100000 in
set_option maxHeartbeats 2000000 in
theorem ofn_no (K A R n d E : Int) (p q : Option Addr) (len cap m vc : Nat) (w : World)
    (c1 : ∀ W, Below w.heap.size w W → Calls Tryz.prog 55 #[.agg #[.int .i64 K, .slice p len cap, .int .i64 A, .int .i64 R, .int .i64 n, .int .i64 d, .slice q m vc, .int .i64 E]] W fun e w' => e = .returned (.bool false) ∧ Below W.heap.size W w') :
    Calls Tryz.prog 56 #[.agg #[.int .i64 K, .slice p len cap, .int .i64 A, .int .i64 R, .int .i64 n, .int .i64 d, .slice q m vc, .int .i64 E], .func (.func 57) #[] #[]] w fun e w' => e = .returned (.tuple #[.int .i64 0, .int .i64 210]) ∧ Below w.heap.size w w' := by
  have H_c1 := Lib.hid c1
  clear c1
  go_enter Tryz.func56, Tryz.ntmps56
  go_upto_region 1 with (fail)
  refine wp_facts (fun W' => Below w.heap.size w W' ∧ Blk W' w.heap.size #[.int .i64 K, .slice p len cap, .int .i64 A, .int .i64 R, .int .i64 n, .int .i64 d, .slice q m vc, .int .i64 E] 27) ⟨by exact belowAny, by exact blkAny⟩ ?_
  rintro W1 ⟨hW, b1⟩
  have z2 := hW.size
  have z3 := b1.lt
  have k1 := b1.cell
  have f1 := b1.frozen
  have c1 := H_c1.out
  go_wp2_with fail
  refine (c1 _ (belowAny)).mono ?_
  rintro e w4 ⟨rfl, hb4⟩
  clear c1
  have z5 := hb4.size
  try simp at z5
  clear k1 f1
  have b1 : Blk w4 w.heap.size #[.int .i64 K, .slice p len cap, .int .i64 A, .int .i64 R, .int .i64 n, .int .i64 d, .slice q m vc, .int .i64 E] 27 := by exact blkAny
  have hW : Below w.heap.size w w4 := by exact belowAny
  have z6 := b1.lt
  clear hb4
  have k1 := b1.cell
  have f1 := b1.frozen
  go_wp2
  have y_1 := b1.lt
  refine bodyPost_ret (v := .tuple #[.int .i64 0, .int .i64 210]) (by simp [results, Tryz.results56, go_sem, k1, f1, y_1]) rfl ⟨rfl, by exact belowAny⟩
set_option maxRecDepth 100000 in
set_option maxHeartbeats 2000000 in
theorem ofn_yes (K A R n d E : Int) (p q : Option Addr) (len cap m vc : Nat) (w : World) (N : Int)
    (c1 : ∀ W, Below w.heap.size w W → Calls Tryz.prog 55 #[.agg #[.int .i64 K, .slice p len cap, .int .i64 A, .int .i64 R, .int .i64 n, .int .i64 d, .slice q m vc, .int .i64 E]] W fun e w' => e = .returned (.bool true) ∧ Below W.heap.size W w')
    (c3 : ∀ W, Below w.heap.size w W → Calls Tryz.prog 57 #[.agg #[.int .i64 K, .slice p len cap, .int .i64 A, .int .i64 R, .int .i64 n, .int .i64 d, .slice q m vc, .int .i64 E]] W fun e w' => e = .returned (.tuple #[.int .i64 N, .int .i64 0]) ∧ Below W.heap.size W w') :
    Calls Tryz.prog 56 #[.agg #[.int .i64 K, .slice p len cap, .int .i64 A, .int .i64 R, .int .i64 n, .int .i64 d, .slice q m vc, .int .i64 E], .func (.func 57) #[] #[]] w fun e w' => e = .returned (.tuple #[.int .i64 N, .int .i64 0]) ∧ Below w.heap.size w w' := by
  have H_c1 := Lib.hid c1
  clear c1
  have H_c3 := Lib.hid c3
  clear c3
  go_enter Tryz.func56, Tryz.ntmps56
  go_upto_region 1 with (fail)
  refine wp_facts (fun W' => Below w.heap.size w W' ∧ Blk W' w.heap.size #[.int .i64 K, .slice p len cap, .int .i64 A, .int .i64 R, .int .i64 n, .int .i64 d, .slice q m vc, .int .i64 E] 27) ⟨by exact belowAny, by exact blkAny⟩ ?_
  rintro W1 ⟨hW, b1⟩
  have z2 := hW.size
  have z3 := b1.lt
  have k1 := b1.cell
  have f1 := b1.frozen
  have c1 := H_c1.out
  go_wp2_with fail
  refine (c1 _ (belowAny)).mono ?_
  rintro e w4 ⟨rfl, hb4⟩
  clear c1
  have z5 := hb4.size
  try simp at z5
  clear k1 f1
  have b1 : Blk w4 w.heap.size #[.int .i64 K, .slice p len cap, .int .i64 A, .int .i64 R, .int .i64 n, .int .i64 d, .slice q m vc, .int .i64 E] 27 := by exact blkAny
  have hW : Below w.heap.size w w4 := by exact belowAny
  have z6 := b1.lt
  clear hb4
  have k1 := b1.cell
  have f1 := b1.frozen
  have c3 := H_c3.out
  go_wp2_with fail
  refine (c3 _ (belowAny)).mono ?_
  rintro e w7 ⟨rfl, hb7⟩
  clear c3
  have z8 := hb7.size
  try simp at z8
  clear k1 f1
  have b1 : Blk w7 w.heap.size #[.int .i64 K, .slice p len cap, .int .i64 A, .int .i64 R, .int .i64 n, .int .i64 d, .slice q m vc, .int .i64 E] 27 := by exact blkAny
  have hW : Below w.heap.size w w7 := by exact belowAny
  have z9 := b1.lt
  clear hb7
  have k1 := b1.cell
  have f1 := b1.frozen
  go_wp2
  have y_1 := b1.lt
  refine bodyPost_ret (v := .tuple #[.int .i64 N, .int .i64 0]) (by simp [results, Tryz.results56, go_sem, k1, f1, y_1]) rfl ⟨rfl, by exact belowAny⟩
set_option maxRecDepth 100000 in
set_option maxHeartbeats 2000000 in
theorem count_w (K A R n d E : Int) (p q : Option Addr) (len cap m vc : Nat) (w : World) (N er : Int)
    (c1 : ∀ W, Below w.heap.size w W → Calls Tryz.prog 56 #[.agg #[.int .i64 K, .slice p len cap, .int .i64 A, .int .i64 R, .int .i64 n, .int .i64 d, .slice q m vc, .int .i64 E], .func (.func 57) #[] #[]] W fun e w' => e = .returned (.tuple #[.int .i64 N, .int .i64 er]) ∧ Below W.heap.size W w') :
    Calls Tryz.prog 23 #[.agg #[.int .i64 K, .slice p len cap, .int .i64 A, .int .i64 R, .int .i64 n, .int .i64 d, .slice q m vc, .int .i64 E]] w fun e w' => e = .returned (.int .i64 N) ∧ Below w.heap.size w w' := by
  have H_c1 := Lib.hid c1
  clear c1
  go_enter Tryz.func23, Tryz.ntmps23
  go_upto_region 1 with (fail)
  refine wp_facts (fun W' => Below w.heap.size w W' ∧ Blk W' w.heap.size #[.int .i64 K, .slice p len cap, .int .i64 A, .int .i64 R, .int .i64 n, .int .i64 d, .slice q m vc, .int .i64 E] 27) ⟨by exact belowAny, by exact blkAny⟩ ?_
  rintro W1 ⟨hW, b1⟩
  have z2 := hW.size
  have z3 := b1.lt
  have k1 := b1.cell
  have f1 := b1.frozen
  have c1 := H_c1.out
  go_wp2_with fail
  refine (c1 _ (belowAny)).mono ?_
  rintro e w4 ⟨rfl, hb4⟩
  clear c1
  have z5 := hb4.size
  try simp at z5
  clear k1 f1
  have b1 : Blk w4 w.heap.size #[.int .i64 K, .slice p len cap, .int .i64 A, .int .i64 R, .int .i64 n, .int .i64 d, .slice q m vc, .int .i64 E] 27 := by exact blkAny
  have hW : Below w.heap.size w w4 := by exact belowAny
  have z6 := b1.lt
  clear hb4
  have k1 := b1.cell
  have f1 := b1.frozen
  go_wp2
  have y_1 := b1.lt
  refine bodyPost_ret (v := .int .i64 N) (by simp [results, Tryz.results23, go_sem, k1, f1, y_1]) rfl ⟨rfl, by exact belowAny⟩
theorem c_segCheckYes (s : SegT) (p q : Option Addr) (cap vc : Nat) (w : World) (h : SegIn w s p q) (hs : segB s = true) :
    Calls Tryz.prog 22 #[.agg (segA s p q cap vc)] w fun e w' => e = .returned (.int .i64 0) ∧ Below w.heap.size w w' :=
  scheck_yes _ _ _ _ _ _ p q _ cap _ vc w (fun W hW => by have := c_segIs s p q cap vc W (h.below hW); rw [hs] at this; exact this)
theorem c_segCheckNo (s : SegT) (p q : Option Addr) (cap vc : Nat) (w : World) (h : SegIn w s p q) (hs : segB s = false) :
    Calls Tryz.prog 22 #[.agg (segA s p q cap vc)] w fun e w' => e = .returned (.int .i64 210) ∧ Below w.heap.size w w' :=
  scheck_no _ _ _ _ _ _ p q _ cap _ vc w (fun W hW => by have := c_segIs s p q cap vc W (h.below hW); rw [hs] at this; exact this)
theorem c_segCountNo (s : SegT) (p q : Option Addr) (cap vc : Nat) (w : World) (h : SegIn w s p q) (hs : segB s = false) :
    Calls Tryz.prog 23 #[.agg (segA s p q cap vc)] w fun e w' => e = .returned (.int .i64 0) ∧ Below w.heap.size w w' :=
  count_w _ _ _ _ _ _ p q _ cap _ vc w 0 210 (fun W hW => ofn_no _ _ _ _ _ _ p q _ cap _ vc W (fun W' hW' => by have := c_segIs s p q cap vc W' ((h.below hW).below hW'); rw [hs] at this; exact this))
theorem c_segCountYes (s : SegT) (p q : Option Addr) (cap vc : Nat) (w : World) (h : SegIn w s p q) (hs : segB s = true) :
    Calls Tryz.prog 23 #[.agg (segA s p q cap vc)] w fun e w' => e = .returned (.int .i64 (cnt s.runs)) ∧ Below w.heap.size w w' :=
  count_w _ _ _ _ _ _ p q _ cap _ vc w (cnt s.runs) 0 (fun W hW => ofn_yes _ _ _ _ _ _ p q _ cap _ vc W (cnt s.runs) (fun W' hW' => by have := c_segIs s p q cap vc W' ((h.below hW).below hW'); rw [hs] at this; exact this)
    (fun W' hW' => count1_w _ _ _ _ _ _ p q _ cap _ vc W' (cnt s.runs) (fun W2 hW2 => c_rcount_ok p cap s.runs W2 (segB_runs hs) (((h.below hW).below hW').below hW2).runs)))
end Go.Proofs.YtgblmlefmohgnaaGreat
