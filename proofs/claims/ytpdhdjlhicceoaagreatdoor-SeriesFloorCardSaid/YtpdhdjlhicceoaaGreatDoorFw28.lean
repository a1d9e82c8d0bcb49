/- Parts of the proof that follows: slices.Equal of points, slices.EqualFunc of segments, reference 13's Same: of whatever two rows. No condition. | series.Same, series.Kept, reference 24's Same: of whatever two series. No condition. | The laws of chapter 25: some, wakes. No condition. | A copy of its own of a row, by append; rows of segments as they came in. No condition. | The laws of chapter 25: own. No condition. -/
import Derived.Laws.AppendOwnNone
import Derived.Test.YtpdhdjlhicceoaaGreatDoorFw27
set_option linter.unusedSimpArgs false
set_option linter.unusedVariables false
namespace Go.Proofs.YtpdhdjlhicceoaaGreatDoor
open Go.RowKit
theorem ite_ne2 {a b c d : Int} {w : World} : ((if a = b then (if c = d then Result.ok (Go.Next.value (Value.bool false)) w else Result.ok (Go.Next.value (Value.bool true)) w) else Result.ok (Go.Next.value (Value.bool true)) w) : Result Go.Next) = Result.ok (Go.Next.value (Value.bool (!(decide (a = b) && decide (c = d))))) w := by
  by_cases h1 : a = b <;> by_cases h2 : c = d <;> simp [h1, h2]
def eqqRel (w : World) (p : Option Addr) (cap : Nat) (p' : Option Addr) (cap' : Nat) (A B : List (Int × Int)) (a' : Act) (W : World) : Prop :=
  Below w.heap.size w W ∧ ∃ (i : Nat), (∃ u : Nat → Value, a' = { tmps := #[.slice p A.length cap, .slice p' A.length cap', u 2, u 3, .bool false, u 5, u 6, u 7, u 8, u 9, u 10, u 11, .int .i64 (A.length : Int), .int .i64 (i : Int), u 14, u 15, u 16, u 17, u 18, u 19, u 20, u 21, u 22, u 23, u 24, u 25], defers := [] }) ∧ i ≤ A.length ∧ ∀ k, k < i → A[k]? = B[k]?
set_option maxRecDepth 100000 in
set_option maxHeartbeats 2000000 in
theorem eqPtsG_w (p : Option Addr) (cap : Nat) (p' : Option Addr) (cap' : Nat) (A B : List (Int × Int)) (w : World) (hl : A.length = B.length) (hlen : A.length ≤ 1000000) (hA0 : PtsIn w p A) (hB0 : PtsIn w p' B) :
    Calls Tryz.prog 31 #[.slice p A.length cap, .slice p' A.length cap'] w fun e w' => e = .returned (.bool (decide (A = B))) ∧ Below w.heap.size w w' := by
  go_enter Tryz.func31, Tryz.ntmps31
  replace hl := Lib.hid hl
  go_wp2
  refine wp_loop (eqqRel w p cap p' cap' A B) (fun a' _ => A.length - (intAt (a'.tmps.getD 13 undef)).toNat) ?_ ?_
  · unfold eqqRel
    exact ⟨Below.refl _ _, 0, frame_ex rfl, by omega, fun k hk => by omega⟩
  · rintro a' W ⟨hW0, i, ⟨u, rfl⟩, hi', hall⟩
    have hz := hW0.size
    replace hall := Lib.hid hall
    rcases Nat.lt_or_ge i A.length with hlt | hge
    · obtain ⟨r, tr⟩ : ∃ r, A[i]? = some r := ⟨A[i]'(by omega), List.getElem?_eq_getElem (by omega)⟩
      obtain ⟨q, tq⟩ : ∃ q, B[i]? = some q := ⟨B[i]'(by have := hl.out; omega), List.getElem?_eq_getElem (by have := hl.out; omega)⟩
      obtain ⟨b, o, rfl, -⟩ := hA0.at' i r tr
      obtain ⟨b', o', rfl, -⟩ := hB0.at' i q tq
      have hA : PtsP W b o A := ⟨hA0.below hW0⟩
      have hB : PtsP W b' o' B := ⟨hB0.below hW0⟩
      replace tr := Lib.hid tr
      replace tq := Lib.hid tq
      have l1 := hlt
      have l2 : i < B.length := by have := hl.out; omega
      go_upto_region 6 with (fail)
      refine wp_cutB W (Rc (fun W' => PtsP W' b o A) <| Rc (fun W' => PtsP W' b' o' B) <| Bz) ?_ (hI := by exact belowAny) (hR := (Rc.mk (by exact hA.below belowAny) <| Rc.mk (by exact hB.below belowAny) <| trivial))
      rintro W1 hW z2 hL
      obtain ⟨b1, b2, -⟩ := id hL
      refine wp_regQ 9 26 hW hL ?_
      iterate 9
        apply nd_det (hg := rfl) (hal := rfl)
        · intro a W' hC hE
          obtain ⟨_, k1, k2, -⟩ := hC
          obtain ⟨q0, q1⟩ := k1.cellAt tr.out; obtain ⟨q2, q3⟩ := k2.cellAt tq.out
          first
            | (simp [Oper.looksAt, Op.operands, Call.operands, envOf, Det] at hE; simp [go_sem, Act.eval, IntWalk.i64_left, hE, k1, k2, q0, q1, q2, q3, l1, l2, ite_ne2]; try rfl)
            | (clear hE; simp [go_sem, Act.eval, IntWalk.i64_left, k1, k2, q0, q1, q2, q3, l1, l2, ite_ne2]; try rfl)
      clear hW hL b1 b2
      rintro W3 hW z4 hL
      simp only [ndR]
      intros
      simp only [ndS]
      refine wpList_nil ?_
      obtain ⟨b1, b2, -⟩ := hL
      by_cases hrq : r = q
      · have hall' := Lib.hid (show ∀ k, k < i + 1 → A[k]? = B[k]? from fun k hk => by
          rcases Nat.lt_or_ge k i with h | h
          · exact hall.out k h
          · obtain rfl : k = i := by omega
            rw [tr.out, tq.out, hrq])
        rw [show (!decide (r.1 = q.1) || !decide (r.2 = q.2)) = false by subst hrq; simp]
        clear hrq
        go_wp2
        rw [show (i : Int) + 1 = ((i + 1 : Nat) : Int) by omega]
        refine ⟨?_, by simp [intAt]; omega⟩
        unfold eqqRel
        exact ⟨hW0.trans (hW.mono hz), i + 1, frame_ex rfl, by omega, hall'.out⟩
      · have hne := Lib.hid (show decide (A = B) = false by
          rw [decide_eq_false_iff_not]
          rintro rfl
          rw [tr.out] at tq
          exact hrq (Option.some.inj tq.out))
        rw [show (!decide (r.1 = q.1) || !decide (r.2 = q.2)) = true by
          obtain ⟨r1, r2⟩ := r
          obtain ⟨q1, q2⟩ := q
          simp at hrq
          by_cases h1 : r1 = q1
          · simp [h1, hrq h1]
          · simp [h1]]
        clear hrq
        go_wp2
        go_ret
        exact ⟨by rw [hne.out]; rfl, hW0.trans (hW.mono hz)⟩
    · obtain rfl : i = A.length := by omega
      have heq := Lib.hid (show decide (A = B) = true by
        rw [decide_eq_true_eq]
        apply List.ext_getElem?
        intro k
        rcases Nat.lt_or_ge k A.length with h | h
        · exact hall.out k h
        · rw [List.getElem?_eq_none h, List.getElem?_eq_none (by have := hl.out; omega)])
      go_wp2
      go_ret
      exact ⟨by rw [heq.out]; rfl, hW0⟩
set_option maxRecDepth 100000 in
set_option maxHeartbeats 2000000 in
theorem eqPtsG_len (p : Option Addr) (n cap : Nat) (p' : Option Addr) (m cap' : Nat) (w : World) (hl : ¬ n = m) :
    Calls Tryz.prog 31 #[.slice p n cap, .slice p' m cap'] w fun e w' => e = .returned (.bool false) ∧ Below w.heap.size w w' := by
  go_enter Tryz.func31, Tryz.ntmps31
  go_wp2
  go_ret
  exact ⟨rfl, Below.refl _ _⟩
theorem c_eqPtsG (p : Option Addr) (cap : Nat) (p' : Option Addr) (cap' : Nat) (A B : List (Int × Int)) (w : World) (hlen : A.length ≤ 1000000) (hA0 : PtsIn w p A) (hB0 : PtsIn w p' B) :
    Calls Tryz.prog 31 #[.slice p A.length cap, .slice p' B.length cap'] w fun e w' => e = .returned (.bool (decide (A = B))) ∧ Below w.heap.size w w' := by
  by_cases h : A.length = B.length
  · rw [← h]; exact eqPtsG_w p cap p' cap' A B w h hlen hA0 hB0
  · rw [show decide (A = B) = false by rw [decide_eq_false_iff_not]; rintro rfl; exact h rfl]
    exact eqPtsG_len p _ cap p' _ cap' w h
/-- the same segments -/
def sameL : List SegT → List SegT → Bool
  | [], [] => true
  | s :: l, t :: m => sameT s t && sameL l m
  | _, _ => false
theorem sameL_refl : ∀ l : List SegT, sameL l l = true
  | [] => rfl
  | s :: l => by simp [sameL, sameT_refl, sameL_refl l]
theorem sameL_len : ∀ {l m : List SegT}, ¬ l.length = m.length → sameL l m = false
  | [], [], h => absurd rfl h
  | [], _ :: _, _ => rfl
  | _ :: _, [], _ => rfl
  | s :: l, t :: m, h => by simp only [sameL, sameL_len (l := l) (m := m) (by simpa using h), Bool.and_false]
theorem sameL_no : ∀ {l m : List SegT} {i : Nat} {x y : SegT}, l[i]? = some x → m[i]? = some y → sameT x y = false → sameL l m = false
  | [], _, _, _, _, h1, _, _ => by simp at h1
  | _ :: _, [], _, _, _, _, h2, _ => by simp at h2
  | s :: l, t :: m, 0, x, y, h1, h2, h => by
    simp at h1 h2; subst h1; subst h2
    simp [sameL, h]
  | s :: l, t :: m, i + 1, x, y, h1, h2, h => by
    rw [List.getElem?_cons_succ] at h1 h2
    show (sameT s t && sameL l m) = false
    rw [sameL_no h1 h2 h, Bool.and_false]
theorem sameL_yes : ∀ {l m : List SegT}, l.length = m.length → (∀ (i : Nat) x y, l[i]? = some x → m[i]? = some y → sameT x y = true) → sameL l m = true
  | [], [], _, _ => rfl
  | s :: l, t :: m, hl, h => by
    simp only [sameL, h 0 s t rfl rfl, Bool.true_and]
    exact sameL_yes (by simpa using hl) fun i x y h1 h2 => h (i + 1) x y (by simpa using h1) (by simpa using h2)
def Upto (l m : List SegT) (i : Nat) : Prop := ∀ (k : Nat) x y, k < i → l[k]? = some x → m[k]? = some y → sameT x y = true
theorem Upto.next {l m : List SegT} {i : Nat} {x y : SegT} (h : Upto l m i) (h1 : l[i]? = some x) (h2 : m[i]? = some y) (h3 : sameT x y = true) : Upto l m (i + 1) := fun k u v hk hu hv => by
  rcases Nat.lt_or_ge k i with hlt | hge
  · exact h k u v hlt hu hv
  · obtain rfl : k = i := by omega
    rw [h1] at hu; rw [h2] at hv
    injection hu with hu; injection hv with hv
    rw [← hu, ← hv]; exact h3
def s13gRel (w : World) (p p' : Option Addr) (cap cap' : Nat) (l m : List SegT) (a' : Act) (W : World) : Prop :=
  Below w.heap.size w W ∧ ∃ i : Nat, (∃ u : Nat → Value, a' = { tmps := #[.slice p l.length cap, .slice p' l.length cap', u 2, u 3, u 4, .int .i64 (i : Int), u 6, u 7, u 8, u 9, u 10, u 11, u 12, u 13, u 14, u 15, u 16, u 17, u 18, u 19, u 20, u 21, u 22, u 23, u 24, u 25, u 26], defers := [] }) ∧ i ≤ l.length ∧ Upto l m i
def efRel (w : World) (p p' : Option Addr) (cap cap' : Nat) (l m : List SegT) (a' : Act) (W : World) : Prop :=
  Below w.heap.size w W ∧ ∃ i : Nat, (∃ u : Nat → Value, a' = { tmps := #[.slice p l.length cap, .slice p' l.length cap', .func (.func 80) #[] #[], u 3, u 4, u 5, .bool false, u 7, u 8, u 9, u 10, u 11, u 12, u 13, u 14, .slice p l.length cap, .int .i64 (l.length : Int), .int .i64 (i : Int), u 18, u 19, u 20, u 21, u 22, u 23, u 24, u 25, u 26, u 27, u 28, u 29, u 30, u 31], defers := [] }) ∧ i ≤ l.length ∧ Upto l m i
set_option maxRecDepth 100000 in
set_option maxHeartbeats 2000000 in
theorem efSeg_w (l m : List SegT) (p p' : Option Addr) (cap cap' : Nat) (w : World) (h : SegsIn w p l) (h' : SegsIn w p' m) (hl : l.length ≤ 100) (hlm : l.length = m.length) :
    Calls Tryz.prog 79 #[.slice p l.length cap, .slice p' l.length cap', .func (.func 80) #[] #[]] w fun e w' => e = .returned (.bool (sameL l m)) ∧ Below w.heap.size w w' := by
  go_enter Tryz.func79, Tryz.ntmps79
  replace hlm := Lib.hid hlm
  go_wp2
  refine wp_loop (efRel w p p' cap cap' l m) (fun a' _ => l.length - (intAt (a'.tmps.getD 17 undef)).toNat) ?_ ?_
  · unfold efRel
    exact ⟨Below.refl _ _, 0, frame_ex rfl, by omega, fun k x y hk => by omega⟩
  rintro a' W ⟨hW0, i, ⟨u, rfl⟩, hi, hup⟩
  have hz := hW0.size
  replace hup := Lib.hid hup
  rcases Nat.lt_or_ge i l.length with hlt | hge
  · obtain ⟨x, tr⟩ : ∃ r, l[i]? = some r := ⟨l[i]'(by omega), List.getElem?_eq_getElem (by omega)⟩
    obtain ⟨y, tq⟩ : ∃ r, m[i]? = some r := ⟨m[i]'(by have := hlm.out; omega), List.getElem?_eq_getElem (by have := hlm.out; omega)⟩
    obtain ⟨b1, o1, p1, q1, cp1, vc1, rfl, h1, g1, -⟩ := (h.below hW0).at' i x tr
    obtain ⟨b2, o2, p2, q2, cp2, vc2, rfl, h2, g2, -⟩ := (h'.below hW0).at' i y tq
    have c1 := fun W' (hW' : Below W.heap.size W W') => c_segSame x y p1 q1 p2 q2 cp1 vc1 cp2 vc2 W' (g1.below hW') (g2.below hW')
    replace tr := Lib.hid tr
    replace tq := Lib.hid tq
    cases hB : sameT x y with
    | true =>
      have hup' := Lib.hid (hup.out.next tr.out tq.out hB)
      rw [hB] at c1
      unfold segA at c1 h1 h2
      replace c1 := Lib.hid c1
      clear g1 g2 hB
      have s0 := h1 0 _ rfl
      have s1 := h1 1 _ rfl
      have s2 := h1 2 _ rfl
      have s3 := h1 3 _ rfl
      have s4 := h1 4 _ rfl
      have s5 := h1 5 _ rfl
      have s6 := h1 6 _ rfl
      have s7 := h1 7 _ rfl
      simp only [Nat.add_zero] at s0
      go_upto_region 6 with (fail)
      refine wp_cutB W (Bc W.heap.size #[.int .i64 x.K, .slice p1 x.runs.length cp1, .int .i64 x.A, .int .i64 x.R, .int .i64 x.n, .int .i64 x.d, .slice q1 x.raw.length vc1, .int .i64 x.E] 49 <| Rc (fun W' => CellsP W' b2 (o2 + i * 8) #[.int .i64 y.K, .slice p2 y.runs.length cp2, .int .i64 y.A, .int .i64 y.R, .int .i64 y.n, .int .i64 y.d, .slice q2 y.raw.length vc2, .int .i64 y.E]) <| Bz) ?_ (hI := by exact belowAny) (hR := (Bc.mk (by exact blkAny2) <| Rc.mk (by exact (CellsP.mk h2).below belowAny) <| trivial))
      rintro W21 hW z22 ⟨⟨b1, yb1, k1, f1⟩, b2, -⟩
      clear s0 s1 s2 s3 s4 s5 s6 s7
      have hy := b2
      clear b2
      have t0 := hy.at' 0 _ rfl
      have t1 := hy.at' 1 _ rfl
      have t2 := hy.at' 2 _ rfl
      have t3 := hy.at' 3 _ rfl
      have t4 := hy.at' 4 _ rfl
      have t5 := hy.at' 5 _ rfl
      have t6 := hy.at' 6 _ rfl
      have t7 := hy.at' 7 _ rfl
      simp only [Nat.add_zero] at t0
      go_wp2_with fail
      refine (c1.out _ belowAny).mono ?_
      rintro e w23 ⟨rfl, hb23⟩
      have z24 := hb23.size
      try simp at z24
      clear k1 f1
      refine haveB W w23 (Bc W.heap.size #[.int .i64 x.K, .slice p1 x.runs.length cp1, .int .i64 x.A, .int .i64 x.R, .int .i64 x.n, .int .i64 x.d, .slice q1 x.raw.length vc1, .int .i64 x.E] 49 <| Bc W21.heap.size #[.int .i64 y.K, .slice p2 y.runs.length cp2, .int .i64 y.A, .int .i64 y.R, .int .i64 y.n, .int .i64 y.d, .slice q2 y.raw.length vc2, .int .i64 y.E] 49 <| Bz) ?_
      clear b1 hW
      rintro hW z25 ⟨⟨b1, yb1, k1, f1⟩, ⟨b2, yb2, k2, f2⟩, -⟩
      clear hb23
      go_wp2
      rw [show (i : Int) + 1 = ((i + 1 : Nat) : Int) by omega]
      refine ⟨?_, by simp [intAt]; omega⟩
      unfold efRel
      exact ⟨hW0.trans (hW.mono hz), i + 1, frame_ex rfl, by omega, hup'.out⟩
    | false =>
      have hno := Lib.hid (sameL_no tr.out tq.out hB)
      rw [hB] at c1
      unfold segA at c1 h1 h2
      replace c1 := Lib.hid c1
      clear g1 g2 hB
      have s0 := h1 0 _ rfl
      have s1 := h1 1 _ rfl
      have s2 := h1 2 _ rfl
      have s3 := h1 3 _ rfl
      have s4 := h1 4 _ rfl
      have s5 := h1 5 _ rfl
      have s6 := h1 6 _ rfl
      have s7 := h1 7 _ rfl
      simp only [Nat.add_zero] at s0
      go_upto_region 6 with (fail)
      refine wp_cutB W (Bc W.heap.size #[.int .i64 x.K, .slice p1 x.runs.length cp1, .int .i64 x.A, .int .i64 x.R, .int .i64 x.n, .int .i64 x.d, .slice q1 x.raw.length vc1, .int .i64 x.E] 49 <| Rc (fun W' => CellsP W' b2 (o2 + i * 8) #[.int .i64 y.K, .slice p2 y.runs.length cp2, .int .i64 y.A, .int .i64 y.R, .int .i64 y.n, .int .i64 y.d, .slice q2 y.raw.length vc2, .int .i64 y.E]) <| Bz) ?_ (hI := by exact belowAny) (hR := (Bc.mk (by exact blkAny2) <| Rc.mk (by exact (CellsP.mk h2).below belowAny) <| trivial))
      rintro W21 hW z22 ⟨⟨b1, yb1, k1, f1⟩, b2, -⟩
      clear s0 s1 s2 s3 s4 s5 s6 s7
      have hy := b2
      clear b2
      have t0 := hy.at' 0 _ rfl
      have t1 := hy.at' 1 _ rfl
      have t2 := hy.at' 2 _ rfl
      have t3 := hy.at' 3 _ rfl
      have t4 := hy.at' 4 _ rfl
      have t5 := hy.at' 5 _ rfl
      have t6 := hy.at' 6 _ rfl
      have t7 := hy.at' 7 _ rfl
      simp only [Nat.add_zero] at t0
      go_wp2_with fail
      refine (c1.out _ belowAny).mono ?_
      rintro e w23 ⟨rfl, hb23⟩
      have z24 := hb23.size
      try simp at z24
      clear k1 f1
      refine haveB W w23 (Bc W.heap.size #[.int .i64 x.K, .slice p1 x.runs.length cp1, .int .i64 x.A, .int .i64 x.R, .int .i64 x.n, .int .i64 x.d, .slice q1 x.raw.length vc1, .int .i64 x.E] 49 <| Bc W21.heap.size #[.int .i64 y.K, .slice p2 y.runs.length cp2, .int .i64 y.A, .int .i64 y.R, .int .i64 y.n, .int .i64 y.d, .slice q2 y.raw.length vc2, .int .i64 y.E] 49 <| Bz) ?_
      clear b1 hW
      rintro hW z25 ⟨⟨b1, yb1, k1, f1⟩, ⟨b2, yb2, k2, f2⟩, -⟩
      clear hb23
      go_wp2
      go_ret
      exact ⟨by rw [hno.out]; rfl, hW0.trans (hW.mono hz)⟩
  · obtain rfl : i = l.length := by omega
    have hyes := Lib.hid (sameL_yes hlm.out fun k x y h1 h2 => hup.out k x y (List.getElem?_eq_some_iff.1 h1).1 h1 h2)
    go_wp2
    go_ret
    exact ⟨by rw [hyes.out]; rfl, hW0⟩
set_option maxRecDepth 100000 in
set_option maxHeartbeats 2000000 in
theorem efSeg_len (p : Option Addr) (n cap : Nat) (p' : Option Addr) (k cap' : Nat) (w : World) (hl : ¬ n = k) :
    Calls Tryz.prog 79 #[.slice p n cap, .slice p' k cap', .func (.func 80) #[] #[]] w fun e w' => e = .returned (.bool false) ∧ Below w.heap.size w w' := by
  go_enter Tryz.func79, Tryz.ntmps79
  go_wp2
  go_ret
  exact ⟨rfl, Below.refl _ _⟩
theorem c_efSeg (l m : List SegT) (p p' : Option Addr) (cap cap' : Nat) (w : World) (h : SegsIn w p l) (h' : SegsIn w p' m) (hl : l.length ≤ 100) :
    Calls Tryz.prog 79 #[.slice p l.length cap, .slice p' m.length cap', .func (.func 80) #[] #[]] w fun e w' => e = .returned (.bool (sameL l m)) ∧ Below w.heap.size w w' := by
  by_cases e : l.length = m.length
  · rw [← e]; exact efSeg_w l m p p' cap cap' w h h' hl e
  · rw [sameL_len e]; exact efSeg_len p _ cap p' _ cap' w e
end Go.Proofs.YtpdhdjlhicceoaaGreatDoor
namespace Go.Proofs.YtpdhdjlhicceoaaGreatDoor
open Go.RowKit
/-- the same series -/
def sameS (s t : SerT) : Bool := (s.name.toList == t.name.toList) && (s.eps == t.eps) && (s.floor == t.floor) && (s.last == t.last) && (s.scale == t.scale) && sameL s.segs t.segs && decide (s.opn = t.opn)
theorem sameS_refl (s : SerT) : sameS s s = true := by simp [sameS, sameL_refl]
set_option maxRecDepth 100000 in
set_option maxHeartbeats 2000000 in
theorem c_srSame (s t : SerT) (ps1 ps2 : Option Addr) (cs1 cs2 : Nat) (po1 po2 : Option Addr) (co1 co2 : Nat) (w : World) (h : SerIn w s ps1 po1) (h' : SerIn w t ps2 po2) :
    Calls Tryz.prog 35 #[.agg (serA s ps1 cs1 po1 co1), .agg (serA t ps2 cs2 po2 co2)] w fun e w' => e = .returned (.bool (sameS s t)) ∧ Below w.heap.size w w' := by
  have hfO := h.fewO
  have c1 := Lib.hid (fun W (hW : Below w.heap.size w W) => c_efSeg s.segs t.segs ps1 ps2 cs1 cs2 W (h.below hW).segs (h'.below hW).segs h.fewS)
  have c2 := Lib.hid (fun W (hW : Below w.heap.size w W) => c_eqPtsG po1 co1 po2 co2 s.opn t.opn W (by omega) (h.below hW).opn (h'.below hW).opn)
  unfold serA sameS
  obtain ⟨L, hL⟩ : ∃ L, sameL s.segs t.segs = L := ⟨_, rfl⟩
  rw [hL] at c1 ⊢
  clear hL
  go_enter Tryz.func35, Tryz.ntmps35
  go_upto_region 1 with (fail)
  refine wp_cutB w (Bc w.heap.size #[.string s.name, .int .i64 s.eps, .int .i64 s.floor, .int .i64 s.last, .int .i64 s.scale, .slice ps1 s.segs.length cs1, .slice po1 s.opn.length co1] 26 <| Bc (w.heap.size + 1) #[.string t.name, .int .i64 t.eps, .int .i64 t.floor, .int .i64 t.last, .int .i64 t.scale, .slice ps2 t.segs.length cs2, .slice po2 t.opn.length co2] 26 <| Bz) ?_
  rintro W1 hW z2 hL
  refine wp_regS 48 52 hW hL ?_
  iterate 6 refine dA ?_
  iterate 5 refine gA ?_
  refine pA ?_
  refine dA ?_
  iterate 5 refine gA ?_
  refine pA ?_
  refine dA ?_
  iterate 5 refine gA ?_
  refine pA ?_
  refine dA ?_
  iterate 5 refine gA ?_
  refine pA ?_
  refine dA ?_
  iterate 4 refine gA ?_
  refine cG (fun hp hx W' hC => c1.out W' (hW.trans (hC.1.of_priv hW.size))) ?_
  refine pA ?_
  refine dA ?_
  iterate 4 refine gA ?_
  refine cG (fun hp hx W' hC => c2.out W' (hW.trans (hC.1.of_priv hW.size))) ?_
  refine pA ?_
  refine dA ?_
  clear hW hL
  rintro W3 hW z4 hL
  simp only [ndR]
  intros
  repeat (rename GDet _ _ _ _ => hgd; clear hgd)
  simp only [ndS]
  refine wpList_nil ?_
  obtain ⟨⟨b1, yb1, k1, f1⟩, ⟨b2, yb2, k2, f2⟩, -⟩ := hL
  go_wp2
  refine bodyPost_ret (by simp [results, Tryz.results35, go_sem, k1, f1, k2, f2, yb1, yb2]) rfl ⟨rfl, by exact belowAny⟩
def s24gRel (w : World) (s t : SerT) (ps1 ps2 : Option Addr) (cs1 cs2 : Nat) (po1 po2 : Option Addr) (co1 co2 : Nat) (a' : Act) (W : World) : Prop :=
  Below w.heap.size w W ∧ Blk W w.heap.size #[.string s.name, .int .i64 s.eps, .int .i64 s.floor, .int .i64 s.last, .int .i64 s.scale, .slice ps1 s.segs.length cs1, .slice po1 s.opn.length co1] 26 ∧ Blk W (w.heap.size + 1) #[.string t.name, .int .i64 t.eps, .int .i64 t.floor, .int .i64 t.last, .int .i64 t.scale, .slice ps2 t.segs.length cs2, .slice po2 t.opn.length co2] 26 ∧ ∃ i : Nat, (∃ u : Nat → Value, a' = { tmps := #[u 0, u 1, .pointer (some ⟨w.heap.size, 0, none⟩), .pointer (some ⟨w.heap.size + 1, 0, none⟩), u 4, u 5, u 6, u 7, u 8, u 9, u 10, u 11, u 12, u 13, u 14, u 15, u 16, u 17, u 18, u 19, u 20, u 21, u 22, u 23, u 24, u 25, u 26, u 27, u 28, u 29, u 30, u 31, u 32, u 33, u 34, u 35, u 36, u 37, u 38, u 39, u 40, u 41, u 42, u 43, u 44, u 45, u 46, u 47, u 48, u 49, u 50, u 51, u 52, u 53, u 54, u 55, u 56, u 57, .int .i64 (s.opn.length : Int), .int .i64 (i : Int), u 60, u 61, u 62, u 63, u 64, u 65, u 66, u 67, u 68, u 69, u 70, u 71, u 72, u 73], defers := [] }) ∧ i ≤ s.opn.length ∧ ∀ k, k < i → s.opn[k]? = t.opn[k]?
end Go.Proofs.YtpdhdjlhicceoaaGreatDoor
namespace Go.Proofs.YtpdhdjlhicceoaaGreatDoor
open Go.RowKit
def some0 : SerT := ⟨⟨#[97]⟩, 2, 3, 12, 0, [⟨1, [⟨0, 2, 4⟩], 10, 0, 0, 1, [], 1⟩], [(9, 20), (12, 5)]⟩
theorem SerIn.alloc {w : World} {s : SerT} {ps po : Option Addr} (h : SerIn w s ps po) (o : Obj) : SerIn (w.alloc o) s ps po := h.below ((Below.refl _ _).alloc (Nat.le_refl _) o)
end Go.Proofs.YtpdhdjlhicceoaaGreatDoor
namespace Go.Proofs.YtpdhdjlhicceoaaGreatDoor
open Go.RowKit
def MadeV (B : Nat) (e : TypeId) : Spec := fun v w => ∃ g, v = .slice (some ⟨g, 0, none⟩) 0 0 ∧ B ≤ g ∧ Blk w g #[] e
theorem MadeV.closed (B : Nat) (e : TypeId) : Closed [] (MadeV B e) := fun _ _ _ hr ⟨g, e1, h1, h⟩ => ⟨g, e1, h1, h.rex hr (by simp)⟩
def AppV (B : Nat) (e : TypeId) (n k : Nat) (news : List Value) : Spec := fun v w => ∃ g cap cur, v = .slice (some ⟨g, 0, none⟩) n cap ∧ B ≤ g ∧ Blk w g cur e ∧ n ≤ cap ∧ k ≤ cur.size ∧ cur.toList.take k = news
theorem AppV.closed (B : Nat) (e : TypeId) (n k : Nat) (news : List Value) : Closed [] (AppV B e n k news) := fun _ _ _ hr ⟨g, c, cur, e1, h1, h, h2, h3, h4⟩ => ⟨g, c, cur, e1, h1, h.rex hr (by simp), h2, h3, h4⟩
/-- A segment in memory: what it says, and where its rows are. -/
structure SegR where
  s : SegT
  p : Option Addr
  q : Option Addr
  cap : Nat
  vc : Nat
def segRA (r : SegR) : Array Value := segA r.s r.p r.q r.cap r.vc
def flatSegs (l : List SegR) : List Value := l.flatMap fun r => (segRA r).toList
theorem segRA_len (r : SegR) : (segRA r).toList.length = 8 := rfl
theorem flat_of {α : Type} (f : α → List Value) (K : Nat) (hK : 0 < K) (hf : ∀ x, (f x).length = K) : ∀ (l : List α) (j : Nat) (u : Value), (l.flatMap f)[j]? = some u → ∃ i x k, l[i]? = some x ∧ k < K ∧ j = i * K + k ∧ (f x)[k]? = some u
  | [], j, u, h => by simp at h
  | x :: l, j, u, h => by
    rw [List.flatMap_cons] at h
    rcases Nat.lt_or_ge j K with hlt | hge
    · rw [List.getElem?_append_left (by rw [hf]; exact hlt)] at h
      exact ⟨0, x, j, rfl, hlt, by omega, h⟩
    · rw [List.getElem?_append_right (by rw [hf]; exact hge), hf] at h
      obtain ⟨i, y, k, h1, h2, h3, h4⟩ := flat_of f K hK hf l (j - K) u h
      exact ⟨i + 1, y, k, h1, h2, by rw [Nat.add_mul]; omega, h4⟩
theorem flat_to {α : Type} (f : α → List Value) (K : Nat) (hf : ∀ x, (f x).length = K) : ∀ (l : List α) (i : Nat) (x : α) (k : Nat) (u : Value), l[i]? = some x → (f x)[k]? = some u → (l.flatMap f)[i * K + k]? = some u
  | [], i, x, k, u, h, _ => by simp at h
  | y :: l, i, x, k, u, h, hu => by
    have hk : k < K := by have := (List.getElem?_eq_some_iff.1 hu).1; rw [hf] at this; exact this
    rw [List.flatMap_cons]
    cases i with
    | zero =>
      obtain rfl : y = x := by simpa using h
      rw [List.getElem?_append_left (by rw [hf]; omega)]
      simpa using hu
    | succ i =>
      rw [List.getElem?_append_right (by rw [hf, Nat.add_mul]; omega), hf, show (i + 1) * K + k - K = i * K + k by rw [Nat.add_mul]; omega]
      exact flat_to f K hf l i x k u (by simpa using h) hu
/-- Rows of segments as they came in. -/
def SegsCame (w : World) (p : Option Addr) (l : List SegR) : Prop := ∀ (i : Nat) (r : SegR), l[i]? = some r → ∃ b o, p = some ⟨b, o, none⟩ ∧ (∀ j v, (segRA r)[j]? = some v → w.cell? ⟨b, o + i * 8 + j, none⟩ = some v) ∧ Came w r.s r.p r.q r.cap r.vc
theorem Came.below {w w' : World} {s : SegT} {p q : Option Addr} {cap vc : Nat} (h : Came w s p q cap vc) (hb : Below w.heap.size w w') : Came w' s p q cap vc := ⟨h.runs.below hb, h.raw.below hb, h.nilR, h.nilV, h.capR, h.capV, h.maxR, h.maxV⟩
theorem SegsCame.below {w w' : World} {p : Option Addr} {l : List SegR} (h : SegsCame w p l) (hb : Below w.heap.size w w') : SegsCame w' p l := fun i r hr => by
  obtain ⟨b, o, e, h1, h2⟩ := h i r hr
  exact ⟨b, o, e, fun j v hv => (hb.cell (p := ⟨b, _, none⟩) (cell_lt (h1 j v hv))).trans (h1 j v hv), h2.below hb⟩
theorem SegsCame.take {w : World} {p : Option Addr} {l : List SegR} (h : SegsCame w p l) (k : Nat) : SegsCame w p (l.take k) := fun i r hr => h i r (by
  rw [List.getElem?_take] at hr
  split at hr
  · exact hr
  · cases hr)
theorem SegsCame.flat {w : World} {p : Option Addr} {l : List SegR} (h : SegsCame w p l) (a : Addr) (ha : p = some a) (j : Nat) (u : Value) (hu : (flatSegs l)[j]? = some u) : w.cell? (a.add j) = some u := by
  obtain ⟨i, r, k, h1, h2, rfl, h3⟩ := flat_of _ 8 (by omega) segRA_len l j u hu
  obtain ⟨b, o, e, h4, _⟩ := h i r h1
  rw [ha] at e
  injection e with e
  subst e
  have := h4 k u (by simpa using h3)
  rw [show (⟨b, o, none⟩ : Addr).add (i * 8 + k) = ⟨b, o + i * 8 + k, none⟩ by unfold Addr.add; split <;> simp_all <;> omega]
  exact this
/-- A block's cells are those of segments. -/
def SegCells (cur : Array Value) (l : List SegR) : Prop := ∀ (i : Nat) (r : SegR), l[i]? = some r → ∀ k v, (segRA r)[k]? = some v → cur[i * 8 + k]? = some v
theorem segCells_of {cur : Array Value} {l : List SegR} {n : Nat} (h : cur.toList.take (n * 8) = flatSegs l) (hn : l.length = n) : SegCells cur l := fun i r hr k v hv => by
  have := flat_to _ 8 segRA_len l i r k v hr (by simpa using hv)
  unfold flatSegs at h
  rw [← h, List.getElem?_take] at this
  split at this
  · simpa using this
  · cases this
theorem SegCells.set {cur : Array Value} {l : List SegR} (h : SegCells cur l) {i k : Nat} {r r' : SegR} (hr : l[i]? = some r) (hk : k < 8) {v : Value} (he : segRA r' = (segRA r).setIfInBounds k v) : SegCells (cur.setIfInBounds (i * 8 + k) v) (l.set i r') := fun i2 r2 hr2 k2 v2 hv2 => by
  have hk2 : k2 < 8 := by have := (Array.getElem?_eq_some_iff.1 hv2).1; rw [show (segRA r2).size = 8 from rfl] at this; exact this
  rw [List.getElem?_set] at hr2
  split at hr2
  · rename_i e
    subst e
    split at hr2
    · injection hr2 with hr2
      subst hr2
      rw [he, Array.getElem?_setIfInBounds] at hv2
      split at hv2
      · rename_i ek
        subst ek
        split at hv2
        · have hb : i * 8 + k < cur.size := by
            have h0 := h i r hr k ((segRA r)[k]'(by rw [show (segRA r).size = 8 from rfl]; exact hk)) (Array.getElem?_eq_getElem _)
            exact (Array.getElem?_eq_some_iff.1 h0).1
          rw [Array.getElem?_setIfInBounds, if_pos rfl, if_pos hb]
          exact hv2
        · cases hv2
      · rename_i ek
        rw [Array.getElem?_setIfInBounds, if_neg (by omega)]
        exact h i r hr k2 v2 hv2
    · cases hr2
  · rename_i e
    rw [Array.getElem?_setIfInBounds, if_neg (by omega)]
    exact h i2 r2 hr2 k2 v2 hv2
end Go.Proofs.YtpdhdjlhicceoaaGreatDoor
namespace Go.Proofs.YtpdhdjlhicceoaaGreatDoor
open Go.RowKit
theorem Tryz.infoSeg : (Tryz.prog.info? 49).map (fun i => (i.zero, i.size, i.bytes)) = some (some (.agg #[.int .i64 0, .slice none 0 0, .int .i64 0, .int .i64 0, .int .i64 0, .int .i64 0, .slice none 0 0, .int .i64 0]), 8, 96) := by kernel_rfl
theorem add_zero_map (p : Option Addr) : (Option.map (fun x : Addr => x) p) = p := by cases p <;> rfl
theorem flatSegs_len (l : List SegR) : (flatSegs l).length = l.length * 8 := by
  unfold flatSegs
  induction l with
  | nil => rfl
  | cons x l ih => rw [List.flatMap_cons, List.length_append, ih, segRA_len, List.length_cons]; omega
theorem flatSegs_one {l : List SegR} (u : Value) (h : u ∈ flatSegs l) : u.oneCell' = true := by
  unfold flatSegs at h
  obtain ⟨r, _, hu⟩ := List.mem_flatMap.1 h
  unfold segRA segA at hu
  simp at hu
  rcases hu with rfl | rfl | rfl | rfl | rfl | rfl | rfl | rfl <;> rfl
def ownG (s : SegT) : SegT := ⟨s.K, s.runs.take 300, s.A, s.R, s.n, s.d, s.raw.take 300, s.E⟩
theorem RunsIn.rex1 {w w' : World} {p : Option Addr} {l : List RunT} {g : Nat} {L : List Nat} (h : RunsIn w p l) (hL : ∀ x, x ∈ L → x ≤ g) (hg : ∀ a, p = some a → g < a.block) (hr : Rex L w w') : RunsIn w' p l := ⟨fun i r hi => by
  obtain ⟨b, o, e, h1, h2, h3⟩ := h.at' i r hi
  have hb := hg _ e
  have key : ∀ z v, w.cell? ⟨b, z, none⟩ = some v → w'.cell? ⟨b, z, none⟩ = some v := fun z v hv => (World.cell?_of_block (hr.block b (cell_lt hv) (fun hx => by have := hL _ hx; simp at hb; omega))).trans hv
  exact ⟨b, o, e, key _ _ h1, key _ _ h2, key _ _ h3⟩⟩
theorem IntsIn.rex1 {w w' : World} {p : Option Addr} {l : List Int} {g : Nat} {L : List Nat} (h : IntsIn w p l) (hL : ∀ x, x ∈ L → x ≤ g) (hg : ∀ a, p = some a → g < a.block) (hr : Rex L w w') : IntsIn w' p l := ⟨fun i r hi => by
  obtain ⟨b, o, e, h1⟩ := h.at' i r hi
  have hb := hg _ e
  exact ⟨b, o, e, (World.cell?_of_block (hr.block b (cell_lt h1) (fun hx => by have := hL _ hx; simp at hb; omega))).trans h1⟩⟩
/-- A segment of one's own. -/
structure OwnSeg (W : World) (g : Nat) (r0 r : SegR) : Prop where
  says : r.s = ownG r0.s
  runs : RunsIn W r.p r.s.runs
  raw : IntsIn W r.q r.s.raw
  capV : r.s.raw.length ≤ r.vc
  farR : ∀ a, r.p = some a → g < a.block
  farV : ∀ a, r.q = some a → g < a.block
theorem OwnSeg.rex {W W' : World} {g : Nat} {r0 r : SegR} {L : List Nat} (h : OwnSeg W g r0 r) (hL : ∀ x, x ∈ L → x ≤ g) (hr : Rex L W W') : OwnSeg W' g r0 r := ⟨h.says, h.runs.rex1 hL h.farR hr, h.raw.rex1 hL h.farV hr, h.capV, h.farR, h.farV⟩
structure OwnTo (W : World) (g : Nat) (rows R : List SegR) (i : Nat) : Prop where
  len : R.length = rows.length
  rest : ∀ k, i ≤ k → R[k]? = rows[k]?
  own : ∀ k, k < i → ∀ r, R[k]? = some r → ∃ r0, rows[k]? = some r0 ∧ OwnSeg W g r0 r
theorem OwnTo.start (W : World) (g : Nat) (rows : List SegR) : OwnTo W g rows rows 0 := ⟨rfl, fun _ _ => rfl, fun k h => by omega⟩
theorem OwnTo.rex {W W' : World} {g i : Nat} {rows R : List SegR} {L : List Nat} (h : OwnTo W g rows R i) (hL : ∀ x, x ∈ L → x ≤ g) (hr : Rex L W W') : OwnTo W' g rows R i := ⟨h.len, h.rest, fun k hk r hR => by
  obtain ⟨r0, h1, h2⟩ := h.own k hk r hR
  exact ⟨r0, h1, h2.rex hL hr⟩⟩
theorem OwnTo.step {W : World} {g i : Nat} {rows R : List SegR} {r0 r1 : SegR} (h : OwnTo W g rows R i) (h0 : rows[i]? = some r0) (h1 : OwnSeg W g r0 r1) : OwnTo W g rows (R.set i r1) (i + 1) := ⟨by rw [List.length_set]; exact h.len, fun k hk => by rw [List.getElem?_set_ne (by omega)]; exact h.rest k (by omega), fun k hk r hR => by
  rw [List.getElem?_set] at hR
  split at hR
  · rename_i e
    subst e
    split at hR
    · injection hR with hR
      subst hR
      exact ⟨r0, h0, h1⟩
    · cases hR
  · exact h.own k (by omega) r hR⟩
theorem segRA_runs (r : SegR) (l : List RunT) (p : Option Addr) (c : Nat) : segRA ⟨⟨r.s.K, l, r.s.A, r.s.R, r.s.n, r.s.d, r.s.raw, r.s.E⟩, p, r.q, c, r.vc⟩ = (segRA r).setIfInBounds 1 (.slice p l.length c) := rfl
theorem segRA_raw (r : SegR) (l : List Int) (q : Option Addr) (c : Nat) : segRA ⟨⟨r.s.K, r.s.runs, r.s.A, r.s.R, r.s.n, r.s.d, l, r.s.E⟩, r.p, q, r.cap, c⟩ = (segRA r).setIfInBounds 6 (.slice q l.length c) := rfl
theorem Tryz.infoPt : (Tryz.prog.info? 53).map (fun i => (i.zero, i.size, i.bytes)) = some (some (.agg #[.int .i64 0, .int .i64 0]), 2, 16) := by kernel_rfl
theorem flatPts_len9 : ∀ l : List (Int × Int), (flatPts l).length = l.length * 2
  | [] => rfl
  | x :: l => by
    rw [show flatPts (x :: l) = [.int .i64 x.1, .int .i64 x.2] ++ flatPts l from rfl, List.length_append, flatPts_len9 l]
    simp only [List.length_cons, List.length_nil]
    omega
theorem flatPts_one9 : ∀ (l : List (Int × Int)) (u : Value), u ∈ flatPts l → u.oneCell' = true
  | [], u, h => by simp [flatPts] at h
  | x :: l, u, h => by
    rw [show flatPts (x :: l) = [.int .i64 x.1, .int .i64 x.2] ++ flatPts l from rfl] at h
    simp only [List.mem_append, List.mem_cons, List.not_mem_nil, or_false] at h
    rcases h with (rfl | rfl) | h
    · rfl
    · rfl
    · exact flatPts_one9 l u h
theorem flatPts_flat : ∀ l : List (Int × Int), flatPts l = l.flatMap fun x => [.int .i64 x.1, .int .i64 x.2]
  | [] => rfl
  | x :: l => by rw [List.flatMap_cons, ← flatPts_flat l]; rfl
theorem pts_flat9 {w : World} {a : Addr} {l : List (Int × Int)} (h : PtsIn w (some a) l) (j : Nat) (u : Value) (hu : (flatPts l)[j]? = some u) : w.cell? (a.add j) = some u := by
  rw [flatPts_flat] at hu
  obtain ⟨i, x, k, h1, h2, rfl, h3⟩ := flat_of _ 2 (by omega) (fun _ => rfl) l j u hu
  obtain ⟨b, o, e, c0, c1⟩ := h.at' i x h1
  injection e with e
  subst e
  rw [show (⟨b, o, none⟩ : Addr).add (i * 2 + k) = ⟨b, o + i * 2 + k, none⟩ by unfold Addr.add; split <;> simp_all <;> omega]
  match k, h2, h3 with
  | 0, _, h3 => simp at h3; subst h3; exact c0
  | 1, _, h3 => simp at h3; subst h3; exact c1
theorem PtsIn.take9 {w : World} {p : Option Addr} {l : List (Int × Int)} (h : PtsIn w p l) (k : Nat) : PtsIn w p (l.take k) := ⟨fun i r hr => h.at' i r (by
  rw [List.getElem?_take] at hr
  split at hr
  · exact hr
  · cases hr)⟩
def ownRel (w : World) (nm : ByteArray) (ep fl la sc : Int) (po : Option Addr) (co np : Nat) (rows : List SegR) (M gS capS : Nat) (a' : Act) (W : World) : Prop :=
  Below w.heap.size w W ∧ Blk W w.heap.size #[.string nm, .int .i64 ep, .int .i64 fl, .int .i64 la, .int .i64 sc, .slice (some ⟨gS, 0, none⟩) M capS, .slice po np co] 26 ∧ Blk W (w.heap.size + 1) #[.string .empty, .int .i64 0, .int .i64 0, .int .i64 0, .int .i64 0, .slice none 0 0, .slice none 0 0] 26 ∧ ∃ (i : Nat) (cur : Array Value) (R : List SegR), Blk W gS cur 49 ∧ SegCells cur R ∧ OwnTo W gS rows R i ∧ (∃ u : Nat → Value, a' = { tmps := #[u 0, .pointer (some ⟨w.heap.size, 0, none⟩), .pointer (some ⟨w.heap.size + 1, 0, none⟩), u 3, u 4, u 5, u 6, u 7, u 8, u 9, u 10, u 11, u 12, u 13, u 14, u 15, .slice (some ⟨gS, 0, none⟩) M capS, .int .i64 (M : Int), .int .i64 (i : Int), u 19, u 20, u 21, u 22, u 23, u 24, u 25, u 26, u 27, u 28, u 29, u 30, u 31, u 32, u 33, u 34, u 35, u 36, u 37, u 38, u 39, u 40, u 41, u 42, u 43, u 44, u 45, u 46, u 47, u 48, u 49, u 50, u 51, u 52, u 53, u 54, u 55, u 56, u 57, u 58, u 59, u 60, u 61, u 62], defers := [] }) ∧ i ≤ M
end Go.Proofs.YtpdhdjlhicceoaaGreatDoor
