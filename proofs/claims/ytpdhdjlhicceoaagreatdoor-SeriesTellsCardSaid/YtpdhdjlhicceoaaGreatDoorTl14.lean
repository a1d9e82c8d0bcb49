/- Parts of the proof that follows. No condition. -/
import Derived.Laws.AppendOwnNone
import Derived.Test.YtpdhdjlhicceoaaGreatDoorTl13
set_option maxRecDepth 100000
set_option maxHeartbeats 8000000
set_option linter.unusedSimpArgs false
set_option linter.unusedVariables false
namespace Go.Proofs.YtpdhdjlhicceoaaGreatDoor
open Go.RowKit
theorem ite_ne2 {a b c d : Int} {w : World} : ((if a = b then (if c = d then Result.ok (Go.Next.value (Value.bool false)) w else Result.ok (Go.Next.value (Value.bool true)) w) else Result.ok (Go.Next.value (Value.bool true)) w) : Result Go.Next) = Result.ok (Go.Next.value (Value.bool (!(decide (a = b) && decide (c = d))))) w := by
  by_cases h1 : a = b <;> by_cases h2 : c = d <;> simp [h1, h2]
def eqqRel (w : World) (p : Option Addr) (cap : Nat) (p' : Option Addr) (cap' : Nat) (A B : List (Int × Int)) (a' : Act) (W : World) : Prop :=
  Below w.heap.size w W ∧ ∃ (i : Nat), (∃ u : Nat → Value, a' = { tmps := #[.slice p A.length cap, .slice p' A.length cap', u 2, u 3, .bool false, u 5, u 6, u 7, u 8, u 9, u 10, u 11, .int .i64 (A.length : Int), .int .i64 (i : Int), u 14, u 15, u 16, u 17, u 18, u 19, u 20, u 21, u 22, u 23, u 24, u 25], defers := [] }) ∧ i ≤ A.length ∧ ∀ k, k < i → A[k]? = B[k]?
set_option maxRecDepth 100000 in
set_option maxHeartbeats 2000000 in
theorem eqPtsG_w (p : Option Addr) (cap : Nat) (p' : Option Addr) (cap' : Nat) (A B : List (Int × Int)) (w : World) (hl : A.length = B.length) (hlen : A.length ≤ 1000000) (hA0 : PtsIn w p A) (hB0 : PtsIn w p' B) :
    Calls Tryz.prog 31 #[.slice p A.length cap, .slice p' A.length cap'] w fun e w' => e = .returned (.bool (decide (A = B))) ∧ Below w.heap.size w w' := by
  go_enter Tryz.func31, Tryz.ntmps31
  replace hl := Lib.hid hl
  go_wp2
  refine wp_loop (eqqRel w p cap p' cap' A B) (fun a' _ => A.length - (intAt (a'.tmps.getD 13 undef)).toNat) ?_ ?_
  · unfold eqqRel
    exact ⟨Below.refl _ _, 0, frame_ex rfl, by omega, fun k hk => by omega⟩
  · rintro a' W ⟨hW0, i, ⟨u, rfl⟩, hi', hall⟩
    have hz := hW0.size
    replace hall := Lib.hid hall
    rcases Nat.lt_or_ge i A.length with hlt | hge
    · obtain ⟨r, tr⟩ : ∃ r, A[i]? = some r := ⟨A[i]'(by omega), List.getElem?_eq_getElem (by omega)⟩
      obtain ⟨q, tq⟩ : ∃ q, B[i]? = some q := ⟨B[i]'(by have := hl.out; omega), List.getElem?_eq_getElem (by have := hl.out; omega)⟩
      obtain ⟨b, o, rfl, -⟩ := hA0.at' i r tr
      obtain ⟨b', o', rfl, -⟩ := hB0.at' i q tq
      have hA : PtsP W b o A := ⟨hA0.below hW0⟩
      have hB : PtsP W b' o' B := ⟨hB0.below hW0⟩
      replace tr := Lib.hid tr
      replace tq := Lib.hid tq
      have l1 := hlt
      have l2 : i < B.length := by have := hl.out; omega
      go_upto_region 6 with (fail)
      refine wp_cutB W (Rc (fun W' => PtsP W' b o A) <| Rc (fun W' => PtsP W' b' o' B) <| Bz) ?_ (hI := by exact belowAny) (hR := (Rc.mk (by exact hA.below belowAny) <| Rc.mk (by exact hB.below belowAny) <| trivial))
      rintro W1 hW z2 hL
      obtain ⟨b1, b2, -⟩ := id hL
      refine wp_regQ 9 26 hW hL ?_
      iterate 9
        apply nd_det (hg := rfl) (hal := rfl)
        · intro a W' hC hE
          obtain ⟨_, k1, k2, -⟩ := hC
          obtain ⟨q0, q1⟩ := k1.cellAt tr.out; obtain ⟨q2, q3⟩ := k2.cellAt tq.out
          first
            | (simp [Oper.looksAt, Op.operands, Call.operands, envOf, Det] at hE; simp [go_sem, Act.eval, IntWalk.i64_left, hE, k1, k2, q0, q1, q2, q3, l1, l2, ite_ne2]; try rfl)
            | (clear hE; simp [go_sem, Act.eval, IntWalk.i64_left, k1, k2, q0, q1, q2, q3, l1, l2, ite_ne2]; try rfl)
      clear hW hL b1 b2
      rintro W3 hW z4 hL
      simp only [ndR]
      intros
      simp only [ndS]
      refine wpList_nil ?_
      obtain ⟨b1, b2, -⟩ := hL
      by_cases hrq : r = q
      · have hall' := Lib.hid (show ∀ k, k < i + 1 → A[k]? = B[k]? from fun k hk => by
          rcases Nat.lt_or_ge k i with h | h
          · exact hall.out k h
          · obtain rfl : k = i := by omega
            rw [tr.out, tq.out, hrq])
        rw [show (!decide (r.1 = q.1) || !decide (r.2 = q.2)) = false by subst hrq; simp]
        clear hrq
        go_wp2
        rw [show (i : Int) + 1 = ((i + 1 : Nat) : Int) by omega]
        refine ⟨?_, by simp [intAt]; omega⟩
        unfold eqqRel
        exact ⟨hW0.trans (hW.mono hz), i + 1, frame_ex rfl, by omega, hall'.out⟩
      · have hne := Lib.hid (show decide (A = B) = false by
          rw [decide_eq_false_iff_not]
          rintro rfl
          rw [tr.out] at tq
          exact hrq (Option.some.inj tq.out))
        rw [show (!decide (r.1 = q.1) || !decide (r.2 = q.2)) = true by
          obtain ⟨r1, r2⟩ := r
          obtain ⟨q1, q2⟩ := q
          simp at hrq
          by_cases h1 : r1 = q1
          · simp [h1, hrq h1]
          · simp [h1]]
        clear hrq
        go_wp2
        go_ret
        exact ⟨by rw [hne.out]; rfl, hW0.trans (hW.mono hz)⟩
    · obtain rfl : i = A.length := by omega
      have heq := Lib.hid (show decide (A = B) = true by
        rw [decide_eq_true_eq]
        apply List.ext_getElem?
        intro k
        rcases Nat.lt_or_ge k A.length with h | h
        · exact hall.out k h
        · rw [List.getElem?_eq_none h, List.getElem?_eq_none (by have := hl.out; omega)])
      go_wp2
      go_ret
      exact ⟨by rw [heq.out]; rfl, hW0⟩
set_option maxRecDepth 100000 in
set_option maxHeartbeats 2000000 in
theorem eqPtsG_len (p : Option Addr) (n cap : Nat) (p' : Option Addr) (m cap' : Nat) (w : World) (hl : ¬ n = m) :
    Calls Tryz.prog 31 #[.slice p n cap, .slice p' m cap'] w fun e w' => e = .returned (.bool false) ∧ Below w.heap.size w w' := by
  go_enter Tryz.func31, Tryz.ntmps31
  go_wp2
  go_ret
  exact ⟨rfl, Below.refl _ _⟩
theorem c_eqPtsG (p : Option Addr) (cap : Nat) (p' : Option Addr) (cap' : Nat) (A B : List (Int × Int)) (w : World) (hlen : A.length ≤ 1000000) (hA0 : PtsIn w p A) (hB0 : PtsIn w p' B) :
    Calls Tryz.prog 31 #[.slice p A.length cap, .slice p' B.length cap'] w fun e w' => e = .returned (.bool (decide (A = B))) ∧ Below w.heap.size w w' := by
  by_cases h : A.length = B.length
  · rw [← h]; exact eqPtsG_w p cap p' cap' A B w h hlen hA0 hB0
  · rw [show decide (A = B) = false by rw [decide_eq_false_iff_not]; rintro rfl; exact h rfl]
    exact eqPtsG_len p _ cap p' _ cap' w h
/-- the same segments -/
def sameL : List SegT → List SegT → Bool
  | [], [] => true
  | s :: l, t :: m => sameT s t && sameL l m
  | _, _ => false
theorem sameL_refl : ∀ l : List SegT, sameL l l = true
  | [] => rfl
  | s :: l => by simp [sameL, sameT_refl, sameL_refl l]
theorem sameL_len : ∀ {l m : List SegT}, ¬ l.length = m.length → sameL l m = false
  | [], [], h => absurd rfl h
  | [], _ :: _, _ => rfl
  | _ :: _, [], _ => rfl
  | s :: l, t :: m, h => by simp only [sameL, sameL_len (l := l) (m := m) (by simpa using h), Bool.and_false]
theorem sameL_no : ∀ {l m : List SegT} {i : Nat} {x y : SegT}, l[i]? = some x → m[i]? = some y → sameT x y = false → sameL l m = false
  | [], _, _, _, _, h1, _, _ => by simp at h1
  | _ :: _, [], _, _, _, _, h2, _ => by simp at h2
  | s :: l, t :: m, 0, x, y, h1, h2, h => by
    simp at h1 h2; subst h1; subst h2
    simp [sameL, h]
  | s :: l, t :: m, i + 1, x, y, h1, h2, h => by
    rw [List.getElem?_cons_succ] at h1 h2
    show (sameT s t && sameL l m) = false
    rw [sameL_no h1 h2 h, Bool.and_false]
theorem sameL_yes : ∀ {l m : List SegT}, l.length = m.length → (∀ (i : Nat) x y, l[i]? = some x → m[i]? = some y → sameT x y = true) → sameL l m = true
  | [], [], _, _ => rfl
  | s :: l, t :: m, hl, h => by
    simp only [sameL, h 0 s t rfl rfl, Bool.true_and]
    exact sameL_yes (by simpa using hl) fun i x y h1 h2 => h (i + 1) x y (by simpa using h1) (by simpa using h2)
def Upto (l m : List SegT) (i : Nat) : Prop := ∀ (k : Nat) x y, k < i → l[k]? = some x → m[k]? = some y → sameT x y = true
theorem Upto.next {l m : List SegT} {i : Nat} {x y : SegT} (h : Upto l m i) (h1 : l[i]? = some x) (h2 : m[i]? = some y) (h3 : sameT x y = true) : Upto l m (i + 1) := fun k u v hk hu hv => by
  rcases Nat.lt_or_ge k i with hlt | hge
  · exact h k u v hlt hu hv
  · obtain rfl : k = i := by omega
    rw [h1] at hu; rw [h2] at hv
    injection hu with hu; injection hv with hv
    rw [← hu, ← hv]; exact h3
def s13gRel (w : World) (p p' : Option Addr) (cap cap' : Nat) (l m : List SegT) (a' : Act) (W : World) : Prop :=
  Below w.heap.size w W ∧ ∃ i : Nat, (∃ u : Nat → Value, a' = { tmps := #[.slice p l.length cap, .slice p' l.length cap', u 2, u 3, u 4, .int .i64 (i : Int), u 6, u 7, u 8, u 9, u 10, u 11, u 12, u 13, u 14, u 15, u 16, u 17, u 18, u 19, u 20, u 21, u 22, u 23, u 24, u 25, u 26], defers := [] }) ∧ i ≤ l.length ∧ Upto l m i
set_option maxRecDepth 100000 in
set_option maxHeartbeats 2000000 in
theorem r13Same_w (l m : List SegT) (p p' : Option Addr) (cap cap' : Nat) (w : World) (h : SegsIn w p l) (h' : SegsIn w p' m) (hl : l.length ≤ 100) (hlm : l.length = m.length) :
    Calls Tryz.prog 42 #[.slice p l.length cap, .slice p' l.length cap'] w fun e w' => e = .returned (.bool (sameL l m)) ∧ Below w.heap.size w w' := by
  go_enter Tryz.func42, Tryz.ntmps42
  replace hlm := Lib.hid hlm
  go_wp2
  refine wp_loop (s13gRel w p p' cap cap' l m) (fun a' _ => l.length - (intAt (a'.tmps.getD 5 undef)).toNat) ?_ ?_
  · unfold s13gRel
    exact ⟨Below.refl _ _, 0, frame_ex rfl, by omega, fun k x y hk => by omega⟩
  rintro a' W ⟨hW0, i, ⟨u, rfl⟩, hi, hup⟩
  have hz := hW0.size
  replace hup := Lib.hid hup
  rcases Nat.lt_or_ge i l.length with hlt | hge
  · obtain ⟨x, tr⟩ : ∃ r, l[i]? = some r := ⟨l[i]'(by omega), List.getElem?_eq_getElem (by omega)⟩
    obtain ⟨y, tq⟩ : ∃ r, m[i]? = some r := ⟨m[i]'(by have := hlm.out; omega), List.getElem?_eq_getElem (by have := hlm.out; omega)⟩
    obtain ⟨b1, o1, p1, q1, cp1, vc1, rfl, h1, g1, -⟩ := (h.below hW0).at' i x tr
    obtain ⟨b2, o2, p2, q2, cp2, vc2, rfl, h2, g2, -⟩ := (h'.below hW0).at' i y tq
    have c1 := fun W' (hW' : Below W.heap.size W W') => c_refSame x y p1 q1 p2 q2 cp1 vc1 cp2 vc2 W' (g1.below hW') (g2.below hW')
    replace tr := Lib.hid tr
    replace tq := Lib.hid tq
    cases hB : sameT x y with
    | true =>
      have hup' := Lib.hid (hup.out.next tr.out tq.out hB)
      rw [hB] at c1
      unfold segA at c1 h1 h2
      replace c1 := Lib.hid c1
      clear g1 g2 hB
      go_upto_region 6 with (fail)
      refine wp_cutB W (Rc (fun W' => CellsP W' b1 (o1 + i * 8) #[.int .i64 x.K, .slice p1 x.runs.length cp1, .int .i64 x.A, .int .i64 x.R, .int .i64 x.n, .int .i64 x.d, .slice q1 x.raw.length vc1, .int .i64 x.E]) <| Rc (fun W' => CellsP W' b2 (o2 + i * 8) #[.int .i64 y.K, .slice p2 y.runs.length cp2, .int .i64 y.A, .int .i64 y.R, .int .i64 y.n, .int .i64 y.d, .slice q2 y.raw.length vc2, .int .i64 y.E]) <| Bz) ?_ (hI := by exact belowAny) (hR := (Rc.mk (by first | exact ⟨h1⟩ | (exact (CellsP.mk h1).below belowAny)) <| Rc.mk (by first | exact ⟨h2⟩ | (exact (CellsP.mk h2).below belowAny)) <| trivial))
      rintro W21 hW z22 hL
      obtain ⟨b1, b2, -⟩ := id hL
      refine wp_regQ 10 27 hW hL ?_
      iterate 8 refine dE (fun W' hC => aI hlt (aI (Nat.not_le.2 hlt) (aI (hC.2.1.at' 0 _ rfl) (aI (hC.2.1.at' 1 _ rfl) (aI (hC.2.1.at' 2 _ rfl) (aI (hC.2.1.at' 3 _ rfl) (aI (hC.2.1.at' 4 _ rfl) (aI (hC.2.1.at' 5 _ rfl) (aI (hC.2.1.at' 6 _ rfl) (aI (hC.2.1.at' 7 _ rfl) (aI (hC.2.2.1.at' 0 _ rfl) (aI (hC.2.2.1.at' 1 _ rfl) (aI (hC.2.2.1.at' 2 _ rfl) (aI (hC.2.2.1.at' 3 _ rfl) (aI (hC.2.2.1.at' 4 _ rfl) (aI (hC.2.2.1.at' 5 _ rfl) (aI (hC.2.2.1.at' 6 _ rfl) (hC.2.2.1.at' 7 _ rfl)))))))))))))))))) ?_
      refine cE (fun W' hC => aI hlt (aI (Nat.not_le.2 hlt) (aI (hC.2.1.at' 0 _ rfl) (aI (hC.2.1.at' 1 _ rfl) (aI (hC.2.1.at' 2 _ rfl) (aI (hC.2.1.at' 3 _ rfl) (aI (hC.2.1.at' 4 _ rfl) (aI (hC.2.1.at' 5 _ rfl) (aI (hC.2.1.at' 6 _ rfl) (aI (hC.2.1.at' 7 _ rfl) (aI (hC.2.2.1.at' 0 _ rfl) (aI (hC.2.2.1.at' 1 _ rfl) (aI (hC.2.2.1.at' 2 _ rfl) (aI (hC.2.2.1.at' 3 _ rfl) (aI (hC.2.2.1.at' 4 _ rfl) (aI (hC.2.2.1.at' 5 _ rfl) (aI (hC.2.2.1.at' 6 _ rfl) (hC.2.2.1.at' 7 _ rfl)))))))))))))))))) (fun W' hC => c1.out W' (hW.trans (hC.1.of_priv hW.size))) ?_
      refine dE (fun W' hC => aI hlt (aI (Nat.not_le.2 hlt) (aI (hC.2.1.at' 0 _ rfl) (aI (hC.2.1.at' 1 _ rfl) (aI (hC.2.1.at' 2 _ rfl) (aI (hC.2.1.at' 3 _ rfl) (aI (hC.2.1.at' 4 _ rfl) (aI (hC.2.1.at' 5 _ rfl) (aI (hC.2.1.at' 6 _ rfl) (aI (hC.2.1.at' 7 _ rfl) (aI (hC.2.2.1.at' 0 _ rfl) (aI (hC.2.2.1.at' 1 _ rfl) (aI (hC.2.2.1.at' 2 _ rfl) (aI (hC.2.2.1.at' 3 _ rfl) (aI (hC.2.2.1.at' 4 _ rfl) (aI (hC.2.2.1.at' 5 _ rfl) (aI (hC.2.2.1.at' 6 _ rfl) (hC.2.2.1.at' 7 _ rfl)))))))))))))))))) ?_
      clear hW hL b1 b2
      rintro W23 hW z24 hL
      simp only [ndR]
      intros
      simp only [ndS]
      refine wpList_nil ?_
      obtain ⟨b1, b2, -⟩ := hL
      go_wp2
      rw [show (i : Int) + 1 = ((i + 1 : Nat) : Int) by omega]
      refine ⟨?_, by simp [intAt]; omega⟩
      unfold s13gRel
      exact ⟨hW0.trans (hW.mono hz), i + 1, frame_ex rfl, by omega, hup'.out⟩
    | false =>
      have hno := Lib.hid (sameL_no tr.out tq.out hB)
      rw [hB] at c1
      unfold segA at c1 h1 h2
      replace c1 := Lib.hid c1
      clear g1 g2 hB
      go_upto_region 6 with (fail)
      refine wp_cutB W (Rc (fun W' => CellsP W' b1 (o1 + i * 8) #[.int .i64 x.K, .slice p1 x.runs.length cp1, .int .i64 x.A, .int .i64 x.R, .int .i64 x.n, .int .i64 x.d, .slice q1 x.raw.length vc1, .int .i64 x.E]) <| Rc (fun W' => CellsP W' b2 (o2 + i * 8) #[.int .i64 y.K, .slice p2 y.runs.length cp2, .int .i64 y.A, .int .i64 y.R, .int .i64 y.n, .int .i64 y.d, .slice q2 y.raw.length vc2, .int .i64 y.E]) <| Bz) ?_ (hI := by exact belowAny) (hR := (Rc.mk (by first | exact ⟨h1⟩ | (exact (CellsP.mk h1).below belowAny)) <| Rc.mk (by first | exact ⟨h2⟩ | (exact (CellsP.mk h2).below belowAny)) <| trivial))
      rintro W21 hW z22 hL
      obtain ⟨b1, b2, -⟩ := id hL
      refine wp_regQ 10 27 hW hL ?_
      iterate 8 refine dE (fun W' hC => aI hlt (aI (Nat.not_le.2 hlt) (aI (hC.2.1.at' 0 _ rfl) (aI (hC.2.1.at' 1 _ rfl) (aI (hC.2.1.at' 2 _ rfl) (aI (hC.2.1.at' 3 _ rfl) (aI (hC.2.1.at' 4 _ rfl) (aI (hC.2.1.at' 5 _ rfl) (aI (hC.2.1.at' 6 _ rfl) (aI (hC.2.1.at' 7 _ rfl) (aI (hC.2.2.1.at' 0 _ rfl) (aI (hC.2.2.1.at' 1 _ rfl) (aI (hC.2.2.1.at' 2 _ rfl) (aI (hC.2.2.1.at' 3 _ rfl) (aI (hC.2.2.1.at' 4 _ rfl) (aI (hC.2.2.1.at' 5 _ rfl) (aI (hC.2.2.1.at' 6 _ rfl) (hC.2.2.1.at' 7 _ rfl)))))))))))))))))) ?_
      refine cE (fun W' hC => aI hlt (aI (Nat.not_le.2 hlt) (aI (hC.2.1.at' 0 _ rfl) (aI (hC.2.1.at' 1 _ rfl) (aI (hC.2.1.at' 2 _ rfl) (aI (hC.2.1.at' 3 _ rfl) (aI (hC.2.1.at' 4 _ rfl) (aI (hC.2.1.at' 5 _ rfl) (aI (hC.2.1.at' 6 _ rfl) (aI (hC.2.1.at' 7 _ rfl) (aI (hC.2.2.1.at' 0 _ rfl) (aI (hC.2.2.1.at' 1 _ rfl) (aI (hC.2.2.1.at' 2 _ rfl) (aI (hC.2.2.1.at' 3 _ rfl) (aI (hC.2.2.1.at' 4 _ rfl) (aI (hC.2.2.1.at' 5 _ rfl) (aI (hC.2.2.1.at' 6 _ rfl) (hC.2.2.1.at' 7 _ rfl)))))))))))))))))) (fun W' hC => c1.out W' (hW.trans (hC.1.of_priv hW.size))) ?_
      refine dE (fun W' hC => aI hlt (aI (Nat.not_le.2 hlt) (aI (hC.2.1.at' 0 _ rfl) (aI (hC.2.1.at' 1 _ rfl) (aI (hC.2.1.at' 2 _ rfl) (aI (hC.2.1.at' 3 _ rfl) (aI (hC.2.1.at' 4 _ rfl) (aI (hC.2.1.at' 5 _ rfl) (aI (hC.2.1.at' 6 _ rfl) (aI (hC.2.1.at' 7 _ rfl) (aI (hC.2.2.1.at' 0 _ rfl) (aI (hC.2.2.1.at' 1 _ rfl) (aI (hC.2.2.1.at' 2 _ rfl) (aI (hC.2.2.1.at' 3 _ rfl) (aI (hC.2.2.1.at' 4 _ rfl) (aI (hC.2.2.1.at' 5 _ rfl) (aI (hC.2.2.1.at' 6 _ rfl) (hC.2.2.1.at' 7 _ rfl)))))))))))))))))) ?_
      clear hW hL b1 b2
      rintro W23 hW z24 hL
      simp only [ndR]
      intros
      simp only [ndS]
      refine wpList_nil ?_
      obtain ⟨b1, b2, -⟩ := hL
      go_wp2
      go_ret
      exact ⟨by rw [hno.out]; rfl, hW0.trans (hW.mono hz)⟩
  · obtain rfl : i = l.length := by omega
    have hyes := Lib.hid (sameL_yes hlm.out fun k x y h1 h2 => hup.out k x y (List.getElem?_eq_some_iff.1 h1).1 h1 h2)
    go_wp2
    go_ret
    exact ⟨by rw [hyes.out]; rfl, hW0⟩
set_option maxRecDepth 100000 in
set_option maxHeartbeats 2000000 in
theorem r13Same_len (p : Option Addr) (n cap : Nat) (p' : Option Addr) (k cap' : Nat) (w : World) (hl : ¬ n = k) :
    Calls Tryz.prog 42 #[.slice p n cap, .slice p' k cap'] w fun e w' => e = .returned (.bool false) ∧ Below w.heap.size w w' := by
  go_enter Tryz.func42, Tryz.ntmps42
  go_wp2
  go_ret
  exact ⟨rfl, Below.refl _ _⟩
theorem c_r13SameG (l m : List SegT) (p p' : Option Addr) (cap cap' : Nat) (w : World) (h : SegsIn w p l) (h' : SegsIn w p' m) (hl : l.length ≤ 100) :
    Calls Tryz.prog 42 #[.slice p l.length cap, .slice p' m.length cap'] w fun e w' => e = .returned (.bool (sameL l m)) ∧ Below w.heap.size w w' := by
  by_cases e : l.length = m.length
  · rw [← e]; exact r13Same_w l m p p' cap cap' w h h' hl e
  · rw [sameL_len e]; exact r13Same_len p _ cap p' _ cap' w e
def efRel (w : World) (p p' : Option Addr) (cap cap' : Nat) (l m : List SegT) (a' : Act) (W : World) : Prop :=
  Below w.heap.size w W ∧ ∃ i : Nat, (∃ u : Nat → Value, a' = { tmps := #[.slice p l.length cap, .slice p' l.length cap', .func (.func 80) #[] #[], u 3, u 4, u 5, .bool false, u 7, u 8, u 9, u 10, u 11, u 12, u 13, u 14, .slice p l.length cap, .int .i64 (l.length : Int), .int .i64 (i : Int), u 18, u 19, u 20, u 21, u 22, u 23, u 24, u 25, u 26, u 27, u 28, u 29, u 30, u 31], defers := [] }) ∧ i ≤ l.length ∧ Upto l m i
set_option maxRecDepth 100000 in
set_option maxHeartbeats 2000000 in
theorem efSeg_w (l m : List SegT) (p p' : Option Addr) (cap cap' : Nat) (w : World) (h : SegsIn w p l) (h' : SegsIn w p' m) (hl : l.length ≤ 100) (hlm : l.length = m.length) :
    Calls Tryz.prog 79 #[.slice p l.length cap, .slice p' l.length cap', .func (.func 80) #[] #[]] w fun e w' => e = .returned (.bool (sameL l m)) ∧ Below w.heap.size w w' := by
  go_enter Tryz.func79, Tryz.ntmps79
  replace hlm := Lib.hid hlm
  go_wp2
  refine wp_loop (efRel w p p' cap cap' l m) (fun a' _ => l.length - (intAt (a'.tmps.getD 17 undef)).toNat) ?_ ?_
  · unfold efRel
    exact ⟨Below.refl _ _, 0, frame_ex rfl, by omega, fun k x y hk => by omega⟩
  rintro a' W ⟨hW0, i, ⟨u, rfl⟩, hi, hup⟩
  have hz := hW0.size
  replace hup := Lib.hid hup
  rcases Nat.lt_or_ge i l.length with hlt | hge
  · obtain ⟨x, tr⟩ : ∃ r, l[i]? = some r := ⟨l[i]'(by omega), List.getElem?_eq_getElem (by omega)⟩
    obtain ⟨y, tq⟩ : ∃ r, m[i]? = some r := ⟨m[i]'(by have := hlm.out; omega), List.getElem?_eq_getElem (by have := hlm.out; omega)⟩
    obtain ⟨b1, o1, p1, q1, cp1, vc1, rfl, h1, g1, -⟩ := (h.below hW0).at' i x tr
    obtain ⟨b2, o2, p2, q2, cp2, vc2, rfl, h2, g2, -⟩ := (h'.below hW0).at' i y tq
    have c1 := fun W' (hW' : Below W.heap.size W W') => c_segSame x y p1 q1 p2 q2 cp1 vc1 cp2 vc2 W' (g1.below hW') (g2.below hW')
    replace tr := Lib.hid tr
    replace tq := Lib.hid tq
    cases hB : sameT x y with
    | true =>
      have hup' := Lib.hid (hup.out.next tr.out tq.out hB)
      rw [hB] at c1
      unfold segA at c1 h1 h2
      replace c1 := Lib.hid c1
      clear g1 g2 hB
      have s0 := h1 0 _ rfl
      have s1 := h1 1 _ rfl
      have s2 := h1 2 _ rfl
      have s3 := h1 3 _ rfl
      have s4 := h1 4 _ rfl
      have s5 := h1 5 _ rfl
      have s6 := h1 6 _ rfl
      have s7 := h1 7 _ rfl
      simp only [Nat.add_zero] at s0
      go_upto_region 6 with (fail)
      refine wp_cutB W (Bc W.heap.size #[.int .i64 x.K, .slice p1 x.runs.length cp1, .int .i64 x.A, .int .i64 x.R, .int .i64 x.n, .int .i64 x.d, .slice q1 x.raw.length vc1, .int .i64 x.E] 49 <| Rc (fun W' => CellsP W' b2 (o2 + i * 8) #[.int .i64 y.K, .slice p2 y.runs.length cp2, .int .i64 y.A, .int .i64 y.R, .int .i64 y.n, .int .i64 y.d, .slice q2 y.raw.length vc2, .int .i64 y.E]) <| Bz) ?_ (hI := by exact belowAny) (hR := (Bc.mk (by exact blkAny2) <| Rc.mk (by exact (CellsP.mk h2).below belowAny) <| trivial))
      rintro W21 hW z22 ⟨⟨b1, yb1, k1, f1⟩, b2, -⟩
      clear s0 s1 s2 s3 s4 s5 s6 s7
      have hy := b2
      clear b2
      have t0 := hy.at' 0 _ rfl
      have t1 := hy.at' 1 _ rfl
      have t2 := hy.at' 2 _ rfl
      have t3 := hy.at' 3 _ rfl
      have t4 := hy.at' 4 _ rfl
      have t5 := hy.at' 5 _ rfl
      have t6 := hy.at' 6 _ rfl
      have t7 := hy.at' 7 _ rfl
      simp only [Nat.add_zero] at t0
      go_wp2_with fail
      refine (c1.out _ belowAny).mono ?_
      rintro e w23 ⟨rfl, hb23⟩
      have z24 := hb23.size
      try simp at z24
      clear k1 f1
      refine haveB W w23 (Bc W.heap.size #[.int .i64 x.K, .slice p1 x.runs.length cp1, .int .i64 x.A, .int .i64 x.R, .int .i64 x.n, .int .i64 x.d, .slice q1 x.raw.length vc1, .int .i64 x.E] 49 <| Bc W21.heap.size #[.int .i64 y.K, .slice p2 y.runs.length cp2, .int .i64 y.A, .int .i64 y.R, .int .i64 y.n, .int .i64 y.d, .slice q2 y.raw.length vc2, .int .i64 y.E] 49 <| Bz) ?_
      clear b1 hW
      rintro hW z25 ⟨⟨b1, yb1, k1, f1⟩, ⟨b2, yb2, k2, f2⟩, -⟩
      clear hb23
      go_wp2
      rw [show (i : Int) + 1 = ((i + 1 : Nat) : Int) by omega]
      refine ⟨?_, by simp [intAt]; omega⟩
      unfold efRel
      exact ⟨hW0.trans (hW.mono hz), i + 1, frame_ex rfl, by omega, hup'.out⟩
    | false =>
      have hno := Lib.hid (sameL_no tr.out tq.out hB)
      rw [hB] at c1
      unfold segA at c1 h1 h2
      replace c1 := Lib.hid c1
      clear g1 g2 hB
      have s0 := h1 0 _ rfl
      have s1 := h1 1 _ rfl
      have s2 := h1 2 _ rfl
      have s3 := h1 3 _ rfl
      have s4 := h1 4 _ rfl
      have s5 := h1 5 _ rfl
      have s6 := h1 6 _ rfl
      have s7 := h1 7 _ rfl
      simp only [Nat.add_zero] at s0
      go_upto_region 6 with (fail)
      refine wp_cutB W (Bc W.heap.size #[.int .i64 x.K, .slice p1 x.runs.length cp1, .int .i64 x.A, .int .i64 x.R, .int .i64 x.n, .int .i64 x.d, .slice q1 x.raw.length vc1, .int .i64 x.E] 49 <| Rc (fun W' => CellsP W' b2 (o2 + i * 8) #[.int .i64 y.K, .slice p2 y.runs.length cp2, .int .i64 y.A, .int .i64 y.R, .int .i64 y.n, .int .i64 y.d, .slice q2 y.raw.length vc2, .int .i64 y.E]) <| Bz) ?_ (hI := by exact belowAny) (hR := (Bc.mk (by exact blkAny2) <| Rc.mk (by exact (CellsP.mk h2).below belowAny) <| trivial))
      rintro W21 hW z22 ⟨⟨b1, yb1, k1, f1⟩, b2, -⟩
      clear s0 s1 s2 s3 s4 s5 s6 s7
      have hy := b2
      clear b2
      have t0 := hy.at' 0 _ rfl
      have t1 := hy.at' 1 _ rfl
      have t2 := hy.at' 2 _ rfl
      have t3 := hy.at' 3 _ rfl
      have t4 := hy.at' 4 _ rfl
      have t5 := hy.at' 5 _ rfl
      have t6 := hy.at' 6 _ rfl
      have t7 := hy.at' 7 _ rfl
      simp only [Nat.add_zero] at t0
      go_wp2_with fail
      refine (c1.out _ belowAny).mono ?_
      rintro e w23 ⟨rfl, hb23⟩
      have z24 := hb23.size
      try simp at z24
      clear k1 f1
      refine haveB W w23 (Bc W.heap.size #[.int .i64 x.K, .slice p1 x.runs.length cp1, .int .i64 x.A, .int .i64 x.R, .int .i64 x.n, .int .i64 x.d, .slice q1 x.raw.length vc1, .int .i64 x.E] 49 <| Bc W21.heap.size #[.int .i64 y.K, .slice p2 y.runs.length cp2, .int .i64 y.A, .int .i64 y.R, .int .i64 y.n, .int .i64 y.d, .slice q2 y.raw.length vc2, .int .i64 y.E] 49 <| Bz) ?_
      clear b1 hW
      rintro hW z25 ⟨⟨b1, yb1, k1, f1⟩, ⟨b2, yb2, k2, f2⟩, -⟩
      clear hb23
      go_wp2
      go_ret
      exact ⟨by rw [hno.out]; rfl, hW0.trans (hW.mono hz)⟩
  · obtain rfl : i = l.length := by omega
    have hyes := Lib.hid (sameL_yes hlm.out fun k x y h1 h2 => hup.out k x y (List.getElem?_eq_some_iff.1 h1).1 h1 h2)
    go_wp2
    go_ret
    exact ⟨by rw [hyes.out]; rfl, hW0⟩
set_option maxRecDepth 100000 in
set_option maxHeartbeats 2000000 in
theorem efSeg_len (p : Option Addr) (n cap : Nat) (p' : Option Addr) (k cap' : Nat) (w : World) (hl : ¬ n = k) :
    Calls Tryz.prog 79 #[.slice p n cap, .slice p' k cap', .func (.func 80) #[] #[]] w fun e w' => e = .returned (.bool false) ∧ Below w.heap.size w w' := by
  go_enter Tryz.func79, Tryz.ntmps79
  go_wp2
  go_ret
  exact ⟨rfl, Below.refl _ _⟩
theorem c_efSeg (l m : List SegT) (p p' : Option Addr) (cap cap' : Nat) (w : World) (h : SegsIn w p l) (h' : SegsIn w p' m) (hl : l.length ≤ 100) :
    Calls Tryz.prog 79 #[.slice p l.length cap, .slice p' m.length cap', .func (.func 80) #[] #[]] w fun e w' => e = .returned (.bool (sameL l m)) ∧ Below w.heap.size w w' := by
  by_cases e : l.length = m.length
  · rw [← e]; exact efSeg_w l m p p' cap cap' w h h' hl e
  · rw [sameL_len e]; exact efSeg_len p _ cap p' _ cap' w e
/-- the same series -/
def sameS (s t : SerT) : Bool := (s.name.toList == t.name.toList) && (s.eps == t.eps) && (s.floor == t.floor) && (s.last == t.last) && (s.scale == t.scale) && sameL s.segs t.segs && decide (s.opn = t.opn)
theorem sameS_refl (s : SerT) : sameS s s = true := by simp [sameS, sameL_refl]
set_option maxRecDepth 100000 in
set_option maxHeartbeats 2000000 in
theorem c_srSame (s t : SerT) (ps1 ps2 : Option Addr) (cs1 cs2 : Nat) (po1 po2 : Option Addr) (co1 co2 : Nat) (w : World) (h : SerIn w s ps1 po1) (h' : SerIn w t ps2 po2) :
    Calls Tryz.prog 35 #[.agg (serA s ps1 cs1 po1 co1), .agg (serA t ps2 cs2 po2 co2)] w fun e w' => e = .returned (.bool (sameS s t)) ∧ Below w.heap.size w w' := by
  have hfO := h.fewO
  have c1 := Lib.hid (fun W (hW : Below w.heap.size w W) => c_efSeg s.segs t.segs ps1 ps2 cs1 cs2 W (h.below hW).segs (h'.below hW).segs h.fewS)
  have c2 := Lib.hid (fun W (hW : Below w.heap.size w W) => c_eqPtsG po1 co1 po2 co2 s.opn t.opn W (by omega) (h.below hW).opn (h'.below hW).opn)
  unfold serA sameS
  obtain ⟨L, hL⟩ : ∃ L, sameL s.segs t.segs = L := ⟨_, rfl⟩
  rw [hL] at c1 ⊢
  clear hL
  go_enter Tryz.func35, Tryz.ntmps35
  go_upto_region 1 with (fail)
  refine wp_cutB w (Bc w.heap.size #[.string s.name, .int .i64 s.eps, .int .i64 s.floor, .int .i64 s.last, .int .i64 s.scale, .slice ps1 s.segs.length cs1, .slice po1 s.opn.length co1] 26 <| Bc (w.heap.size + 1) #[.string t.name, .int .i64 t.eps, .int .i64 t.floor, .int .i64 t.last, .int .i64 t.scale, .slice ps2 t.segs.length cs2, .slice po2 t.opn.length co2] 26 <| Bz) ?_
  rintro W1 hW z2 hL
  refine wp_regS 48 52 hW hL ?_
  iterate 6 refine dA ?_
  iterate 5 refine gA ?_
  refine pA ?_
  refine dA ?_
  iterate 5 refine gA ?_
  refine pA ?_
  refine dA ?_
  iterate 5 refine gA ?_
  refine pA ?_
  refine dA ?_
  iterate 5 refine gA ?_
  refine pA ?_
  refine dA ?_
  iterate 4 refine gA ?_
  refine cG (fun hp hx W' hC => c1.out W' (hW.trans (hC.1.of_priv hW.size))) ?_
  refine pA ?_
  refine dA ?_
  iterate 4 refine gA ?_
  refine cG (fun hp hx W' hC => c2.out W' (hW.trans (hC.1.of_priv hW.size))) ?_
  refine pA ?_
  refine dA ?_
  clear hW hL
  rintro W3 hW z4 hL
  simp only [ndR]
  intros
  repeat (rename GDet _ _ _ _ => hgd; clear hgd)
  simp only [ndS]
  refine wpList_nil ?_
  obtain ⟨⟨b1, yb1, k1, f1⟩, ⟨b2, yb2, k2, f2⟩, -⟩ := hL
  go_wp2
  refine bodyPost_ret (by simp [results, Tryz.results35, go_sem, k1, f1, k2, f2, yb1, yb2]) rfl ⟨rfl, by exact belowAny⟩
def s24gRel (w : World) (s t : SerT) (ps1 ps2 : Option Addr) (cs1 cs2 : Nat) (po1 po2 : Option Addr) (co1 co2 : Nat) (a' : Act) (W : World) : Prop :=
  Below w.heap.size w W ∧ Blk W w.heap.size #[.string s.name, .int .i64 s.eps, .int .i64 s.floor, .int .i64 s.last, .int .i64 s.scale, .slice ps1 s.segs.length cs1, .slice po1 s.opn.length co1] 26 ∧ Blk W (w.heap.size + 1) #[.string t.name, .int .i64 t.eps, .int .i64 t.floor, .int .i64 t.last, .int .i64 t.scale, .slice ps2 t.segs.length cs2, .slice po2 t.opn.length co2] 26 ∧ ∃ i : Nat, (∃ u : Nat → Value, a' = { tmps := #[u 0, u 1, .pointer (some ⟨w.heap.size, 0, none⟩), .pointer (some ⟨w.heap.size + 1, 0, none⟩), u 4, u 5, u 6, u 7, u 8, u 9, u 10, u 11, u 12, u 13, u 14, u 15, u 16, u 17, u 18, u 19, u 20, u 21, u 22, u 23, u 24, u 25, u 26, u 27, u 28, u 29, u 30, u 31, u 32, u 33, u 34, u 35, u 36, u 37, u 38, u 39, u 40, u 41, u 42, u 43, u 44, u 45, u 46, u 47, u 48, u 49, u 50, u 51, u 52, u 53, u 54, u 55, u 56, u 57, .int .i64 (s.opn.length : Int), .int .i64 (i : Int), u 60, u 61, u 62, u 63, u 64, u 65, u 66, u 67, u 68, u 69, u 70, u 71, u 72, u 73], defers := [] }) ∧ i ≤ s.opn.length ∧ ∀ k, k < i → s.opn[k]? = t.opn[k]?
set_option maxRecDepth 100000 in
set_option maxHeartbeats 2000000 in
theorem c_r24SameG (s t : SerT) (ps1 ps2 : Option Addr) (cs1 cs2 : Nat) (po1 po2 : Option Addr) (co1 co2 : Nat) (w : World) (h : SerIn w s ps1 po1) (h' : SerIn w t ps2 po2) :
    Calls Tryz.prog 14 #[.agg (serA s ps1 cs1 po1 co1), .agg (serA t ps2 cs2 po2 co2)] w fun e w' => e = .returned (.bool (sameS s t)) ∧ Below w.heap.size w w' := by
  have c1 := Lib.hid (fun W (hW : Below w.heap.size w W) => c_r13SameG s.segs t.segs ps1 ps2 cs1 cs2 W (h.below hW).segs (h'.below hW).segs h.fewS)
  have hfO := h.fewO
  unfold serA sameS
  obtain ⟨L, hL⟩ : ∃ L, sameL s.segs t.segs = L := ⟨_, rfl⟩
  rw [hL] at c1 ⊢
  clear hL
  obtain ⟨RES, hRES⟩ : ∃ b, ((s.name.toList == t.name.toList) && (s.eps == t.eps) && (s.floor == t.floor) && (s.last == t.last) && (s.scale == t.scale) && L && decide (s.opn = t.opn)) = b := ⟨_, rfl⟩
  rw [hRES]
  replace hRES := Lib.hid hRES
  go_enter Tryz.func14, Tryz.ntmps14
  go_upto_region 1 with (fail)
  refine wp_cutB w (Bc w.heap.size #[.string s.name, .int .i64 s.eps, .int .i64 s.floor, .int .i64 s.last, .int .i64 s.scale, .slice ps1 s.segs.length cs1, .slice po1 s.opn.length co1] 26 <| Bc (w.heap.size + 1) #[.string t.name, .int .i64 t.eps, .int .i64 t.floor, .int .i64 t.last, .int .i64 t.scale, .slice ps2 t.segs.length cs2, .slice po2 t.opn.length co2] 26 <| Bz) ?_
  rintro W1 hW z2 hL
  refine wp_regS 50 74 hW hL ?_
  iterate 6 refine dA ?_
  iterate 5 refine gA ?_
  refine pO ?_
  refine dA ?_
  iterate 5 refine gA ?_
  refine pO ?_
  refine dA ?_
  iterate 5 refine gA ?_
  refine pO ?_
  refine dA ?_
  iterate 5 refine gA ?_
  refine pO ?_
  refine dA ?_
  iterate 4 refine gA ?_
  refine cG (fun hp hx W' hC => c1.out W' (hW.trans (hC.1.of_priv hW.size))) ?_
  refine gA ?_
  refine pO ?_
  refine dA ?_
  iterate 7 refine gA ?_
  refine pO ?_
  clear hW hL
  rintro W3 hW z4 hL
  simp only [ndR]
  intros
  repeat (rename GDet _ _ _ _ => hgd; clear hgd)
  simp only [ndS]
  refine wpList_nil ?_
  obtain ⟨⟨b1, yb1, k1, f1⟩, ⟨b2, yb2, k2, f2⟩, -⟩ := hL
  obtain ⟨F, hF⟩ : ∃ F, (!s.name.toList == t.name.toList || s.eps != t.eps || s.floor != t.floor || s.last != t.last || s.scale != t.scale || !L || (s.opn.length : Int) != (t.opn.length : Int)) = F := ⟨_, rfl⟩
  rw [hF]
  simp only [Exit.then]
  have y1 := b1.lt
  have y2 := b2.lt
  cases F with
  | true =>
    have hs : RES = false := by
      rw [← hRES.out, Bool.eq_false_iff]
      intro hx
      simp only [Bool.and_eq_true, beq_iff_eq, decide_eq_true_eq] at hx
      obtain ⟨⟨⟨⟨⟨⟨h1, h2⟩, h3⟩, h4⟩, h5⟩, h6⟩, h7⟩ := hx
      simp [h1, h2, h3, h4, h5, h6, h7] at hF
    clear hF c1 hRES
    replace hs := Lib.hid hs
    go_wp2
    go_ret
    exact ⟨by rw [hs.out]; rfl, hW⟩
  | false =>
    have hs : RES = decide (s.opn = t.opn) ∧ s.opn.length = t.opn.length := by
      simp only [Bool.or_eq_false_iff, Bool.not_eq_false', bne_eq_false_iff_eq] at hF
      obtain ⟨⟨⟨⟨⟨⟨h1, h2⟩, h3⟩, h4⟩, h5⟩, h6⟩, h7⟩ := hF
      refine ⟨?_, by omega⟩
      rw [← hRES.out, h1, h6]
      simp [h2, h3, h4, h5]
    obtain ⟨hs, hl⟩ := hs
    clear hF c1 hRES
    replace hl := Lib.hid hl
    replace hs := Lib.hid hs
    go_wp2
    refine wp_loop (s24gRel w s t ps1 ps2 cs1 cs2 po1 po2 co1 co2) (fun a' _ => s.opn.length - (intAt (a'.tmps.getD 59 undef)).toNat) ?_ ?_
    · unfold s24gRel
      exact ⟨hW, b1, b2, 0, frame_ex rfl, by omega, fun k hk => by omega⟩
    clear b1 b2 hW k1 k2 f1 f2
    rintro a' W ⟨hW0, b1, b2, i, ⟨u, rfl⟩, hi, hall⟩
    have hz := hW0.size
    have zb1 := b1.lt
    have zb2 := b2.lt
    replace hall := Lib.hid hall
    rcases Nat.lt_or_ge i s.opn.length with hlt | hge
    · obtain ⟨r, tr⟩ : ∃ r, s.opn[i]? = some r := ⟨s.opn[i]'(by omega), List.getElem?_eq_getElem (by omega)⟩
      obtain ⟨q, tq⟩ : ∃ q, t.opn[i]? = some q := ⟨t.opn[i]'(by have := hl.out; omega), List.getElem?_eq_getElem (by have := hl.out; omega)⟩
      have hA0 := (h.below hW0).opn
      have hB0 := (h'.below hW0).opn
      obtain ⟨b1', o1, rfl, -⟩ := hA0.at' i r tr
      obtain ⟨b2', o2, rfl, -⟩ := hB0.at' i q tq
      have hA : PtsP W b1' o1 s.opn := ⟨hA0⟩
      have hB : PtsP W b2' o2 t.opn := ⟨hB0⟩
      clear hA0 hB0
      replace tr := Lib.hid tr
      replace tq := Lib.hid tq
      have l1 := hlt
      have l2 : i < t.opn.length := by have := hl.out; omega
      go_upto_region 6 with (fail)
      refine wp_cutB W (Bc w.heap.size #[.string s.name, .int .i64 s.eps, .int .i64 s.floor, .int .i64 s.last, .int .i64 s.scale, .slice ps1 s.segs.length cs1, .slice (some ⟨b1', o1, none⟩) s.opn.length co1] 26 <| Bc (w.heap.size + 1) #[.string t.name, .int .i64 t.eps, .int .i64 t.floor, .int .i64 t.last, .int .i64 t.scale, .slice ps2 t.segs.length cs2, .slice (some ⟨b2', o2, none⟩) t.opn.length co2] 26 <| Rc (fun W' => PtsP W' b1' o1 s.opn) <| Rc (fun W' => PtsP W' b2' o2 t.opn) <| Bz) ?_ (hI := by exact belowAny) (hR := (Bc.mk (by exact blkAny2) <| Bc.mk (by exact blkAny2) <| Rc.mk (by first | exact hA | exact hA.below belowAny) <| Rc.mk (by first | exact hB | exact hB.below belowAny) <| trivial))
      clear b1 b2
      rintro W21 hW z22 hL
      obtain ⟨⟨b1, yb1, k1, f1⟩, ⟨b2, yb2, k2, f2⟩, b3, b4, -⟩ := id hL
      clear k1 f1 k2 f2
      refine wp_regQ 11 74 hW hL ?_
      iterate 11
        apply nd_det (hg := rfl) (hal := rfl)
        · intro a W' hC hE
          obtain ⟨_, ⟨-, -, k1, -⟩, ⟨-, -, k2, -⟩, k3, k4, -⟩ := hC
          obtain ⟨q0, q1⟩ := k3.cellAt tr.out; obtain ⟨q2, q3⟩ := k4.cellAt tq.out
          first
            | (simp [Oper.looksAt, Op.operands, Call.operands, envOf, Det] at hE; simp [go_sem, Act.eval, IntWalk.i64_left, hE, k1, k2, k3, k4, q0, q1, q2, q3, l1, l2, ite_ne2]; try rfl)
            | (clear hE; simp [go_sem, Act.eval, IntWalk.i64_left, k1, k2, k3, k4, q0, q1, q2, q3, l1, l2, ite_ne2]; try rfl)
      clear hW hL b1 b2 b3 b4
      rintro W23 hW z24 hL
      simp only [ndR]
      intros
      simp only [ndS]
      refine wpList_nil ?_
      obtain ⟨⟨b1, yb1, k1, f1⟩, ⟨b2, yb2, k2, f2⟩, b3, b4, -⟩ := hL
      by_cases hrq : r = q
      · have hall' := Lib.hid (show ∀ k, k < i + 1 → s.opn[k]? = t.opn[k]? from fun k hk => by
          rcases Nat.lt_or_ge k i with h | h
          · exact hall.out k h
          · obtain rfl : k = i := by omega
            rw [tr.out, tq.out, hrq])
        rw [show (!decide (r.1 = q.1) || !decide (r.2 = q.2)) = false by subst hrq; simp]
        clear hrq
        go_wp2
        rw [show (i : Int) + 1 = ((i + 1 : Nat) : Int) by omega]
        refine ⟨?_, by simp [intAt]; omega⟩
        unfold s24gRel
        exact ⟨hW0.trans (hW.mono hz), b1, b2, i + 1, frame_ex rfl, by omega, hall'.out⟩
      · have hne := Lib.hid (show decide (s.opn = t.opn) = false by
          rw [decide_eq_false_iff_not]
          intro e
          have h1 := tr.out
          rw [e, tq.out] at h1
          exact hrq (Option.some.inj h1).symm)
        rw [show (!decide (r.1 = q.1) || !decide (r.2 = q.2)) = true by
          obtain ⟨r1, r2⟩ := r
          obtain ⟨q1, q2⟩ := q
          simp at hrq
          by_cases h1 : r1 = q1
          · simp [h1, hrq h1]
          · simp [h1]]
        clear hrq
        go_wp2
        go_ret
        exact ⟨by rw [hs.out, hne.out]; rfl, hW0.trans (hW.mono hz)⟩
    · obtain rfl : i = s.opn.length := by omega
      have heq := Lib.hid (show decide (s.opn = t.opn) = true by
        rw [decide_eq_true_eq]
        apply List.ext_getElem?
        intro k
        rcases Nat.lt_or_ge k s.opn.length with h | h
        · exact hall.out k h
        · rw [List.getElem?_eq_none h, List.getElem?_eq_none (by have := hl.out; omega)])
      go_wp2
      go_ret
      exact ⟨by rw [hs.out, heq.out]; rfl, hW0⟩
set_option maxRecDepth 100000 in
set_option maxHeartbeats 2000000 in
theorem keptY_w (s : SerT) (ps1 po1 : Option Addr) (cs1 co1 : Nat) (K : Int) (w : World) (hin : SerIn w s ps1 po1)
    (c1 : ∀ W, Below w.heap.size w W → SerIn W s ps1 po1 → Calls Tryz.prog 32 #[.agg #[.string s.name, .int .i64 s.eps, .int .i64 s.floor, .int .i64 s.last, .int .i64 s.scale, .slice ps1 s.segs.length cs1, .slice po1 s.opn.length co1]] W fun e w' => e = .returned (.int .i64 0) ∧ Below W.heap.size W w')
    (c2 : ∀ W, Below w.heap.size w W → SerIn W s ps1 po1 → Calls Tryz.prog 78 #[.agg #[.string s.name, .int .i64 s.eps, .int .i64 s.floor, .int .i64 s.last, .int .i64 s.scale, .slice ps1 s.segs.length cs1, .slice po1 s.opn.length co1]] W fun e w' => e = .returned (.int .i64 K) ∧ Below W.heap.size W w') :
    Calls Tryz.prog 34 #[.agg #[.string s.name, .int .i64 s.eps, .int .i64 s.floor, .int .i64 s.last, .int .i64 s.scale, .slice ps1 s.segs.length cs1, .slice po1 s.opn.length co1]] w fun e w' => e = .returned (.int .i64 K) ∧ Below w.heap.size w w' := by
  have H_c1 := Lib.hid c1
  clear c1
  have H_c2 := Lib.hid c2
  clear c2
  go_enter Tryz.func34, Tryz.ntmps34
  go_wp2_with fail
  refine (H_c1.out _ belowAny (hin.below belowAny)).mono ?_
  rintro e w1 ⟨rfl, hb1⟩
  have z2 := hb1.size
  try simp at z2
  refine haveB w w1 (Bc w.heap.size #[.string s.name, .int .i64 s.eps, .int .i64 s.floor, .int .i64 s.last, .int .i64 s.scale, .slice ps1 s.segs.length cs1, .slice po1 s.opn.length co1] 26 <| Bz) ?_
  rintro hW z3 ⟨⟨b1, yb1, k1, f1⟩, -⟩
  clear hb1
  go_wp2_with fail
  refine (H_c2.out _ belowAny (hin.below belowAny)).mono ?_
  rintro e w4 ⟨rfl, hb4⟩
  have z5 := hb4.size
  try simp at z5
  clear k1 f1
  refine haveB w w4 (Bc w.heap.size #[.string s.name, .int .i64 s.eps, .int .i64 s.floor, .int .i64 s.last, .int .i64 s.scale, .slice ps1 s.segs.length cs1, .slice po1 s.opn.length co1] 26 <| Bz) ?_
  clear b1 hW
  rintro hW z6 ⟨⟨b1, yb1, k1, f1⟩, -⟩
  clear hb4
  go_wp2
  refine bodyPost_ret (by simp [results, Tryz.results34, go_sem, k1, f1, yb1]) rfl ⟨rfl, by exact belowAny⟩
set_option maxRecDepth 100000 in
set_option maxHeartbeats 2000000 in
theorem keptN_w (s : SerT) (ps1 po1 : Option Addr) (cs1 co1 : Nat) (w : World) (hin : SerIn w s ps1 po1)
    (c1 : ∀ W, Below w.heap.size w W → SerIn W s ps1 po1 → Calls Tryz.prog 32 #[.agg #[.string s.name, .int .i64 s.eps, .int .i64 s.floor, .int .i64 s.last, .int .i64 s.scale, .slice ps1 s.segs.length cs1, .slice po1 s.opn.length co1]] W fun e w' => e = .returned (.int .i64 340) ∧ Below W.heap.size W w') :
    Calls Tryz.prog 34 #[.agg #[.string s.name, .int .i64 s.eps, .int .i64 s.floor, .int .i64 s.last, .int .i64 s.scale, .slice ps1 s.segs.length cs1, .slice po1 s.opn.length co1]] w fun e w' => e = .returned (.int .i64 0) ∧ Below w.heap.size w w' := by
  have H_c1 := Lib.hid c1
  clear c1
  go_enter Tryz.func34, Tryz.ntmps34
  go_wp2_with fail
  refine (H_c1.out _ belowAny (hin.below belowAny)).mono ?_
  rintro e w1 ⟨rfl, hb1⟩
  have z2 := hb1.size
  try simp at z2
  refine haveB w w1 (Bc w.heap.size #[.string s.name, .int .i64 s.eps, .int .i64 s.floor, .int .i64 s.last, .int .i64 s.scale, .slice ps1 s.segs.length cs1, .slice po1 s.opn.length co1] 26 <| Bz) ?_
  rintro hW z3 ⟨⟨b1, yb1, k1, f1⟩, -⟩
  clear hb1
  go_wp2
  refine bodyPost_ret (by simp [results, Tryz.results34, go_sem, k1, f1, yb1]) rfl ⟨rfl, by exact belowAny⟩
def some0 : SerT := ⟨⟨#[97]⟩, 2, 3, 12, 0, [⟨1, [⟨0, 2, 4⟩], 10, 0, 0, 1, [], 1⟩], [(9, 20), (12, 5)]⟩
theorem SerIn.alloc {w : World} {s : SerT} {ps po : Option Addr} (h : SerIn w s ps po) (o : Obj) : SerIn (w.alloc o) s ps po := h.below ((Below.refl _ _).alloc (Nat.le_refl _) o)
def MadeV (B : Nat) (e : TypeId) : Spec := fun v w => ∃ g, v = .slice (some ⟨g, 0, none⟩) 0 0 /\ B <= g /\ Blk w g #[] e
theorem MadeV.closed (B : Nat) (e : TypeId) : Closed [] (MadeV B e) := fun _ _ _ hr ⟨g, e1, h1, h⟩ => ⟨g, e1, h1, h.rex hr (by simp)⟩
def AppV (B : Nat) (e : TypeId) (n k : Nat) (news : List Value) : Spec := fun v w => ∃ g cap cur, v = .slice (some ⟨g, 0, none⟩) n cap /\ B <= g /\ Blk w g cur e /\ n <= cap /\ k <= cur.size /\ cur.toList.take k = news
theorem AppV.closed (B : Nat) (e : TypeId) (n k : Nat) (news : List Value) : Closed [] (AppV B e n k news) := fun _ _ _ hr ⟨g, c, cur, e1, h1, h, h2, h3, h4⟩ => ⟨g, c, cur, e1, h1, h.rex hr (by simp), h2, h3, h4⟩
structure SegR where
 s : SegT
 p : Option Addr
 q : Option Addr
 cap : Nat
 vc : Nat
def segRA (r : SegR) : Array Value := segA r.s r.p r.q r.cap r.vc
def flatSegs (l : List SegR) : List Value := l.flatMap fun r => (segRA r).toList
theorem segRA_len (r : SegR) : (segRA r).toList.length = 8 := rfl
theorem flat_of {α : Type} (f : α -> List Value) (K : Nat) (hK : 0 < K) (hf : ∀ x, (f x).length = K) : ∀ (l : List α) (j : Nat) (u : Value), (l.flatMap f)[j]? = some u -> ∃ i x k, l[i]? = some x /\ k < K /\ j = i * K + k /\ (f x)[k]? = some u
 | [], j, u, h => by simp at h
 | x :: l, j, u, h => by
  rw [List.flatMap_cons] at h
  rcases Nat.lt_or_ge j K with hlt | hge
  ·rw [List.getElem?_append_left (by rw [hf]; exact hlt)] at h
   exact ⟨0, x, j, rfl, hlt, by omega, h⟩
  ·rw [List.getElem?_append_right (by rw [hf]; exact hge), hf] at h
   obtain ⟨i, y, k, h1, h2, h3, h4⟩ := flat_of f K hK hf l (j - K) u h
   exact ⟨i + 1, y, k, h1, h2, by rw [Nat.add_mul]; omega, h4⟩
theorem flat_to {α : Type} (f : α -> List Value) (K : Nat) (hf : ∀ x, (f x).length = K) : ∀ (l : List α) (i : Nat) (x : α) (k : Nat) (u : Value), l[i]? = some x -> (f x)[k]? = some u -> (l.flatMap f)[i * K + k]? = some u
 | [], i, x, k, u, h, _ => by simp at h
 | y :: l, i, x, k, u, h, hu => by
  have hk : k < K := by have := (List.getElem?_eq_some_iff.1 hu).1; rw [hf] at this; exact this
  rw [List.flatMap_cons]
  cases i with
  | zero =>
   obtain rfl : y = x := by simpa using h
   rw [List.getElem?_append_left (by rw [hf]; omega)]
   simpa using hu
  | succ i =>
   rw [List.getElem?_append_right (by rw [hf, Nat.add_mul]; omega), hf, show (i + 1) * K + k - K = i * K + k by rw [Nat.add_mul]; omega]
   exact flat_to f K hf l i x k u (by simpa using h) hu
def SegsCame (w : World) (p : Option Addr) (l : List SegR) : Prop := ∀ (i : Nat) (r : SegR), l[i]? = some r -> ∃ b o, p = some ⟨b, o, none⟩ /\ (∀ j v, (segRA r)[j]? = some v -> w.cell? ⟨b, o + i * 8 + j, none⟩ = some v) /\ Came w r.s r.p r.q r.cap r.vc
theorem Came.below {w w' : World} {s : SegT} {p q : Option Addr} {cap vc : Nat} (h : Came w s p q cap vc) (hb : Below w.heap.size w w') : Came w' s p q cap vc := ⟨h.runs.below hb, h.raw.below hb, h.nilR, h.nilV, h.capR, h.capV, h.maxR, h.maxV⟩
theorem SegsCame.below {w w' : World} {p : Option Addr} {l : List SegR} (h : SegsCame w p l) (hb : Below w.heap.size w w') : SegsCame w' p l := fun i r hr => by
 obtain ⟨b, o, e, h1, h2⟩ := h i r hr
 exact ⟨b, o, e, fun j v hv => (hb.cell (p := ⟨b, _, none⟩) (cell_lt (h1 j v hv))).trans (h1 j v hv), h2.below hb⟩
theorem SegsCame.take {w : World} {p : Option Addr} {l : List SegR} (h : SegsCame w p l) (k : Nat) : SegsCame w p (l.take k) := fun i r hr => h i r (by
 rw [List.getElem?_take] at hr
 split at hr
 ·exact hr
 ·cases hr)
theorem SegsCame.flat {w : World} {p : Option Addr} {l : List SegR} (h : SegsCame w p l) (a : Addr) (ha : p = some a) (j : Nat) (u : Value) (hu : (flatSegs l)[j]? = some u) : w.cell? (a.add j) = some u := by
 obtain ⟨i, r, k, h1, h2, rfl, h3⟩ := flat_of _ 8 (by omega) segRA_len l j u hu
 obtain ⟨b, o, e, h4, _⟩ := h i r h1
 rw [ha] at e
 injection e with e
 subst e
 have := h4 k u (by simpa using h3)
 rw [show (⟨b, o, none⟩ : Addr).add (i * 8 + k) = ⟨b, o + i * 8 + k, none⟩ by unfold Addr.add; split <;> simp_all <;> omega]
 exact this
def SegCells (cur : Array Value) (l : List SegR) : Prop := ∀ (i : Nat) (r : SegR), l[i]? = some r -> ∀ k v, (segRA r)[k]? = some v -> cur[i * 8 + k]? = some v
theorem segCells_of {cur : Array Value} {l : List SegR} {n : Nat} (h : cur.toList.take (n * 8) = flatSegs l) (hn : l.length = n) : SegCells cur l := fun i r hr k v hv => by
 have := flat_to _ 8 segRA_len l i r k v hr (by simpa using hv)
 unfold flatSegs at h
 rw [<- h, List.getElem?_take] at this
 split at this
 ·simpa using this
 ·cases this
theorem SegCells.set {cur : Array Value} {l : List SegR} (h : SegCells cur l) {i k : Nat} {r r' : SegR} (hr : l[i]? = some r) (hk : k < 8) {v : Value} (he : segRA r' = (segRA r).setIfInBounds k v) : SegCells (cur.setIfInBounds (i * 8 + k) v) (l.set i r') := fun i2 r2 hr2 k2 v2 hv2 => by
 have hk2 : k2 < 8 := by have := (Array.getElem?_eq_some_iff.1 hv2).1; rw [show (segRA r2).size = 8 from rfl] at this; exact this
 rw [List.getElem?_set] at hr2
 split at hr2
 ·rename_i e
  subst e
  split at hr2
  ·injection hr2 with hr2
   subst hr2
   rw [he, Array.getElem?_setIfInBounds] at hv2
   split at hv2
   ·rename_i ek
    subst ek
    split at hv2
    ·have hb : i * 8 + k < cur.size := by
      have h0 := h i r hr k ((segRA r)[k]'(by rw [show (segRA r).size = 8 from rfl]; exact hk)) (Array.getElem?_eq_getElem _)
      exact (Array.getElem?_eq_some_iff.1 h0).1
     rw [Array.getElem?_setIfInBounds, if_pos rfl, if_pos hb]
     exact hv2
    ·cases hv2
   ·rename_i ek
    rw [Array.getElem?_setIfInBounds, if_neg (by omega)]
    exact h i r hr k2 v2 hv2
  ·cases hr2
 ·rename_i e
  rw [Array.getElem?_setIfInBounds, if_neg (by omega)]
  exact h i2 r2 hr2 k2 v2 hv2
theorem Tryz.infoSeg : (Tryz.prog.info? 49).map (fun i => (i.zero, i.size, i.bytes)) = some (some (.agg #[.int .i64 0, .slice none 0 0, .int .i64 0, .int .i64 0, .int .i64 0, .int .i64 0, .slice none 0 0, .int .i64 0]), 8, 96) := by kernel_rfl
theorem add_zero_map (p : Option Addr) : (Option.map (fun x : Addr => x) p) = p := by cases p <;> rfl
theorem flatSegs_len (l : List SegR) : (flatSegs l).length = l.length * 8 := by
 unfold flatSegs
 induction l with
 | nil => rfl
 | cons x l ih => rw [List.flatMap_cons, List.length_append, ih, segRA_len, List.length_cons]; omega
theorem flatSegs_one {l : List SegR} (u : Value) (h : u ∈ flatSegs l) : u.oneCell' = true := by
 unfold flatSegs at h
 obtain ⟨r, _, hu⟩ := List.mem_flatMap.1 h
 unfold segRA segA at hu
 simp at hu
 rcases hu with rfl | rfl | rfl | rfl | rfl | rfl | rfl | rfl <;> rfl
def ownG (s : SegT) : SegT := ⟨s.K, s.runs.take 300, s.A, s.R, s.n, s.d, s.raw.take 300, s.E⟩
theorem RunsIn.rex1 {w w' : World} {p : Option Addr} {l : List RunT} {g : Nat} {L : List Nat} (h : RunsIn w p l) (hL : ∀ x, x ∈ L -> x <= g) (hg : ∀ a, p = some a -> g < a.block) (hr : Rex L w w') : RunsIn w' p l := ⟨fun i r hi => by
 obtain ⟨b, o, e, h1, h2, h3⟩ := h.at' i r hi
 have hb := hg _ e
 have key : ∀ z v, w.cell? ⟨b, z, none⟩ = some v -> w'.cell? ⟨b, z, none⟩ = some v := fun z v hv => (World.cell?_of_block (hr.block b (cell_lt hv) (fun hx => by have := hL _ hx; simp at hb; omega))).trans hv
 exact ⟨b, o, e, key _ _ h1, key _ _ h2, key _ _ h3⟩⟩
theorem IntsIn.rex1 {w w' : World} {p : Option Addr} {l : List Int} {g : Nat} {L : List Nat} (h : IntsIn w p l) (hL : ∀ x, x ∈ L -> x <= g) (hg : ∀ a, p = some a -> g < a.block) (hr : Rex L w w') : IntsIn w' p l := ⟨fun i r hi => by
 obtain ⟨b, o, e, h1⟩ := h.at' i r hi
 have hb := hg _ e
 exact ⟨b, o, e, (World.cell?_of_block (hr.block b (cell_lt h1) (fun hx => by have := hL _ hx; simp at hb; omega))).trans h1⟩⟩
structure OwnSeg (W : World) (g : Nat) (r0 r : SegR) : Prop where
 says : r.s = ownG r0.s
 runs : RunsIn W r.p r.s.runs
 raw : IntsIn W r.q r.s.raw
 capV : r.s.raw.length <= r.vc
 farR : ∀ a, r.p = some a -> g < a.block
 farV : ∀ a, r.q = some a -> g < a.block
theorem OwnSeg.rex {W W' : World} {g : Nat} {r0 r : SegR} {L : List Nat} (h : OwnSeg W g r0 r) (hL : ∀ x, x ∈ L -> x <= g) (hr : Rex L W W') : OwnSeg W' g r0 r := ⟨h.says, h.runs.rex1 hL h.farR hr, h.raw.rex1 hL h.farV hr, h.capV, h.farR, h.farV⟩
structure OwnTo (W : World) (g : Nat) (rows R : List SegR) (i : Nat) : Prop where
 len : R.length = rows.length
 rest : ∀ k, i <= k -> R[k]? = rows[k]?
 own : ∀ k, k < i -> ∀ r, R[k]? = some r -> ∃ r0, rows[k]? = some r0 /\ OwnSeg W g r0 r
theorem OwnTo.start (W : World) (g : Nat) (rows : List SegR) : OwnTo W g rows rows 0 := ⟨rfl, fun _ _ => rfl, fun k h => by omega⟩
theorem OwnTo.rex {W W' : World} {g i : Nat} {rows R : List SegR} {L : List Nat} (h : OwnTo W g rows R i) (hL : ∀ x, x ∈ L -> x <= g) (hr : Rex L W W') : OwnTo W' g rows R i := ⟨h.len, h.rest, fun k hk r hR => by
 obtain ⟨r0, h1, h2⟩ := h.own k hk r hR
 exact ⟨r0, h1, h2.rex hL hr⟩⟩
theorem OwnTo.step {W : World} {g i : Nat} {rows R : List SegR} {r0 r1 : SegR} (h : OwnTo W g rows R i) (h0 : rows[i]? = some r0) (h1 : OwnSeg W g r0 r1) : OwnTo W g rows (R.set i r1) (i + 1) := ⟨by rw [List.length_set]; exact h.len, fun k hk => by rw [List.getElem?_set_ne (by omega)]; exact h.rest k (by omega), fun k hk r hR => by
 rw [List.getElem?_set] at hR
 split at hR
 ·rename_i e
  subst e
  split at hR
  ·injection hR with hR
   subst hR
   exact ⟨r0, h0, h1⟩
  ·cases hR
 ·exact h.own k (by omega) r hR⟩
theorem segRA_runs (r : SegR) (l : List RunT) (p : Option Addr) (c : Nat) : segRA ⟨⟨r.s.K, l, r.s.A, r.s.R, r.s.n, r.s.d, r.s.raw, r.s.E⟩, p, r.q, c, r.vc⟩ = (segRA r).setIfInBounds 1 (.slice p l.length c) := rfl
theorem segRA_raw (r : SegR) (l : List Int) (q : Option Addr) (c : Nat) : segRA ⟨⟨r.s.K, r.s.runs, r.s.A, r.s.R, r.s.n, r.s.d, l, r.s.E⟩, r.p, q, r.cap, c⟩ = (segRA r).setIfInBounds 6 (.slice q l.length c) := rfl
theorem Tryz.infoPt : (Tryz.prog.info? 53).map (fun i => (i.zero, i.size, i.bytes)) = some (some (.agg #[.int .i64 0, .int .i64 0]), 2, 16) := by kernel_rfl
theorem flatPts_len9 : ∀ l : List (Int × Int), (flatPts l).length = l.length * 2
 | [] => rfl
 | x :: l => by
  rw [show flatPts (x :: l) = [.int .i64 x.1, .int .i64 x.2] ++ flatPts l from rfl, List.length_append, flatPts_len9 l]
  simp only [List.length_cons, List.length_nil]
  omega
theorem flatPts_one9 : ∀ (l : List (Int × Int)) (u : Value), u ∈ flatPts l -> u.oneCell' = true
 | [], u, h => by simp [flatPts] at h
 | x :: l, u, h => by
  rw [show flatPts (x :: l) = [.int .i64 x.1, .int .i64 x.2] ++ flatPts l from rfl] at h
  simp only [List.mem_append, List.mem_cons, List.not_mem_nil, or_false] at h
  rcases h with (rfl | rfl) | h
  ·rfl
  ·rfl
  ·exact flatPts_one9 l u h
theorem flatPts_flat : ∀ l : List (Int × Int), flatPts l = l.flatMap fun x => [.int .i64 x.1, .int .i64 x.2]
 | [] => rfl
 | x :: l => by rw [List.flatMap_cons, <- flatPts_flat l]; rfl
theorem pts_flat9 {w : World} {a : Addr} {l : List (Int × Int)} (h : PtsIn w (some a) l) (j : Nat) (u : Value) (hu : (flatPts l)[j]? = some u) : w.cell? (a.add j) = some u := by
 rw [flatPts_flat] at hu
 obtain ⟨i, x, k, h1, h2, rfl, h3⟩ := flat_of _ 2 (by omega) (fun _ => rfl) l j u hu
 obtain ⟨b, o, e, c0, c1⟩ := h.at' i x h1
 injection e with e
 subst e
 rw [show (⟨b, o, none⟩ : Addr).add (i * 2 + k) = ⟨b, o + i * 2 + k, none⟩ by unfold Addr.add; split <;> simp_all <;> omega]
 match k, h2, h3 with
 | 0, _, h3 => simp at h3; subst h3; exact c0
 | 1, _, h3 => simp at h3; subst h3; exact c1
theorem PtsIn.take9 {w : World} {p : Option Addr} {l : List (Int × Int)} (h : PtsIn w p l) (k : Nat) : PtsIn w p (l.take k) := ⟨fun i r hr => h.at' i r (by
 rw [List.getElem?_take] at hr
 split at hr
 ·exact hr
 ·cases hr)⟩
def ownRel (w : World) (nm : ByteArray) (ep fl la sc : Int) (po : Option Addr) (co np : Nat) (rows : List SegR) (M gS capS : Nat) (a' : Act) (W : World) : Prop :=
 Below w.heap.size w W /\ Blk W w.heap.size #[.string nm, .int .i64 ep, .int .i64 fl, .int .i64 la, .int .i64 sc, .slice (some ⟨gS, 0, none⟩) M capS, .slice po np co] 26 /\ Blk W (w.heap.size + 1) #[.string .empty, .int .i64 0, .int .i64 0, .int .i64 0, .int .i64 0, .slice none 0 0, .slice none 0 0] 26 /\ ∃ (i : Nat) (cur : Array Value) (R : List SegR), Blk W gS cur 49 /\ SegCells cur R /\ OwnTo W gS rows R i /\ (∃ u : Nat -> Value, a' = { tmps := #[u 0, .pointer (some ⟨w.heap.size, 0, none⟩), .pointer (some ⟨w.heap.size + 1, 0, none⟩), u 3, u 4, u 5, u 6, u 7, u 8, u 9, u 10, u 11, u 12, u 13, u 14, u 15, .slice (some ⟨gS, 0, none⟩) M capS, .int .i64 (M : Int), .int .i64 (i : Int), u 19, u 20, u 21, u 22, u 23, u 24, u 25, u 26, u 27, u 28, u 29, u 30, u 31, u 32, u 33, u 34, u 35, u 36, u 37, u 38, u 39, u 40, u 41, u 42, u 43, u 44, u 45, u 46, u 47, u 48, u 49, u 50, u 51, u 52, u 53, u 54, u 55, u 56, u 57, u 58, u 59, u 60, u 61, u 62], defers := [] }) /\ i <= M
/-- A row that lies in a block of its own. -/
def RowOwn (w : World) (e : TypeId) (n k : Nat) (news : List Value) (v : Value) (w' : World) : Prop := ∃ g cap' cur, v = .slice (some ⟨g, 0, none⟩) n cap' ∧ w.heap.size ≤ g ∧ Blk w' g cur e ∧ n ≤ cap' ∧ cur.toList.take k = news
set_option maxRecDepth 100000 in
set_option maxHeartbeats 2000000 in
theorem cloneSeg_some (a : Addr) (cap : Nat) (rows : List SegR) (w : World) (hl : rows.length ≤ 100) (h : SegsCame w (some a) rows) : Calls Tryz.prog 43 #[.slice (some a) rows.length cap] w fun e w' => ∃ v, e = .returned v ∧ Below w.heap.size w w' ∧ RowOwn w 49 rows.length (rows.length * 8) (flatSegs rows) v w' := by
  have hnil : ∀ W, (binOp .eql 23 (.slice (some a) rows.length cap) (.slice none 0 0)).run Tryz.prog W = .ok (.bool false) W := fun W => Lib.run_eql_slice_nil W 23 49 _ _ _ _ _ (by kernel_rfl)
  go_enter Tryz.func43, Tryz.ntmps43
  go_upto_region 3 with (fail)
  clear hnil
  have hmk : ∀ W, (Instr.buildSlice 23 0 #[]).run Tryz.prog W = .ok (.slice (some ⟨W.heap.size, 0, none⟩) 0 0) (W.alloc (.cells #[] 49)) := fun W => by kernel_rfl
  obtain ⟨i, hi, hz0, hz1, hz2⟩ := info_parts Tryz.infoSeg
  have hW : Below w.heap.size w (w.alloc (.cells #[] 49)) := belowAny
  have hown0 := World.ownsRow_made (e := 49) (size := 8) (base := w.heap.size) w #[] 0 (Nat.le_refl _) (by simp [maxLen]) (by simp)
  go_wp2_with (at_builtin; refine wpList_append_own _ rfl (.tmp 5) (.tmp 6) 23 rfl w.heap.size 49 i _ 8 96 (by kernel_rfl) hi hz0 hz1 hz2 rfl (by omega) _ 0 [] rfl hown0 a rows.length cap (flatSegs rows) rfl (by rw [flatSegs_len]) (fun j u hu => (h.below hW).flat a rfl j u hu) (fun v hv => flatSegs_one v hv) (by simp [maxLen]; omega) (by omega) (by simp) ?_)
  intro v' w' hown hgr hvn
  have hB := Lib.hid (clone_below hgr)
  replace hown := Lib.hid hown
  replace hvn := Lib.hid hvn
  clear hgr
  go_wp2
  go_ret
  obtain ⟨_, h2 | ⟨g, cap', cur, rfl, hg, hb, hn, _, hc, ht⟩⟩ := hown.out
  · exact (hvn.out h2.1).elim
  · exact ⟨_, rfl, hB.out, g, cap', cur, by simp, hg, hb, by omega, by simpa using ht⟩
set_option maxRecDepth 100000 in
set_option maxHeartbeats 2000000 in
theorem clonePt_some (a : Addr) (cap : Nat) (l : List (Int × Int)) (w : World) (hl : l.length ≤ 100) (h : PtsIn w (some a) l) : Calls Tryz.prog 44 #[.slice (some a) l.length cap] w fun e w' => ∃ v, e = .returned v ∧ Below w.heap.size w w' ∧ RowOwn w 53 l.length (l.length * 2) (flatPts l) v w' := by
  have hnil : ∀ W, (binOp .eql 24 (.slice (some a) l.length cap) (.slice none 0 0)).run Tryz.prog W = .ok (.bool false) W := fun W => Lib.run_eql_slice_nil W 24 53 _ _ _ _ _ (by kernel_rfl)
  go_enter Tryz.func44, Tryz.ntmps44
  go_upto_region 3 with (fail)
  clear hnil
  have hmk : ∀ W, (Instr.buildSlice 24 0 #[]).run Tryz.prog W = .ok (.slice (some ⟨W.heap.size, 0, none⟩) 0 0) (W.alloc (.cells #[] 53)) := fun W => by kernel_rfl
  obtain ⟨i, hi, hz0, hz1, hz2⟩ := info_parts Tryz.infoPt
  have hW : Below w.heap.size w (w.alloc (.cells #[] 53)) := belowAny
  have hown0 := World.ownsRow_made (e := 53) (size := 2) (base := w.heap.size) w #[] 0 (Nat.le_refl _) (by simp [maxLen]) (by simp)
  go_wp2_with (at_builtin; refine wpList_append_own _ rfl (.tmp 5) (.tmp 6) 24 rfl w.heap.size 53 i _ 2 16 (by kernel_rfl) hi hz0 hz1 hz2 rfl (by omega) _ 0 [] rfl hown0 a l.length cap (flatPts l) rfl (by rw [flatPts_len9]) (fun j u hu => pts_flat9 (h.below hW) j u hu) (fun v hv => flatPts_one9 l v hv) (by simp [maxLen]; omega) (by omega) (by simp) ?_)
  intro v' w' hown hgr hvn
  have hB := Lib.hid (clone_below hgr)
  replace hown := Lib.hid hown
  replace hvn := Lib.hid hvn
  clear hgr
  go_wp2
  go_ret
  obtain ⟨_, h2 | ⟨g, cap', cur, rfl, hg, hb, hn, _, hc, ht⟩⟩ := hown.out
  · exact (hvn.out h2.1).elim
  · exact ⟨_, rfl, hB.out, g, cap', cur, by simp, hg, hb, by omega, by simpa using ht⟩
set_option maxRecDepth 100000 in
set_option maxHeartbeats 2000000 in
theorem cloneSeg_nil (w : World) : Calls Tryz.prog 43 #[.slice none 0 0] w fun e w' => e = .returned (.slice none 0 0) ∧ Below w.heap.size w w' := by
  go_enter Tryz.func43, Tryz.ntmps43
  have hnil : ∀ W, (binOp .eql 23 (.slice none 0 0) (.slice none 0 0)).run Tryz.prog W = .ok (.bool true) W := fun W => by kernel_rfl
  go_wp2
  go_ret
  exact ⟨rfl, belowAny⟩
set_option maxRecDepth 100000 in
set_option maxHeartbeats 2000000 in
theorem clonePt_nil (w : World) : Calls Tryz.prog 44 #[.slice none 0 0] w fun e w' => e = .returned (.slice none 0 0) ∧ Below w.heap.size w w' := by
  go_enter Tryz.func44, Tryz.ntmps44
  have hnil : ∀ W, (binOp .eql 24 (.slice none 0 0) (.slice none 0 0)).run Tryz.prog W = .ok (.bool true) W := fun W => by kernel_rfl
  go_wp2
  go_ret
  exact ⟨rfl, belowAny⟩
section
variable {P : Program} {ops : Array Oper} {C : World -> Prop} {X : List (Nat × Nat)} {a0 : Act} {n : Nat} {Q : Exit -> Act -> World -> Prop}
theorem inv_putS {m i : Nat} {o : Oper} {Ψ : Nat -> Spec} {listed : Array Bool} {a : Act} {w w' : World} {u : Value} (hok : Ok ops n m) (hm : m = a0.tmps.size) (hC : ∀ i, i < n -> ∀ u w w', C w -> Rex (priv X i) w w' -> Ψ i u w' -> C w')
  (hcl : ∀ i, i < n -> Closed (others X i) (Ψ i)) (inv : Inv ops C a0 n Ψ listed a w) (hr : i ∈ Region.ready .any ops listed) (hi : i < n) (ho : ops[i]? = some o)
  (hR : Rex (priv X i) w w') (hΨ : Ψ i u w') (hnew : isAlloc o = true -> u = undef ∨ NewPtr w w' u) : Inv ops C a0 n Ψ (listed.setIfInBounds i true) (a.put o.dst u) w' := by
 obtain ⟨hun, o', ho', hall⟩ := mem_ready.1 hr
 obtain rfl : o' = o := by rw [ho] at ho'; injection ho' with h; exact h.symm
 have hil : i < listed.size := by rw [inv.lsize]; exact (Array.getElem?_eq_some_iff.1 ho).1
 have hwi : wrOf ops i = o'.dst := by simp [wrOf, ho]
 have hset : ∀ j, (listed.setIfInBounds i true).getD j false = true -> j = i ∨ listed.getD j false = true := by
  intro j hj
  by_cases hji : j = i
  ·exact .inl hji
  ·exact .inr (by rwa [getD_set_ne false (Ne.symm hji)] at hj)
 have hdsz : ∀ d, o'.dst = some d -> d < a.tmps.size := fun d hd => by rw [inv.size, <- hm]; exact hok.dst i d hi (by rw [hwi, hd])
 have hkeep : ∀ s, o'.dst ≠ some s -> (a.put o'.dst u).tmps.getD s undef = a.tmps.getD s undef := by
  intro s hs
  cases hd : o'.dst with
  | none => rfl
  | some d => exact getD_put_ne (fun e => hs (by rw [hd, e]))
 have hput : ∀ d, o'.dst = some d -> (a.put o'.dst u).tmps.getD d undef = u := by
  intro d hd
  rw [hd]
  exact getD_put_eq (hdsz d hd)
 have hclosed : ∀ j, j < n -> j ≠ i -> ∀ v, Ψ j v w -> Ψ j v w' := fun j hj hji v hv => hcl j hj v w w' (hR.more (priv_sub (Ne.symm hji))) hv
 have hother : ∀ j, j < n -> j ≠ i -> ∀ d, wrOf ops j = some d -> o'.dst ≠ some d := fun j hj hji d hd e => hji (hok.uniq j i d hj hi hd (by rw [hwi, e]))
 refine ⟨hC i hi u _ _ inv.c hR hΨ, ?_, ?_, by simp [inv.lsize], ?_, ?_, ?_, ?_, ?_, ?_⟩
 ·cases hd : o'.dst <;> simp [Act.put, inv.size]
 ·cases hd : o'.dst <;> simp [Act.put, inv.defers]
 ·intro j oj hj hl e he hb
  rcases hset j hl with rfl | hl
  ·have : oj = o' := by rw [ho] at hj; injection hj with h; exact h.symm
   subst this
   exact getD_set_true (hall e he hb)
  ·exact getD_set_true (inv.down j oj hj hl e he hb)
 ·intro j hj hl d hd
  by_cases hji : j = i
  ·subst hji
   rw [hput d (by rw [<- hwi, hd])]
   exact hΨ
  ·rw [hkeep d (hother j hj hji d hd)]
   exact hclosed j hj hji _ (inv.val j hj ((hset j hl).resolve_left hji) d hd)
 ·intro j hj hl hd
  by_cases hji : j = i
  ·subst hji; exact ⟨u, hΨ⟩
  ·obtain ⟨u', hu'⟩ := inv.eff j hj ((hset j hl).resolve_left hji) hd
   exact ⟨u', hclosed j hj hji _ hu'⟩
 ·intro s hs
  have h1 : o'.dst ≠ some s := by
   have := hs i hi (by simp [hil])
   rwa [hwi] at this
  rw [hkeep s h1]
  exact inv.old s fun j hj hl => hs j hj (getD_set_true hl)
 ·intro j oj d hj hl hoj hal hd x hx
  by_cases hji : j = i
  ·subst hji
   have : oj = o' := by rw [ho] at hoj; injection hoj with h; exact h.symm
   subst this
   rw [hput d hd] at hx
   rcases hnew hal with h | ⟨b, h, _, hb⟩
   ·rw [h] at hx; simp [undef] at hx
   ·rw [h] at hx; injection hx with hx; injection hx with hx; subst hx; exact hb
  ·have hne := hother j hj hji d (by simp [wrOf, hoj, hd])
   rw [hkeep d hne] at hx
   exact Nat.lt_of_lt_of_le (inv.new j oj d hj ((hset j hl).resolve_left hji) hoj hal hd x hx) hR.size
 ·intro j oj d k ok d' hj hk hjk hlj hlk hoj hok' haj hak hd hd' x hx hx'
  by_cases hji : j = i
  ·subst hji
   have : oj = o' := by rw [ho] at hoj; injection hoj with h; exact h.symm
   subst this
   rw [hput d hd] at hx
   have hne := hother k hk (Ne.symm hjk) d' (by simp [wrOf, hok', hd'])
   rw [hkeep d' hne] at hx'
   have h2 := inv.new k ok d' hk ((hset k hlk).resolve_left (Ne.symm hjk)) hok' hak hd' x hx'
   rcases hnew haj with h | ⟨b, h, hb, _⟩
   ·rw [h] at hx; simp [undef] at hx
   ·rw [h] at hx; injection hx with hx; injection hx with hx; subst hx; simp at h2; omega
  ·by_cases hki : k = i
   ·subst hki
    have : ok = o' := by rw [ho] at hok'; injection hok' with h; exact h.symm
    subst this
    rw [hput d' hd'] at hx'
    have hne := hother j hj hji d (by simp [wrOf, hoj, hd])
    rw [hkeep d hne] at hx
    have h2 := inv.new j oj d hj ((hset j hlj).resolve_left hji) hoj haj hd x hx
    rcases hnew hak with h | ⟨b, h, hb, _⟩
    ·rw [h] at hx'; simp [undef] at hx'
    ·rw [h] at hx'; injection hx' with hx'; injection hx' with hx'; subst hx'; simp at h2; omega
   ·have hne := hother j hj hji d (by simp [wrOf, hoj, hd])
    have hne' := hother k hk hki d' (by simp [wrOf, hok', hd'])
    rw [hkeep d hne] at hx
    rw [hkeep d' hne'] at hx'
    exact inv.apart j oj d k ok d' hj hk hjk ((hset j hlj).resolve_left hji) ((hset k hlk).resolve_left hki) hoj hok' haj hak hd hd' x hx hx'
theorem inv_stepS {m i : Nat} {Ψ : Nat -> Spec} {listed : Array Bool} {a : Act} {w : World} (hok : Ok ops n m) (hm : m = a0.tmps.size) (hC : ∀ i, i < n -> ∀ u w w', C w -> Rex (priv X i) w w' -> Ψ i u w' -> C w')
  (hcl : ∀ i, i < n -> Closed (others X i) (Ψ i)) (hop : ∀ i o, i < n -> ops[i]? = some o -> okOp P ops C (priv X i) (envOf a0 (accAt ops Ψ i)) o (Ψ i))
  (inv : Inv ops C a0 n Ψ listed a w) (hr : i ∈ Region.ready .any ops listed) (hi : i < n) :
  wpOp P ops Q i (Inv ops C a0 n Ψ (listed.setIfInBounds i true)) a w := by
 obtain ⟨_, o, ho, _⟩ := mem_ready.1 hr
 obtain ⟨h1, h2⟩ := hop i o hi ho a w inv.c (inv_env hok inv hr hi ho)
 unfold wpOp
 simp only [ho]
 by_cases hw : Region.wanted o (yielded ops a.tmps) = true
 ·simp only [hw, if_true]
  refine .inl ?_
  have h1 := h1 hw
  unfold Oper.wp
  generalize (execOp a.eval o).run P w = r at h1
  cases r with
  | ok x w' =>
   cases x <;> simp only [runND] at h1 <;> simp only [Oper.upon]
   case value u => exact inv_putS hok hm hC hcl inv hr hi ho h1.1 h1.2.1 fun ha => .inr (h1.2.2 ha)
   case skip => exact inv_putS hok hm hC hcl inv hr hi ho h1.1 h1.2.1 fun ha => by rw [h1.2.2] at ha; cases ha
   case enter f args =>
    obtain ⟨rfl, hna, hc⟩ := h1
    refine hc.mono fun e w'' ⟨u, he, hR, hΦ⟩ => ?_
    subst he
    exact inv_putS hok hm hC hcl inv hr hi ho hR hΦ fun ha => by rw [hna] at ha; cases ha
  | halt x w' => simp only [runND] at h1
 ·have hw' : Region.wanted o (yielded ops a.tmps) = false := by simpa using hw
  simp only [hw', Bool.false_eq_true, if_false]
  exact inv_putS hok hm hC hcl inv hr hi ho (Rex.refl _ _) (h2 hw') fun _ => .inl rfl
theorem nd_tailS {m : Nat} {Ψ : Nat -> Spec} (hok : Ok ops n m) (hm : m = a0.tmps.size) (hC : ∀ i, i < n -> ∀ u w w', C w -> Rex (priv X i) w w' -> Ψ i u w' -> C w')
  (hcl : ∀ i, i < n -> Closed (others X i) (Ψ i)) (hop : ∀ i o, i < n -> ops[i]? = some o -> okOp P ops C (priv X i) (envOf a0 (accAt ops Ψ i)) o (Ψ i))
  (hQ : ∀ c a d v w, Q (.panic c) (Act.put a d v) w -> Q (.panic c) a w)
  (hFin : ∀ a w, (∃ listed, Inv ops C a0 n Ψ listed a w /\ ∀ i, i < n -> listed.getD i false = true) -> wpList P ops Q (ops.toList.drop n) a w) :
  ∀ (f : Nat) (listed : Array Bool) (a : Act) (w : World), Inv ops C a0 n Ψ listed a w -> listed.toList.count false = f ->
   (∀ i o, i < n -> ops[i]? = some o -> pureB o = false -> listed.getD i false = true) -> (∀ t, n <= t -> listed.getD t false = false) -> wpAny P .any ops Q f listed a w := by
 intro f
 induction f with
 | zero =>
  intro listed a w inv hcnt hnp htl
  have hall : ∀ i, i < ops.size -> listed.getD i false = true := by
   intro i hi
   have h0 : ¬ false ∈ listed.toList := by rw [<- List.count_eq_zero]; exact hcnt
   have hi' : i < listed.size := by rw [inv.lsize]; exact hi
   cases hb : listed[i] with
   | true => simp [hi', hb]
   | false => exact absurd (by rw [<- hb]; exact Array.mem_toList_iff.2 (Array.getElem_mem hi')) h0
  have hn : n = ops.size := by
   rcases Nat.lt_or_ge n ops.size with h | h
   ·have := htl n (Nat.le_refl _); rw [hall n h] at this; cases this
   ·exact Nat.le_antisymm hok.le h
  have hready : Region.ready .any ops listed = [] := by
   apply List.eq_nil_iff_forall_not_mem.2
   intro k hk
   obtain ⟨h1, o, ho, _⟩ := mem_ready.1 hk
   have hk' := (Array.getElem?_eq_some_iff.1 ho).1
   have h2 := hall k hk'
   simp [inv.lsize, hk'] at h1 h2
   rw [h1] at h2; cases h2
  have := hFin a w ⟨listed, inv, fun i hi => hall i (by omega)⟩
  rw [hn, List.drop_eq_nil_of_le (by simp)] at this
  exact ⟨hready, this⟩
 | succ f ih =>
  intro listed a w inv hcnt hnp htl
  by_cases hbody : ∀ i, i < n -> listed.getD i false = true
  ·-- only the tail is left
   have hl : listed = (Array.replicate n true) ++ Array.replicate (ops.size - n) false := by
    have hle := hok.le
    apply Array.ext
    ·simp [inv.lsize]; omega
    ·intro i h1 h2
     by_cases hi : i < n
     ·have := hbody i hi
      simp [h1] at this
      simp [hi, this]
     ·have := htl i (by omega)
      simp [h1] at this
      simp [Array.getElem_append, hi, this]
   have hc : listed.toList.count false = ops.size - n := by
    rw [hl]; simp [List.count_replicate]
   have hseq := hok.seq
   unfold seqTailB at hseq
   rw [<- hl] at hseq
   have hlen : (ops.toList.drop n).length = ops.size - n := by simp
   have := wpAny_of_seq (P := P) (md := .any) (Q' := Q) (ops.toList.drop n) n listed a w (fun j => by rw [List.getElem?_drop]; simp) (by rw [hlen]; exact hseq) (hFin a w ⟨listed, inv, hbody⟩)
   rw [hlen] at this
   have he : ops.size - n = f + 1 := by omega
   rwa [he] at this
  ·obtain ⟨i0, hi0⟩ := Classical.not_forall.1 hbody
   obtain ⟨hi0n, hi0l⟩ := Classical.not_imp.1 hi0
   have hle := hok.le
   obtain ⟨k, hk1, hk2, hk3⟩ := least_ready hok inv.lsize i0 (by omega) (by simpa using hi0l)
   obtain ⟨hun, o, ho, _⟩ := mem_ready.1 hk2
   have hks : k < listed.size := by rw [inv.lsize]; exact (Array.getElem?_eq_some_iff.1 ho).1
   have hunf := getD_false_of hks hun
   have hp : pureB o = true := by
    cases h : pureB o with
    | true => rfl
    | false => have := hnp k o (by omega) ho h; rw [hunf] at this; cases this
   obtain ⟨h1, h2⟩ := hop k o (by omega) ho a w inv.c (inv_env hok inv hk2 (by omega) ho)
   have hapart : ∀ j oj, ops[j]? = some oj -> j ≠ k -> listed.getD j true = false -> (∀ e ∈ oj.after, Region.binds .any e = true -> e.on ≠ k) -> o.apart ops oj = true := by
    intro j oj hj hjk hjl hno
    have hjs : j < listed.size := by rw [inv.lsize]; exact (Array.getElem?_eq_some_iff.1 hj).1
    have hkj : k < j := by
     rcases Nat.lt_or_ge j k with h | h
     ·have := hk3 j h; rw [getD_false_of hjs hjl] at this; cases this
     ·omega
    rcases hok.late k o (by omega) ho with ⟨_, h⟩ | ⟨h, _⟩
    ·refine h j oj hj hkj ?_
     cases hd : dirB ops j k with
     | false => rfl
     | true =>
      simp only [dirB, hj] at hd
      obtain ⟨e, hem, hb⟩ := Array.any_eq_true'.1 hd
      simp only [Bool.and_eq_true, beq_iff_eq] at hb
      exact absurd hb.2 (hno e hem hb.1)
    ·rw [hp] at h; cases h
   have hcnt' : (listed.setIfInBounds k true).toList.count false = f := by
    have hg : listed.toList[k]? = some false := by simp [hks] at hunf; simp [hks, hunf]
    have := count_set listed.toList k hg
    rw [Array.toList_setIfInBounds]; omega
   have hrest : ∀ v, Inv ops C a0 n Ψ (listed.setIfInBounds k true) (a.put o.dst v) w -> wpAny P .any ops Q f (listed.setIfInBounds k true) (a.put o.dst v) w := fun v hinv =>
    ih _ _ _ hinv hcnt' (fun i oi hi hoi hpi => getD_set_true (hnp i oi hi hoi hpi)) (fun t ht => by rw [getD_set_ne false (by omega)]; exact htl t ht)
   by_cases hw : Region.wanted o (yielded ops a.tmps) = true
   ·obtain ⟨v, hv, hrun⟩ := pure_yields hp (h1 hw)
    refine wpAny_first ho (Region.noSelect_spec hok.nosel) (fun c a w h => hQ c a _ _ w h) f listed a w hapart hk2 (.inl ⟨hw, hrun⟩) (hrest v ?_)
    exact inv_putS hok hm hC hcl inv hk2 (by omega) ho (Rex.refl _ _) hv fun ha => by
     unfold isAlloc at ha; unfold pureB at hp; cases hop : o.op <;> rw [hop] at ha hp <;> simp at ha hp
   ·have hw' : Region.wanted o (yielded ops a.tmps) = false := by simpa using hw
    refine wpAny_first ho (Region.noSelect_spec hok.nosel) (fun c a w h => hQ c a _ _ w h) f listed a w hapart hk2 (.inr ⟨hw', rfl⟩) (hrest undef ?_)
    exact inv_putS hok hm hC hcl inv hk2 (by omega) ho (Rex.refl _ _) (h2 hw') fun _ => .inl rfl
theorem nd_anyS {m : Nat} {Ψ : Nat -> Spec} (hok : Ok ops n m) (hm : m = a0.tmps.size) (hC : ∀ i, i < n -> ∀ u w w', C w -> Rex (priv X i) w w' -> Ψ i u w' -> C w')
  (hcl : ∀ i, i < n -> Closed (others X i) (Ψ i)) (hop : ∀ i o, i < n -> ops[i]? = some o -> okOp P ops C (priv X i) (envOf a0 (accAt ops Ψ i)) o (Ψ i))
  (hQ : ∀ c a d v w, Q (.panic c) (Act.put a d v) w -> Q (.panic c) a w)
  (hFin : ∀ a w, (∃ listed, Inv ops C a0 n Ψ listed a w /\ ∀ i, i < n -> listed.getD i false = true) -> wpList P ops Q (ops.toList.drop n) a w) :
  ∀ (f : Nat) (listed : Array Bool) (a : Act) (w : World), Inv ops C a0 n Ψ listed a w -> listed.toList.count false = f -> (∀ t, n <= t -> listed.getD t false = false) -> wpAny P .any ops Q f listed a w := by
 intro f
 induction f with
 | zero => exact fun listed a w inv hcnt htl => nd_tailS hok hm hC hcl hop hQ hFin 0 listed a w inv hcnt (fun i o hi ho _ => by
   have h0 : ¬ false ∈ listed.toList := by rw [<- List.count_eq_zero]; exact hcnt
   have hi' : i < listed.size := by rw [inv.lsize]; exact (Array.getElem?_eq_some_iff.1 ho).1
   cases hb : listed[i] with
   | true => simp [hi', hb]
   | false => exact absurd (by rw [<- hb]; exact Array.mem_toList_iff.2 (Array.getElem_mem hi')) h0) htl
 | succ f ih =>
  intro listed a w inv hcnt htl
  by_cases hnp : ∀ i o, i < n -> ops[i]? = some o -> pureB o = false -> listed.getD i false = true
  ·exact nd_tailS hok hm hC hcl hop hQ hFin (f + 1) listed a w inv hcnt hnp htl
  ·have : ∃ i o, i < n /\ ops[i]? = some o /\ pureB o = false /\ listed.getD i false = false := by
    apply Classical.byContradiction
    intro hno
    exact hnp fun i o hi ho hp => by
     cases h : listed.getD i false with
     | true => rfl
     | false => exact absurd ⟨i, o, hi, ho, hp, h⟩ hno
   obtain ⟨i0, o0, hi0, ho0, hp0, hl0⟩ := this
   have hle := hok.le
   obtain ⟨k, hk1, hk2, hk3⟩ := least_ready hok inv.lsize i0 (by omega) hl0
   refine ⟨fun h => (by rw [h] at hk2; cases hk2), fun i hi => ?_⟩
   have hin : i < n := by
    rcases Nat.lt_or_ge i n with h | h
    ·exact h
    ·obtain ⟨_, o, ho, hall⟩ := mem_ready.1 hi
     rcases hok.late i0 o0 hi0 ho0 with ⟨h', _⟩ | ⟨_, h'⟩
     ·rw [hp0] at h'; cases h'
     ·have := anc_listed inv 8 i i0 o ho hall (h' i h (Array.getElem?_eq_some_iff.1 ho).1)
      rw [hl0] at this; cases this
   refine wpOp_mono (fun a' w' hinv => ih _ a' w' hinv ?_ fun t ht => by rw [getD_set_ne false (by omega)]; exact htl t ht) (inv_stepS hok hm hC hcl hop inv hi hin)
   obtain ⟨hun, o, ho, _⟩ := mem_ready.1 hi
   have his : i < listed.size := by rw [inv.lsize]; exact (Array.getElem?_eq_some_iff.1 ho).1
   have hunf := getD_false_of his hun
   have hg : listed.toList[i]? = some false := by simp [his] at hunf; simp [his, hunf]
   have := count_set listed.toList i hg
   rw [Array.toList_setIfInBounds]; omega
theorem wp_region_ndS {id : Nat} {l : List Oper} {w0 : World} (n m b : Nat) (C : World -> Prop) (hf : P.follows .mixedOrders = true) (hB : okB l.toArray (n + 1) m = true) (hm : m = a0.tmps.size)
  (h0 : C w0.drew) (hC : ∀ w w', C w -> Rex [] w w' -> C w') (hQ : ∀ c a d v w, Q (.panic c) (Act.put a d v) w -> Q (.panic c) a w) (o : Oper) (ho : l.toArray[n]? = some o)
  (h : ndWalk P l.toArray C [(n, b)] a0 (fun acc => ∃ Φ : Spec, Closed [] Φ /\ okOp P l.toArray C [b] (envOf a0 acc) o Φ /\ (∀ u w, Φ u w -> C w) /\ ∀ w, C w -> ndFinR w a0 ((o.dst, Φ) :: acc) fun a => wpList P l.toArray Q (l.drop (n + 1)) a w) 0 (l.take n) []) :
  (Code.region id l.toArray true).wp P Q a0 w0 := by
 have hok := ok_of_okB hB
 have hle : n + 1 <= l.length := by have := hok.le; simpa using this
 obtain ⟨Ψ0, _, h2, h3⟩ := walk_spec (ops := l.toArray) (l.take n) 0 [] (fun _ _ _ => True) (fun j hj => by simp at hj; simp [hj]) rfl h
 have hlen : 0 + (l.take n).length = n := by simp; omega
 rw [hlen] at h3
 obtain ⟨Φ, hc1, ho1, hΦC, hfin0⟩ := h3
 have pn : priv [(n, b)] n = [b] := by simp [priv]
 have on : others [(n, b)] n = [] := by simp [others]
 have pi : ∀ i, i ≠ n -> priv [(n, b)] i = [] := fun i hi => by simp [priv]; omega
 obtain ⟨Ψ, hΨ⟩ : ∃ Ψ : Nat -> Spec, Ψ = fun i => if i = n then Φ else Ψ0 i := ⟨_, rfl⟩
 have hΨn : Ψ n = Φ := by rw [hΨ]; simp
 have hΨi : ∀ i, i < n -> Ψ i = Ψ0 i := fun i hi => by rw [hΨ]; simp; omega
 have hacc : ∀ k, k <= n -> accAt l.toArray Ψ k = accAt l.toArray Ψ0 k := fun k hk => accAt_congr k fun i hi => hΨi i (by omega)
 have hcl : ∀ i, i < n + 1 -> Closed (others [(n, b)] i) (Ψ i) := fun i hi => by
  by_cases hin : i = n
  ·subst hin; rw [hΨn, on]; exact hc1
  ·rw [hΨi i (by omega)]; exact (h2 i (by omega) (by omega)).1
 have hop : ∀ i o, i < n + 1 -> l.toArray[i]? = some o -> okOp P l.toArray C (priv [(n, b)] i) (envOf a0 (accAt l.toArray Ψ i)) o (Ψ i) := fun i o1 hi ho' => by
  by_cases hin : i = n
  ·subst hin
   rw [ho] at ho'; injection ho' with e; subst e
   rw [hΨn, pn, hacc i (Nat.le_refl _)]; exact ho1
  ·obtain ⟨_, o', ho'', h⟩ := h2 i (by omega) (by omega)
   rw [ho''] at ho'; injection ho' with e; subst e
   rw [hΨi i (by omega), hacc i (by omega)]; exact h
 have hCC : ∀ i, i < n + 1 -> ∀ u w w', C w -> Rex (priv [(n, b)] i) w w' -> Ψ i u w' -> C w' := fun i hi u w w' hw hR hu => by
  by_cases hin : i = n
  ·subst hin; rw [hΨn] at hu; exact hΦC u w' hu
  ·rw [pi i hin] at hR; exact hC w w' hw hR
 refine wp_region_any hf ?_
 refine nd_anyS (X := [(n, b)]) hok hm hCC hcl hop hQ ?_ _ _ _ _ ⟨h0, rfl, rfl, by simp, ?_, ?_, ?_, ?_, ?_, ?_⟩ (by simp) (fun t _ => getD_replicate_false _ t)
 ·rintro a w ⟨listed, inv, hall⟩
  have hex : ∀ i, ∃ v, i < n + 1 -> Ψ i v w /\ ∀ d, wrOf l.toArray i = some d -> v = a.tmps.getD d undef := by
   intro i
   by_cases hi : i < n + 1
   ·cases hd : wrOf l.toArray i with
    | none =>
     obtain ⟨u, hu⟩ := inv.eff i hi (hall i hi) hd
     exact ⟨u, fun _ => ⟨hu, fun d h => by cases h⟩⟩
    | some d => exact ⟨a.tmps.getD d undef, fun _ => ⟨inv.val i hi (hall i hi) d hd, fun d' h => by injection h with h; rw [h]⟩⟩
   ·exact ⟨undef, fun h => absurd h hi⟩
  let val : Nat -> Value := fun i => (hex i).choose
  have hval : ∀ i, i < n + 1 -> Ψ i (val i) w /\ ∀ d, wrOf l.toArray i = some d -> val i = a.tmps.getD d undef := fun i hi => (hex i).choose_spec hi
  have ha : a = puts l.toArray val a0 (n + 1) := by
   have ht : a.tmps = (puts l.toArray val a0 (n + 1)).tmps := by
    apply Array.ext
    ·rw [puts_size, inv.size]
    ·intro s h1 h2
     have hg : a.tmps.getD s undef = (puts l.toArray val a0 (n + 1)).tmps.getD s undef := by
      by_cases hw : ∃ i, i < n + 1 /\ wrOf l.toArray i = some s
      ·obtain ⟨i, hi, hw⟩ := hw
       rw [puts_some hok hm val s (n + 1) (Nat.le_refl _) i hi hw, (hval i hi).2 s hw]
      ·rw [puts_none val s (n + 1) fun i hi hwi => hw ⟨i, hi, hwi⟩]
       exact inv.old s fun i hi _ hwi => hw ⟨i, hi, hwi⟩
     simpa [h1, h2] using hg
   have hd : a.defers = (puts l.toArray val a0 (n + 1)).defers := by rw [puts_defers, inv.defers]
   cases a; cases hp : puts l.toArray val a0 (n + 1); rw [hp] at ht hd; simp at ht hd; subst ht; subst hd; rfl
  have hlast : accAt l.toArray Ψ (n + 1) = (o.dst, Φ) :: accAt l.toArray Ψ0 n := by
   show (wrOf l.toArray n, Ψ n) :: accAt l.toArray Ψ n = _
   rw [hΨn, hacc n (Nat.le_refl _)]
   simp [wrOf, ho]
  have hfin1 := hfin0 w inv.c
  rw [<- hlast] at hfin1
  have hfin := fin_of (ops := l.toArray) (a0 := a0) (val := val) (n + 1) _ (fun i hi => (hval i hi).1) hfin1
  rw [<- ha] at hfin
  simpa using hfin
 ·intro i o ho hl; rw [getD_replicate_false] at hl; cases hl
 ·intro i hi hl; rw [getD_replicate_false] at hl; cases hl
 ·intro i hi hl; rw [getD_replicate_false] at hl; cases hl
 ·intro s _; rfl
 ·intro i o d hi hl; rw [getD_replicate_false] at hl; cases hl
 ·intro i o d j o' d' hi hj hij hl; rw [getD_replicate_false] at hl; cases hl
end
/-- A row in a block of its own. -/
def RowS (B : Nat) (e : TypeId) (n k : Nat) (news : List Value) : Spec := fun v w => ∃ g cap cur, v = .slice (some ⟨g, 0, none⟩) n cap ∧ B ≤ g ∧ Blk w g cur e ∧ n ≤ cap ∧ cur.toList.take k = news
theorem RowS.closed (B : Nat) (e : TypeId) (n k : Nat) (news : List Value) : Closed [] (RowS B e n k news) := fun _ _ _ hr ⟨g, c, cur, e1, h1, h, h2, h3⟩ => ⟨g, c, cur, e1, h1, h.rex hr (by simp), h2, h3⟩
/-- Points in a block of their own, or nil. -/
def PtS (B N : Nat) (l : List (Int × Int)) : Spec := fun v w => (v = .slice none 0 0 ∧ l = [] ∧ N = 0) ∨ RowS B 53 N (N * 2) (flatPts l) v w
theorem PtS.closed (B N : Nat) (l : List (Int × Int)) : Closed [] (PtS B N l) := fun _ _ _ hr h => by
  rcases h with h | h
  · exact .inl h
  · exact .inr (RowS.closed _ _ _ _ _ _ _ _ hr h)
def ownK (s : SegT) : SegT := ⟨s.K, s.runs.take 257, s.A, s.R, s.n, s.d, s.raw.take 257, s.E⟩
/-- A segment of one's own. -/
structure OwnSegK (W : World) (g : Nat) (r0 r : SegR) : Prop where
  says : r.s = ownK r0.s
  runs : RunsIn W r.p r.s.runs
  raw : IntsIn W r.q r.s.raw
  capV : r.s.raw.length ≤ r.vc
  farR : ∀ a, r.p = some a → g < a.block
  farV : ∀ a, r.q = some a → g < a.block
theorem OwnSegK.rex {W W' : World} {g : Nat} {r0 r : SegR} {L : List Nat} (h : OwnSegK W g r0 r) (hL : ∀ x, x ∈ L → x ≤ g) (hr : Rex L W W') : OwnSegK W' g r0 r := ⟨h.says, h.runs.rex1 hL h.farR hr, h.raw.rex1 hL h.farV hr, h.capV, h.farR, h.farV⟩
structure OwnToK (W : World) (g : Nat) (rows R : List SegR) (i : Nat) : Prop where
  len : R.length = rows.length
  rest : ∀ k, i ≤ k → R[k]? = rows[k]?
  own : ∀ k, k < i → ∀ r, R[k]? = some r → ∃ r0, rows[k]? = some r0 ∧ OwnSegK W g r0 r
theorem OwnToK.start (W : World) (g : Nat) (rows : List SegR) : OwnToK W g rows rows 0 := ⟨rfl, fun _ _ => rfl, fun k h => by omega⟩
theorem OwnToK.rex {W W' : World} {g i : Nat} {rows R : List SegR} {L : List Nat} (h : OwnToK W g rows R i) (hL : ∀ x, x ∈ L → x ≤ g) (hr : Rex L W W') : OwnToK W' g rows R i := ⟨h.len, h.rest, fun k hk r hR => by
  obtain ⟨r0, h1, h2⟩ := h.own k hk r hR
  exact ⟨r0, h1, h2.rex hL hr⟩⟩
theorem OwnToK.step {W : World} {g i : Nat} {rows R : List SegR} {r0 r1 : SegR} (h : OwnToK W g rows R i) (h0 : rows[i]? = some r0) (h1 : OwnSegK W g r0 r1) : OwnToK W g rows (R.set i r1) (i + 1) := ⟨by rw [List.length_set]; exact h.len, fun k hk => by rw [List.getElem?_set_ne (by omega)]; exact h.rest k (by omega), fun k hk r hR => by
  rw [List.getElem?_set] at hR
  split at hR
  · rename_i e
    subst e
    split at hR
    · injection hR with hR
      subst hR
      exact ⟨r0, h0, h1⟩
    · cases hR
  · exact h.own k (by omega) r hR⟩
structure PtRow (w : World) (B : Nat) (p : Option Addr) (l : List (Int × Int)) : Prop where
  at' : (p = none ∧ l = []) ∨ ∃ g cur k, p = some ⟨g, 0, none⟩ ∧ B ≤ g ∧ Blk w g cur 53 ∧ cur.toList.take k = flatPts l
theorem PtRow.pts {w : World} {B : Nat} {p : Option Addr} {l : List (Int × Int)} (h : PtRow w B p l) : PtsIn w p l := by
  rcases h.at' with ⟨rfl, rfl⟩ | ⟨g, cur, k, rfl, _, hb, ht⟩
  · exact ⟨fun i r hr => by simp at hr⟩
  · exact pts_in hb ht
theorem PtRow.keep {w w' : World} {B : Nat} {p : Option Addr} {l : List (Int × Int)} (h : PtRow w B p l) (hk : ∀ g cs, B ≤ g → Blk w g cs 53 → Blk w' g cs 53) : PtRow w' B p l := by
  rcases h.at' with h | ⟨g, cur, k, e, hB, hb, ht⟩
  · exact ⟨.inl h⟩
  · exact ⟨.inr ⟨g, cur, k, e, hB, hk g cur hB hb, ht⟩⟩
theorem PtRow.below {w w' : World} {B : Nat} {p : Option Addr} {l : List (Int × Int)} (h : PtRow w B p l) (hb : Below w.heap.size w w') : PtRow w' B p l := h.keep fun _ _ _ h => h.below hb
theorem PtRow.mono {w : World} {B B' : Nat} {p : Option Addr} {l : List (Int × Int)} (h : PtRow w B p l) (hB : B' ≤ B) : PtRow w B' p l := by
  rcases h.at' with h | ⟨g, cur, k, e, h1, hb, ht⟩
  · exact ⟨.inl h⟩
  · exact ⟨.inr ⟨g, cur, k, e, Nat.le_trans hB h1, hb, ht⟩⟩
theorem PtRow.setO {w : World} {B o : Nat} {p : Option Addr} {l : List (Int × Int)} (h : PtRow w B p l) (ho : o < B) (i : Nat) (v : Value) : PtRow (w.setCell ⟨o, i, none⟩ v) B p l := h.keep fun g _ hg h => h.setO (by omega) i v
theorem PtRow.low {w w' : World} {B : Nat} {p : Option Addr} {l : List (Int × Int)} {L : List Nat} (h : PtRow w B p l) (hL : ∀ x, x ∈ L → x < B) (hr : Rex L w w') : PtRow w' B p l := h.keep fun g c hB hg => hg.rex hr fun hm => by have := hL _ hm; omega
/-- What holds, whatever is written into blocks below B. -/
def Lasts (B : Nat) (w : World) (F : World → Prop) : Prop := ∀ L W, (∀ x, x ∈ L → x < B) → Rex L w W → F W
theorem Lasts.now {B : Nat} {w : World} {F : World → Prop} (h : Lasts B w F) : F w := h [] w (fun x hx => by cases hx) (Rex.refl _ _)
theorem PtRow.rex {w w' : World} {B gS : Nat} {cs : Array Value} {p : Option Addr} {l : List (Int × Int)} (h : PtRow w B p l) (hS : Blk w gS cs 49) (hr : Rex [gS] w w') : PtRow w' B p l := h.keep fun g c _ hg => hg.rex hr (by
  simp
  rintro rfl
  unfold Blk at hg hS
  rw [hS] at hg
  injection hg with hg
  injection hg with _ h2 _
  revert h2
  decide)
theorem PtS.form {B N : Nat} {l : List (Int × Int)} {v : Value} {w : World} (h : PtS B N l v w) : ∃ p cap, v = .slice p N cap ∧ PtRow w B p l ∧ N ≤ cap := by
  rcases h with ⟨rfl, rfl, rfl⟩ | ⟨g, cap, cur, rfl, hg, hb, hc, ht⟩
  · exact ⟨none, 0, rfl, ⟨.inl ⟨rfl, rfl⟩⟩, Nat.le_refl _⟩
  · exact ⟨_, cap, rfl, ⟨.inr ⟨g, cur, _, rfl, hg, hb, ht⟩⟩, hc⟩
/-- A copy of runs, of numbers, in a block of its own. -/
def RunC (B K : Nat) (l : List RunT) : Spec := fun v w => ∃ p c, v = .slice p K c ∧ RunsIn w p l ∧ K ≤ c ∧ ∀ a, p = some a → B ≤ a.block
theorem RunC.closed (B K : Nat) (l : List RunT) : Closed [] (RunC B K l) := fun _ _ _ hr ⟨p, c, e, h, h2⟩ => ⟨p, c, e, h.rex hr rfl, h2⟩
def IntC (B K : Nat) (l : List Int) : Spec := fun v w => ∃ p c, v = .slice p K c ∧ IntsIn w p l ∧ K ≤ c ∧ ∀ a, p = some a → B ≤ a.block
theorem IntC.closed (B K : Nat) (l : List Int) : Closed [] (IntC B K l) := fun _ _ _ hr ⟨p, c, e, h, h2⟩ => ⟨p, c, e, h.below hr.below, h2⟩
theorem RunC.closedL (B K : Nat) (l : List RunT) {L : List Nat} (hL : ∀ x, x ∈ L → x < B) : Closed L (RunC B K l) := fun v w w' hr ⟨p, c, e, h, h2, h3⟩ => ⟨p, c, e, ⟨fun i r hi => by
  obtain ⟨b, o, e1, q0, q1, q2⟩ := h.at' i r hi
  have hb := h3 _ e1
  have key : ∀ z v, w.cell? ⟨b, z, none⟩ = some v → w'.cell? ⟨b, z, none⟩ = some v := fun z v hv => (World.cell?_of_block (hr.block b (cell_lt hv) (fun hx => by have := hL _ hx; simp at hb; omega))).trans hv
  exact ⟨b, o, e1, key _ _ q0, key _ _ q1, key _ _ q2⟩⟩, h2, h3⟩
theorem IntC.closedL (B K : Nat) (l : List Int) {L : List Nat} (hL : ∀ x, x ∈ L → x < B) : Closed L (IntC B K l) := fun v w w' hr ⟨p, c, e, h, h2, h3⟩ => ⟨p, c, e, ⟨fun i r hi => by
  obtain ⟨b, o, e1, q0⟩ := h.at' i r hi
  have hb := h3 _ e1
  exact ⟨b, o, e1, (World.cell?_of_block (hr.block b (cell_lt q0) (fun hx => by have := hL _ hx; simp at hb; omega))).trans q0⟩⟩, h2, h3⟩
def own26Rel (w : World) (nm9 : ByteArray) (ep fl la sc : Int) (pP : Option Addr) (capP N : Nat) (rows : List SegR) (pts : List (Int × Int)) (M gS capS : Nat) (a' : Act) (W : World) : Prop :=
  Below w.heap.size w W ∧ Blk W w.heap.size #[.string nm9, .int .i64 ep, .int .i64 fl, .int .i64 la, .int .i64 sc, .slice (some ⟨gS, 0, none⟩) M capS, .slice pP N capP] 26 ∧ Blk W (w.heap.size + 1) #[.string .empty, .int .i64 0, .int .i64 0, .int .i64 0, .int .i64 0, .slice none 0 0, .slice none 0 0] 26 ∧ PtRow W (w.heap.size + 1 + 1) pP pts ∧ ∃ (i : Nat) (cur : Array Value) (R : List SegR), Blk W gS cur 49 ∧ SegCells cur R ∧ OwnToK W gS rows R i ∧ (∃ u : Nat → Value, a' = { tmps := #[u 0, .pointer (some ⟨w.heap.size, 0, none⟩), .pointer (some ⟨w.heap.size + 1, 0, none⟩), u 3, u 4, u 5, u 6, u 7, u 8, u 9, u 10, u 11, u 12, u 13, u 14, u 15, u 16, u 17, u 18, u 19, u 20, u 21, u 22, u 23, u 24, u 25, u 26, u 27, u 28, u 29, u 30, u 31, .slice (some ⟨gS, 0, none⟩) M capS, .int .i64 (M : Int), .int .i64 (i : Int), u 35, u 36, u 37, u 38, u 39, u 40, u 41, u 42, u 43, u 44, u 45, u 46, u 47, u 48, u 49, u 50, u 51, u 52, u 53, u 54, u 55, u 56, u 57, u 58, u 59, u 60, u 61, u 62, u 63, u 64, u 65, u 66], defers := [] }) ∧ i ≤ M
def ownNRel (w : World) (nm9 : ByteArray) (ep fl la sc : Int) (pP : Option Addr) (capP N : Nat) (pts : List (Int × Int)) (a' : Act) (W : World) : Prop :=
  Below w.heap.size w W ∧ Blk W w.heap.size #[.string nm9, .int .i64 ep, .int .i64 fl, .int .i64 la, .int .i64 sc, .slice none 0 0, .slice pP N capP] 26 ∧ Blk W (w.heap.size + 1) #[.string .empty, .int .i64 0, .int .i64 0, .int .i64 0, .int .i64 0, .slice none 0 0, .slice none 0 0] 26 ∧ PtRow W (w.heap.size + 1 + 1) pP pts ∧ (∃ u : Nat → Value, a' = { tmps := #[u 0, .pointer (some ⟨w.heap.size, 0, none⟩), .pointer (some ⟨w.heap.size + 1, 0, none⟩), u 3, u 4, u 5, u 6, u 7, u 8, u 9, u 10, u 11, u 12, u 13, u 14, u 15, u 16, u 17, u 18, u 19, u 20, u 21, u 22, u 23, u 24, u 25, u 26, u 27, u 28, u 29, u 30, u 31, .slice none 0 0, .int .i64 0, .int .i64 0, u 35, u 36, u 37, u 38, u 39, u 40, u 41, u 42, u 43, u 44, u 45, u 46, u 47, u 48, u 49, u 50, u 51, u 52, u 53, u 54, u 55, u 56, u 57, u 58, u 59, u 60, u 61, u 62, u 63, u 64, u 65, u 66], defers := [] })
def CloneR0 (w : World) (p : Option Addr) (l : List RunT) (e : Ending) (w' : World) : Prop := ∃ p' cap', e = .returned (.slice p' l.length cap') ∧ Below w.heap.size w w' ∧ RunsIn w' p' l ∧ l.length ≤ cap' ∧ ∀ a, p' = some a → w.heap.size ≤ a.block ∧ a.off = 0
def CloneI0 (w : World) (p : Option Addr) (l : List Int) (e : Ending) (w' : World) : Prop := ∃ p' cap', e = .returned (.slice p' l.length cap') ∧ Below w.heap.size w w' ∧ IntsIn w' p' l ∧ l.length ≤ cap' ∧ ∀ a, p' = some a → w.heap.size ≤ a.block ∧ a.off = 0
set_option maxRecDepth 100000 in
set_option maxHeartbeats 2000000 in
theorem clone0Run_nil (w : World) : Calls Tryz.prog 45 #[.slice none 0 0] w (CloneR0 w none []) := by
  go_enter Tryz.func45, Tryz.ntmps45
  have hnil : ∀ W, (binOp .eql 44 (.slice none 0 0) (.slice none 0 0)).run Tryz.prog W = .ok (.bool true) W := fun W => by kernel_rfl
  go_wp2
  go_ret
  exact ⟨none, 0, rfl, belowAny, ⟨fun i r hr => by simp at hr⟩, by simp, fun a h => by cases h⟩
set_option maxRecDepth 100000 in
set_option maxHeartbeats 2000000 in
theorem clone0Run_some (a : Addr) (cap : Nat) (l : List RunT) (w : World) (hl : l.length ≤ 300) (h : RunsIn w (some a) l) : Calls Tryz.prog 45 #[.slice (some a) l.length cap] w (CloneR0 w (some a) l) := by
  have hnil : ∀ W, (binOp .eql 44 (.slice (some a) l.length cap) (.slice none 0 0)).run Tryz.prog W = .ok (.bool false) W := fun W => Lib.run_eql_slice_nil W 44 69 _ _ _ _ _ (by kernel_rfl)
  go_enter Tryz.func45, Tryz.ntmps45
  go_upto_region 3 with (fail)
  clear hnil
  have hmk : ∀ W, (Instr.buildSlice 44 0 #[]).run Tryz.prog W = .ok (.slice (some ⟨W.heap.size, 0, none⟩) 0 0) (W.alloc (.cells #[] 69)) := fun W => by kernel_rfl
  obtain ⟨i, hi, hz0, hz1, hz2⟩ := info_parts Tryz.infoRun
  have hW : Below w.heap.size w (w.alloc (.cells #[] 69)) := belowAny
  have hown0 := World.ownsRow_made (e := 69) (size := 3) (base := w.heap.size) w #[] 0 (Nat.le_refl _) (by simp [maxLen]) (by simp)
  go_wp2_with (at_builtin; refine wpList_append_own _ rfl (.tmp 5) (.tmp 6) 44 rfl w.heap.size 69 i _ 3 24 (by kernel_rfl) hi hz0 hz1 hz2 rfl (by omega) _ 0 [] rfl hown0 a l.length cap (flatCells l) rfl (by rw [length_flatCells]) ((h.below hW).flat) (fun v hv => by obtain ⟨x, rfl⟩ := flat_mem l v hv; rfl) (by simp [maxLen]; omega) (by omega) (by simp) ?_)
  intro v' w' hown hgr _
  have hB := Lib.hid (clone_below hgr)
  replace hown := Lib.hid hown
  clear hgr
  go_wp2
  go_ret
  obtain ⟨_, h2 | ⟨g, cap', cur, rfl, hg, hb, hn, _, hc, ht⟩⟩ := hown.out
  · obtain ⟨rfl, h0⟩ := h2
    have h0' : l.length = 0 := by omega
    exact ⟨none, 0, by rw [h0']; rfl, hB.out, ⟨fun i r hr => by rw [List.getElem?_eq_none_iff.2 (by omega)] at hr; cases hr⟩, by omega, fun a h => by cases h⟩
  · exact ⟨some ⟨g, 0, none⟩, cap', by simp, hB.out, cloneRun_in hb (by simpa using ht), by omega, fun a h => by cases h; exact ⟨hg, rfl⟩⟩
set_option maxRecDepth 100000 in
set_option maxHeartbeats 2000000 in
theorem clone0Int_nil (w : World) : Calls Tryz.prog 46 #[.slice none 0 0] w (CloneI0 w none []) := by
  go_enter Tryz.func46, Tryz.ntmps46
  have hnil : ∀ W, (binOp .eql 47 (.slice none 0 0) (.slice none 0 0)).run Tryz.prog W = .ok (.bool true) W := fun W => by kernel_rfl
  go_wp2
  go_ret
  exact ⟨none, 0, rfl, belowAny, ⟨fun i r hr => by simp at hr⟩, by simp, fun a h => by cases h⟩
set_option maxRecDepth 100000 in
set_option maxHeartbeats 2000000 in
theorem clone0Int_some (a : Addr) (cap : Nat) (l : List Int) (w : World) (hl : l.length ≤ 300) (h : IntsIn w (some a) l) : Calls Tryz.prog 46 #[.slice (some a) l.length cap] w (CloneI0 w (some a) l) := by
  have hnil : ∀ W, (binOp .eql 47 (.slice (some a) l.length cap) (.slice none 0 0)).run Tryz.prog W = .ok (.bool false) W := fun W => Lib.run_eql_slice_nil W 47 2 _ _ _ _ _ (by kernel_rfl)
  go_enter Tryz.func46, Tryz.ntmps46
  go_upto_region 3 with (fail)
  clear hnil
  have hmk : ∀ W, (Instr.buildSlice 47 0 #[]).run Tryz.prog W = .ok (.slice (some ⟨W.heap.size, 0, none⟩) 0 0) (W.alloc (.cells #[] 2)) := fun W => by kernel_rfl
  obtain ⟨i, hi, hz0, hz1, hz2⟩ := info_parts Tryz.infoInt
  have hW : Below w.heap.size w (w.alloc (.cells #[] 2)) := belowAny
  have hown0 := World.ownsRow_made (e := 2) (size := 1) (base := w.heap.size) w #[] 0 (Nat.le_refl _) (by simp [maxLen]) (by simp)
  go_wp2_with (at_builtin; refine wpList_append_own _ rfl (.tmp 5) (.tmp 6) 47 rfl w.heap.size 2 i _ 1 8 (by kernel_rfl) hi hz0 hz1 hz2 rfl (by omega) _ 0 [] rfl hown0 a l.length cap (l.map (Value.int .i64)) rfl (by simp) (fun j u hu => ints_flat (h.below hW) j u hu) (fun v hv => by simp only [List.mem_map] at hv; obtain ⟨x, _, rfl⟩ := hv; rfl) (by simp [maxLen]; omega) (by omega) (by simp) ?_)
  intro v' w' hown hgr _
  have hB := Lib.hid (clone_below hgr)
  replace hown := Lib.hid hown
  clear hgr
  go_wp2
  go_ret
  obtain ⟨_, h2 | ⟨g, cap', cur, rfl, hg, hb, hn, _, hc, ht⟩⟩ := hown.out
  · obtain ⟨rfl, h0⟩ := h2
    have h0' : l.length = 0 := by omega
    exact ⟨none, 0, by rw [h0']; rfl, hB.out, ⟨fun i r hr => by rw [List.getElem?_eq_none_iff.2 (by omega)] at hr; cases hr⟩, by omega, fun a h => by cases h⟩
  · exact ⟨some ⟨g, 0, none⟩, cap', by simp, hB.out, cloneInt_in hb (by simpa using ht), by omega, fun a h => by cases h; exact ⟨hg, rfl⟩⟩
theorem c_CloneRun0 (p : Option Addr) (cap : Nat) (l : List RunT) (w : World) (hl : l.length ≤ 300) (h : RunsIn w p l) (hn : p = none → l.length = 0 ∧ cap = 0) :
    Calls Tryz.prog 45 #[.slice p l.length cap] w (CloneR0 w p l) := by
  cases p with
  | none =>
    obtain ⟨h1, rfl⟩ := hn rfl
    have e : l = [] := List.length_eq_zero_iff.1 h1
    subst e
    exact clone0Run_nil w
  | some a => exact clone0Run_some a cap l w hl h
theorem c_CloneInt0 (p : Option Addr) (cap : Nat) (l : List Int) (w : World) (hl : l.length ≤ 300) (h : IntsIn w p l) (hn : p = none → l.length = 0 ∧ cap = 0) :
    Calls Tryz.prog 46 #[.slice p l.length cap] w (CloneI0 w p l) := by
  cases p with
  | none =>
    obtain ⟨h1, rfl⟩ := hn rfl
    have e : l = [] := List.length_eq_zero_iff.1 h1
    subst e
    exact clone0Int_nil w
  | some a => exact clone0Int_some a cap l w hl h
end Go.Proofs.YtpdhdjlhicceoaaGreatDoor
