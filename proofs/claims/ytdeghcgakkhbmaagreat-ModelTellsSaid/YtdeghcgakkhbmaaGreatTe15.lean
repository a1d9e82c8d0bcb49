/- Parts of the proof that follows: slices.Equal of points, slices.EqualFunc of segments, reference 13's Same: of whatever two rows. No condition. | The document's models, the layer's models: whether two are the same. Of whatever two. | The document's models: which may be. | Layer model: whether a model may be. | Layer model: where a name stands (slices.BinarySearchFunc). | Layer model: a model in memory of its own (model.own). | Layer model: place, Get. -/
import Derived.Laws.Cover1
import Derived.Test.YtdeghcgakkhbmaaGreatTe14
set_option linter.unusedSimpArgs false
set_option linter.unusedVariables false
namespace Go.Proofs.YtdeghcgakkhbmaaGreat
open Go.RowKit
theorem ite_ne2 {a b c d : Int} {w : World} : ((if a = b then (if c = d then Result.ok (Go.Next.value (Value.bool false)) w else Result.ok (Go.Next.value (Value.bool true)) w) else Result.ok (Go.Next.value (Value.bool true)) w) : Result Go.Next) = Result.ok (Go.Next.value (Value.bool (!(decide (a = b) && decide (c = d))))) w := by
  by_cases h1 : a = b <;> by_cases h2 : c = d <;> simp [h1, h2]
def eqqRel (w : World) (p : Option Addr) (cap : Nat) (p' : Option Addr) (cap' : Nat) (A B : List (Int × Int)) (a' : Act) (W : World) : Prop :=
  Below w.heap.size w W ∧ ∃ (i : Nat), (∃ u : Nat → Value, a' = { tmps := #[.slice p A.length cap, .slice p' A.length cap', u 2, u 3, .bool false, u 5, u 6, u 7, u 8, u 9, u 10, u 11, .int .i64 (A.length : Int), .int .i64 (i : Int), u 14, u 15, u 16, u 17, u 18, u 19, u 20, u 21, u 22, u 23, u 24, u 25], defers := [] }) ∧ i ≤ A.length ∧ ∀ k, k < i → A[k]? = B[k]?
set_option maxRecDepth 100000 in
set_option maxHeartbeats 2000000 in
theorem eqPtsG_w (p : Option Addr) (cap : Nat) (p' : Option Addr) (cap' : Nat) (A B : List (Int × Int)) (w : World) (hl : A.length = B.length) (hlen : A.length ≤ 1000000) (hA0 : PtsIn w p A) (hB0 : PtsIn w p' B) :
    Calls Tryz.prog 20 #[.slice p A.length cap, .slice p' A.length cap'] w fun e w' => e = .returned (.bool (decide (A = B))) ∧ Below w.heap.size w w' := by
  go_enter Tryz.func20, Tryz.ntmps20
  replace hl := Lib.hid hl
  go_wp2
  refine wp_loop (eqqRel w p cap p' cap' A B) (fun a' _ => A.length - (intAt (a'.tmps.getD 13 undef)).toNat) ?_ ?_
  · unfold eqqRel
    exact ⟨Below.refl _ _, 0, frame_ex rfl, by omega, fun k hk => by omega⟩
  · rintro a' W ⟨hW0, i, ⟨u, rfl⟩, hi', hall⟩
    have hz := hW0.size
    replace hall := Lib.hid hall
    rcases Nat.lt_or_ge i A.length with hlt | hge
    · obtain ⟨r, tr⟩ : ∃ r, A[i]? = some r := ⟨A[i]'(by omega), List.getElem?_eq_getElem (by omega)⟩
      obtain ⟨q, tq⟩ : ∃ q, B[i]? = some q := ⟨B[i]'(by have := hl.out; omega), List.getElem?_eq_getElem (by have := hl.out; omega)⟩
      obtain ⟨b, o, rfl, -⟩ := hA0.at' i r tr
      obtain ⟨b', o', rfl, -⟩ := hB0.at' i q tq
      have hA : PtsP W b o A := ⟨hA0.below hW0⟩
      have hB : PtsP W b' o' B := ⟨hB0.below hW0⟩
      replace tr := Lib.hid tr
      replace tq := Lib.hid tq
      have l1 := hlt
      have l2 : i < B.length := by have := hl.out; omega
      go_upto_region 6 with (fail)
      refine wp_cutB W (Rc (fun W' => PtsP W' b o A) <| Rc (fun W' => PtsP W' b' o' B) <| Bz) ?_ (hI := by exact belowAny) (hR := (Rc.mk (by exact hA.below belowAny) <| Rc.mk (by exact hB.below belowAny) <| trivial))
      rintro W1 hW z2 hL
      obtain ⟨b1, b2, -⟩ := id hL
      refine wp_regQ 9 26 hW hL ?_
      iterate 9
        apply nd_det (hg := rfl) (hal := rfl)
        · intro a W' hC hE
          obtain ⟨_, k1, k2, -⟩ := hC
          obtain ⟨q0, q1⟩ := k1.cellAt tr.out; obtain ⟨q2, q3⟩ := k2.cellAt tq.out
          first
            | (simp [Oper.looksAt, Op.operands, Call.operands, envOf, Det] at hE; simp [go_sem, Act.eval, IntWalk.i64_left, hE, k1, k2, q0, q1, q2, q3, l1, l2, ite_ne2]; try rfl)
            | (clear hE; simp [go_sem, Act.eval, IntWalk.i64_left, k1, k2, q0, q1, q2, q3, l1, l2, ite_ne2]; try rfl)
      clear hW hL b1 b2
      rintro W3 hW z4 hL
      simp only [ndR]
      intros
      simp only [ndS]
      refine wpList_nil ?_
      obtain ⟨b1, b2, -⟩ := hL
      by_cases hrq : r = q
      · have hall' := Lib.hid (show ∀ k, k < i + 1 → A[k]? = B[k]? from fun k hk => by
          rcases Nat.lt_or_ge k i with h | h
          · exact hall.out k h
          · obtain rfl : k = i := by omega
            rw [tr.out, tq.out, hrq])
        rw [show (!decide (r.1 = q.1) || !decide (r.2 = q.2)) = false by subst hrq; simp]
        clear hrq
        go_wp2
        rw [show (i : Int) + 1 = ((i + 1 : Nat) : Int) by omega]
        refine ⟨?_, by simp [intAt]; omega⟩
        unfold eqqRel
        exact ⟨hW0.trans (hW.mono hz), i + 1, frame_ex rfl, by omega, hall'.out⟩
      · have hne := Lib.hid (show decide (A = B) = false by
          rw [decide_eq_false_iff_not]
          rintro rfl
          rw [tr.out] at tq
          exact hrq (Option.some.inj tq.out))
        rw [show (!decide (r.1 = q.1) || !decide (r.2 = q.2)) = true by
          obtain ⟨r1, r2⟩ := r
          obtain ⟨q1, q2⟩ := q
          simp at hrq
          by_cases h1 : r1 = q1
          · simp [h1, hrq h1]
          · simp [h1]]
        clear hrq
        go_wp2
        go_ret
        exact ⟨by rw [hne.out]; rfl, hW0.trans (hW.mono hz)⟩
    · obtain rfl : i = A.length := by omega
      have heq := Lib.hid (show decide (A = B) = true by
        rw [decide_eq_true_eq]
        apply List.ext_getElem?
        intro k
        rcases Nat.lt_or_ge k A.length with h | h
        · exact hall.out k h
        · rw [List.getElem?_eq_none h, List.getElem?_eq_none (by have := hl.out; omega)])
      go_wp2
      go_ret
      exact ⟨by rw [heq.out]; rfl, hW0⟩
set_option maxRecDepth 100000 in
set_option maxHeartbeats 2000000 in
theorem eqPtsG_len (p : Option Addr) (n cap : Nat) (p' : Option Addr) (m cap' : Nat) (w : World) (hl : ¬ n = m) :
    Calls Tryz.prog 20 #[.slice p n cap, .slice p' m cap'] w fun e w' => e = .returned (.bool false) ∧ Below w.heap.size w w' := by
  go_enter Tryz.func20, Tryz.ntmps20
  go_wp2
  go_ret
  exact ⟨rfl, Below.refl _ _⟩
theorem c_eqPtsG (p : Option Addr) (cap : Nat) (p' : Option Addr) (cap' : Nat) (A B : List (Int × Int)) (w : World) (hlen : A.length ≤ 1000000) (hA0 : PtsIn w p A) (hB0 : PtsIn w p' B) :
    Calls Tryz.prog 20 #[.slice p A.length cap, .slice p' B.length cap'] w fun e w' => e = .returned (.bool (decide (A = B))) ∧ Below w.heap.size w w' := by
  by_cases h : A.length = B.length
  · rw [← h]; exact eqPtsG_w p cap p' cap' A B w h hlen hA0 hB0
  · rw [show decide (A = B) = false by rw [decide_eq_false_iff_not]; rintro rfl; exact h rfl]
    exact eqPtsG_len p _ cap p' _ cap' w h
/-- the same segments -/
def sameL : List SegT → List SegT → Bool
  | [], [] => true
  | s :: l, t :: m => sameT s t && sameL l m
  | _, _ => false
def Upto (l m : List SegT) (i : Nat) : Prop := ∀ (k : Nat) x y, k < i → l[k]? = some x → m[k]? = some y → sameT x y = true
theorem Upto.next {l m : List SegT} {i : Nat} {x y : SegT} (h : Upto l m i) (h1 : l[i]? = some x) (h2 : m[i]? = some y) (h3 : sameT x y = true) : Upto l m (i + 1) := fun k u v hk hu hv => by
  rcases Nat.lt_or_ge k i with hlt | hge
  · exact h k u v hlt hu hv
  · obtain rfl : k = i := by omega
    rw [h1] at hu; rw [h2] at hv
    injection hu with hu; injection hv with hv
    rw [← hu, ← hv]; exact h3
def s13gRel (w : World) (p p' : Option Addr) (cap cap' : Nat) (l m : List SegT) (a' : Act) (W : World) : Prop :=
  Below w.heap.size w W ∧ ∃ i : Nat, (∃ u : Nat → Value, a' = { tmps := #[.slice p l.length cap, .slice p' l.length cap', u 2, u 3, u 4, .int .i64 (i : Int), u 6, u 7, u 8, u 9, u 10, u 11, u 12, u 13, u 14, u 15, u 16, u 17, u 18, u 19, u 20, u 21, u 22, u 23, u 24, u 25, u 26], defers := [] }) ∧ i ≤ l.length ∧ Upto l m i
end Go.Proofs.YtdeghcgakkhbmaaGreat
namespace Go.Proofs.YtdeghcgakkhbmaaGreat
open Go.RowKit
/-- the same raw series, one by one -/
def sameM : List RawT → List RawT → Bool
  | [], [] => true
  | s :: l, t :: m => sameR s t && sameM l m
  | _, _ => false
theorem sameM_refl : ∀ l : List RawT, sameM l l = true
  | [] => rfl
  | s :: l => by simp [sameM, sameR_refl, sameM_refl l]
theorem sameM_len : ∀ {l m : List RawT}, ¬ l.length = m.length → sameM l m = false
  | [], [], h => absurd rfl h
  | [], _ :: _, _ => rfl
  | _ :: _, [], _ => rfl
  | s :: l, t :: m, h => by simp only [sameM, sameM_len (l := l) (m := m) (by simpa using h), Bool.and_false]
theorem sameM_no : ∀ {l m : List RawT} {i : Nat} {x y : RawT}, l[i]? = some x → m[i]? = some y → sameR x y = false → sameM l m = false
  | [], _, _, _, _, h1, _, _ => by simp at h1
  | _ :: _, [], _, _, _, _, h2, _ => by simp at h2
  | s :: l, t :: m, 0, x, y, h1, h2, h => by
    simp at h1 h2; subst h1; subst h2
    simp [sameM, h]
  | s :: l, t :: m, i + 1, x, y, h1, h2, h => by
    rw [List.getElem?_cons_succ] at h1 h2
    show (sameR s t && sameM l m) = false
    rw [sameM_no h1 h2 h, Bool.and_false]
theorem sameM_yes : ∀ {l m : List RawT}, l.length = m.length → (∀ (i : Nat) x y, l[i]? = some x → m[i]? = some y → sameR x y = true) → sameM l m = true
  | [], [], _, _ => rfl
  | s :: l, t :: m, hl, h => by
    simp only [sameM, h 0 s t rfl rfl, Bool.true_and]
    exact sameM_yes (by simpa using hl) fun i x y h1 h2 => h (i + 1) x y (by simpa using h1) (by simpa using h2)
def UptoM (l m : List RawT) (i : Nat) : Prop := ∀ (k : Nat) x y, k < i → l[k]? = some x → m[k]? = some y → sameR x y = true
theorem UptoM.next {l m : List RawT} {i : Nat} {x y : RawT} (h : UptoM l m i) (h1 : l[i]? = some x) (h2 : m[i]? = some y) (h3 : sameR x y = true) : UptoM l m (i + 1) := fun k u v hk hu hv => by
  rcases Nat.lt_or_ge k i with hlt | hge
  · exact h k u v hlt hu hv
  · obtain rfl : k = i := by omega
    rw [h1] at hu; rw [h2] at hv
    injection hu with hu; injection hv with hv
    rw [← hu, ← hv]; exact h3
/-- No raw series of these is greater than what can be gone through. -/
def FewP (l : List RawT) : Prop := ∀ (i : Nat) r, l[i]? = some r → r.pts.length ≤ 2000
set_option maxRecDepth 100000 in
set_option maxHeartbeats 2000000 in
theorem c_mdSame1 (s t : RawT) (po1 po2 : Option Addr) (co1 co2 : Nat) (w : World) (h : PtsIn w po1 s.pts) (h' : PtsIn w po2 t.pts) (hls : s.pts.length ≤ 2000) :
    Calls Tryz.prog 72 #[.agg (rawA s po1 co1), .agg (rawA t po2 co2)] w fun e w' => e = .returned (.bool (sameR s t)) ∧ Below w.heap.size w w' := by
  have c1 := Lib.hid (fun W (hW : Below w.heap.size w W) => c_eqPtsG po1 co1 po2 co2 s.pts t.pts W (by omega) (h.below hW) (h'.below hW))
  unfold rawA sameR
  go_enter Tryz.func72, Tryz.ntmps72
  go_upto_region 1 with (fail)
  refine wp_cutB w (Bc w.heap.size #[.string s.name, .int .i64 s.eps, .int .i64 s.floor, .int .i64 s.last, .int .i64 s.scale, .slice po1 s.pts.length co1] 35 <| Bc (w.heap.size + 1) #[.string t.name, .int .i64 t.eps, .int .i64 t.floor, .int .i64 t.last, .int .i64 t.scale, .slice po2 t.pts.length co2] 35 <| Bz) ?_
  rintro W1 hW z2 hL
  refine wp_regS 41 45 hW hL ?_
  iterate 6 refine dA ?_
  iterate 5 refine gA ?_
  refine pA ?_
  refine dA ?_
  iterate 5 refine gA ?_
  refine pA ?_
  refine dA ?_
  iterate 5 refine gA ?_
  refine pA ?_
  refine dA ?_
  iterate 5 refine gA ?_
  refine pA ?_
  refine dA ?_
  iterate 4 refine gA ?_
  refine cG (fun hp hx W' hC => c1.out W' (hW.trans (hC.1.of_priv hW.size))) ?_
  refine pA ?_
  refine dA ?_
  clear hW hL
  rintro W3 hW z4 hL
  simp only [ndR]
  intros
  repeat (rename GDet _ _ _ _ => hgd; clear hgd)
  simp only [ndS]
  refine wpList_nil ?_
  obtain ⟨⟨b1, yb1, k1, f1⟩, ⟨b2, yb2, k2, f2⟩, -⟩ := hL
  go_wp2
  refine bodyPost_ret (by simp [results, Tryz.results72, go_sem, k1, f1, k2, f2, yb1, yb2]) rfl ⟨rfl, by exact belowAny⟩
def mefRel (w : World) (p p' : Option Addr) (cap cap' : Nat) (l m : List RawT) (a' : Act) (W : World) : Prop :=
  Below w.heap.size w W ∧ ∃ i : Nat, (∃ u : Nat → Value, a' = { tmps := #[.slice p l.length cap, .slice p' l.length cap', .func (.func 72) #[] #[], u 3, u 4, u 5, .bool false, u 7, u 8, u 9, u 10, u 11, u 12, u 13, u 14, .slice p l.length cap, .int .i64 (l.length : Int), .int .i64 (i : Int), u 18, u 19, u 20, u 21, u 22, u 23, u 24, u 25, u 26, u 27, u 28, u 29, u 30, u 31], defers := [] }) ∧ i ≤ l.length ∧ UptoM l m i
set_option maxRecDepth 100000 in
set_option maxHeartbeats 2000000 in
theorem efRaw_w (l m : List RawT) (p p' : Option Addr) (cap cap' : Nat) (w : World) (h : RawsIn w p l) (h' : RawsIn w p' m) (hl : l.length ≤ 100) (hfw : FewP l) (hlm : l.length = m.length) :
    Calls Tryz.prog 71 #[.slice p l.length cap, .slice p' l.length cap', .func (.func 72) #[] #[]] w fun e w' => e = .returned (.bool (sameM l m)) ∧ Below w.heap.size w w' := by
  go_enter Tryz.func71, Tryz.ntmps71
  replace hlm := Lib.hid hlm
  go_wp2
  refine wp_loop (mefRel w p p' cap cap' l m) (fun a' _ => l.length - (intAt (a'.tmps.getD 17 undef)).toNat) ?_ ?_
  · unfold mefRel
    exact ⟨Below.refl _ _, 0, frame_ex rfl, by omega, fun k x y hk => by omega⟩
  rintro a' W ⟨hW0, i, ⟨u, rfl⟩, hi, hup⟩
  have hz := hW0.size
  replace hup := Lib.hid hup
  rcases Nat.lt_or_ge i l.length with hlt | hge
  · obtain ⟨x, tr⟩ : ∃ r, l[i]? = some r := ⟨l[i]'(by omega), List.getElem?_eq_getElem (by omega)⟩
    obtain ⟨y, tq⟩ : ∃ r, m[i]? = some r := ⟨m[i]'(by have := hlm.out; omega), List.getElem?_eq_getElem (by have := hlm.out; omega)⟩
    obtain ⟨b1, o1, p1, co1, rfl, h1, g1, -⟩ := (h.below hW0).at' i x tr
    obtain ⟨b2, o2, p2, co2, rfl, h2, g2, -⟩ := (h'.below hW0).at' i y tq
    have hx9 := hfw i x tr
    have c1 := fun W' (hW' : Below W.heap.size W W') => c_mdSame1 x y p1 p2 co1 co2 W' (g1.below hW') (g2.below hW') hx9
    replace tr := Lib.hid tr
    replace tq := Lib.hid tq
    cases hB : sameR x y with
    | true =>
      have hup' := Lib.hid (hup.out.next tr.out tq.out hB)
      rw [hB] at c1
      unfold rawA at c1 h1 h2
      replace c1 := Lib.hid c1
      clear g1 g2 hB
      have s0 := h1 0 _ rfl
      have s1 := h1 1 _ rfl
      have s2 := h1 2 _ rfl
      have s3 := h1 3 _ rfl
      have s4 := h1 4 _ rfl
      have s5 := h1 5 _ rfl
      simp only [Nat.add_zero] at s0
      go_upto_region 6 with (fail)
      refine wp_cutB W (Bc W.heap.size #[.string x.name, .int .i64 x.eps, .int .i64 x.floor, .int .i64 x.last, .int .i64 x.scale, .slice p1 x.pts.length co1] 35 <| Rc (fun W' => CellsP W' b2 (o2 + i * 6) #[.string y.name, .int .i64 y.eps, .int .i64 y.floor, .int .i64 y.last, .int .i64 y.scale, .slice p2 y.pts.length co2]) <| Bz) ?_ (hI := by exact belowAny) (hR := (Bc.mk (by exact blkAny2) <| Rc.mk (by exact (CellsP.mk h2).below belowAny) <| trivial))
      rintro W21 hW z22 ⟨⟨b1, yb1, k1, f1⟩, b2, -⟩
      clear s0 s1 s2 s3 s4 s5
      have hy := b2
      clear b2
      have t0 := hy.at' 0 _ rfl
      have t1 := hy.at' 1 _ rfl
      have t2 := hy.at' 2 _ rfl
      have t3 := hy.at' 3 _ rfl
      have t4 := hy.at' 4 _ rfl
      have t5 := hy.at' 5 _ rfl
      simp only [Nat.add_zero] at t0
      go_wp2_with fail
      refine (c1.out _ belowAny).mono ?_
      rintro e w23 ⟨rfl, hb23⟩
      have z24 := hb23.size
      try simp at z24
      clear k1 f1
      refine haveB W w23 (Bc W.heap.size #[.string x.name, .int .i64 x.eps, .int .i64 x.floor, .int .i64 x.last, .int .i64 x.scale, .slice p1 x.pts.length co1] 35 <| Bc W21.heap.size #[.string y.name, .int .i64 y.eps, .int .i64 y.floor, .int .i64 y.last, .int .i64 y.scale, .slice p2 y.pts.length co2] 35 <| Bz) ?_
      clear b1 hW
      rintro hW z25 ⟨⟨b1, yb1, k1, f1⟩, ⟨b2, yb2, k2, f2⟩, -⟩
      clear hb23
      go_wp2
      rw [show (i : Int) + 1 = ((i + 1 : Nat) : Int) by omega]
      refine ⟨?_, by simp [intAt]; omega⟩
      unfold mefRel
      exact ⟨hW0.trans (hW.mono hz), i + 1, frame_ex rfl, by omega, hup'.out⟩
    | false =>
      have hno := Lib.hid (sameM_no tr.out tq.out hB)
      rw [hB] at c1
      unfold rawA at c1 h1 h2
      replace c1 := Lib.hid c1
      clear g1 g2 hB
      have s0 := h1 0 _ rfl
      have s1 := h1 1 _ rfl
      have s2 := h1 2 _ rfl
      have s3 := h1 3 _ rfl
      have s4 := h1 4 _ rfl
      have s5 := h1 5 _ rfl
      simp only [Nat.add_zero] at s0
      go_upto_region 6 with (fail)
      refine wp_cutB W (Bc W.heap.size #[.string x.name, .int .i64 x.eps, .int .i64 x.floor, .int .i64 x.last, .int .i64 x.scale, .slice p1 x.pts.length co1] 35 <| Rc (fun W' => CellsP W' b2 (o2 + i * 6) #[.string y.name, .int .i64 y.eps, .int .i64 y.floor, .int .i64 y.last, .int .i64 y.scale, .slice p2 y.pts.length co2]) <| Bz) ?_ (hI := by exact belowAny) (hR := (Bc.mk (by exact blkAny2) <| Rc.mk (by exact (CellsP.mk h2).below belowAny) <| trivial))
      rintro W21 hW z22 ⟨⟨b1, yb1, k1, f1⟩, b2, -⟩
      clear s0 s1 s2 s3 s4 s5
      have hy := b2
      clear b2
      have t0 := hy.at' 0 _ rfl
      have t1 := hy.at' 1 _ rfl
      have t2 := hy.at' 2 _ rfl
      have t3 := hy.at' 3 _ rfl
      have t4 := hy.at' 4 _ rfl
      have t5 := hy.at' 5 _ rfl
      simp only [Nat.add_zero] at t0
      go_wp2_with fail
      refine (c1.out _ belowAny).mono ?_
      rintro e w23 ⟨rfl, hb23⟩
      have z24 := hb23.size
      try simp at z24
      clear k1 f1
      refine haveB W w23 (Bc W.heap.size #[.string x.name, .int .i64 x.eps, .int .i64 x.floor, .int .i64 x.last, .int .i64 x.scale, .slice p1 x.pts.length co1] 35 <| Bc W21.heap.size #[.string y.name, .int .i64 y.eps, .int .i64 y.floor, .int .i64 y.last, .int .i64 y.scale, .slice p2 y.pts.length co2] 35 <| Bz) ?_
      clear b1 hW
      rintro hW z25 ⟨⟨b1, yb1, k1, f1⟩, ⟨b2, yb2, k2, f2⟩, -⟩
      clear hb23
      go_wp2
      go_ret
      exact ⟨by rw [hno.out]; rfl, hW0.trans (hW.mono hz)⟩
  · obtain rfl : i = l.length := by omega
    have hyes := Lib.hid (sameM_yes hlm.out fun k x y h1 h2 => hup.out k x y (List.getElem?_eq_some_iff.1 h1).1 h1 h2)
    go_wp2
    go_ret
    exact ⟨by rw [hyes.out]; rfl, hW0⟩
set_option maxRecDepth 100000 in
set_option maxHeartbeats 2000000 in
theorem efRaw_len (p : Option Addr) (n cap : Nat) (p' : Option Addr) (k cap' : Nat) (w : World) (hl : ¬ n = k) :
    Calls Tryz.prog 71 #[.slice p n cap, .slice p' k cap', .func (.func 72) #[] #[]] w fun e w' => e = .returned (.bool false) ∧ Below w.heap.size w w' := by
  go_enter Tryz.func71, Tryz.ntmps71
  go_wp2
  go_ret
  exact ⟨rfl, Below.refl _ _⟩
theorem c_efRaw (l m : List RawT) (p p' : Option Addr) (cap cap' : Nat) (w : World) (h : RawsIn w p l) (h' : RawsIn w p' m) (hl : l.length ≤ 100) (hfw : FewP l) :
    Calls Tryz.prog 71 #[.slice p l.length cap, .slice p' m.length cap', .func (.func 72) #[] #[]] w fun e w' => e = .returned (.bool (sameM l m)) ∧ Below w.heap.size w w' := by
  by_cases e : l.length = m.length
  · rw [← e]; exact efRaw_w l m p p' cap cap' w h h' hl hfw e
  · rw [sameM_len e]; exact efRaw_len p _ cap p' _ cap' w e
set_option maxRecDepth 100000 in
set_option maxHeartbeats 2000000 in
theorem c_mdSame (l m : List RawT) (p p' : Option Addr) (cap cap' : Nat) (w : World) (h : RawsIn w p l) (h' : RawsIn w p' m) (hl : l.length ≤ 100) (hfw : FewP l) :
    Calls Tryz.prog 31 #[.agg #[.slice p l.length cap], .agg #[.slice p' m.length cap']] w fun e w' => e = .returned (.bool (sameM l m)) ∧ Below w.heap.size w w' := by
  have c1 := fun W (hW : Below w.heap.size w W) => c_efRaw l m p p' cap cap' W (h.below hW) (h'.below hW) hl hfw
  have H_c1 := Lib.hid c1
  clear c1
  go_enter Tryz.func31, Tryz.ntmps31
  go_wp2_with fail
  refine (H_c1.out _ belowAny).mono ?_
  rintro e w1 ⟨rfl, hb1⟩
  have z2 := hb1.size
  try simp at z2
  refine haveB w w1 (Bz) ?_
  rintro hW z3 ⟨-⟩
  clear hb1
  go_wp2
  refine bodyPost_ret (by simp [results, Tryz.results31, go_sem]) rfl ⟨rfl, by exact belowAny⟩
def rsmRel (w : World) (p p' : Option Addr) (cap cap' : Nat) (l m : List RawT) (a' : Act) (W : World) : Prop :=
  Below w.heap.size w W ∧ Blk W w.heap.size #[.slice p l.length cap] 27 ∧ Blk W (w.heap.size + 1) #[.slice p' l.length cap'] 27 ∧ ∃ i : Nat, (∃ u : Nat → Value, a' = { tmps := #[u 0, u 1, .pointer (some ⟨w.heap.size, 0, none⟩), .pointer (some ⟨(w.heap.size + 1), 0, none⟩), .bool false, u 5, u 6, u 7, u 8, u 9, u 10, u 11, u 12, u 13, u 14, .int .i64 (l.length : Int), .int .i64 (i : Int), u 17, u 18, u 19, u 20, u 21, u 22, u 23, u 24, u 25, u 26, u 27, u 28, u 29, u 30, u 31], defers := [] }) ∧ i ≤ l.length ∧ UptoM l m i
set_option maxRecDepth 100000 in
set_option maxHeartbeats 2000000 in
theorem refSameM_w (l m : List RawT) (p p' : Option Addr) (cap cap' : Nat) (w : World) (h : RawsIn w p l) (h' : RawsIn w p' m) (hl : l.length ≤ 100) (hfw : FewP l) (hfm : FewP m) (hlm : l.length = m.length) :
    Calls Tryz.prog 13 #[.agg #[.slice p l.length cap], .agg #[.slice p' l.length cap']] w fun e w' => e = .returned (.bool (sameM l m)) ∧ Below w.heap.size w w' := by
  replace hlm := Lib.hid hlm
  go_enter Tryz.func13, Tryz.ntmps13
  go_upto_region 1 with (fail)
  refine wp_cutB w (Bc w.heap.size #[.slice p l.length cap] 27 <| Bc (w.heap.size + 1) #[.slice p' l.length cap'] 27 <| Bz) ?_
  rintro W1 hW z2 ⟨⟨b1, yb1, k1, f1⟩, ⟨b2, yb2, k2, f2⟩, -⟩
  go_wp2
  clear k1 f1 k2 f2
  refine wp_loop (rsmRel w p p' cap cap' l m) (fun a' _ => l.length - (intAt (a'.tmps.getD 16 undef)).toNat) ?_ ?_
  · unfold rsmRel
    exact ⟨hW, b1, b2, 0, frame_ex rfl, by omega, fun k x y hk => by omega⟩
  clear b1 b2 hW
  rintro a' W ⟨hW0, b1, b2, i, ⟨u, rfl⟩, hi, hup⟩
  have hz := hW0.size
  replace hup := Lib.hid hup
  rcases Nat.lt_or_ge i l.length with hlt | hge
  · obtain ⟨x, tr⟩ : ∃ r, l[i]? = some r := ⟨l[i]'(by omega), List.getElem?_eq_getElem (by omega)⟩
    obtain ⟨y, tq⟩ : ∃ r, m[i]? = some r := ⟨m[i]'(by have := hlm.out; omega), List.getElem?_eq_getElem (by have := hlm.out; omega)⟩
    obtain ⟨g1, o1, p1, co1, rfl, h1, r1, -⟩ := (h.below hW0).at' i x tr
    obtain ⟨g2, o2, p2, co2, rfl, h2, r2, -⟩ := (h'.below hW0).at' i y tq
    have hx9 := hfw i x tr
    have hy9 := hfm i y tq
    have c1 := fun W' (hW' : Below W.heap.size W W') => c_ref28SameRaw x y p1 p2 co1 co2 W' (r1.below hW') (r2.below hW') hx9 hy9
    replace tr := Lib.hid tr
    replace tq := Lib.hid tq
    have zb1 := b1.lt
    have zb2 := b2.lt
    cases hB : sameR x y with
    | true =>
      have hup' := Lib.hid (hup.out.next tr.out tq.out hB)
      rw [hB] at c1
      unfold rawA at c1 h1 h2
      replace c1 := Lib.hid c1
      clear r1 r2 hB
      go_upto_region 6 with (fail)
      refine wp_cutB W (Bc w.heap.size #[.slice (some ⟨g1, o1, none⟩) l.length cap] 27 <| Bc (w.heap.size + 1) #[.slice (some ⟨g2, o2, none⟩) l.length cap'] 27 <| Rc (fun W' => CellsP W' g1 (o1 + i * 6) #[.string x.name, .int .i64 x.eps, .int .i64 x.floor, .int .i64 x.last, .int .i64 x.scale, .slice p1 x.pts.length co1]) <| Rc (fun W' => CellsP W' g2 (o2 + i * 6) #[.string y.name, .int .i64 y.eps, .int .i64 y.floor, .int .i64 y.last, .int .i64 y.scale, .slice p2 y.pts.length co2]) <| Bz) ?_ (hI := by exact belowAny) (hR := (Bc.mk (by exact blkAny2) <| Bc.mk (by exact blkAny2) <| Rc.mk (by first | exact ⟨h1⟩ | (exact (CellsP.mk h1).below belowAny)) <| Rc.mk (by first | exact ⟨h2⟩ | (exact (CellsP.mk h2).below belowAny)) <| trivial))
      clear b1 b2
      rintro W21 hW z22 hL
      obtain ⟨⟨b1, yb1, k1, f1⟩, ⟨b2, yb2, k2, f2⟩, b3, b4, -⟩ := id hL
      clear k1 f1 k2 f2
      refine wp_regQ 12 32 hW hL ?_
      iterate 10 refine dE (fun W' hC => aI hlt (aI (Nat.not_le.2 hlt) (aI (hC.2.2.2.1.at' 0 _ rfl) (aI (hC.2.2.2.1.at' 1 _ rfl) (aI (hC.2.2.2.1.at' 2 _ rfl) (aI (hC.2.2.2.1.at' 3 _ rfl) (aI (hC.2.2.2.1.at' 4 _ rfl) (aI (hC.2.2.2.1.at' 5 _ rfl) (aI (hC.2.2.2.2.1.at' 0 _ rfl) (aI (hC.2.2.2.2.1.at' 1 _ rfl) (aI (hC.2.2.2.2.1.at' 2 _ rfl) (aI (hC.2.2.2.2.1.at' 3 _ rfl) (aI (hC.2.2.2.2.1.at' 4 _ rfl) (hC.2.2.2.2.1.at' 5 _ rfl)))))))))))))) ?_
      refine cE (fun W' hC => aI hlt (aI (Nat.not_le.2 hlt) (aI (hC.2.2.2.1.at' 0 _ rfl) (aI (hC.2.2.2.1.at' 1 _ rfl) (aI (hC.2.2.2.1.at' 2 _ rfl) (aI (hC.2.2.2.1.at' 3 _ rfl) (aI (hC.2.2.2.1.at' 4 _ rfl) (aI (hC.2.2.2.1.at' 5 _ rfl) (aI (hC.2.2.2.2.1.at' 0 _ rfl) (aI (hC.2.2.2.2.1.at' 1 _ rfl) (aI (hC.2.2.2.2.1.at' 2 _ rfl) (aI (hC.2.2.2.2.1.at' 3 _ rfl) (aI (hC.2.2.2.2.1.at' 4 _ rfl) (hC.2.2.2.2.1.at' 5 _ rfl)))))))))))))) (fun W' hC => c1.out W' (hW.trans (hC.1.of_priv hW.size))) ?_
      refine dE (fun W' hC => aI hlt (aI (Nat.not_le.2 hlt) (aI (hC.2.2.2.1.at' 0 _ rfl) (aI (hC.2.2.2.1.at' 1 _ rfl) (aI (hC.2.2.2.1.at' 2 _ rfl) (aI (hC.2.2.2.1.at' 3 _ rfl) (aI (hC.2.2.2.1.at' 4 _ rfl) (aI (hC.2.2.2.1.at' 5 _ rfl) (aI (hC.2.2.2.2.1.at' 0 _ rfl) (aI (hC.2.2.2.2.1.at' 1 _ rfl) (aI (hC.2.2.2.2.1.at' 2 _ rfl) (aI (hC.2.2.2.2.1.at' 3 _ rfl) (aI (hC.2.2.2.2.1.at' 4 _ rfl) (hC.2.2.2.2.1.at' 5 _ rfl)))))))))))))) ?_
      clear hW hL b1 b2 b3 b4
      rintro W23 hW z24 hL
      simp only [ndR]
      intros
      simp only [ndS]
      refine wpList_nil ?_
      obtain ⟨⟨b1, yb1, k1, f1⟩, ⟨b2, yb2, k2, f2⟩, b3, b4, -⟩ := hL
      go_wp2
      rw [show (i : Int) + 1 = ((i + 1 : Nat) : Int) by omega]
      refine ⟨?_, by simp [intAt]; omega⟩
      unfold rsmRel
      exact ⟨hW0.trans (hW.mono hz), b1, b2, i + 1, frame_ex rfl, by omega, hup'.out⟩
    | false =>
      have hno := Lib.hid (sameM_no tr.out tq.out hB)
      rw [hB] at c1
      unfold rawA at c1 h1 h2
      replace c1 := Lib.hid c1
      clear r1 r2 hB
      go_upto_region 6 with (fail)
      refine wp_cutB W (Bc w.heap.size #[.slice (some ⟨g1, o1, none⟩) l.length cap] 27 <| Bc (w.heap.size + 1) #[.slice (some ⟨g2, o2, none⟩) l.length cap'] 27 <| Rc (fun W' => CellsP W' g1 (o1 + i * 6) #[.string x.name, .int .i64 x.eps, .int .i64 x.floor, .int .i64 x.last, .int .i64 x.scale, .slice p1 x.pts.length co1]) <| Rc (fun W' => CellsP W' g2 (o2 + i * 6) #[.string y.name, .int .i64 y.eps, .int .i64 y.floor, .int .i64 y.last, .int .i64 y.scale, .slice p2 y.pts.length co2]) <| Bz) ?_ (hI := by exact belowAny) (hR := (Bc.mk (by exact blkAny2) <| Bc.mk (by exact blkAny2) <| Rc.mk (by first | exact ⟨h1⟩ | (exact (CellsP.mk h1).below belowAny)) <| Rc.mk (by first | exact ⟨h2⟩ | (exact (CellsP.mk h2).below belowAny)) <| trivial))
      clear b1 b2
      rintro W21 hW z22 hL
      obtain ⟨⟨b1, yb1, k1, f1⟩, ⟨b2, yb2, k2, f2⟩, b3, b4, -⟩ := id hL
      clear k1 f1 k2 f2
      refine wp_regQ 12 32 hW hL ?_
      iterate 10 refine dE (fun W' hC => aI hlt (aI (Nat.not_le.2 hlt) (aI (hC.2.2.2.1.at' 0 _ rfl) (aI (hC.2.2.2.1.at' 1 _ rfl) (aI (hC.2.2.2.1.at' 2 _ rfl) (aI (hC.2.2.2.1.at' 3 _ rfl) (aI (hC.2.2.2.1.at' 4 _ rfl) (aI (hC.2.2.2.1.at' 5 _ rfl) (aI (hC.2.2.2.2.1.at' 0 _ rfl) (aI (hC.2.2.2.2.1.at' 1 _ rfl) (aI (hC.2.2.2.2.1.at' 2 _ rfl) (aI (hC.2.2.2.2.1.at' 3 _ rfl) (aI (hC.2.2.2.2.1.at' 4 _ rfl) (hC.2.2.2.2.1.at' 5 _ rfl)))))))))))))) ?_
      refine cE (fun W' hC => aI hlt (aI (Nat.not_le.2 hlt) (aI (hC.2.2.2.1.at' 0 _ rfl) (aI (hC.2.2.2.1.at' 1 _ rfl) (aI (hC.2.2.2.1.at' 2 _ rfl) (aI (hC.2.2.2.1.at' 3 _ rfl) (aI (hC.2.2.2.1.at' 4 _ rfl) (aI (hC.2.2.2.1.at' 5 _ rfl) (aI (hC.2.2.2.2.1.at' 0 _ rfl) (aI (hC.2.2.2.2.1.at' 1 _ rfl) (aI (hC.2.2.2.2.1.at' 2 _ rfl) (aI (hC.2.2.2.2.1.at' 3 _ rfl) (aI (hC.2.2.2.2.1.at' 4 _ rfl) (hC.2.2.2.2.1.at' 5 _ rfl)))))))))))))) (fun W' hC => c1.out W' (hW.trans (hC.1.of_priv hW.size))) ?_
      refine dE (fun W' hC => aI hlt (aI (Nat.not_le.2 hlt) (aI (hC.2.2.2.1.at' 0 _ rfl) (aI (hC.2.2.2.1.at' 1 _ rfl) (aI (hC.2.2.2.1.at' 2 _ rfl) (aI (hC.2.2.2.1.at' 3 _ rfl) (aI (hC.2.2.2.1.at' 4 _ rfl) (aI (hC.2.2.2.1.at' 5 _ rfl) (aI (hC.2.2.2.2.1.at' 0 _ rfl) (aI (hC.2.2.2.2.1.at' 1 _ rfl) (aI (hC.2.2.2.2.1.at' 2 _ rfl) (aI (hC.2.2.2.2.1.at' 3 _ rfl) (aI (hC.2.2.2.2.1.at' 4 _ rfl) (hC.2.2.2.2.1.at' 5 _ rfl)))))))))))))) ?_
      clear hW hL b1 b2 b3 b4
      rintro W23 hW z24 hL
      simp only [ndR]
      intros
      simp only [ndS]
      refine wpList_nil ?_
      obtain ⟨⟨b1, yb1, k1, f1⟩, ⟨b2, yb2, k2, f2⟩, b3, b4, -⟩ := hL
      go_wp2
      go_ret
      exact ⟨by rw [hno.out]; rfl, hW0.trans (hW.mono hz)⟩
  · obtain rfl : i = l.length := by omega
    have hyes := Lib.hid (sameM_yes hlm.out fun k x y h1 h2 => hup.out k x y (List.getElem?_eq_some_iff.1 h1).1 h1 h2)
    go_wp2
    go_ret
    exact ⟨by rw [hyes.out]; rfl, hW0⟩
set_option maxRecDepth 100000 in
set_option maxHeartbeats 2000000 in
theorem refSameM_len (p : Option Addr) (n cap : Nat) (p' : Option Addr) (k cap' : Nat) (w : World) (hl : ¬ n = k) :
    Calls Tryz.prog 13 #[.agg #[.slice p n cap], .agg #[.slice p' k cap']] w fun e w' => e = .returned (.bool false) ∧ Below w.heap.size w w' := by
  go_enter Tryz.func13, Tryz.ntmps13
  go_upto_region 1 with (fail)
  refine wp_cutB w (Bc w.heap.size #[.slice p n cap] 27 <| Bc (w.heap.size + 1) #[.slice p' k cap'] 27 <| Bz) ?_
  rintro W1 hW z2 ⟨⟨b1, yb1, k1, f1⟩, ⟨b2, yb2, k2, f2⟩, -⟩
  go_wp2
  go_ret
  exact ⟨rfl, by exact belowAny⟩
theorem c_ref28Same (l m : List RawT) (p p' : Option Addr) (cap cap' : Nat) (w : World) (h : RawsIn w p l) (h' : RawsIn w p' m) (hl : l.length ≤ 100) (hfw : FewP l) (hfm : FewP m) :
    Calls Tryz.prog 13 #[.agg #[.slice p l.length cap], .agg #[.slice p' m.length cap']] w fun e w' => e = .returned (.bool (sameM l m)) ∧ Below w.heap.size w w' := by
  by_cases e : l.length = m.length
  · rw [← e]; exact refSameM_w l m p p' cap cap' w h h' hl hfw hfm e
  · rw [sameM_len e]; exact refSameM_len p _ cap p' _ cap' w e
end Go.Proofs.YtdeghcgakkhbmaaGreat
namespace Go.Proofs.YtdeghcgakkhbmaaGreat
open Go.RowKit
theorem strGeq (t : TypeId) (a b : ByteArray) : binOp .geq t (.string a) (.string b) = pure (.bool (!Op.bytesLess a.toList b.toList)) := by simp [binOp, Op.stringOp]
/-- Whether a raw series may stand at a place of a model. -/
def okAtB (rows : List RawT) (i : Nat) (r : RawT) : Bool := rawB r && match i with
  | 0 => true
  | j + 1 => match rows[j]? with
    | some q => Op.bytesLess q.name.toList r.name.toList
    | none => true
def okN (rows : List RawT) : Nat → Bool
  | 0 => true
  | i + 1 => okN rows i && match rows[i]? with
    | some r => okAtB rows i r
    | none => true
theorem okN_next {rows : List RawT} {i : Nat} {r : RawT} (hr : rows[i]? = some r) : okN rows (i + 1) = (okN rows i && okAtB rows i r) := by
  simp only [okN, hr]
theorem okN_more {rows : List RawT} {i : Nat} (h : okN rows i = false) : ∀ k, okN rows (i + k) = false
  | 0 => h
  | k + 1 => by
    rw [← Nat.add_assoc]
    simp only [okN, okN_more h k, Bool.false_and]
theorem okN_no {rows : List RawT} {i : Nat} (h : okN rows i = false) (hi : i ≤ rows.length) : okN rows rows.length = false := by
  have := okN_more h (rows.length - i)
  rwa [show i + (rows.length - i) = rows.length by omega] at this
/-- Whether a model may be. -/
def modelB (rows : List RawT) : Bool := okN rows rows.length && decide (rows.length ≤ 8)
def FewN (l : List RawT) : Prop := ∀ (i : Nat) r, l[i]? = some r → r.name.size ≤ 1000
def rgtRel (w : World) (p : Option Addr) (cap : Nat) (rows : List RawT) (a' : Act) (W : World) : Prop :=
  Below w.heap.size w W ∧ Blk W w.heap.size #[.slice p rows.length cap] 27 ∧ ∃ i : Nat, (∃ u : Nat → Value, a' = { tmps := #[u 0, .pointer (some ⟨w.heap.size, 0, none⟩), .bool false, u 3, u 4, u 5, .slice p rows.length cap, .int .i64 (rows.length : Int), .int .i64 (i : Int), u 9, u 10, u 11, u 12, u 13, u 14, u 15, u 16, u 17, u 18, u 19, u 20, u 21, u 22, u 23, u 24, u 25, u 26, u 27, u 28, u 29, u 30, u 31, u 32, u 33, u 34, u 35, u 36], defers := [] }) ∧ okN rows i = true ∧ i ≤ rows.length
set_option maxRecDepth 100000 in
set_option maxHeartbeats 2000000 in
theorem c_ref28Right (p : Option Addr) (cap : Nat) (rows : List RawT) (w : World) (h : RawsIn w p rows) (hfw : FewP rows) (hfn : FewN rows) (hmx : rows.length ≤ 100) :
    Calls Tryz.prog 18 #[.agg #[.slice p rows.length cap]] w fun e w' => e = .returned (.bool (modelB rows)) ∧ Below w.heap.size w w' := by
  obtain ⟨RES, hRES⟩ : ∃ x, modelB rows = x := ⟨_, rfl⟩
  rw [hRES]
  replace hRES := Lib.hid hRES
  go_enter Tryz.func18, Tryz.ntmps18
  go_upto_region 1 with (fail)
  refine wp_cutB w (Bc w.heap.size #[.slice p rows.length cap] 27 <| Bz) ?_
  rintro W1 hW z2 ⟨⟨b1, yb1, k1, f1⟩, -⟩
  go_wp2
  clear k1 f1
  refine wp_loop (rgtRel w p cap rows) (fun a' _ => rows.length - (intAt (a'.tmps.getD 8 undef)).toNat) ?_ ?_
  · unfold rgtRel
    exact ⟨hW, b1, 0, frame_ex rfl, rfl, Nat.zero_le _⟩
  clear b1 hW
  rintro a' W ⟨hW0, b1, i, ⟨u, rfl⟩, hi, hi'⟩
  have hz := hW0.size
  have yb1 := b1.lt
  rcases Nat.lt_or_ge i rows.length with hlt | hge
  · obtain ⟨r0, tr⟩ : ∃ x, rows[i]? = some x := ⟨rows[i]'(by omega), List.getElem?_eq_getElem (by omega)⟩
    have hR := h.below hW0
    obtain ⟨b0, o0, p0, c0, rfl, h1, hps, hpc⟩ := hR.at' i _ tr
    have hf1 := hfw i _ tr
    have hf2 := hfn i _ tr
    have hnx := okN_next tr
    rw [hi, Bool.true_and] at hnx
    have cP := fun W' (hW' : Below W.heap.size W W') => c_ref28Raw r0 p0 c0 W' (hps.below hW') hf1 hf2
    obtain ⟨PB, hPB⟩ : ∃ B, rawB r0 = B := ⟨_, rfl⟩
    obtain ⟨F, hF⟩ : ∃ B, okAtB rows i r0 = B := ⟨_, rfl⟩
    rw [hF] at hnx
    have hno := Lib.hid (fun (e : F = false) => (show RES = false by rw [← hRES.out, modelB, okN_no (hnx.trans e) hlt, Bool.false_and]))
    have hst := Lib.hid (fun (e : F = true) => (show okN rows (i + 1) = true from hnx.trans e))
    rw [hPB] at cP
    unfold rawA at cP h1
    replace cP := Lib.hid cP
    have s0 := h1 0 _ rfl
    have s1 := h1 1 _ rfl
    have s2 := h1 2 _ rfl
    have s3 := h1 3 _ rfl
    have s4 := h1 4 _ rfl
    have s5 := h1 5 _ rfl
    simp only [Nat.add_zero] at s0
    by_cases h0 : i = 0
    · have E0 := Lib.hid (show decide (0 < i) = false from decide_eq_false (by omega))
      have hv := Lib.hid (show (!PB || false) = !F by rw [← hF, h0]; simp [okAtB, hPB])
      clear hps hpc hPB tr hi h0 h1 hF hnx
      have k1 := b1.cell
      have f1 := b1.frozen
      go_upto_region 4 with (fail)
      clear k1 f1
      refine wp_cutB W (Bc w.heap.size #[.slice (some ⟨b0, o0, none⟩) rows.length cap] 27 <| Bc W.heap.size #[.string r0.name, .int .i64 r0.eps, .int .i64 r0.floor, .int .i64 r0.last, .int .i64 r0.scale, .slice p0 r0.pts.length c0] 35 <| Bz) ?_
      clear b1
      rintro W21 hW z22 hL
      obtain ⟨⟨b1, yb1, k1, f1⟩, ⟨b2, yb2, k2, f2⟩, -⟩ := id hL
      clear k1 f1 k2 f2
      refine wp_regD 19 37 hW hL ?_
      refine dE (fun W' hC => E0.out) ?_
      refine cE (fun W' hC => E0.out) (fun W' hC => cP.out W' (hW.trans (hC.1.of_priv hW.size))) ?_
      iterate 2 refine dE (fun W' hC => E0.out) ?_
      iterate 3 refine gE (fun W' hC => E0.out) ?_
      apply nd_detg (c := undef) (hg := rfl) (hd := rfl) (hal := rfl)
      · intro v W' h
        exact h
      · intro hp hx
        cases hx
      apply nd_detg (c := undef) (hg := rfl) (hd := rfl) (hal := rfl)
      · intro v W' h
        exact h
      · intro hp hx
        cases hx
      apply nd_detg (c := undef) (hg := rfl) (hd := rfl) (hal := rfl)
      · intro v W' h
        exact h
      · intro hp hx
        cases hx
      apply nd_detg (c := undef) (hg := rfl) (hd := rfl) (hal := rfl)
      · intro v W' h
        exact h
      · intro hp hx
        cases hx
      apply nd_detg (c := undef) (hg := rfl) (hd := rfl) (hal := rfl)
      · intro v W' h
        exact h
      · intro hp hx
        cases hx
      apply nd_detg (c := undef) (hg := rfl) (hd := rfl) (hal := rfl)
      · intro v W' h
        exact h
      · intro hp hx
        cases hx
      apply nd_detg (c := undef) (hg := rfl) (hd := rfl) (hal := rfl)
      · intro v W' h
        exact h
      · intro hp hx
        cases hx
      apply nd_detg (c := undef) (hg := rfl) (hd := rfl) (hal := rfl)
      · intro v W' h
        exact h
      · intro hp hx
        cases hx
      apply nd_detg (c := undef) (hg := rfl) (hd := rfl) (hal := rfl)
      · intro v W' h
        exact h
      · intro hp hx
        cases hx
      apply nd_detg (c := undef) (hg := rfl) (hd := rfl) (hal := rfl)
      · intro v W' h
        exact h
      · intro hp hx
        cases hx
      apply nd_pickg_and (p := true) (x := false) (y := false) (ho := rfl) (hg := rfl) (hd := rfl)
      · intro v W' h
        simp [envOf, Det, GDet] at h
        simp
        exact h
      · intro _ hx v W' h
        simp [envOf, Det, GDet, hx] at h
        exact h
      · intro _ hx v W' h hy
        cases hy
      refine pO ?_
      clear hW hL b1 b2
      rintro W23 hW z24 hL
      simp only [ndR]
      intros
      repeat (rename GDet _ _ _ _ => hgd; clear hgd)
      simp only [ndS]
      refine wpList_nil ?_
      obtain ⟨⟨b1, yb1, k1, f1⟩, ⟨b2, yb2, k2, f2⟩, -⟩ := hL
      rw [hv.out]
      cases F with
      | false =>
        go_wp2
        go_ret
        exact ⟨by rw [hno.out (by trivial)]; rfl, hW0.trans (hW.mono hz)⟩
      | true =>
        go_wp2
        rw [show (i : Int) + 1 = ((i + 1 : Nat) : Int) by omega]
        refine ⟨?_, by simp [intAt]; omega⟩
        unfold rgtRel
        exact ⟨hW0.trans (hW.mono hz), b1, i + 1, frame_ex rfl, hst.out (by trivial), by omega⟩
    · obtain ⟨j, hj⟩ : ∃ j, i = j + 1 := ⟨i - 1, by omega⟩
      obtain ⟨n0, tn⟩ : ∃ x, rows[j]? = some x := ⟨rows[j]'(by omega), List.getElem?_eq_getElem (by omega)⟩
      obtain ⟨b9, o9, p1, c1, e9, h2, -, -⟩ := hR.at' j _ tn
      injection e9 with e9
      injection e9 with e91 e92 _
      subst e91
      subst e92
      have E0 := Lib.hid (show decide (0 < i) = true from decide_eq_true (by omega))
      have E1 := Lib.hid (show wrap64 ((i : Int) - 1) = (j : Int) by rw [wrap64_eq]; omega)
      have g1 : j < rows.length := by omega
      have hv := Lib.hid (show (!PB || !Op.bytesLess n0.name.toList r0.name.toList) = !F by rw [← hF, hj]; simp [okAtB, hPB, tn, Bool.not_and])
      unfold rawA at h2
      clear hps hpc hPB tr hi h0 h1 hj tn hF hnx
      have k1 := b1.cell
      have f1 := b1.frozen
      go_upto_region 4 with (fail)
      clear k1 f1
      refine wp_cutB W (Bc w.heap.size #[.slice (some ⟨b0, o0, none⟩) rows.length cap] 27 <| Bc W.heap.size #[.string r0.name, .int .i64 r0.eps, .int .i64 r0.floor, .int .i64 r0.last, .int .i64 r0.scale, .slice p0 r0.pts.length c0] 35 <| Rc (fun W' => CellsP W' b0 (o0 + j * 6) #[.string n0.name, .int .i64 n0.eps, .int .i64 n0.floor, .int .i64 n0.last, .int .i64 n0.scale, .slice p1 n0.pts.length c1]) <| Bz) ?_ (hI := by exact belowAny) (hR := (Bc.mk (by exact blkAny2) <| Bc.mk (by exact blkAny2) <| Rc.mk (by first | exact ⟨h2⟩ | (exact (CellsP.mk h2).below belowAny)) <| trivial))
      clear b1
      rintro W21 hW z22 hL
      obtain ⟨⟨b1, yb1, k1, f1⟩, ⟨b2, yb2, k2, f2⟩, b3, -⟩ := id hL
      clear k1 f1 k2 f2
      refine wp_regD 19 37 hW hL ?_
      refine dE (fun W' hC => aI E0.out (aI strGeq (aI hlt (aI (Nat.not_le.2 hlt) (aI E1.out (aI g1 (aI (Nat.not_le.2 g1) (hC.2.2.2.1.at' 0 _ rfl)))))))) ?_
      refine cE (fun W' hC => aI E0.out (aI strGeq (aI hlt (aI (Nat.not_le.2 hlt) (aI E1.out (aI g1 (aI (Nat.not_le.2 g1) (hC.2.2.2.1.at' 0 _ rfl)))))))) (fun W' hC => cP.out W' (hW.trans (hC.1.of_priv hW.size))) ?_
      iterate 2 refine dE (fun W' hC => aI E0.out (aI strGeq (aI hlt (aI (Nat.not_le.2 hlt) (aI E1.out (aI g1 (aI (Nat.not_le.2 g1) (hC.2.2.2.1.at' 0 _ rfl)))))))) ?_
      iterate 3 refine gE (fun W' hC => aI E0.out (aI strGeq (aI hlt (aI (Nat.not_le.2 hlt) (aI E1.out (aI g1 (aI (Nat.not_le.2 g1) (hC.2.2.2.1.at' 0 _ rfl)))))))) ?_
      iterate 10 refine gF (fun W' hC => aI E0.out (aI strGeq (aI hlt (aI (Nat.not_le.2 hlt) (aI E1.out (aI g1 (aI (Nat.not_le.2 g1) (hC.2.2.2.1.at' 0 _ rfl)))))))) ?_
      refine pgA ?_
      refine pO ?_
      clear hW hL b1 b2 b3
      rintro W23 hW z24 hL
      simp only [ndR]
      intros
      repeat (rename GDet _ _ _ _ => hgd; clear hgd)
      simp only [ndS]
      refine wpList_nil ?_
      obtain ⟨⟨b1, yb1, k1, f1⟩, ⟨b2, yb2, k2, f2⟩, b3, -⟩ := hL
      rw [hv.out]
      cases F with
      | false =>
        go_wp2
        go_ret
        exact ⟨by rw [hno.out (by trivial)]; rfl, hW0.trans (hW.mono hz)⟩
      | true =>
        go_wp2
        rw [show (i : Int) + 1 = ((i + 1 : Nat) : Int) by omega]
        refine ⟨?_, by simp [intAt]; omega⟩
        unfold rgtRel
        exact ⟨hW0.trans (hW.mono hz), b1, i + 1, frame_ex rfl, hst.out (by trivial), by omega⟩
  · obtain rfl : i = rows.length := by omega
    have hres := Lib.hid (show RES = decide (rows.length ≤ 8) by rw [← hRES.out, modelB, hi, Bool.true_and])
    clear hi hRES
    have k1 := b1.cell
    go_wp2
    go_ret
    exact ⟨by rw [hres.out, show decide ((rows.length : Int) ≤ 8) = decide (rows.length ≤ 8) by rw [Bool.eq_iff_iff]; simp; omega]; rfl, hW0⟩
end Go.Proofs.YtdeghcgakkhbmaaGreat
namespace Go.Proofs.YtdeghcgakkhbmaaGreat
open Go.RowKit
def ckRel (w : World) (p : Option Addr) (cap : Nat) (rows : List RawT) (a' : Act) (W : World) : Prop :=
  Below w.heap.size w W ∧ Blk W w.heap.size #[.slice p rows.length cap] 27 ∧ ∃ (i : Nat) (ok : Bool), (∃ u : Nat → Value, a' = { tmps := #[u 0, .pointer (some ⟨w.heap.size, 0, none⟩), .int .i64 0, .bool ok, u 4, u 5, u 6, u 7, u 8, u 9, u 10, .slice p rows.length cap, .int .i64 (rows.length : Int), .int .i64 (i : Int), u 14, u 15, u 16, u 17, u 18, u 19, u 20, u 21, u 22, u 23, u 24, u 25, u 26, u 27, u 28, u 29, u 30, u 31, u 32, u 33, u 34, u 35, u 36, u 37, u 38, u 39, u 40, u 41, u 42], defers := [] }) ∧ ok = (decide (rows.length ≤ 8) && okN rows i) ∧ i ≤ rows.length
set_option maxRecDepth 100000 in
set_option maxHeartbeats 2000000 in
theorem c_mdCheck (p : Option Addr) (cap : Nat) (rows : List RawT) (w : World) (h : RawsIn w p rows) (hfw : FewP rows) (hmx : rows.length ≤ 100) :
    Calls Tryz.prog 30 #[.agg #[.slice p rows.length cap]] w fun e w' => e = .returned (.int .i64 (if modelB rows = true then 0 else 380)) ∧ Below w.heap.size w w' := by
  obtain ⟨RES, hRES⟩ : ∃ x : Int, (if modelB rows = true then 0 else 380) = x := ⟨_, rfl⟩
  rw [hRES]
  replace hRES := Lib.hid hRES
  go_enter Tryz.func30, Tryz.ntmps30
  go_upto_region 1 with (fail)
  refine wp_cutB w (Bc w.heap.size #[.slice p rows.length cap] 27 <| Bz) ?_
  rintro W1 hW z2 ⟨⟨b1, yb1, k1, f1⟩, -⟩
  go_wp2
  clear k1 f1
  refine wp_loop (ckRel w p cap rows) (fun a' _ => rows.length - (intAt (a'.tmps.getD 13 undef)).toNat) ?_ ?_
  · unfold ckRel
    exact ⟨hW, b1, 0, _, frame_ex rfl, by rw [show decide ((rows.length : Int) ≤ 8) = decide (rows.length ≤ 8) by rw [Bool.eq_iff_iff]; simp; omega]; simp [okN], Nat.zero_le _⟩
  clear b1 hW
  rintro a' W ⟨hW0, b1, i, ok, ⟨u, rfl⟩, hi, hi'⟩
  have hz := hW0.size
  have yb1 := b1.lt
  rcases Nat.lt_or_ge i rows.length with hlt | hge
  · obtain ⟨r0, tr⟩ : ∃ x, rows[i]? = some x := ⟨rows[i]'(by omega), List.getElem?_eq_getElem (by omega)⟩
    have hR := h.below hW0
    obtain ⟨b0, o0, p0, c0, rfl, h1, hps, hpc⟩ := hR.at' i _ tr
    have hf1 := hfw i _ tr
    have hnx := okN_next tr
    have cP := fun W' (hW' : Below W.heap.size W W') => c_mdCheckRaw r0 p0 c0 W' (hps.below hW') hf1
    obtain ⟨PB, hPB⟩ : ∃ B, rawB r0 = B := ⟨_, rfl⟩
    rw [hPB] at cP
    obtain ⟨EV, hEV⟩ : ∃ B : Int, (if PB = true then 0 else 380) = B := ⟨_, rfl⟩
    rw [hEV] at cP
    have hE9 : PB = (EV == 0) := by rw [← hEV]; cases PB <;> rfl
    unfold rawA at cP h1
    replace cP := Lib.hid cP
    have s0 := h1 0 _ rfl
    have s1 := h1 1 _ rfl
    have s2 := h1 2 _ rfl
    have s3 := h1 3 _ rfl
    have s4 := h1 4 _ rfl
    have s5 := h1 5 _ rfl
    simp only [Nat.add_zero] at s0
    by_cases h0 : i = 0
    · have E0 := Lib.hid (show ((i : Int) == 0) = true by rw [h0]; rfl)
      have F0 := Lib.hid (show decide (i = 0) = true from decide_eq_true h0)
      have hv := Lib.hid (show ((ok && EV == 0) && true) = (decide (rows.length ≤ 8) && okN rows (i + 1)) by rw [hnx, hi, ← hE9, h0]; simp [okAtB, hPB, Bool.and_assoc])
      clear hps hpc hPB tr hi h0 h1 hnx hEV hE9
      have k1 := b1.cell
      have f1 := b1.frozen
      go_upto_region 5 with (fail)
      clear k1 f1
      refine wp_cutB W (Bc w.heap.size #[.slice (some ⟨b0, o0, none⟩) rows.length cap] 27 <| Bc W.heap.size #[.string r0.name, .int .i64 r0.eps, .int .i64 r0.floor, .int .i64 r0.last, .int .i64 r0.scale, .slice p0 r0.pts.length c0] 35 <| Bz) ?_
      clear b1
      rintro W21 hW z22 hL
      obtain ⟨⟨b1, yb1, k1, f1⟩, ⟨b2, yb2, k2, f2⟩, -⟩ := id hL
      clear k1 f1 k2 f2
      refine wp_regD 23 43 hW hL ?_
      iterate 2 refine dE (fun W' hC => aI E0.out F0.out) ?_
      refine gE (fun W' hC => aI E0.out F0.out) ?_
      apply nd_callvg2 (p := true) (hg := rfl) (hd := rfl) (hal := rfl)
      · intro v W' h
        simp [envOf, Det] at h
        simp
        exact h
      · intro hp hx W' hC
        exact cP.out W' (hW.trans (hC.1.of_priv hW.size))
      · intro hp hx a W' hC hE
        obtain ⟨_, ⟨-, -, k1, -⟩, ⟨-, -, k2, -⟩, -⟩ := hC
        first
          | (simp [Oper.looksAt, Op.operands, Call.operands, envOf, Det, GDet, hx] at hE; simp [go_sem, Act.eval, IntWalk.i64_left, hE, k1, k2, E0.out, F0.out]; try rfl)
          | (clear hE; simp [go_sem, Act.eval, IntWalk.i64_left, k1, k2, E0.out, F0.out]; try rfl)
      refine gE (fun W' hC => aI E0.out F0.out) ?_
      refine pA ?_
      refine dE (fun W' hC => aI E0.out F0.out) ?_
      iterate 3 refine gE (fun W' hC => aI E0.out F0.out) ?_
      apply nd_detg (c := undef) (hg := rfl) (hd := rfl) (hal := rfl)
      · intro v W' h
        exact h
      · intro hp hx
        cases hx
      apply nd_detg (c := undef) (hg := rfl) (hd := rfl) (hal := rfl)
      · intro v W' h
        exact h
      · intro hp hx
        cases hx
      apply nd_detg (c := undef) (hg := rfl) (hd := rfl) (hal := rfl)
      · intro v W' h
        exact h
      · intro hp hx
        cases hx
      apply nd_detg (c := undef) (hg := rfl) (hd := rfl) (hal := rfl)
      · intro v W' h
        exact h
      · intro hp hx
        cases hx
      apply nd_detg (c := undef) (hg := rfl) (hd := rfl) (hal := rfl)
      · intro v W' h
        exact h
      · intro hp hx
        cases hx
      apply nd_detg (c := undef) (hg := rfl) (hd := rfl) (hal := rfl)
      · intro v W' h
        exact h
      · intro hp hx
        cases hx
      apply nd_detg (c := undef) (hg := rfl) (hd := rfl) (hal := rfl)
      · intro v W' h
        exact h
      · intro hp hx
        cases hx
      apply nd_detg (c := undef) (hg := rfl) (hd := rfl) (hal := rfl)
      · intro v W' h
        exact h
      · intro hp hx
        cases hx
      apply nd_detg (c := undef) (hg := rfl) (hd := rfl) (hal := rfl)
      · intro v W' h
        exact h
      · intro hp hx
        cases hx
      apply nd_detg (c := undef) (hg := rfl) (hd := rfl) (hal := rfl)
      · intro v W' h
        exact h
      · intro hp hx
        cases hx
      apply nd_pickg_or (p := true) (x := true) (y := false) (ho := rfl) (hg := rfl) (hd := rfl)
      · intro v W' h
        simp [envOf, Det, GDet] at h
        simp
        exact h
      · intro _ hx v W' h
        simp [envOf, Det, GDet, hx] at h
        exact h
      · intro _ hx v W' h hy
        cases hy
      refine pA ?_
      refine dE (fun W' hC => aI E0.out F0.out) ?_
      clear hW hL b1 b2
      rintro W23 hW z24 hL
      simp only [ndR]
      intros
      repeat (rename GDet _ _ _ _ => hgd; clear hgd)
      simp only [ndS]
      refine wpList_nil ?_
      obtain ⟨⟨b1, yb1, k1, f1⟩, ⟨b2, yb2, k2, f2⟩, -⟩ := hL
      go_wp2
      rw [show (i : Int) + 1 = ((i + 1 : Nat) : Int) by omega]
      refine ⟨?_, by simp [intAt]; omega⟩
      unfold ckRel
      exact ⟨hW0.trans (hW.mono hz), b1, i + 1, _, frame_ex rfl, (by first | exact hv.out | (rw [← hv.out, Bool.and_true])), by omega⟩
    · obtain ⟨j, hj⟩ : ∃ j, i = j + 1 := ⟨i - 1, by omega⟩
      obtain ⟨n0, tn⟩ : ∃ x, rows[j]? = some x := ⟨rows[j]'(by omega), List.getElem?_eq_getElem (by omega)⟩
      obtain ⟨b9, o9, p1, c1, e9, h2, -, -⟩ := hR.at' j _ tn
      injection e9 with e9
      injection e9 with e91 e92 _
      subst e91
      subst e92
      have E0 := Lib.hid (show ((i : Int) == 0) = false by rw [beq_eq_false_iff_ne]; omega)
      have F0 := Lib.hid (show decide (i = 0) = false from decide_eq_false h0)
      have E1 := Lib.hid (show wrap64 ((i : Int) - 1) = (j : Int) by rw [wrap64_eq]; omega)
      have g1 : j < rows.length := by omega
      have hv := Lib.hid (show ((ok && EV == 0) && Op.bytesLess n0.name.toList r0.name.toList) = (decide (rows.length ≤ 8) && okN rows (i + 1)) by rw [hnx, hi, ← hE9, hj]; simp [okAtB, hPB, tn, Bool.and_assoc])
      unfold rawA at h2
      clear hps hpc hPB tr hi h0 h1 hj tn hnx hEV hE9
      have k1 := b1.cell
      have f1 := b1.frozen
      go_upto_region 5 with (fail)
      clear k1 f1
      refine wp_cutB W (Bc w.heap.size #[.slice (some ⟨b0, o0, none⟩) rows.length cap] 27 <| Bc W.heap.size #[.string r0.name, .int .i64 r0.eps, .int .i64 r0.floor, .int .i64 r0.last, .int .i64 r0.scale, .slice p0 r0.pts.length c0] 35 <| Rc (fun W' => CellsP W' b0 (o0 + j * 6) #[.string n0.name, .int .i64 n0.eps, .int .i64 n0.floor, .int .i64 n0.last, .int .i64 n0.scale, .slice p1 n0.pts.length c1]) <| Bz) ?_ (hI := by exact belowAny) (hR := (Bc.mk (by exact blkAny2) <| Bc.mk (by exact blkAny2) <| Rc.mk (by first | exact ⟨h2⟩ | (exact (CellsP.mk h2).below belowAny)) <| trivial))
      clear b1
      rintro W21 hW z22 hL
      obtain ⟨⟨b1, yb1, k1, f1⟩, ⟨b2, yb2, k2, f2⟩, b3, -⟩ := id hL
      clear k1 f1 k2 f2
      refine wp_regD 23 43 hW hL ?_
      iterate 2 refine dE (fun W' hC => aI E0.out (aI F0.out (aI hlt (aI (Nat.not_le.2 hlt) (aI E1.out (aI g1 (aI (Nat.not_le.2 g1) (hC.2.2.2.1.at' 0 _ rfl)))))))) ?_
      refine gE (fun W' hC => aI E0.out (aI F0.out (aI hlt (aI (Nat.not_le.2 hlt) (aI E1.out (aI g1 (aI (Nat.not_le.2 g1) (hC.2.2.2.1.at' 0 _ rfl)))))))) ?_
      apply nd_callvg2 (p := true) (hg := rfl) (hd := rfl) (hal := rfl)
      · intro v W' h
        simp [envOf, Det] at h
        simp
        exact h
      · intro hp hx W' hC
        exact cP.out W' (hW.trans (hC.1.of_priv hW.size))
      · intro hp hx a W' hC hE
        obtain ⟨_, ⟨-, -, k1, -⟩, ⟨-, -, k2, -⟩, k3, -⟩ := hC
        have t0 := k3.at' 0 _ rfl; simp only [Nat.add_zero] at t0
        first
          | (simp [Oper.looksAt, Op.operands, Call.operands, envOf, Det, GDet, hx] at hE; simp [go_sem, Act.eval, IntWalk.i64_left, hE, k1, k2, k3, E0.out, F0.out, hlt, Nat.not_le.2 hlt, E1.out, g1, Nat.not_le.2 g1, t0]; try rfl)
          | (clear hE; simp [go_sem, Act.eval, IntWalk.i64_left, k1, k2, k3, E0.out, F0.out, hlt, Nat.not_le.2 hlt, E1.out, g1, Nat.not_le.2 g1, t0]; try rfl)
      refine gE (fun W' hC => aI E0.out (aI F0.out (aI hlt (aI (Nat.not_le.2 hlt) (aI E1.out (aI g1 (aI (Nat.not_le.2 g1) (hC.2.2.2.1.at' 0 _ rfl)))))))) ?_
      refine pA ?_
      refine dE (fun W' hC => aI E0.out (aI F0.out (aI hlt (aI (Nat.not_le.2 hlt) (aI E1.out (aI g1 (aI (Nat.not_le.2 g1) (hC.2.2.2.1.at' 0 _ rfl)))))))) ?_
      iterate 3 refine gE (fun W' hC => aI E0.out (aI F0.out (aI hlt (aI (Nat.not_le.2 hlt) (aI E1.out (aI g1 (aI (Nat.not_le.2 g1) (hC.2.2.2.1.at' 0 _ rfl)))))))) ?_
      iterate 10 refine gF (fun W' hC => aI E0.out (aI F0.out (aI hlt (aI (Nat.not_le.2 hlt) (aI E1.out (aI g1 (aI (Nat.not_le.2 g1) (hC.2.2.2.1.at' 0 _ rfl)))))))) ?_
      refine pgO ?_
      refine pA ?_
      refine dE (fun W' hC => aI E0.out (aI F0.out (aI hlt (aI (Nat.not_le.2 hlt) (aI E1.out (aI g1 (aI (Nat.not_le.2 g1) (hC.2.2.2.1.at' 0 _ rfl)))))))) ?_
      clear hW hL b1 b2 b3
      rintro W23 hW z24 hL
      simp only [ndR]
      intros
      repeat (rename GDet _ _ _ _ => hgd; clear hgd)
      simp only [ndS]
      refine wpList_nil ?_
      obtain ⟨⟨b1, yb1, k1, f1⟩, ⟨b2, yb2, k2, f2⟩, b3, -⟩ := hL
      go_wp2
      rw [show (i : Int) + 1 = ((i + 1 : Nat) : Int) by omega]
      refine ⟨?_, by simp [intAt]; omega⟩
      unfold ckRel
      exact ⟨hW0.trans (hW.mono hz), b1, i + 1, _, frame_ex rfl, (by first | exact hv.out | (rw [← hv.out, Bool.and_true])), by omega⟩
  · obtain rfl : i = rows.length := by omega
    have hres := Lib.hid (show RES = if ok = true then 0 else 380 by rw [← hRES.out, modelB, hi, Bool.and_comm])
    clear hi hRES
    cases ok with
    | true =>
      go_wp2
      go_ret
      exact ⟨by rw [hres.out]; rfl, hW0⟩
    | false =>
      go_wp2
      go_ret
      exact ⟨by rw [hres.out]; rfl, hW0⟩
end Go.Proofs.YtdeghcgakkhbmaaGreat
namespace Go.Proofs.YtdeghcgakkhbmaaGreat
open Go.RowKit
theorem blt_eq : ∀ (x y : List UInt8), Op.bytesLess x y = decide (x < y)
  | [], [] => by simp [Op.bytesLess]
  | _ :: _, [] => by simp [Op.bytesLess]
  | [], _ :: _ => by simp [Op.bytesLess]
  | a :: x, b :: y => by
    rw [Op.bytesLess, blt_eq x y]
    simp only [List.cons_lt_cons_iff]
    by_cases h1 : a < b <;> by_cases h2 : a = b <;> by_cases h3 : x < y <;> simp [h1, h2, h3]
theorem blt_trans {x y z : List UInt8} (h : Op.bytesLess x y = true) (h' : Op.bytesLess y z = true) : Op.bytesLess x z = true := by
  rw [blt_eq, decide_eq_true_eq] at h h' ⊢
  exact List.lt_trans h h'
theorem blt_irrefl (x : List UInt8) : Op.bytesLess x x = false := by
  rw [blt_eq, decide_eq_false_iff_not]
  exact List.lt_irrefl x
/-- what the layer's comparison of names says -/
def cmpN (a b : ByteArray) : Int := if Op.bytesLess a.toList b.toList then -1 else if a.toList == b.toList then 0 else 1
theorem cmpN_neg (a b : ByteArray) : decide (cmpN a b < 0) = Op.bytesLess a.toList b.toList := by
  unfold cmpN
  cases Op.bytesLess a.toList b.toList <;> cases (a.toList == b.toList) <;> rfl
theorem cmpN_zero (a b : ByteArray) (h : Op.bytesLess a.toList b.toList = false) : (cmpN a b == 0) = (a.toList == b.toList) := by
  unfold cmpN
  rw [h]
  cases (a.toList == b.toList) <;> rfl
set_option maxRecDepth 100000 in
set_option maxHeartbeats 2000000 in
theorem c_mdCmp (r : RawT) (p : Option Addr) (cap : Nat) (nm : ByteArray) (w : World) : Calls Tryz.prog 120 #[.agg (rawA r p cap), .string nm] w fun e w' => e = .returned (.int .i64 (cmpN r.name nm)) ∧ Below w.heap.size w w' := by
  unfold rawA
  obtain ⟨RES, hRES⟩ : ∃ x, cmpN r.name nm = x := ⟨_, rfl⟩
  rw [hRES]
  replace hRES := Lib.hid hRES
  go_enter Tryz.func120, Tryz.ntmps120
  go_upto_region 1 with (fail)
  refine wp_cutB w (Bc w.heap.size #[.string r.name, .int .i64 r.eps, .int .i64 r.floor, .int .i64 r.last, .int .i64 r.scale, .slice p r.pts.length cap] 35 <| Bz) ?_
  rintro W1 hW z2 ⟨⟨b1, yb1, k1, f1⟩, -⟩
  cases hA : Op.bytesLess r.name.toList nm.toList with
  | true =>
    have hv := Lib.hid (show RES = -1 by rw [← hRES.out, cmpN, hA]; rfl)
    go_wp2
    go_ret
    exact ⟨by rw [hv.out]; rfl, by exact belowAny⟩
  | false =>
    cases hB : (r.name.toList == nm.toList) with
    | true =>
      have hv := Lib.hid (show RES = 0 by rw [← hRES.out, cmpN, hA, hB]; rfl)
      go_wp2
      go_ret
      exact ⟨by rw [hv.out]; rfl, by exact belowAny⟩
    | false =>
      have hv := Lib.hid (show RES = 1 by rw [← hRES.out, cmpN, hA, hB]; rfl)
      go_wp2
      go_ret
      exact ⟨by rw [hv.out]; rfl, by exact belowAny⟩
/-- The names of a model's raw series go up. -/
def SortedN (rows : List RawT) : Prop := ∀ (k l : Nat) a b, k < l → rows[k]? = some a → rows[l]? = some b → Op.bytesLess a.name.toList b.name.toList = true
theorem okN_adj {rows : List RawT} : ∀ {n : Nat}, okN rows n = true → ∀ (j : Nat) a b, j + 1 < n → rows[j]? = some a → rows[j + 1]? = some b → Op.bytesLess a.name.toList b.name.toList = true
  | 0, _, j, _, _, hj, _, _ => by omega
  | n + 1, h, j, a, b, hj, ha, hb => by
    rcases Nat.lt_or_ge (j + 1) n with h1 | h1
    · simp only [okN, Bool.and_eq_true] at h
      exact okN_adj h.1 j a b h1 ha hb
    · obtain rfl : n = j + 1 := by omega
      rw [okN_next hb, Bool.and_eq_true] at h
      have h2 := h.2
      simp only [okAtB, ha, Bool.and_eq_true] at h2
      exact h2.2
theorem okN_sorted {rows : List RawT} (h : okN rows rows.length = true) : SortedN rows := fun k l a b hkl ha hb => by
  obtain ⟨d, rfl⟩ : ∃ d, l = k + 1 + d := ⟨l - (k + 1), by omega⟩
  clear hkl
  induction d generalizing b with
  | zero => exact okN_adj h k a b (List.getElem?_eq_some_iff.1 hb).1 ha hb
  | succ d ih =>
    have hl := (List.getElem?_eq_some_iff.1 hb).1
    have hc : rows[k + 1 + d]? = some (rows[k + 1 + d]'(by omega)) := List.getElem?_eq_getElem (by omega)
    exact blt_trans (ih _ hc) (okN_adj h (k + 1 + d) _ b (by omega) hc hb)
/-- Where a name stands, or would. -/
structure PosAt (rows : List RawT) (nm : ByteArray) (i : Nat) : Prop where
  le : i ≤ rows.length
  lo : ∀ (k : Nat) r, k < i → rows[k]? = some r → Op.bytesLess r.name.toList nm.toList = true
  hi : ∀ (k : Nat) r, i ≤ k → rows[k]? = some r → Op.bytesLess r.name.toList nm.toList = false
def foundB (rows : List RawT) (nm : ByteArray) (i : Nat) : Bool := match rows[i]? with
  | some r => r.name.toList == nm.toList
  | none => false
theorem lo_more {rows : List RawT} {nm : ByteArray} {m : Nat} {r : RawT} (hs : SortedN rows) (hr : rows[m]? = some r) (h : Op.bytesLess r.name.toList nm.toList = true) : ∀ (k : Nat) q, k < m + 1 → rows[k]? = some q → Op.bytesLess q.name.toList nm.toList = true := fun k q hk hq => by
  rcases Nat.lt_or_ge k m with h1 | h1
  · exact blt_trans (hs k m q r h1 hq hr) h
  · obtain rfl : k = m := by omega
    rw [hr] at hq
    obtain rfl := Option.some.inj hq
    exact h
theorem hi_more {rows : List RawT} {nm : ByteArray} {m : Nat} {r : RawT} (hs : SortedN rows) (hr : rows[m]? = some r) (h : Op.bytesLess r.name.toList nm.toList = false) : ∀ (k : Nat) q, m ≤ k → rows[k]? = some q → Op.bytesLess q.name.toList nm.toList = false := fun k q hk hq => by
  rcases Nat.lt_or_ge m k with h1 | h1
  · cases hc : Op.bytesLess q.name.toList nm.toList with
    | false => rfl
    | true => rw [blt_trans (hs m k r q h1 hr hq) hc] at h; cases h
  · obtain rfl : k = m := by omega
    rw [hr] at hq
    obtain rfl := Option.some.inj hq
    exact h
theorem pos_found {rows : List RawT} {nm : ByteArray} {i : Nat} (hs : SortedN rows) (h : PosAt rows nm i) (hf : foundB rows nm i = true) : atR rows nm = (i : Int) := by
  unfold foundB at hf
  cases hr : rows[i]? with
  | none => rw [hr] at hf; cases hf
  | some r =>
    rw [hr] at hf
    refine atR_here (fun k q hk hq => ?_) hr hf
    cases hc : (q.name.toList == nm.toList) with
    | false => rfl
    | true =>
      have h1 := h.lo k q hk hq
      rw [beq_iff_eq.1 hc, blt_irrefl] at h1
      cases h1
theorem pos_none {rows : List RawT} {nm : ByteArray} {i : Nat} (hs : SortedN rows) (h : PosAt rows nm i) (hf : foundB rows nm i = false) : atR rows nm = -1 := by
  refine atR_none (i := rows.length) (fun k q hk hq => ?_) (Nat.le_refl _)
  cases hc : (q.name.toList == nm.toList) with
  | false => rfl
  | true =>
    have hc' := beq_iff_eq.1 hc
    rcases Nat.lt_or_ge k i with h1 | h1
    · have h2 := h.lo k q h1 hq
      rw [hc', blt_irrefl] at h2
      cases h2
    · rcases Nat.lt_or_ge i k with h2 | h2
      · have hi : rows[i]? = some (rows[i]'(by omega)) := List.getElem?_eq_getElem (by omega)
        have h3 := h.hi i _ (Nat.le_refl _) hi
        have h4 := hs i k _ q h2 hi hq
        rw [hc', h3] at h4
        cases h4
      · obtain rfl : k = i := by omega
        unfold foundB at hf
        rw [hq] at hf
        exact absurd (hc.symm.trans hf) (by decide)
def bsRel (w : World) (p : Option Addr) (cap : Nat) (rows : List RawT) (nm : ByteArray) (a' : Act) (W : World) : Prop :=
  Below w.heap.size w W ∧ ∃ i j : Nat, (∃ u : Nat → Value, a' = { tmps := #[.slice p rows.length cap, .string nm, .func (.func 120) #[] #[], u 3, u 4, u 5, u 6, u 7, .int .i64 (rows.length : Int), .int .i64 (i : Int), .int .i64 (j : Int), u 11, u 12, u 13, u 14, u 15, u 16, u 17, u 18, u 19, u 20, u 21, u 22, u 23, u 24, u 25, u 26, u 27, u 28, u 29, u 30, u 31, u 32, u 33, u 34, u 35, u 36, u 37, u 38, u 39, u 40, u 41, u 42, u 43, u 44, u 45, u 46, u 47, u 48], defers := [] }) ∧ i ≤ j ∧ j ≤ rows.length ∧ (∀ (k : Nat) r, k < i → rows[k]? = some r → Op.bytesLess r.name.toList nm.toList = true) ∧ (∀ (k : Nat) r, j ≤ k → rows[k]? = some r → Op.bytesLess r.name.toList nm.toList = false)
set_option maxRecDepth 100000 in
set_option maxHeartbeats 2000000 in
theorem c_mdBin (p : Option Addr) (cap : Nat) (rows : List RawT) (nm : ByteArray) (w : World) (h : RawsIn w p rows) (hmx : rows.length ≤ 100) (hs : SortedN rows) :
    Calls Tryz.prog 119 #[.slice p rows.length cap, .string nm, .func (.func 120) #[] #[]] w fun e w' => ∃ i : Nat, e = .returned (.tuple #[.int .i64 (i : Int), .bool (foundB rows nm i)]) ∧ PosAt rows nm i ∧ Below w.heap.size w w' := by
  go_enter Tryz.func119, Tryz.ntmps119
  go_wp2
  refine wp_loop (bsRel w p cap rows nm) (fun a' _ => (intAt (a'.tmps.getD 10 undef)).toNat - (intAt (a'.tmps.getD 9 undef)).toNat) ?_ ?_
  · unfold bsRel
    exact ⟨Below.refl _ _, 0, rows.length, frame_ex rfl, Nat.zero_le _, Nat.le_refl _, fun k r hk => by omega, fun k r hk hr => by have := (List.getElem?_eq_some_iff.1 hr).1; omega⟩
  rintro a' W ⟨hW0, i, j, ⟨u, rfl⟩, hij, hj, hlo, hhi⟩
  have hz := hW0.size
  have hR := h.below hW0
  replace hlo := Lib.hid hlo
  replace hhi := Lib.hid hhi
  rcases Nat.lt_or_ge i j with hlt | hge
  · obtain ⟨r0, tr⟩ : ∃ x, rows[(i + j) / 2]? = some x := ⟨rows[(i + j) / 2]'(by omega), List.getElem?_eq_getElem (by omega)⟩
    obtain ⟨b0, o0, p0, c0, rfl, h1, hps, hpc⟩ := hR.at' _ _ tr
    have cP := fun W' (hW' : Below W.heap.size W W') => c_mdCmp r0 p0 c0 nm W'
    unfold rawA at cP h1
    obtain ⟨CV, hCV⟩ : ∃ B : Int, cmpN r0.name nm = B := ⟨_, rfl⟩
    have hneg := cmpN_neg r0.name nm
    rw [hCV] at cP hneg
    have c1 := Lib.hid cP
    clear cP hR hCV
    have s0 := h1 0 _ rfl
    have s1 := h1 1 _ rfl
    have s2 := h1 2 _ rfl
    have s3 := h1 3 _ rfl
    have s4 := h1 4 _ rfl
    have s5 := h1 5 _ rfl
    simp only [Nat.add_zero] at s0
    have g1 : (i + j) / 2 < rows.length := by omega
    cases hB : Op.bytesLess r0.name.toList nm.toList with
    | true =>
      have hn : CV < 0 := by rw [hB] at hneg; exact of_decide_eq_true hneg
      have hlo' := Lib.hid (lo_more hs tr hB)
      replace tr := Lib.hid tr
      clear hneg hB hlo
      go_wp2_with fail
      refine (c1.out _ (by first | exact Below.refl _ _ | exact belowAny)).mono ?_
      rintro e w21 ⟨rfl, hb21⟩
      have z22 := hb21.size
      try simp at z22
      refine haveB W w21 (Bz) ?_
      rintro hW z23 ⟨-⟩
      clear hb21
      go_wp2
      rw [show ((i : Int) + (j : Int)) / 2 + 1 = (((i + j) / 2 + 1 : Nat) : Int) by omega]
      refine ⟨?_, by simp [intAt]; omega⟩
      unfold bsRel
      exact ⟨hW0.trans (hW.mono hz), (i + j) / 2 + 1, j, frame_ex rfl, by omega, hj, hlo'.out, hhi.out⟩
    | false =>
      have hn : ¬ CV < 0 := by rw [hB] at hneg; exact of_decide_eq_false hneg
      have hhi' := Lib.hid (hi_more hs tr hB)
      replace tr := Lib.hid tr
      clear hneg hB hhi
      go_wp2_with fail
      refine (c1.out _ (by first | exact Below.refl _ _ | exact belowAny)).mono ?_
      rintro e w21 ⟨rfl, hb21⟩
      have z22 := hb21.size
      try simp at z22
      refine haveB W w21 (Bz) ?_
      rintro hW z23 ⟨-⟩
      clear hb21
      go_wp2
      rw [show ((i : Int) + (j : Int)) / 2 = (((i + j) / 2 : Nat) : Int) by omega]
      refine ⟨?_, by simp [intAt]; omega⟩
      unfold bsRel
      exact ⟨hW0.trans (hW.mono hz), i, (i + j) / 2, frame_ex rfl, by omega, by omega, hlo.out, hhi'.out⟩
  · obtain rfl : i = j := by omega
    have hpos : PosAt rows nm i := ⟨hj, hlo.out, hhi.out⟩
    rcases Nat.lt_or_ge i rows.length with hlt | hge2
    · obtain ⟨r0, tr⟩ : ∃ x, rows[i]? = some x := ⟨rows[i]'(by omega), List.getElem?_eq_getElem (by omega)⟩
      obtain ⟨b0, o0, p0, c0, rfl, h1, hps, hpc⟩ := hR.at' _ _ tr
      have cP := fun W' (hW' : Below W.heap.size W W') => c_mdCmp r0 p0 c0 nm W'
      unfold rawA at cP h1
      obtain ⟨CV, hCV⟩ : ∃ B : Int, cmpN r0.name nm = B := ⟨_, rfl⟩
      have hfd : foundB rows nm i = (CV == 0) := by
        rw [← hCV, cmpN_zero _ _ (hhi.out i r0 (Nat.le_refl _) tr)]
        simp [foundB, tr]
      rw [hCV] at cP
      have c1 := Lib.hid cP
      replace hfd := Lib.hid hfd
      replace hpos := Lib.hid hpos
      clear cP hR hCV tr hlo hhi
      have s0 := h1 0 _ rfl
      have s1 := h1 1 _ rfl
      have s2 := h1 2 _ rfl
      have s3 := h1 3 _ rfl
      have s4 := h1 4 _ rfl
      have s5 := h1 5 _ rfl
      simp only [Nat.add_zero] at s0
      go_wp2_with fail
      refine (c1.out _ (by first | exact Below.refl _ _ | exact belowAny)).mono ?_
      rintro e w21 ⟨rfl, hb21⟩
      have z22 := hb21.size
      try simp at z22
      refine haveB W w21 (Bz) ?_
      rintro hW z23 ⟨-⟩
      clear hb21
      go_wp2
      refine bodyPost_ret (v := .tuple #[.int .i64 (i : Int), .bool (CV == 0)]) (by simp [results, Tryz.results119, go_sem]) rfl ⟨i, by rw [hfd.out], hpos.out, hW0.trans (hW.mono hz)⟩
    · have hfd := Lib.hid (show foundB rows nm i = false by rw [foundB, List.getElem?_eq_none (by omega)])
      replace hpos := Lib.hid hpos
      clear hlo hhi
      go_wp2
      refine bodyPost_ret (v := .tuple #[.int .i64 (i : Int), .bool false]) (by simp [results, Tryz.results119, go_sem]) rfl ⟨i, by rw [hfd.out], hpos.out, hW0⟩
end Go.Proofs.YtdeghcgakkhbmaaGreat
namespace Go.Proofs.YtdeghcgakkhbmaaGreat
open Go.RowKit
theorem flatRaws_of : ∀ (l : List RawR) (j : Nat) (v : Value), (flatRaws l)[j]? = some v → ∃ i x k, l[i]? = some x ∧ (rawRA x)[k]? = some v ∧ j = i * 6 + k
  | [], j, v, h => by simp [flatRaws] at h
  | y :: l, j, v, h => by
    have e : flatRaws (y :: l) = (rawRA y).toList ++ flatRaws l := rfl
    rw [e] at h
    rcases Nat.lt_or_ge j 6 with h1 | h1
    · rw [List.getElem?_append_left (by rw [rawRA_len]; exact h1), Array.getElem?_toList] at h
      exact ⟨0, y, j, rfl, h, by omega⟩
    · rw [List.getElem?_append_right (by rw [rawRA_len]; exact h1), rawRA_len] at h
      obtain ⟨i, x, k, h2, h3, h4⟩ := flatRaws_of l (j - 6) v h
      exact ⟨i + 1, x, k, by simpa using h2, h3, by omega⟩
theorem flatRaws_one (l : List RawR) : ∀ v ∈ flatRaws l, v.oneCell' = true := fun v hv => by
  obtain ⟨j, hj⟩ := List.getElem?_of_mem hv
  obtain ⟨i, x, k, -, h, -⟩ := flatRaws_of l j v hj
  have hk : k < 6 := (Array.getElem?_eq_some_iff.1 h).1
  have hc : k = 0 ∨ k = 1 ∨ k = 2 ∨ k = 3 ∨ k = 4 ∨ k = 5 := by omega
  rcases hc with rfl | rfl | rfl | rfl | rfl | rfl <;> (injection h with h; subst h; rfl)
theorem flatRaws_set : ∀ (l : List RawR) (i : Nat) (r : RawT) (p p' : Option Addr) (c c' : Nat), l[i]? = some ⟨r, p, c⟩ → (flatRaws l).set (i * 6 + 5) (.slice p' r.pts.length c') = flatRaws (l.set i ⟨r, p', c'⟩)
  | [], i, r, p, p', c, c', h => by simp at h
  | y :: l, 0, r, p, p', c, c', h => by
    have e : y = ⟨r, p, c⟩ := by simpa using h
    subst e
    rfl
  | y :: l, i + 1, r, p, p', c, c', h => by
    have ih := flatRaws_set l i r p p' c c' (by simpa using h)
    show ((rawRA y).toList ++ flatRaws l).set ((i + 1) * 6 + 5) _ = (rawRA y).toList ++ flatRaws (l.set i ⟨r, p', c'⟩)
    rw [List.set_append_right _ _ (by rw [rawRA_len]; omega), rawRA_len, show (i + 1) * 6 + 5 - 6 = i * 6 + 5 by omega, ih]
/-- Raw series of a row, each with the place of its points. -/
theorem RawsIn.list {w : World} {ad : Addr} {rows : List RawT} (h : RawsIn w (some ad) rows) : ∃ RL : List RawR, RL.map (·.r) = rows ∧ (∀ j v, (flatRaws RL)[j]? = some v → w.cell? (ad.add j) = some v) ∧ ∀ x ∈ RL, PtsIn w x.p x.r.pts ∧ x.r.pts.length ≤ x.cap ∧ (x.p = none → x.cap = 0) := by
  have key : ∀ n, n ≤ rows.length → ∃ RL : List RawR, RL.map (·.r) = rows.take n ∧ (∀ j v, (flatRaws RL)[j]? = some v → w.cell? (ad.add j) = some v) ∧ ∀ x ∈ RL, PtsIn w x.p x.r.pts ∧ x.r.pts.length ≤ x.cap ∧ (x.p = none → x.cap = 0) := by
    intro n
    induction n with
    | zero => exact fun _ => ⟨[], by simp, fun j v hj => by simp [flatRaws] at hj, fun x hx => by cases hx⟩
    | succ n ih =>
      intro hn
      obtain ⟨RL, h1, h2, h3⟩ := ih (by omega)
      have hr : rows[n]? = some (rows[n]'(by omega)) := List.getElem?_eq_getElem (by omega)
      obtain ⟨b, o, p', cap', e, hc, hp⟩ := h.at' n _ hr
      injection e with e
      subst e
      have hl : RL.length = n := by
        have := congrArg List.length h1
        rw [List.length_map, List.length_take] at this
        omega
      refine ⟨RL ++ [⟨rows[n]'(by omega), p', cap'⟩], ?_, fun j v hj => ?_, fun x hx => ?_⟩
      · rw [List.map_append, h1, List.take_add_one, hr]; rfl
      · rw [flatRaws_snoc] at hj
        rcases Nat.lt_or_ge j (flatRaws RL).length with h4 | h4
        · rw [List.getElem?_append_left h4] at hj
          exact h2 j v hj
        · rw [List.getElem?_append_right h4, flatRaws_len, hl] at hj
          rw [flatRaws_len, hl] at h4
          have hadd : (⟨b, o, none⟩ : Addr).add j = ⟨b, o + j, none⟩ := by unfold Addr.add; split <;> simp_all
          have h5 := hc (j - n * 6) v (by rw [Array.getElem?_toList] at hj; exact hj)
          rw [hadd, show o + j = o + n * 6 + (j - n * 6) by omega]
          exact h5
      · rcases List.mem_append.1 hx with h4 | h4
        · exact h3 x h4
        · rw [List.mem_singleton.1 h4]
          exact hp
  obtain ⟨RL, h1, h2, h3⟩ := key rows.length (Nat.le_refl _)
  exact ⟨RL, by rw [h1, List.take_length], h2, h3⟩
theorem c_clonePts (p : Option Addr) (cap : Nat) (l : List (Int × Int)) (w : World) (hl : l.length ≤ 2000) (h : PtsIn w p l) (hc : l.length ≤ cap) (hn : p = none → cap = 0) :
    Calls Tryz.prog 41 #[.slice p l.length cap] w fun e w' => ∃ v, e = .returned v ∧ Below w.heap.size w w' ∧ PtS w.heap.size l.length l v w' := by
  cases p with
  | none =>
    have h0 := hn rfl
    subst h0
    have h1 : l = [] := List.length_eq_zero_iff.1 (by omega)
    subst h1
    refine (clonePt_nil w).mono ?_
    rintro e w' ⟨rfl, hB⟩
    exact ⟨_, rfl, hB, .inl ⟨rfl, rfl, rfl⟩⟩
  | some a =>
    refine (clonePtB_some a cap l w hl h).mono ?_
    rintro e w' ⟨v, rfl, hB, g, c, cur, rfl, hg, h⟩
    exact ⟨_, rfl, hB, .inr ⟨g, c, cur, rfl, hg, h⟩⟩
/-- Where the points of a raw series are: where they were at the beginning, or in a block of their own. -/
structure OwnX (w W : World) (x : RawR) : Prop where
  src : PtsIn w x.p x.r.pts ∨ PtRow W w.heap.size x.p x.r.pts
  cap : x.r.pts.length ≤ x.cap
  nil : x.p = none → x.cap = 0
theorem OwnX.pts {w W : World} {x : RawR} (h : OwnX w W x) (hW : Below w.heap.size w W) : PtsIn W x.p x.r.pts := by
  rcases h.src with h1 | h1
  · exact h1.below hW
  · exact h1.pts
structure OwnK (w W : World) (RL : List RawR) : Prop where
  at' : ∀ x, x ∈ RL → OwnX w W x
theorem OwnK.below {w W W' : World} {RL : List RawR} (h : OwnK w W RL) (hb : Below W.heap.size W W') : OwnK w W' RL := ⟨fun x hx => ⟨(h.at' x hx).src.imp (fun a => a) (fun a => a.below hb), (h.at' x hx).cap, (h.at' x hx).nil⟩⟩
theorem OwnK.set {w W : World} {RL : List RawR} {i j G c' : Nat} {r0 : RawT} {p' : Option Addr} {cs : Array Value} {u : Value} (h : OwnK w W RL) (hG : Blk W G cs 35) (hP : PtRow W w.heap.size p' r0.pts) (hc : r0.pts.length ≤ c') (hn : p' = none → c' = 0) : OwnK w (W.setCell ⟨G, j, none⟩ u) (RL.set i ⟨r0, p', c'⟩) := ⟨fun x hx => by
  rcases List.mem_or_eq_of_mem_set hx with h1 | h1
  · exact ⟨(h.at' x h1).src.imp (fun a => a) (fun a => a.other hG (by decide)), (h.at' x h1).cap, (h.at' x h1).nil⟩
  · rw [h1]
    exact ⟨.inr (hP.other hG (by decide)), hc, hn⟩⟩
theorem own_map {RL : List RawR} {rows : List RawT} {i c0 c' : Nat} {r0 : RawT} {p0 p' : Option Addr} (h : RL.map (·.r) = rows) (tx : RL[i]? = some ⟨r0, p0, c0⟩) : (RL.set i ⟨r0, p', c'⟩).map (·.r) = rows := by
  rw [List.map_set, ← h]
  apply List.ext_getElem?
  intro k
  rw [List.getElem?_set]
  by_cases hk : i = k
  · subst hk
    have hl := (List.getElem?_eq_some_iff.1 tx).1
    rw [if_pos rfl, List.length_map, if_pos hl, List.getElem?_map, tx]
    rfl
  · rw [if_neg hk]
theorem OwnK.raws {w W : World} {RL : List RawR} {rows : List RawT} {G : Nat} (h : OwnK w W RL) (hRL : RL.map (·.r) = rows) (hG : Blk W G (flatRaws RL).toArray 35) (hW : Below w.heap.size w W) : RawsIn W (some ⟨G, 0, none⟩) rows := ⟨fun i r hr => by
  rw [← hRL, List.getElem?_map] at hr
  obtain ⟨x, hx, rfl⟩ := Option.map_eq_some_iff.1 hr
  have hm := h.at' x (List.mem_of_getElem? hx)
  refine ⟨G, 0, x.p, x.cap, rfl, fun j v hv => ?_, hm.pts hW, hm.cap, hm.nil⟩
  rw [hG.cell, Nat.zero_add, List.getElem?_toArray]
  exact flatRaws_get RL i x j v hx hv⟩
/-- The points of the first raw series are in blocks of their own. -/
def OwnD (w W : World) (RL : List RawR) (i : Nat) : Prop := ∀ (k : Nat) x, k < i → RL[k]? = some x → PtRow W w.heap.size x.p x.r.pts
theorem OwnD.below {w W W' : World} {RL : List RawR} {i : Nat} (h : OwnD w W RL i) (hb : Below W.heap.size W W') : OwnD w W' RL i := fun k x hk hx => (h k x hk hx).below hb
theorem OwnD.set {w W : World} {RL : List RawR} {i j G c' : Nat} {r0 : RawT} {p' : Option Addr} {cs : Array Value} {u : Value} (h : OwnD w W RL i) (hG : Blk W G cs 35) (hP : PtRow W w.heap.size p' r0.pts) : OwnD w (W.setCell ⟨G, j, none⟩ u) (RL.set i ⟨r0, p', c'⟩) (i + 1) := fun k x hk hx => by
  rw [List.getElem?_set] at hx
  by_cases hik : i = k
  · rw [if_pos hik] at hx
    by_cases hl : i < RL.length
    · rw [if_pos hl] at hx
      obtain rfl := Option.some.inj hx
      exact hP.other hG (by decide)
    · rw [if_neg hl] at hx; cases hx
  · rw [if_neg hik] at hx
    exact (h k x (by omega) hx).other hG (by decide)
theorem OwnD.rows {w W : World} {RL : List RawR} {i o j : Nat} {cs : Array Value} {u : Value} (h : OwnD w W RL i) (hi : RL.length ≤ i) (hK : OwnK w W RL) (hB : Blk W o cs 27) : PtRows (W.setCell ⟨o, j, none⟩ u) w.heap.size RL := ⟨fun x hx => by
  obtain ⟨k, hk⟩ := List.getElem?_of_mem hx
  have hl := (List.getElem?_eq_some_iff.1 hk).1
  exact ⟨(h k x (by omega) hk).other hB (by decide), (hK.at' x hx).cap, (hK.at' x hx).nil⟩⟩
/-- A row of raw series in a block known whole, with their points. -/
theorem raws_blk {W : World} {B G : Nat} {RL : List RawR} (hG : Blk W G (flatRaws RL).toArray 35) (hP : PtRows W B RL) : RawsIn W (some ⟨G, 0, none⟩) (RL.map (·.r)) := ⟨fun i r hr => by
  rw [List.getElem?_map] at hr
  obtain ⟨x, hx, rfl⟩ := Option.map_eq_some_iff.1 hr
  have hm := hP.at' x (List.mem_of_getElem? hx)
  refine ⟨G, 0, x.p, x.cap, rfl, fun j v hv => ?_, hm.1.pts, hm.2⟩
  rw [hG.cell, Nat.zero_add, List.getElem?_toArray]
  exact flatRaws_get RL i x j v hx hv⟩
def mdoRel (w : World) (p : Option Addr) (cap : Nat) (rows : List RawT) (G : Nat) (a' : Act) (W : World) : Prop :=
  Below w.heap.size w W ∧ Blk W w.heap.size #[.slice p rows.length cap] 27 ∧ Blk W (w.heap.size + 1) #[.slice none 0 0] 27 ∧ ∃ (i : Nat) (RL : List RawR), (∃ u : Nat → Value, a' = { tmps := #[u 0, .pointer (some ⟨w.heap.size, 0, none⟩), .pointer (some ⟨(w.heap.size + 1), 0, none⟩), .slice (some ⟨G, 0, none⟩) rows.length rows.length, u 4, u 5, u 6, u 7, u 8, u 9, u 10, u 11, u 12, u 13, .slice (some ⟨G, 0, none⟩) rows.length rows.length, .int .i64 (rows.length : Int), .int .i64 (i : Int), u 17, u 18, u 19, u 20, u 21, u 22, u 23, u 24, u 25, u 26, u 27, u 28, u 29, u 30], defers := [] }) ∧ Blk W G (flatRaws RL).toArray 35 ∧ RL.map (·.r) = rows ∧ OwnK w W RL ∧ i ≤ rows.length ∧ OwnD w W RL i
set_option maxRecDepth 100000 in
set_option maxHeartbeats 2000000 in
theorem mdOwn_w (p : Option Addr) (cap : Nat) (rows : List RawT) (w : World) (h : RawsIn w p rows) (hfw : FewP rows) (hmx : rows.length ≤ 100) (hcap : p = none → cap = 0) :
    Calls Tryz.prog 46 #[.agg #[.slice p rows.length cap]] w fun e w' => ∃ (G : Nat) (RL : List RawR), e = .returned (.agg #[.slice (some ⟨G, 0, none⟩) rows.length rows.length]) ∧ Below w.heap.size w w' ∧ w.heap.size ≤ G ∧ Blk w' G (flatRaws RL).toArray 35 ∧ RL.map (·.r) = rows ∧ PtRows w' w.heap.size RL := by
  obtain ⟨i0, hi0, hz0, hz1, hz2⟩ := info_parts Tryz.infoRaw
  go_enter Tryz.func46, Tryz.ntmps46
  go_upto_region 1 with (fail)
  refine wp_cutB w (Bc w.heap.size #[.slice p rows.length cap] 27 <| Bc (w.heap.size + 1) #[.slice none 0 0] 27 <| Bz) ?_
  rintro W1 hW z2 ⟨⟨b1, yb1, k1, f1⟩, ⟨b2, yb2, k2, f2⟩, -⟩
  go_wp2_with (at_make; refine wpList_make_full _ rfl (.tmp 8) (.tmp 8) 25 rfl w.heap.size 35 i0 _ 6 (by kernel_rfl) hi0 hz0 hz1 .i64 .i64 _ _ rows.length rfl rfl rfl rfl (by rw [hz2]; omega) (by simp [maxLen]; omega) (by omega) ?_)
  intro w5 hown5 hgr5
  have h5 : Below W1.heap.size W1 w5 := Below.grown (Below.refl _ _) hgr5 (Nat.le_refl _) (fun k hk => by cases hk)
  have hz5 := h5.size
  obtain ⟨cur, hb5, hs5⟩ : ∃ cur, Blk w5 W1.heap.size cur 35 ∧ cur.size = rows.length * 6 := by
    rcases hown5.2 with ⟨e, _⟩ | ⟨g, c, cur, e, _, h1, _, _, h2, _⟩
    · injection e with e _ _; cases e
    · have e1 : W1.heap.size = g := by simpa [Value.ownBlock] using congrArg Value.ownBlock e
      injection e with _ _ e3
      subst e1
      exact ⟨cur, h1, by rw [h2, ← e3]⟩
  replace hW := hW.trans (h5.mono hW.size)
  replace b1 := b1.below h5
  replace b2 := b2.below h5
  have hGl : w.heap.size + 1 < W1.heap.size := by omega
  generalize W1.heap.size = G at *
  clear hown5 hgr5 h5 k1 k2 f1 f2
  have k1 := b1.cell
  have f1 := b1.frozen
  have k2 := b2.cell
  have f2 := b2.frozen
  obtain ⟨RL, Wc, hcp, hbc, hBc, hRLr, hRLp⟩ : ∃ (RL : List RawR) (Wc : World), (Builtin.copy_ #[25, 25] 3 #[.slice (some ⟨G, 0, none⟩) rows.length rows.length, .slice p rows.length cap]).run Tryz.prog w5 = .ok (goInt (rows.length : Nat)) Wc ∧ Blk Wc G (flatRaws RL).toArray 35 ∧ Below G w5 Wc ∧ RL.map (·.r) = rows ∧ ∀ x ∈ RL, PtsIn w x.p x.r.pts ∧ x.r.pts.length ≤ x.cap ∧ (x.p = none → x.cap = 0) := by
    cases p with
    | none =>
      have hc0 := hcap rfl
      subst hc0
      have hr0 : rows = [] := by
        cases hr : rows with
        | nil => rfl
        | cons r l =>
          obtain ⟨_, _, _, _, e, _⟩ := h.at' 0 r (by rw [hr]; rfl)
          cases e
      subst hr0
      have hcur : cur = #[] := Array.eq_empty_of_size_eq_zero (by rw [hs5]; rfl)
      subst hcur
      exact ⟨[], w5, run_copy_nil Tryz.prog w5 25 25 3 35 ⟨G, 0, none⟩ 0 0 (by kernel_rfl) (by kernel_rfl), hb5, Below.refl _ _, rfl, fun x hx => by cases hx⟩
    | some ad =>
      obtain ⟨RL, h1, h2, h3⟩ := h.list
      have hl : (flatRaws RL).length = rows.length * 6 := by rw [flatRaws_len, ← h1, List.length_map]
      have hsrc : ∀ j v, (flatRaws RL)[j]? = some v → w5.cell? (ad.add j) = some v := fun j v hj => by
        have h4 := h2 j v hj
        obtain ⟨b, o, n⟩ := ad
        exact (hW.cell (World.block_lt_of_cell? w _ h4)).trans h4
      have hrun := run_copyK Tryz.prog w5 25 25 3 35 6 G rows.length rows.length ad rows.length cap cur 35 (flatRaws RL) (by kernel_rfl) (by kernel_rfl) hb5 (by rw [hl, show Nat.min rows.length rows.length = rows.length from Nat.min_self _]) hsrc (by rw [hl, hs5]) (flatRaws_one RL)
      rw [show Nat.min rows.length rows.length = rows.length from Nat.min_self _] at hrun
      exact ⟨RL, _, hrun, setRow_heap w5 G cur _ 35 (0, 0) hb5, below_setRow (Below.refl _ _) (Nat.le_refl _) _, h1, h3⟩
  replace hW := hW.trans (hBc.mono (by omega))
  clear hb5 hs5
  replace hRLr := Lib.hid hRLr
  replace hRLp := Lib.hid hRLp
  have d1 : Blk Wc w.heap.size #[.slice p rows.length cap] 27 := (hBc.block _ (by omega)).trans b1
  have d2 : Blk Wc (w.heap.size + 1) #[.slice none 0 0] 27 := (hBc.block _ (by omega)).trans b2
  go_wp2_with fail
  refine wp_loop (mdoRel w p cap rows G) (fun a' _ => rows.length - (intAt (a'.tmps.getD 16 undef)).toNat) ?_ ?_
  · unfold mdoRel
    exact ⟨hW, d1, d2, 0, RL, frame_ex rfl, hbc, hRLr.out, ⟨fun x hx => ⟨.inl (hRLp.out x hx).1, (hRLp.out x hx).2.1, (hRLp.out x hx).2.2⟩⟩, Nat.zero_le _, fun k x hk => by omega⟩
  clear b1 b2 d1 d2 hbc hRLr hRLp k1 k2 f1 f2 hcp hBc hW RL Wc
  rintro a' W ⟨hW, b1, b2, i, RL, ⟨u, rfl⟩, hG, hRL, hK, hi', hD⟩
  replace hD := Lib.hid hD
  have hz := hW.size
  have yb1 := b1.lt
  have yb2 := b2.lt
  have yG := hG.lt
  replace hRL := Lib.hid hRL
  rcases Nat.lt_or_ge i rows.length with hlt | hge
  · obtain ⟨⟨r0, p0, c0⟩, tx⟩ : ∃ x, RL[i]? = some x := ⟨RL[i]'(by have := congrArg List.length hRL.out; rw [List.length_map] at this; omega), List.getElem?_eq_getElem _⟩
    have hlen := hfw i r0 (by rw [← hRL.out, List.getElem?_map, tx]; rfl)
    have hcl : ∀ (k : Nat) (v : Value), (rawRA ⟨r0, p0, c0⟩)[k]? = some v → W.cell? ⟨G, i * 6 + k, none⟩ = some v := fun k v hv => (hG.cell (i * 6 + k)).trans (by rw [List.getElem?_toArray]; exact flatRaws_get RL i _ k v tx hv)
    have q0 : W.cell? ⟨G, i * 6, none⟩ = some (.string r0.name) := hcl 0 _ rfl
    have q1 : W.cell? ⟨G, i * 6 + 1, none⟩ = some (.int .i64 r0.eps) := hcl 1 _ rfl
    have q2 : W.cell? ⟨G, i * 6 + 2, none⟩ = some (.int .i64 r0.floor) := hcl 2 _ rfl
    have q3 : W.cell? ⟨G, i * 6 + 3, none⟩ = some (.int .i64 r0.last) := hcl 3 _ rfl
    have q4 : W.cell? ⟨G, i * 6 + 4, none⟩ = some (.int .i64 r0.scale) := hcl 4 _ rfl
    have q5 : W.cell? ⟨G, i * 6 + 5, none⟩ = some (.slice p0 r0.pts.length c0) := hcl 5 _ rfl
    clear hcl
    have k1 := b1.cell
    have f1 := b1.frozen
    have k2 := b2.cell
    have f2 := b2.frozen
    go_upto_region 6 with (fail)
    clear k1 f1 k2 f2
    refine wp_cutB w (Bc w.heap.size #[.slice p rows.length cap] 27 <| Bc (w.heap.size + 1) #[.slice none 0 0] 27 <| Bc W.heap.size #[.string r0.name, .int .i64 r0.eps, .int .i64 r0.floor, .int .i64 r0.last, .int .i64 r0.scale, .slice p0 r0.pts.length c0] 35 <| Rc (fun W' => Blk W' G (flatRaws RL).toArray 35) <| Rc (fun W' => OwnK w W' RL) <| Rc (fun W' => OwnD w W' RL i) <| Bz) ?_ (hI := by exact belowAny) (hR := (Bc.mk (by exact blkAny2) <| Bc.mk (by exact blkAny2) <| Bc.mk (by exact blkAny2) <| Rc.mk (by exact hG.below (by exact belowAny)) <| Rc.mk (by exact hK.below (by exact belowAny)) <| Rc.mk (by exact hD.out.below (by exact belowAny)) <| trivial))
    clear b1 b2 hW
    rintro W21 hW z22 ⟨⟨b1, yb1, k1, f1⟩, ⟨b2, yb2, k2, f2⟩, ⟨b3, yb3, k3, f3⟩, b4, b5, b6, -⟩
    clear q0 q1 q2 q3 q4 q5
    have hx := b5.at' _ (List.mem_of_getElem? tx)
    have hpts := hx.pts hW
    have hg5 : W21.cell? ⟨G, i * 6 + 5, none⟩ = some (.slice p0 r0.pts.length c0) := (b4.cell (i * 6 + 5)).trans (by rw [List.getElem?_toArray]; exact flatRaws_get RL i _ 5 _ tx rfl)
    have hzW := hW.size
    have hzG := b4.lt
    go_wp2_with fail
    refine (c_clonePts p0 c0 r0.pts _ hlen hpts hx.cap hx.nil).mono ?_
    rintro e w9 ⟨v, rfl, hB9, hS9⟩
    obtain ⟨p', c', rfl, hP9, hc9, hn9⟩ := hS9.form9
    have d1 := b1.below hB9
    have d2 := b2.below hB9
    have d4 := b4.below hB9
    have d5 := b5.below hB9
    have d6 := Lib.hid (b6.below hB9)
    have g5 := (d4.cell (i * 6 + 5)).trans ((b4.cell (i * 6 + 5)).symm.trans hg5)
    have gf := d4.frozen (i * 6 + 5)
    have hz9 := hB9.size
    have e1 := hW.trans (hB9.mono hzW)
    have eP := hP9.mono hzW
    clear hS9 hB9 b1 b2 b3 b4 b5 b6 hg5 hW hP9 k1 k2 k3 f1 f2 f3 hpts
    replace d1 := Lib.hid d1
    replace d2 := Lib.hid d2
    replace d4 := Lib.hid d4
    go_wp2
    refine ⟨?_, by simp [intAt]; omega⟩
    unfold mdoRel
    exact ⟨e1.setCell (by simp; omega) _, d1.out.setO (by omega) _ _, d2.out.setO (by omega) _ _, i + 1, RL.set i ⟨r0, p', c'⟩, frame_ex rfl, d4.out.set2 (by rw [List.setIfInBounds_toArray, flatRaws_set RL i r0 p0 p' c0 c' tx]), own_map hRL.out tx, d5.set d4.out eP hc9 hn9, hlt, d6.out.set d4.out eP⟩
  · have hlen : rows.length ≤ i := hge
    have k1 := b1.cell
    have f1 := b1.frozen
    have k2 := b2.cell
    have f2 := b2.frozen
    replace hG := Lib.hid hG
    go_wp2
    have d2 : Blk (W.setCell ⟨w.heap.size + 1, 0, none⟩ (.slice (some ⟨G, 0, none⟩) rows.length rows.length)) (w.heap.size + 1) #[.slice (some ⟨G, 0, none⟩) rows.length rows.length] 27 := b2.set2 (by rfl)
    have d0 := d2.cell 0
    simp only [List.getElem?_toArray, List.getElem?_cons_zero] at d0
    refine bodyPost_ret (v := .agg #[.slice (some ⟨G, 0, none⟩) rows.length rows.length]) (by simp [results, Tryz.results46, go_sem, d0]) rfl ⟨G, RL, rfl, by exact belowAny, by omega, hG.out.setO (by omega) _ _, hRL.out, hD.out.rows (by have := congrArg List.length hRL.out; rw [List.length_map] at this; omega) hK b2⟩
end Go.Proofs.YtdeghcgakkhbmaaGreat
namespace Go.Proofs.YtdeghcgakkhbmaaGreat
open Go.RowKit
/-- Where a name stands in a model, or would. -/
def posN : List RawT → ByteArray → Nat
  | [], _ => 0
  | r :: l, nm => if Op.bytesLess r.name.toList nm.toList = true then posN l nm + 1 else 0
theorem PosAt.is {nm : ByteArray} : ∀ {rows : List RawT} {i : Nat}, PosAt rows nm i → i = posN rows nm
  | [], i, h => by have := h.le; simp at this; simp [posN, this]
  | r :: l, 0, h => by
    have := h.hi 0 r (Nat.le_refl _) rfl
    simp [posN, this]
  | r :: l, i + 1, h => by
    have h0 := h.lo 0 r (by omega) rfl
    have ih := PosAt.is (rows := l) (i := i) ⟨by have := h.le; simpa using this, fun k q hk hq => h.lo (k + 1) q (by omega) (by simpa using hq), fun k q hk hq => h.hi (k + 1) q (by omega) (by simpa using hq)⟩
    simp [posN, h0, ih]
theorem posN_at {nm : ByteArray} : ∀ {rows : List RawT}, SortedN rows → PosAt rows nm (posN rows nm)
  | [], _ => ⟨Nat.le_refl _, fun k r hk => by simp [posN] at hk, fun k r _ hr => by simp at hr⟩
  | r :: l, hs => by
    have hs' : SortedN l := fun k m a b hkm ha hb => hs (k + 1) (m + 1) a b (by omega) (by simpa using ha) (by simpa using hb)
    have ih := posN_at hs' (nm := nm)
    cases h0 : Op.bytesLess r.name.toList nm.toList with
    | true =>
      have e : posN (r :: l) nm = posN l nm + 1 := by simp [posN, h0]
      rw [e]
      refine ⟨by have := ih.le; simpa using this, fun k q hk hq => ?_, fun k q hk hq => ?_⟩
      · cases k with
        | zero => have e : r = q := by simpa using hq
                  rw [← e]; exact h0
        | succ k => exact ih.lo k q (by omega) (by simpa using hq)
      · cases k with
        | zero => omega
        | succ k => exact ih.hi k q (by omega) (by simpa using hq)
    | false =>
      have e : posN (r :: l) nm = 0 := by simp [posN, h0]
      rw [e]
      exact ⟨Nat.zero_le _, fun k q hk => by omega, fun k q _ hq => hi_more hs (m := 0) rfl h0 k q (Nat.zero_le _) hq⟩
theorem c_mdBinV (p : Option Addr) (cap : Nat) (rows : List RawT) (nm : ByteArray) (w : World) (h : RawsIn w p rows) (hmx : rows.length ≤ 100) (hs : SortedN rows) :
    Calls Tryz.prog 119 #[.slice p rows.length cap, .string nm, .func (.func 120) #[] #[]] w fun e w' => e = .returned (.tuple #[.int .i64 (posN rows nm : Int), .bool (foundB rows nm (posN rows nm))]) ∧ Below w.heap.size w w' := by
  refine (c_mdBin p cap rows nm w h hmx hs).mono ?_
  rintro e w' ⟨i, rfl, hp, hB⟩
  have := hp.is
  subst this
  exact ⟨rfl, hB⟩
set_option maxRecDepth 100000 in
set_option maxHeartbeats 2000000 in
theorem c_mdPlace (g : Nat) (kd : Int) (p : Option Addr) (cap : Nat) (rows : List RawT) (nm : ByteArray) (w : World) (hc : CellsP w g 0 #[.slice p rows.length cap, .int .i64 kd, .string nm]) (h : RawsIn w p rows) (hmx : rows.length ≤ 100) (hs : SortedN rows) :
    Calls Tryz.prog 75 #[.pointer (some ⟨g, 0, none⟩)] w fun e w' => e = .returned (.tuple #[.int .i64 (posN rows nm : Int), .bool (foundB rows nm (posN rows nm))]) ∧ Below w.heap.size w w' := by
  have c1 := Lib.hid (fun W (hW : Below w.heap.size w W) => c_mdBinV p cap rows nm W (h.below hW) hmx hs)
  obtain ⟨I, hI⟩ : ∃ I : Int, (posN rows nm : Int) = I := ⟨_, rfl⟩
  obtain ⟨F, hF⟩ : ∃ F, foundB rows nm (posN rows nm) = F := ⟨_, rfl⟩
  rw [hI, hF] at c1 ⊢
  go_enter Tryz.func75, Tryz.ntmps75
  go_upto_region 1 with (fail)
  refine wp_cutB w (Rc (fun W' => CellsP W' g 0 #[.slice p rows.length cap, .int .i64 kd, .string nm]) <| Bz) ?_ (hI := by exact belowAny) (hR := (Rc.mk (by first | exact hc | exact hc.below (by exact belowAny)) <| trivial))
  rintro W1 hW z2 hL
  obtain ⟨b1, -⟩ := id hL
  refine wp_regD 15 17 hW hL ?_
  iterate 10 refine dE (fun W' hC => aI (hC.2.1.at' 0 _ rfl) (hC.2.1.at' 2 _ rfl)) ?_
  refine cE (fun W' hC => aI (hC.2.1.at' 0 _ rfl) (hC.2.1.at' 2 _ rfl)) (fun W' hC => c1.out W' (hW.trans (hC.1.of_priv hW.size))) ?_
  iterate 4 refine dE (fun W' hC => aI (hC.2.1.at' 0 _ rfl) (hC.2.1.at' 2 _ rfl)) ?_
  clear hW hL b1
  rintro W3 hW z4 hL
  simp only [ndR]
  intros
  simp only [ndS]
  refine wpList_nil ?_
  obtain ⟨b1, -⟩ := hL
  go_wp2
  refine bodyPost_ret (by simp [results, Tryz.results75, go_sem]) rfl ⟨rfl, by exact belowAny⟩
end Go.Proofs.YtdeghcgakkhbmaaGreat
