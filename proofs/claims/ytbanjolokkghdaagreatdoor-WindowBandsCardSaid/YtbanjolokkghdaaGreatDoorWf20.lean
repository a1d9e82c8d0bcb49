/- Parts of the proof that follows: The document's segments: Kind, Right walked. | Layer window: which points may be; a bound. No condition. | Layer span: Check, checked, both, total. No condition but that the ends are numbers of 64 bits. | Layer span: Least, Most. No condition but that there is a span, and that they may be. | Layer span: Plus, Around. No condition but that the spans may be. | Layers record and series: Name, and whether a series' numbers may be. No condition. | Layer seg: Check, Count told. -/
import Derived.Lib.OthersKept
import Derived.Lib.RuneBytes
import Derived.Test.YtbanjolokkghdaaGreatDoorWf19
set_option linter.unusedSimpArgs false
set_option linter.unusedVariables false
namespace Go.Proofs.YtbanjolokkghdaaGreatDoor
open Go.RowKit
/-- A row of numbers of its own, as a drawn step's value. -/
def OV (B : Nat) (T : List Int) : Spec := fun v w => OwnR w B 2 1 v T.length (T.map (Value.int .i64))
theorem OV.closed (B : Nat) (T : List Int) : Closed [] (OV B T) := fun _ _ _ hr h => OwnR.rex h hr rfl
def kindR (R n : Int) : Int := if n = 0 then 1 else if R = 0 then 2 else 3
end Go.Proofs.YtbanjolokkghdaaGreatDoor
namespace Go.Proofs.YtbanjolokkghdaaGreatDoor
open Go.RowKit
/-- Which points may be a window. -/
def winB (l : List (Int × Int)) : Bool := (decide (1 ≤ l.length) && decide (l.length ≤ 32)) && rawPtsB 0 (-1) l
theorem rawPts_cut0 {fl b : Int} {l : List (Int × Int)} (i : Nat) (h : rawPtsB fl b (l.take i) = false) : rawPtsB fl b l = false := by
  have key : ∀ (m : List (Int × Int)) (b : Int) (r : List (Int × Int)), rawPtsB fl b m = false → rawPtsB fl b (m ++ r) = false := by
    intro m
    induction m with
    | nil => intro b r h; simp [rawPtsB] at h
    | cons y m ih =>
      intro b r h
      simp only [List.cons_append, rawPtsB] at h ⊢
      cases h1 : (ptB y && (decide (fl ≤ y.1) && decide (b < y.1))) with
      | false => rfl
      | true =>
        rw [h1, Bool.true_and] at h
        rw [Bool.true_and]
        exact ih _ r h
  have := key _ b (l.drop i) h
  rwa [List.take_append_drop] at this
def wckRel (w : World) (p : Option Addr) (cap : Nat) (l : List (Int × Int)) (a' : Act) (W : World) : Prop :=
  Below w.heap.size w W ∧ ∃ i : Nat, (∃ u : Nat → Value, a' = { tmps := #[.slice p l.length cap, u 1, .int .i64 0, u 3, u 4, u 5, u 6, u 7, u 8, u 9, u 10, u 11, u 12, .slice p l.length cap, .int .i64 (l.length : Int), .int .i64 (i : Int), u 16, u 17, u 18, u 19, u 20, u 21, u 22, u 23, u 24, u 25, u 26, u 27, u 28, u 29, u 30, u 31, u 32, u 33, u 34, u 35, u 36, u 37, u 38, u 39, u 40, u 41, u 42, u 43, u 44, u 45, u 46, u 47, u 48, u 49, u 50, u 51, u 52, u 53], defers := [] }) ∧ rawPtsB 0 (-1) (l.take i) = true ∧ i ≤ l.length
set_option maxRecDepth 100000 in
set_option maxHeartbeats 2000000 in
theorem c_wnCheck (p : Option Addr) (cap : Nat) (l : List (Int × Int)) (w : World) (hin : PtsIn w p l) (hmx : l.length ≤ 1000000) :
    Calls Tryz.prog 20 #[.slice p l.length cap] w fun e w' => e = .returned (.int .i64 (if winB l = true then 0 else 230)) ∧ Below w.heap.size w w' := by
  by_cases hn : l.length = 0
  · have hb : winB l = false := by unfold winB; rw [decide_eq_false (show ¬1 ≤ l.length by omega)]; rfl
    rw [hb, hn, if_neg (by decide)]
    go_enter Tryz.func20, Tryz.ntmps20
    go_wp2
    go_ret
    exact ⟨rfl, by exact belowAny⟩
  by_cases h32 : 32 < l.length
  · have hb : winB l = false := by unfold winB; rw [decide_eq_false (show ¬l.length ≤ 32 by omega), Bool.and_false]; rfl
    rw [hb, if_neg (by decide)]
    have e1 : ((l.length : Int) == 0) = false := beq_eq_false_iff_ne.2 (by omega)
    have e2 : (32 : Int) < (l.length : Int) := by omega
    go_enter Tryz.func20, Tryz.ntmps20
    go_wp2
    go_ret
    exact ⟨rfl, by exact belowAny⟩
  have hwb : winB l = rawPtsB 0 (-1) l := by unfold winB; rw [decide_eq_true (show 1 ≤ l.length by omega), decide_eq_true (show l.length ≤ 32 by omega)]; rfl
  obtain ⟨RES, hRES⟩ : ∃ z : Int, (if winB l = true then 0 else 230) = z := ⟨_, rfl⟩
  rw [hRES]
  have hck := Lib.hid (show RES = if rawPtsB 0 (-1) l = true then 0 else 230 by rw [← hRES, hwb])
  clear hRES hwb
  have e1 : ((l.length : Int) == 0) = false := beq_eq_false_iff_ne.2 (by omega)
  have e2 : ¬(32 : Int) < (l.length : Int) := by omega
  go_enter Tryz.func20, Tryz.ntmps20
  go_wp2
  clear e1 e2
  refine wp_loop (wckRel w p cap l) (fun a' _ => l.length - (intAt (a'.tmps.getD 15 undef)).toNat) ?_ ?_
  · unfold wckRel
    exact ⟨Below.refl _ _, 0, frame_ex rfl, rfl, Nat.zero_le _⟩
  rintro a' W ⟨hW0, i, ⟨u, rfl⟩, hr, hi⟩
  have hz := hW0.size
  rcases Nat.lt_or_ge i l.length with hlt | hge
  · obtain ⟨⟨t, y⟩, tr⟩ : ∃ x, l[i]? = some x := ⟨l[i]'(by omega), List.getElem?_eq_getElem (by omega)⟩
    obtain ⟨b, o, rfl, q0, q1⟩ := (hin.below hW0).at' i _ tr
    have hI : PtsP W b o l := ⟨hin.below hW0⟩
    simp only at q0 q1
    have zq := cell_lt q0
    try simp only at zq
    have e1 : l.take (i + 1) = l.take i ++ [(t, y)] := by rw [List.take_add_one, tr]; rfl
    obtain ⟨z, hz0⟩ : ∃ z, lastOr (-1) ((l.take i).map (·.1)) = z := ⟨_, rfl⟩
    have hst0 : rawPtsB 0 (-1) (l.take (i + 1)) = (ptB (t, y) && (decide (0 ≤ t) && decide (z < t))) := by rw [e1, rawPtsB_snoc, hr, hz0, Bool.true_and]
    obtain ⟨F, hF⟩ : ∃ F, (ptB (t, y) && (decide (0 ≤ t) && decide (z < t))) = F := ⟨_, rfl⟩
    have hno := Lib.hid (fun (e : F = false) => (show RES = 230 by
      rw [hck.out, rawPts_cut0 (i + 1) (hst0.trans (hF.trans e))]
      rfl))
    have hst := Lib.hid (fun (e : F = true) => (show rawPtsB 0 (-1) (l.take (i + 1)) = true from hst0.trans (hF.trans e)))
    have hpt : ptB (t, y) = (decide (0 ≤ t) && decide (t ≤ 281474976710656) && (decide (-2305843009213693952 ≤ y) && decide (y ≤ 2305843009213693952))) := rfl
    have n1 : decide (0 ≤ t) = !decide (t < 0) := by rw [Bool.eq_iff_iff]; simp
    have n2 : decide (t ≤ 281474976710656) = !decide (281474976710656 < t) := by rw [Bool.eq_iff_iff]; simp
    have n3 : decide (-2305843009213693952 ≤ y) = !decide (y < -2305843009213693952) := by rw [Bool.eq_iff_iff]; simp
    have n4 : decide (y ≤ 2305843009213693952) = !decide (2305843009213693952 < y) := by rw [Bool.eq_iff_iff]; simp
    by_cases h0 : i = 0
    · have E0 := Lib.hid (show decide (0 < i) = false from decide_eq_false (by omega))
      obtain rfl : -1 = z := by rw [← hz0, h0]; rfl
      have hv := Lib.hid (show (decide (t < 0) || decide (281474976710656 < t) || decide (y < -2305843009213693952) || decide (2305843009213693952 < y)) = !F by
        have n5 : t < 0 ∨ decide (-1 < t) = true := by
          by_cases h9 : t < 0
          · exact .inl h9
          · exact .inr (decide_eq_true (by omega))
        rw [← hF, hpt, n1, n2, n3, n4]
        rcases n5 with n5 | n5
        · rw [decide_eq_true n5]; rfl
        · rw [n5]
          cases decide (t < 0) <;> cases decide (281474976710656 < t) <;> cases decide (y < -2305843009213693952) <;> cases decide (2305843009213693952 < y) <;> rfl)
      replace tr := Lib.hid tr
      clear hst0 hF hz0 e1 hr h0 hpt n1 n2 n3 n4
      go_upto_region 6 with (fail)
      refine wp_cutB W (Bc W.heap.size #[.int .i64 t, .int .i64 y] 56 <| Rc (fun W' => PtsP W' b o l) <| Bz) ?_ (hI := by exact belowAny) (hR := (Bc.mk (by exact blkAny2) <| Rc.mk (by first | exact hI | exact hI.below belowAny) <| trivial))
      rintro W21 hW z22 hL
      obtain ⟨⟨b1, yb1, k1, f1⟩, b2, -⟩ := id hL
      clear k1 f1
      refine wp_regQ 33 54 hW hL ?_
      iterate 4 refine dE (fun W' hC => aI E0.out (aI hlt (Nat.not_le.2 hlt))) ?_
      iterate 3 refine gE (fun W' hC => aI E0.out (aI hlt (Nat.not_le.2 hlt))) ?_
      refine pO ?_
      refine dE (fun W' hC => aI E0.out (aI hlt (Nat.not_le.2 hlt))) ?_
      iterate 3 refine gE (fun W' hC => aI E0.out (aI hlt (Nat.not_le.2 hlt))) ?_
      refine pO ?_
      refine dE (fun W' hC => aI E0.out (aI hlt (Nat.not_le.2 hlt))) ?_
      iterate 3 refine gE (fun W' hC => aI E0.out (aI hlt (Nat.not_le.2 hlt))) ?_
      refine pO ?_
      refine dE (fun W' hC => aI E0.out (aI hlt (Nat.not_le.2 hlt))) ?_
      iterate 3 refine gE (fun W' hC => aI E0.out (aI hlt (Nat.not_le.2 hlt))) ?_
      apply nd_detg (c := undef) (hg := rfl) (hd := rfl) (hal := rfl)
      · intro v W' h
        exact h
      · intro hp hx
        cases hx
      apply nd_detg (c := undef) (hg := rfl) (hd := rfl) (hal := rfl)
      · intro v W' h
        exact h
      · intro hp hx
        cases hx
      apply nd_detg (c := undef) (hg := rfl) (hd := rfl) (hal := rfl)
      · intro v W' h
        exact h
      · intro hp hx
        cases hx
      apply nd_detg (c := undef) (hg := rfl) (hd := rfl) (hal := rfl)
      · intro v W' h
        exact h
      · intro hp hx
        cases hx
      apply nd_detg (c := undef) (hg := rfl) (hd := rfl) (hal := rfl)
      · intro v W' h
        exact h
      · intro hp hx
        cases hx
      apply nd_detg (c := undef) (hg := rfl) (hd := rfl) (hal := rfl)
      · intro v W' h
        exact h
      · intro hp hx
        cases hx
      apply nd_detg (c := undef) (hg := rfl) (hd := rfl) (hal := rfl)
      · intro v W' h
        exact h
      · intro hp hx
        cases hx
      apply nd_detg (c := undef) (hg := rfl) (hd := rfl) (hal := rfl)
      · intro v W' h
        exact h
      · intro hp hx
        cases hx
      apply nd_detg (c := undef) (hg := rfl) (hd := rfl) (hal := rfl)
      · intro v W' h
        exact h
      · intro hp hx
        cases hx
      apply nd_pickg_and (p := true) (x := false) (y := false) (ho := rfl) (hg := rfl) (hd := rfl)
      · intro v W' h
        simp [envOf, Det, GDet] at h
        simp
        exact h
      · intro _ hx v W' h
        simp [envOf, Det, GDet, hx] at h
        exact h
      · intro _ hx v W' h hy
        cases hy
      refine pO ?_
      clear hW hL b1 b2
      rintro W23 hW z24 hL
      simp only [ndR]
      intros
      repeat (rename GDet _ _ _ _ => hgd; clear hgd)
      simp only [ndS]
      refine wpList_nil ?_
      obtain ⟨⟨b1, yb1, k1, f1⟩, b2, -⟩ := hL
      rw [hv.out]
      cases F with
      | false =>
        go_wp2
        go_ret
        exact ⟨by rw [hno.out (by trivial)]; rfl, hW0.trans (hW.mono hz)⟩
      | true =>
        go_wp2
        rw [show (i : Int) + 1 = ((i + 1 : Nat) : Int) by omega]
        refine ⟨?_, by simp [intAt]; omega⟩
        unfold wckRel
        exact ⟨hW0.trans (hW.mono hz), i + 1, frame_ex rfl, hst.out (by trivial), by omega⟩
    · obtain ⟨j, hj⟩ : ∃ j, i = j + 1 := ⟨i - 1, by omega⟩
      obtain ⟨⟨x, y2⟩, ty⟩ : ∃ r', l[j]? = some r' := ⟨l[j]'(by omega), List.getElem?_eq_getElem (by omega)⟩
      obtain rfl : x = z := by rw [← hz0, hj, List.take_add_one, ty, Option.toList_some, List.map_append, List.map_cons, List.map_nil]; exact (lastOr_snoc _ _ _).symm
      have E0 := Lib.hid (show decide (0 < i) = true from decide_eq_true (by omega))
      have E1 := Lib.hid (show wrap64 ((i : Int) - 1) = (j : Int) by rw [wrap64_eq]; omega)
      have g1 : j < l.length := by omega
      have hv := Lib.hid (show (decide (t < 0) || decide (281474976710656 < t) || decide (y < -2305843009213693952) || decide (2305843009213693952 < y) || decide (t ≤ x)) = !F by
        rw [← hF, hpt, n1, n2, n3, n4, show decide (x < t) = !decide (t ≤ x) by rw [Bool.eq_iff_iff]; simp]
        cases decide (t < 0) <;> cases decide (281474976710656 < t) <;> cases decide (y < -2305843009213693952) <;> cases decide (2305843009213693952 < y) <;> cases decide (t ≤ x) <;> rfl)
      have tj := Lib.hid ty
      replace tr := Lib.hid tr
      clear hst0 hF hz0 e1 hr h0 ty hj hpt n1 n2 n3 n4
      go_upto_region 6 with (fail)
      refine wp_cutB W (Bc W.heap.size #[.int .i64 t, .int .i64 y] 56 <| Rc (fun W' => PtsP W' b o l) <| Bz) ?_ (hI := by exact belowAny) (hR := (Bc.mk (by exact blkAny2) <| Rc.mk (by first | exact hI | exact hI.below belowAny) <| trivial))
      rintro W21 hW z22 hL
      obtain ⟨⟨b1, yb1, k1, f1⟩, b2, -⟩ := id hL
      clear k1 f1
      refine wp_regQ 33 54 hW hL ?_
      iterate 4 refine dE (fun W' hC => aI E0.out (aI hlt (aI (Nat.not_le.2 hlt) (aI E1.out (aI g1 (aI (Nat.not_le.2 g1) (hC.2.2.1.cellAt tj.out))))))) ?_
      iterate 3 refine gE (fun W' hC => aI E0.out (aI hlt (aI (Nat.not_le.2 hlt) (aI E1.out (aI g1 (aI (Nat.not_le.2 g1) (hC.2.2.1.cellAt tj.out))))))) ?_
      refine pO ?_
      refine dE (fun W' hC => aI E0.out (aI hlt (aI (Nat.not_le.2 hlt) (aI E1.out (aI g1 (aI (Nat.not_le.2 g1) (hC.2.2.1.cellAt tj.out))))))) ?_
      iterate 3 refine gE (fun W' hC => aI E0.out (aI hlt (aI (Nat.not_le.2 hlt) (aI E1.out (aI g1 (aI (Nat.not_le.2 g1) (hC.2.2.1.cellAt tj.out))))))) ?_
      refine pO ?_
      refine dE (fun W' hC => aI E0.out (aI hlt (aI (Nat.not_le.2 hlt) (aI E1.out (aI g1 (aI (Nat.not_le.2 g1) (hC.2.2.1.cellAt tj.out))))))) ?_
      iterate 3 refine gE (fun W' hC => aI E0.out (aI hlt (aI (Nat.not_le.2 hlt) (aI E1.out (aI g1 (aI (Nat.not_le.2 g1) (hC.2.2.1.cellAt tj.out))))))) ?_
      refine pO ?_
      refine dE (fun W' hC => aI E0.out (aI hlt (aI (Nat.not_le.2 hlt) (aI E1.out (aI g1 (aI (Nat.not_le.2 g1) (hC.2.2.1.cellAt tj.out))))))) ?_
      iterate 3 refine gE (fun W' hC => aI E0.out (aI hlt (aI (Nat.not_le.2 hlt) (aI E1.out (aI g1 (aI (Nat.not_le.2 g1) (hC.2.2.1.cellAt tj.out))))))) ?_
      iterate 9 refine gF (fun W' hC => aI E0.out (aI hlt (aI (Nat.not_le.2 hlt) (aI E1.out (aI g1 (aI (Nat.not_le.2 g1) (hC.2.2.1.cellAt tj.out))))))) ?_
      refine pgA ?_
      refine pO ?_
      clear hW hL b1 b2
      rintro W23 hW z24 hL
      simp only [ndR]
      intros
      repeat (rename GDet _ _ _ _ => hgd; clear hgd)
      simp only [ndS]
      refine wpList_nil ?_
      obtain ⟨⟨b1, yb1, k1, f1⟩, b2, -⟩ := hL
      rw [hv.out]
      cases F with
      | false =>
        go_wp2
        go_ret
        exact ⟨by rw [hno.out (by trivial)]; rfl, hW0.trans (hW.mono hz)⟩
      | true =>
        go_wp2
        rw [show (i : Int) + 1 = ((i + 1 : Nat) : Int) by omega]
        refine ⟨?_, by simp [intAt]; omega⟩
        unfold wckRel
        exact ⟨hW0.trans (hW.mono hz), i + 1, frame_ex rfl, hst.out (by trivial), by omega⟩
  · obtain rfl : i = l.length := by omega
    rw [List.take_length] at hr
    have hres := Lib.hid (show RES = 0 by rw [hck.out, hr]; rfl)
    clear hr hck
    go_wp2
    go_ret
    exact ⟨by rw [hres.out]; rfl, hW0⟩
/-- why there is nothing of points and a bound -/
def bothE (l : List (Int × Int)) (eps : Int) : Int := if winB l = true then (if btw eps 0 1099511627776 = true then 0 else 231) else 230
set_option maxRecDepth 100000 in
set_option maxHeartbeats 2000000 in
theorem c_wnBoth (p : Option Addr) (cap : Nat) (l : List (Int × Int)) (eps : Int) (w : World) (hin : PtsIn w p l) (hmx : l.length ≤ 1000000) :
    Calls Tryz.prog 50 #[.slice p l.length cap, .int .i64 eps] w fun e w' => e = .returned (.int .i64 (bothE l eps)) ∧ Below w.heap.size w w' := by
  have c1 := Lib.hid (fun W (hi : PtsIn W p l) => c_wnCheck p cap l W hi hmx)
  unfold bothE
  cases hb : winB l with
  | false =>
    rw [hb] at c1
    simp only [Bool.false_eq_true, if_false] at c1 ⊢
    have c2 := Lib.hid (c1.out w hin)
    clear c1
    go_enter Tryz.func50, Tryz.ntmps50
    go_wp2_with fail
    refine c2.out.mono ?_
    rintro e w1 ⟨rfl, hB1⟩
    go_wp2
    go_ret
    exact ⟨rfl, hB1⟩
  | true =>
    rw [hb] at c1
    simp only [if_true] at c1 ⊢
    have c2 := Lib.hid (c1.out w hin)
    clear c1
    by_cases h1 : eps < 0
    · rw [show btw eps 0 1099511627776 = false by unfold btw; rw [decide_eq_false (show ¬0 ≤ eps by omega)]; rfl]
      go_enter Tryz.func50, Tryz.ntmps50
      go_wp2_with fail
      refine c2.out.mono ?_
      rintro e w1 ⟨rfl, hB1⟩
      go_wp2
      go_ret
      exact ⟨rfl, hB1⟩
    by_cases h2 : 1099511627776 < eps
    · rw [show btw eps 0 1099511627776 = false by unfold btw; rw [decide_eq_false (show ¬eps ≤ 1099511627776 by omega), Bool.and_false]]
      go_enter Tryz.func50, Tryz.ntmps50
      go_wp2_with fail
      refine c2.out.mono ?_
      rintro e w1 ⟨rfl, hB1⟩
      go_wp2
      go_ret
      exact ⟨rfl, hB1⟩
    · rw [show btw eps 0 1099511627776 = true by unfold btw; rw [decide_eq_true (show 0 ≤ eps by omega), decide_eq_true (show eps ≤ 1099511627776 by omega)]; rfl]
      go_enter Tryz.func50, Tryz.ntmps50
      go_wp2_with fail
      refine c2.out.mono ?_
      rintro e w1 ⟨rfl, hB1⟩
      go_wp2
      go_ret
      exact ⟨rfl, hB1⟩
end Go.Proofs.YtbanjolokkghdaaGreatDoor
namespace Go.Proofs.YtbanjolokkghdaaGreatDoor
open Go.RowKit
def spE (a b : Int) : Int := if a ≤ b then 0 else 140
def spsE (l : List (Int × Int)) : Int := if l.all (fun x => decide (x.1 ≤ x.2)) = true then 0 else 140
def spcRel (w : World) (p : Option Addr) (cap : Nat) (l : List (Int × Int)) (a' : Act) (W : World) : Prop :=
  Below w.heap.size w W ∧ ∃ i : Nat, (∃ u : Nat → Value, a' = { tmps := #[.slice p l.length cap, u 1, u 2, u 3, u 4, u 5, .slice p l.length cap, .int .i64 (l.length : Int), .int .i64 (i : Int), u 9, u 10, u 11, u 12, u 13, u 14, u 15, u 16, u 17], defers := [] }) ∧ i ≤ l.length ∧ ∀ k x, k < i → l[k]? = some x → x.1 ≤ x.2
end Go.Proofs.YtbanjolokkghdaaGreatDoor
namespace Go.Proofs.YtbanjolokkghdaaGreatDoor
open Go.RowKit
end Go.Proofs.YtbanjolokkghdaaGreatDoor
namespace Go.Proofs.YtbanjolokkghdaaGreatDoor
open Go.RowKit
def plS1 (i : Nat) (S : Int) : Int := if 1 ≤ i then S else 0
def plS2 (i : Nat) (S : Int) : Int := if 2 ≤ i then S else 0
def plusV (f : Bool) (S1 S2 : Int) : Array Value := if f = true then #[.int .i64 S1, .int .i64 S2] else #[.int .i64 0, .int .i64 0]
def plusE (f : Bool) : Int := if f = true then 0 else 5
def spA (l : List (Int × Int)) : Int := lsum (l.map (·.1))
def spB (l : List (Int × Int)) : Int := lsum (l.map (·.2))
end Go.Proofs.YtbanjolokkghdaaGreatDoor
namespace Go.Proofs.YtbanjolokkghdaaGreatDoor
open Go.RowKit
def nmRel (w : World) (s : ByteArray) (ok : Bool) (a' : Act) (W : World) : Prop :=
  Below w.heap.size w W ∧ ∃ pos f : Nat, (∃ u : Nat → Value, a' = { tmps := #[.string s, u 1, u 2, .bool ok, u 4, u 5, u 6, u 7, u 8, u 9, u 10, u 11, u 12, u 13, u 14, .pointer (some ⟨w.heap.size, 0, none⟩), u 16, u 17, u 18, u 19, u 20, u 21, u 22], defers := [] }) ∧ W.heap[w.heap.size]? = some (.stringIter s pos) ∧ s.size ≤ pos + f ∧ lettersB s f pos = lettersB s s.size 0
end Go.Proofs.YtbanjolokkghdaaGreatDoor
namespace Go.Proofs.YtbanjolokkghdaaGreatDoor
open Go.RowKit
end Go.Proofs.YtbanjolokkghdaaGreatDoor
