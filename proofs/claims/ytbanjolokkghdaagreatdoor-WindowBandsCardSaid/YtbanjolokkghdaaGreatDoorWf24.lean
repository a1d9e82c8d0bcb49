/- Parts of the proof that follows: The laws of chapter 13: points in memory of their own; the document's Right; why there is nothing; the layer's Bands. No condition. | slices.Equal of points, of whatever two rows. No condition. | WindowBands, walked. No condition. -/
import Derived.Test.YtbanjolokkghdaaGreatDoorWf23
set_option linter.unusedSimpArgs false
set_option linter.unusedVariables false
namespace Go.Proofs.YtbanjolokkghdaaGreatDoor
open Go.RowKit
def r13Rel (w : World) (p : Option Addr) (cap : Nat) (l : List (Int × Int)) (a' : Act) (W : World) : Prop :=
  Below w.heap.size w W ∧ ∃ i : Nat, (∃ u : Nat → Value, a' = { tmps := #[.slice p l.length cap, u 1, .bool false, .int .i64 (i : Int), u 4, u 5, u 6, u 7, u 8, u 9, u 10, u 11, u 12, u 13, u 14, u 15, u 16, u 17, u 18, u 19, u 20, u 21, u 22, u 23, u 24, u 25, u 26, u 27, u 28, u 29, u 30, u 31, u 32, u 33, u 34, u 35, u 36, u 37, u 38, u 39, u 40, u 41], defers := [] }) ∧ rawPtsB 0 (-1) (l.take i) = true ∧ i ≤ l.length
set_option maxRecDepth 100000 in
set_option maxHeartbeats 2000000 in
theorem c_r13Right (p : Option Addr) (cap : Nat) (l : List (Int × Int)) (w : World) (hin : PtsIn w p l) (hmx : l.length ≤ 1000000) :
    Calls Tryz.prog 21 #[.slice p l.length cap] w fun e w' => e = .returned (.bool (winB l)) ∧ Below w.heap.size w w' := by
  by_cases hn : l.length < 1
  · have hb : winB l = false := by unfold winB; rw [decide_eq_false (show ¬1 ≤ l.length by omega)]; rfl
    rw [hb]
    have e1 : (l.length : Int) < 1 := by omega
    go_enter Tryz.func21, Tryz.ntmps21
    go_wp2
    go_ret
    exact ⟨rfl, by exact belowAny⟩
  by_cases h32 : 32 < l.length
  · have hb : winB l = false := by unfold winB; rw [decide_eq_false (show ¬l.length ≤ 32 by omega), Bool.and_false]; rfl
    rw [hb]
    have e1 : ¬(l.length : Int) < 1 := by omega
    have e2 : (32 : Int) < (l.length : Int) := by omega
    go_enter Tryz.func21, Tryz.ntmps21
    go_wp2
    go_ret
    exact ⟨rfl, by exact belowAny⟩
  have hwb : winB l = rawPtsB 0 (-1) l := by unfold winB; rw [decide_eq_true (show 1 ≤ l.length by omega), decide_eq_true (show l.length ≤ 32 by omega)]; rfl
  obtain ⟨RES, hRES⟩ : ∃ z, winB l = z := ⟨_, rfl⟩
  rw [hRES]
  have hck := Lib.hid (show RES = rawPtsB 0 (-1) l by rw [← hRES, hwb])
  clear hRES hwb
  have e1 : ¬(l.length : Int) < 1 := by omega
  have e2 : ¬(32 : Int) < (l.length : Int) := by omega
  go_enter Tryz.func21, Tryz.ntmps21
  go_wp2
  clear e1 e2
  refine wp_loop (r13Rel w p cap l) (fun a' _ => l.length - (intAt (a'.tmps.getD 3 undef)).toNat) ?_ ?_
  · unfold r13Rel
    exact ⟨Below.refl _ _, 0, frame_ex rfl, rfl, Nat.zero_le _⟩
  rintro a' W ⟨hW0, i, ⟨u, rfl⟩, hr, hi⟩
  have hz := hW0.size
  rcases Nat.lt_or_ge i l.length with hlt | hge
  · obtain ⟨⟨t, y⟩, tr⟩ : ∃ x, l[i]? = some x := ⟨l[i]'(by omega), List.getElem?_eq_getElem (by omega)⟩
    obtain ⟨b, o, rfl, q0, q1⟩ := (hin.below hW0).at' i _ tr
    have hI : PtsP W b o l := ⟨hin.below hW0⟩
    simp only at q0 q1
    have zq := cell_lt q0
    try simp only at zq
    clear q0 q1
    have e1 : l.take (i + 1) = l.take i ++ [(t, y)] := by rw [List.take_add_one, tr]; rfl
    obtain ⟨z, hz0⟩ : ∃ z, lastOr (-1) ((l.take i).map (·.1)) = z := ⟨_, rfl⟩
    have hst0 : rawPtsB 0 (-1) (l.take (i + 1)) = (ptB (t, y) && (decide (0 ≤ t) && decide (z < t))) := by rw [e1, rawPtsB_snoc, hr, hz0, Bool.true_and]
    obtain ⟨PB, hPB⟩ : ∃ B, ptB (t, y) = B := ⟨_, rfl⟩
    rw [hPB] at hst0
    have hp0 : PB = true → 0 ≤ t := fun e => by
      rw [← hPB] at e
      unfold ptB btw at e
      simp only [Bool.and_eq_true, decide_eq_true_eq] at e
      exact e.1.1
    have cP := Lib.hid (fun W => c_r13Point t y W)
    rw [show (btw t 0 281474976710656 && btw y (-2305843009213693952) 2305843009213693952) = PB from hPB] at cP
    obtain ⟨F, hF⟩ : ∃ F, (PB && (decide (0 ≤ t) && decide (z < t))) = F := ⟨_, rfl⟩
    have hno := Lib.hid (fun (e : F = false) => (show RES = false by
      rw [hck.out, rawPts_cut0 (i + 1) (hst0.trans (hF.trans e))]))
    have hst := Lib.hid (fun (e : F = true) => (show rawPtsB 0 (-1) (l.take (i + 1)) = true from hst0.trans (hF.trans e)))
    by_cases h0 : i = 0
    · have E0 := Lib.hid (show decide (0 < i) = false from decide_eq_false (by omega))
      obtain rfl : -1 = z := by rw [← hz0, h0]; rfl
      have hv := Lib.hid (show (!PB) = !F by
        rw [← hF]
        cases PB with
        | false => rfl
        | true =>
          have h9 := hp0 rfl
          rw [decide_eq_true h9, decide_eq_true (show -1 < t by omega)]
          rfl)
      replace tr := Lib.hid tr
      clear hst0 hF hz0 e1 hr h0 hPB hp0
      go_upto_region 6 with (fail)
      refine wp_cutB W (Rc (fun W' => PtsP W' b o l) <| Bz) ?_ (hI := by exact belowAny) (hR := (Rc.mk (by first | exact hI | exact hI.below belowAny) <| trivial))
      rintro W21 hW z22 hL
      obtain ⟨b1, -⟩ := id hL
      refine wp_regQ 24 42 hW hL ?_
      iterate 4 refine dE (fun W' hC => aI E0.out (aI hlt (aI (Nat.not_le.2 hlt) (hC.2.1.cellAt tr.out)))) ?_
      refine cE (fun W' hC => aI E0.out (aI hlt (aI (Nat.not_le.2 hlt) (hC.2.1.cellAt tr.out)))) (fun W' hC => cP.out W') ?_
      iterate 2 refine dE (fun W' hC => aI E0.out (aI hlt (aI (Nat.not_le.2 hlt) (hC.2.1.cellAt tr.out)))) ?_
      iterate 3 refine gE (fun W' hC => aI E0.out (aI hlt (aI (Nat.not_le.2 hlt) (hC.2.1.cellAt tr.out)))) ?_
      apply nd_detg (c := undef) (hg := rfl) (hd := rfl) (hal := rfl)
      · intro v W' h
        exact h
      · intro hp hx
        cases hx
      apply nd_detg (c := undef) (hg := rfl) (hd := rfl) (hal := rfl)
      · intro v W' h
        exact h
      · intro hp hx
        cases hx
      apply nd_detg (c := undef) (hg := rfl) (hd := rfl) (hal := rfl)
      · intro v W' h
        exact h
      · intro hp hx
        cases hx
      apply nd_detg (c := undef) (hg := rfl) (hd := rfl) (hal := rfl)
      · intro v W' h
        exact h
      · intro hp hx
        cases hx
      apply nd_detg (c := undef) (hg := rfl) (hd := rfl) (hal := rfl)
      · intro v W' h
        exact h
      · intro hp hx
        cases hx
      apply nd_detg (c := undef) (hg := rfl) (hd := rfl) (hal := rfl)
      · intro v W' h
        exact h
      · intro hp hx
        cases hx
      apply nd_detg (c := undef) (hg := rfl) (hd := rfl) (hal := rfl)
      · intro v W' h
        exact h
      · intro hp hx
        cases hx
      apply nd_detg (c := undef) (hg := rfl) (hd := rfl) (hal := rfl)
      · intro v W' h
        exact h
      · intro hp hx
        cases hx
      apply nd_detg (c := undef) (hg := rfl) (hd := rfl) (hal := rfl)
      · intro v W' h
        exact h
      · intro hp hx
        cases hx
      apply nd_detg (c := undef) (hg := rfl) (hd := rfl) (hal := rfl)
      · intro v W' h
        exact h
      · intro hp hx
        cases hx
      apply nd_detg (c := undef) (hg := rfl) (hd := rfl) (hal := rfl)
      · intro v W' h
        exact h
      · intro hp hx
        cases hx
      apply nd_detg (c := undef) (hg := rfl) (hd := rfl) (hal := rfl)
      · intro v W' h
        exact h
      · intro hp hx
        cases hx
      apply nd_pickg_and (p := true) (x := false) (y := false) (ho := rfl) (hg := rfl) (hd := rfl)
      · intro v W' h
        simp [envOf, Det, GDet] at h
        simp
        exact h
      · intro _ hx v W' h
        simp [envOf, Det, GDet, hx] at h
        exact h
      · intro _ hx v W' h hy
        cases hy
      refine pO ?_
      clear hW hL b1
      rintro W23 hW z24 hL
      simp only [ndR]
      intros
      repeat (rename GDet _ _ _ _ => hgd; clear hgd)
      simp only [ndS]
      refine wpList_nil ?_
      obtain ⟨b1, -⟩ := hL
      rw [hv.out]
      cases F with
      | false =>
        go_wp2
        go_ret
        exact ⟨by rw [hno.out (by trivial)]; rfl, hW0.trans (hW.mono hz)⟩
      | true =>
        go_wp2
        rw [show (i : Int) + 1 = ((i + 1 : Nat) : Int) by omega]
        refine ⟨?_, by simp [intAt]; omega⟩
        unfold r13Rel
        exact ⟨hW0.trans (hW.mono hz), i + 1, frame_ex rfl, hst.out (by trivial), by omega⟩
    · obtain ⟨j, hj⟩ : ∃ j, i = j + 1 := ⟨i - 1, by omega⟩
      obtain ⟨⟨x, y2⟩, ty⟩ : ∃ r', l[j]? = some r' := ⟨l[j]'(by omega), List.getElem?_eq_getElem (by omega)⟩
      obtain rfl : x = z := by rw [← hz0, hj, List.take_add_one, ty, Option.toList_some, List.map_append, List.map_cons, List.map_nil]; exact (lastOr_snoc _ _ _).symm
      have E0 := Lib.hid (show decide (0 < i) = true from decide_eq_true (by omega))
      have E1 := Lib.hid (show wrap64 ((i : Int) - 1) = (j : Int) by rw [wrap64_eq]; omega)
      have g1 : j < l.length := by omega
      have hv := Lib.hid (show (!PB || decide (t ≤ x)) = !F by
        rw [← hF, show decide (x < t) = !decide (t ≤ x) by rw [Bool.eq_iff_iff]; simp]
        cases PB with
        | false => rfl
        | true =>
          rw [decide_eq_true (hp0 rfl)]
          cases decide (t ≤ x) <;> rfl)
      have tj := Lib.hid ty
      replace tr := Lib.hid tr
      clear hst0 hF hz0 e1 hr h0 ty hj hPB hp0
      go_upto_region 6 with (fail)
      refine wp_cutB W (Rc (fun W' => PtsP W' b o l) <| Bz) ?_ (hI := by exact belowAny) (hR := (Rc.mk (by first | exact hI | exact hI.below belowAny) <| trivial))
      rintro W21 hW z22 hL
      obtain ⟨b1, -⟩ := id hL
      refine wp_regQ 24 42 hW hL ?_
      iterate 4 refine dE (fun W' hC => aI E0.out (aI hlt (aI (Nat.not_le.2 hlt) (aI (hC.2.1.cellAt tr.out) (aI E1.out (aI g1 (aI (Nat.not_le.2 g1) (hC.2.1.cellAt tj.out)))))))) ?_
      refine cE (fun W' hC => aI E0.out (aI hlt (aI (Nat.not_le.2 hlt) (aI (hC.2.1.cellAt tr.out) (aI E1.out (aI g1 (aI (Nat.not_le.2 g1) (hC.2.1.cellAt tj.out)))))))) (fun W' hC => cP.out W') ?_
      iterate 2 refine dE (fun W' hC => aI E0.out (aI hlt (aI (Nat.not_le.2 hlt) (aI (hC.2.1.cellAt tr.out) (aI E1.out (aI g1 (aI (Nat.not_le.2 g1) (hC.2.1.cellAt tj.out)))))))) ?_
      iterate 3 refine gE (fun W' hC => aI E0.out (aI hlt (aI (Nat.not_le.2 hlt) (aI (hC.2.1.cellAt tr.out) (aI E1.out (aI g1 (aI (Nat.not_le.2 g1) (hC.2.1.cellAt tj.out)))))))) ?_
      iterate 12 refine gF (fun W' hC => aI E0.out (aI hlt (aI (Nat.not_le.2 hlt) (aI (hC.2.1.cellAt tr.out) (aI E1.out (aI g1 (aI (Nat.not_le.2 g1) (hC.2.1.cellAt tj.out)))))))) ?_
      refine pgA ?_
      refine pO ?_
      clear hW hL b1
      rintro W23 hW z24 hL
      simp only [ndR]
      intros
      repeat (rename GDet _ _ _ _ => hgd; clear hgd)
      simp only [ndS]
      refine wpList_nil ?_
      obtain ⟨b1, -⟩ := hL
      rw [hv.out]
      cases F with
      | false =>
        go_wp2
        go_ret
        exact ⟨by rw [hno.out (by trivial)]; rfl, hW0.trans (hW.mono hz)⟩
      | true =>
        go_wp2
        rw [show (i : Int) + 1 = ((i + 1 : Nat) : Int) by omega]
        refine ⟨?_, by simp [intAt]; omega⟩
        unfold r13Rel
        exact ⟨hW0.trans (hW.mono hz), i + 1, frame_ex rfl, hst.out (by trivial), by omega⟩
  · obtain rfl : i = l.length := by omega
    rw [List.take_length] at hr
    have hres := Lib.hid (show RES = true by rw [hck.out, hr])
    clear hr hck
    go_wp2
    go_ret
    exact ⟨by rw [hres.out]; rfl, hW0⟩
set_option maxRecDepth 100000 in
set_option maxHeartbeats 2000000 in
theorem c_why (p : Option Addr) (cap : Nat) (l : List (Int × Int)) (eps : Int) (w : World) (hin : PtsIn w p l) (hmx : l.length ≤ 1000000) :
    Calls Tryz.prog 23 #[.slice p l.length cap, .int .i64 eps] w fun e w' => e = .returned (.int .i64 (bothE l eps)) ∧ Below w.heap.size w w' := by
  have c1 := Lib.hid (fun W (hi : PtsIn W p l) => c_r13Right p cap l W hi hmx)
  have c2 := Lib.hid (fun W => c_r13Eps eps W)
  unfold bothE
  cases hb : winB l with
  | false =>
    rw [hb] at c1
    simp only [Bool.false_eq_true, if_false] at c1 ⊢
    go_enter Tryz.func23, Tryz.ntmps23
    go_wp2_with fail
    refine (c1.out w hin).mono ?_
    rintro e w1 ⟨rfl, hB1⟩
    go_wp2
    go_ret
    exact ⟨rfl, hB1⟩
  | true =>
    rw [hb] at c1
    simp only [if_true] at c1 ⊢
    cases he : btw eps 0 1099511627776 with
    | false =>
      rw [he] at c2
      simp only [Bool.false_eq_true, if_false] at c2 ⊢
      go_enter Tryz.func23, Tryz.ntmps23
      go_wp2_with fail
      refine (c1.out w hin).mono ?_
      rintro e w1 ⟨rfl, hB1⟩
      go_wp2_with fail
      refine (c2.out w1).mono ?_
      rintro e w2 ⟨rfl, hB2⟩
      replace hB1 := hB1.trans (hB2.mono hB1.size)
      go_wp2
      go_ret
      exact ⟨rfl, hB1⟩
    | true =>
      rw [he] at c2
      simp only [if_true] at c2 ⊢
      go_enter Tryz.func23, Tryz.ntmps23
      go_wp2_with fail
      refine (c1.out w hin).mono ?_
      rintro e w1 ⟨rfl, hB1⟩
      go_wp2_with fail
      refine (c2.out w1).mono ?_
      rintro e w2 ⟨rfl, hB2⟩
      replace hB1 := hB1.trans (hB2.mono hB1.size)
      go_wp2
      go_ret
      exact ⟨rfl, hB1⟩
theorem valOk {l : List (Int × Int)} {eps : Int} (h : bothE l eps = 0) : ValOk l eps := by
  unfold bothE at h
  cases hb : winB l with
  | false => rw [hb] at h; cases h
  | true =>
    cases he : btw eps 0 1099511627776 with
    | false => rw [hb, he] at h; cases h
    | true =>
      unfold winB at hb
      rw [Bool.and_eq_true] at hb
      unfold btw at he
      simp only [Bool.and_eq_true, decide_eq_true_eq] at he
      refine ⟨fun x hx => ?_, he⟩
      have h1 := (rawPtsB_mem 0 l (-1) hb.2 x hx).1
      unfold ptB btw at h1
      simp only [Bool.and_eq_true, decide_eq_true_eq] at h1
      exact h1.2
set_option maxRecDepth 100000 in
set_option maxHeartbeats 2000000 in
theorem c_wnBands (p : Option Addr) (cap : Nat) (l : List (Int × Int)) (eps : Int) (w : World) (hin : PtsIn w p l) (hmx : l.length ≤ 1000) :
    Calls Tryz.prog 22 #[.slice p l.length cap, .int .i64 eps] w fun e w' => ∃ v, e = .returned (.tuple #[v, .int .i64 (bothE l eps)]) ∧ Below w.heap.size w w' ∧ (bothE l eps = 0 → OwnR w' w.heap.size 44 3 v l.length (flatCells (bndL eps l))) ∧ (bothE l eps ≠ 0 → v = .slice none 0 0) := by
  have c1 := Lib.hid (fun W (hi : PtsIn W p l) => c_wnBoth p cap l eps W hi (by omega))
  by_cases h0 : bothE l eps = 0
  · have c2 := Lib.hid (fun W (hi : PtsIn W p l) => c_wnBandsI p cap l eps W hi hmx (valOk h0))
    rw [h0] at c1 ⊢
    go_enter Tryz.func22, Tryz.ntmps22
    go_wp2_with fail
    refine (c1.out w hin).mono ?_
    rintro e w1 ⟨rfl, hB1⟩
    go_wp2_with fail
    refine (c2.out w1 (hin.below hB1)).mono ?_
    rintro e w2 ⟨v, rfl, hB2, hO⟩
    replace hO := Lib.hid (OwnR.mono hO hB1.size)
    replace hB1 := hB1.trans (hB2.mono hB1.size)
    go_wp2
    refine bodyPost_ret (v := .tuple #[v, .int .i64 0]) (by simp [results, Tryz.results22, go_sem]) rfl ⟨v, rfl, hB1, fun _ => hO.out, fun e => absurd rfl e⟩
  · obtain ⟨NO, hNO⟩ : ∃ n, bothE l eps = n := ⟨_, rfl⟩
    rw [hNO] at c1 h0 ⊢
    have hno := h0
    have hne : (NO != 0) = true := by simpa using h0
    go_enter Tryz.func22, Tryz.ntmps22
    go_wp2_with fail
    refine (c1.out w hin).mono ?_
    rintro e w1 ⟨rfl, hB1⟩
    go_wp2
    refine bodyPost_ret (v := .tuple #[.slice none 0 0, .int .i64 NO]) (by simp [results, Tryz.results22, go_sem]) rfl ⟨_, rfl, hB1, fun e => absurd e hno, fun _ => rfl⟩
set_option maxRecDepth 100000 in
set_option maxHeartbeats 2000000 in
theorem c_own13 (p : Option Addr) (cap : Nat) (l : List (Int × Int)) (w : World) (hin : PtsIn w p l) (hnil : p = none → l.length = 0 ∧ cap = 0) (hc : l.length ≤ cap) :
    Calls Tryz.prog 19 #[.slice p l.length cap] w fun e w' => ∃ g c, e = .returned (.slice (some ⟨g, 0, none⟩) (l.take 40).length c) ∧ Below w.heap.size w w' ∧ PtsIn w' (some ⟨g, 0, none⟩) (l.take 40) := by
  obtain ⟨N, hN⟩ : ∃ N, N = min l.length 40 := ⟨_, rfl⟩
  have hNl : N ≤ l.length := by omega
  have hN40 : N ≤ 40 := by omega
  have hNc : (N : Int) ≤ (cap : Int) := by omega
  have hmin : ∀ ts t W, (Builtin.min_ ts t #[.int .i64 (l.length : Int), .int .i64 40]).run Tryz.prog W = .ok (.int .i64 (N : Int)) W := fun ts t W => by
    have e : (if (40 : Int) < (l.length : Int) then (40 : Int) else (l.length : Int)) = (N : Int) := by split <;> omega
    simp [Builtin.min_, Builtin.min2, e]
  have hmk : ∀ W, (Instr.buildSlice 47 0 #[]).run Tryz.prog W = .ok (.slice (some ⟨W.heap.size, 0, none⟩) 0 0) (W.alloc (.cells #[] 56)) := fun W => by kernel_rfl
  have ht : l.take 40 = l.take N := by
    rcases Nat.lt_or_ge 40 l.length with h9 | h9
    · rw [show N = 40 by omega]
    · rw [List.take_of_length_le h9, List.take_of_length_le (by omega)]
  have hlN : (l.take N).length = N := by rw [List.length_take]; omega
  rw [ht, hlN]
  obtain ⟨i0, hi, hz0, hz1, hz2⟩ := info_parts Tryz.infoPt
  cases p with
  | none =>
    obtain ⟨h1, hc0⟩ := hnil rfl
    subst hc0
    obtain rfl : N = 0 := by omega
    obtain rfl : l = [] := List.length_eq_zero_iff.1 h1
    clear hnil hN hc hNc hNl hN40 hin ht hlN h1
    go_enter Tryz.func19, Tryz.ntmps19
    have hW : Below w.heap.size w (w.alloc (.cells #[] 56)) := belowAny
    have hown0 := World.ownsRow_made (e := 56) (size := 2) (base := w.heap.size) w #[] 0 (Nat.le_refl _) (by simp [maxLen]) (by simp)
    go_wp2_with (at_builtin; refine wpList_append_run rfl (.tmp 3) (.tmp 8) 47 rfl _ _ _ _ rfl rfl (run_append_owned_none (P := Tryz.prog) (w := w.alloc (.cells #[] 56)) w.heap.size 47 47 56 i0 2 (by kernel_rfl) hi _ 0 [] hown0) ?_)
    go_wp2
    go_ret
    exact ⟨w.heap.size, 0, by simp, hW, ⟨fun i x hx => by simp at hx⟩⟩
  | some a =>
    clear hnil ht hlN hN
    go_enter Tryz.func19, Tryz.ntmps19
    have hW : Below w.heap.size w (w.alloc (.cells #[] 56)) := belowAny
    have hown0 := World.ownsRow_made (e := 56) (size := 2) (base := w.heap.size) w #[] 0 (Nat.le_refl _) (by simp [maxLen]) (by simp)
    go_wp2_with (at_builtin; refine wpList_append_own _ rfl (.tmp 3) (.tmp 8) 47 rfl w.heap.size 56 i0 _ 2 16 (by kernel_rfl) hi hz0 hz1 hz2 rfl (by omega) _ 0 [] rfl hown0 a N cap (flatPts (l.take N)) rfl (by rw [flatPts_len9, List.length_take]; omega) (fun j u hu => pts_flat9 ((hin.take9 N).below hW) j u hu) (fun v hv => flatPts_one9 _ v hv) (by simp only [maxLen]; omega) (by omega) (by first | (simp; done) | omega) ?_)
    intro v' w' hown hgr hvn
    have hB := Lib.hid (clone_below hgr)
    replace hown := Lib.hid hown
    replace hvn := Lib.hid hvn
    clear hgr
    go_wp2
    go_ret
    obtain ⟨_, h2 | ⟨g, cap', cur, rfl, hg, hb, hn, _, hc, ht⟩⟩ := hown.out
    · exact (hvn.out h2.1).elim
    · exact ⟨g, cap', by simp, hB.out, pts_in (n := N * 2) hb (by simpa using ht)⟩
end Go.Proofs.YtbanjolokkghdaaGreatDoor
namespace Go.Proofs.YtbanjolokkghdaaGreatDoor
open Go.RowKit
theorem ite_ne2 {a b c d : Int} {w : World} : ((if a = b then (if c = d then Result.ok (Go.Next.value (Value.bool false)) w else Result.ok (Go.Next.value (Value.bool true)) w) else Result.ok (Go.Next.value (Value.bool true)) w) : Result Go.Next) = Result.ok (Go.Next.value (Value.bool (!(decide (a = b) && decide (c = d))))) w := by
  by_cases h1 : a = b <;> by_cases h2 : c = d <;> simp [h1, h2]
def eqqRel (w : World) (p : Option Addr) (cap : Nat) (p' : Option Addr) (cap' : Nat) (A B : List (Int × Int)) (a' : Act) (W : World) : Prop :=
  Below w.heap.size w W ∧ ∃ (i : Nat), (∃ u : Nat → Value, a' = { tmps := #[.slice p A.length cap, .slice p' A.length cap', u 2, u 3, .bool false, u 5, u 6, u 7, u 8, u 9, u 10, u 11, .int .i64 (A.length : Int), .int .i64 (i : Int), u 14, u 15, u 16, u 17, u 18, u 19, u 20, u 21, u 22, u 23, u 24, u 25], defers := [] }) ∧ i ≤ A.length ∧ ∀ k, k < i → A[k]? = B[k]?
set_option maxRecDepth 100000 in
set_option maxHeartbeats 2000000 in
theorem eqPtsG_w (p : Option Addr) (cap : Nat) (p' : Option Addr) (cap' : Nat) (A B : List (Int × Int)) (w : World) (hl : A.length = B.length) (hlen : A.length ≤ 1000000) (hA0 : PtsIn w p A) (hB0 : PtsIn w p' B) :
    Calls Tryz.prog 25 #[.slice p A.length cap, .slice p' A.length cap'] w fun e w' => e = .returned (.bool (decide (A = B))) ∧ Below w.heap.size w w' := by
  go_enter Tryz.func25, Tryz.ntmps25
  replace hl := Lib.hid hl
  go_wp2
  refine wp_loop (eqqRel w p cap p' cap' A B) (fun a' _ => A.length - (intAt (a'.tmps.getD 13 undef)).toNat) ?_ ?_
  · unfold eqqRel
    exact ⟨Below.refl _ _, 0, frame_ex rfl, by omega, fun k hk => by omega⟩
  · rintro a' W ⟨hW0, i, ⟨u, rfl⟩, hi', hall⟩
    have hz := hW0.size
    replace hall := Lib.hid hall
    rcases Nat.lt_or_ge i A.length with hlt | hge
    · obtain ⟨r, tr⟩ : ∃ r, A[i]? = some r := ⟨A[i]'(by omega), List.getElem?_eq_getElem (by omega)⟩
      obtain ⟨q, tq⟩ : ∃ q, B[i]? = some q := ⟨B[i]'(by have := hl.out; omega), List.getElem?_eq_getElem (by have := hl.out; omega)⟩
      obtain ⟨b, o, rfl, -⟩ := hA0.at' i r tr
      obtain ⟨b', o', rfl, -⟩ := hB0.at' i q tq
      have hA : PtsP W b o A := ⟨hA0.below hW0⟩
      have hB : PtsP W b' o' B := ⟨hB0.below hW0⟩
      replace tr := Lib.hid tr
      replace tq := Lib.hid tq
      have l1 := hlt
      have l2 : i < B.length := by have := hl.out; omega
      go_upto_region 6 with (fail)
      refine wp_cutB W (Rc (fun W' => PtsP W' b o A) <| Rc (fun W' => PtsP W' b' o' B) <| Bz) ?_ (hI := by exact belowAny) (hR := (Rc.mk (by exact hA.below belowAny) <| Rc.mk (by exact hB.below belowAny) <| trivial))
      rintro W1 hW z2 hL
      obtain ⟨b1, b2, -⟩ := id hL
      refine wp_regQ 9 26 hW hL ?_
      iterate 9
        apply nd_det (hg := rfl) (hal := rfl)
        · intro a W' hC hE
          obtain ⟨_, k1, k2, -⟩ := hC
          obtain ⟨q0, q1⟩ := k1.cellAt tr.out; obtain ⟨q2, q3⟩ := k2.cellAt tq.out
          first
            | (simp [Oper.looksAt, Op.operands, Call.operands, envOf, Det] at hE; simp [go_sem, Act.eval, IntWalk.i64_left, hE, k1, k2, q0, q1, q2, q3, l1, l2, ite_ne2]; try rfl)
            | (clear hE; simp [go_sem, Act.eval, IntWalk.i64_left, k1, k2, q0, q1, q2, q3, l1, l2, ite_ne2]; try rfl)
      clear hW hL b1 b2
      rintro W3 hW z4 hL
      simp only [ndR]
      intros
      simp only [ndS]
      refine wpList_nil ?_
      obtain ⟨b1, b2, -⟩ := hL
      by_cases hrq : r = q
      · have hall' := Lib.hid (show ∀ k, k < i + 1 → A[k]? = B[k]? from fun k hk => by
          rcases Nat.lt_or_ge k i with h | h
          · exact hall.out k h
          · obtain rfl : k = i := by omega
            rw [tr.out, tq.out, hrq])
        rw [show (!decide (r.1 = q.1) || !decide (r.2 = q.2)) = false by subst hrq; simp]
        clear hrq
        go_wp2
        rw [show (i : Int) + 1 = ((i + 1 : Nat) : Int) by omega]
        refine ⟨?_, by simp [intAt]; omega⟩
        unfold eqqRel
        exact ⟨hW0.trans (hW.mono hz), i + 1, frame_ex rfl, by omega, hall'.out⟩
      · have hne := Lib.hid (show decide (A = B) = false by
          rw [decide_eq_false_iff_not]
          rintro rfl
          rw [tr.out] at tq
          exact hrq (Option.some.inj tq.out))
        rw [show (!decide (r.1 = q.1) || !decide (r.2 = q.2)) = true by
          obtain ⟨r1, r2⟩ := r
          obtain ⟨q1, q2⟩ := q
          simp at hrq
          by_cases h1 : r1 = q1
          · simp [h1, hrq h1]
          · simp [h1]]
        clear hrq
        go_wp2
        go_ret
        exact ⟨by rw [hne.out]; rfl, hW0.trans (hW.mono hz)⟩
    · obtain rfl : i = A.length := by omega
      have heq := Lib.hid (show decide (A = B) = true by
        rw [decide_eq_true_eq]
        apply List.ext_getElem?
        intro k
        rcases Nat.lt_or_ge k A.length with h | h
        · exact hall.out k h
        · rw [List.getElem?_eq_none h, List.getElem?_eq_none (by have := hl.out; omega)])
      go_wp2
      go_ret
      exact ⟨by rw [heq.out]; rfl, hW0⟩
set_option maxRecDepth 100000 in
set_option maxHeartbeats 2000000 in
theorem eqPtsG_len (p : Option Addr) (n cap : Nat) (p' : Option Addr) (m cap' : Nat) (w : World) (hl : ¬ n = m) :
    Calls Tryz.prog 25 #[.slice p n cap, .slice p' m cap'] w fun e w' => e = .returned (.bool false) ∧ Below w.heap.size w w' := by
  go_enter Tryz.func25, Tryz.ntmps25
  go_wp2
  go_ret
  exact ⟨rfl, Below.refl _ _⟩
theorem c_eqPtsG (p : Option Addr) (cap : Nat) (p' : Option Addr) (cap' : Nat) (A B : List (Int × Int)) (w : World) (hlen : A.length ≤ 1000000) (hA0 : PtsIn w p A) (hB0 : PtsIn w p' B) :
    Calls Tryz.prog 25 #[.slice p A.length cap, .slice p' B.length cap'] w fun e w' => e = .returned (.bool (decide (A = B))) ∧ Below w.heap.size w w' := by
  by_cases h : A.length = B.length
  · rw [← h]; exact eqPtsG_w p cap p' cap' A B w h hlen hA0 hB0
  · rw [show decide (A = B) = false by rw [decide_eq_false_iff_not]; rintro rfl; exact h rfl]
    exact eqPtsG_len p _ cap p' _ cap' w h
end Go.Proofs.YtbanjolokkghdaaGreatDoor
namespace Go.Proofs.YtbanjolokkghdaaGreatDoor
open Go.RowKit
set_option maxRecDepth 100000 in
set_option maxHeartbeats 2000000 in
theorem wbands_bad (p : Option Addr) (n cap : Nat) (l : List (Int × Int)) (eps NO : Int) (w : World) (hNO : NO ≠ 0) (hne : (NO != 0) = true)
    (c1 : Hid (∀ W, Below w.heap.size w W → Calls Tryz.prog 6 #[] W fun e w' => e = .returned (.bool true) ∧ Below W.heap.size W w'))
    (c2 : Hid (∀ W, Below w.heap.size w W → Calls Tryz.prog 19 #[.slice p n cap] W fun e w' => ∃ g c, e = .returned (.slice (some ⟨g, 0, none⟩) l.length c) ∧ Below W.heap.size W w' ∧ PtsIn w' (some ⟨g, 0, none⟩) l))
    (c3 : Hid (∀ W g c, PtsIn W (some ⟨g, 0, none⟩) l → Calls Tryz.prog 20 #[.slice (some ⟨g, 0, none⟩) l.length c] W fun e w' => e = .returned (.int .i64 230) ∧ Below W.heap.size W w'))
    (c4 : Hid (∀ W g c, PtsIn W (some ⟨g, 0, none⟩) l → Calls Tryz.prog 21 #[.slice (some ⟨g, 0, none⟩) l.length c] W fun e w' => e = .returned (.bool false) ∧ Below W.heap.size W w'))
    (c5 : Hid (∀ W g c, PtsIn W (some ⟨g, 0, none⟩) l → Calls Tryz.prog 22 #[.slice (some ⟨g, 0, none⟩) l.length c, .int .i64 eps] W fun e w' => ∃ v, e = .returned (.tuple #[v, .int .i64 NO]) ∧ Below W.heap.size W w' ∧ ((NO : Int) = 0 → OwnR w' W.heap.size 44 3 v l.length (flatCells (bndL eps l))) ∧ ((NO : Int) ≠ 0 → v = .slice none 0 0)))
    (c6 : Hid (∀ W g c, PtsIn W (some ⟨g, 0, none⟩) l → Calls Tryz.prog 23 #[.slice (some ⟨g, 0, none⟩) l.length c, .int .i64 eps] W fun e w' => e = .returned (.int .i64 NO) ∧ Below W.heap.size W w')) :
    Calls Tryz.prog 5 #[.slice p n cap, .int .i64 eps] w fun e w' => e = .returned (.bool true) ∧ Below w.heap.size w w' := by
  go_enter Tryz.func5, Tryz.ntmps5
  have hW0 : Below w.heap.size w w := Below.refl _ _
  go_wp2_with fail
  refine (c1.out w hW0).mono ?_
  rintro e w1 ⟨rfl, hW1⟩
  clear hW0
  go_wp2_with fail
  refine (c2.out w1 hW1).mono ?_
  rintro e w2 ⟨g, c, rfl, hb2, hP2⟩
  have hW2 := hW1.trans (hb2.mono hW1.size)
  clear hW1 hb2
  go_wp2_with fail
  refine (c3.out w2 _ _ hP2).mono ?_
  rintro e w3 ⟨rfl, hb3⟩
  have hW3 := hW2.trans (hb3.mono hW2.size)
  have hP3 := hP2.below hb3
  clear hP2 hW2 hb3
  go_wp2_with fail
  refine (c4.out w3 _ _ hP3).mono ?_
  rintro e w4 ⟨rfl, hb4⟩
  have hW4 := hW3.trans (hb4.mono hW3.size)
  have hP4 := hP3.below hb4
  clear hP3 hW3 hb4
  go_wp2_with fail
  refine (c5.out w4 _ _ hP4).mono ?_
  rintro e w5 ⟨v, rfl, hb5, -, hv⟩
  have hW5 := hW4.trans (hb5.mono hW4.size)
  have hP5 := hP4.below hb5
  clear hP4 hW4 hb5
  obtain rfl := hv hNO
  go_wp2_with fail
  refine (c6.out w5 _ _ hP5).mono ?_
  rintro e w6 ⟨rfl, hb6⟩
  have hW6 := hW5.trans (hb6.mono hW5.size)
  have hP6 := hP5.below hb6
  clear hP5 hW5 hb6
  go_wp2
  go_ret
  exact ⟨rfl, hW6⟩
set_option maxRecDepth 100000 in
set_option maxHeartbeats 2000000 in
theorem wbands_no (p : Option Addr) (n cap : Nat) (l : List (Int × Int)) (eps NO : Int) (w : World) (hNO : NO ≠ 0) (hne : (NO != 0) = true)
    (c1 : Hid (∀ W, Below w.heap.size w W → Calls Tryz.prog 6 #[] W fun e w' => e = .returned (.bool true) ∧ Below W.heap.size W w'))
    (c2 : Hid (∀ W, Below w.heap.size w W → Calls Tryz.prog 19 #[.slice p n cap] W fun e w' => ∃ g c, e = .returned (.slice (some ⟨g, 0, none⟩) l.length c) ∧ Below W.heap.size W w' ∧ PtsIn w' (some ⟨g, 0, none⟩) l))
    (c3 : Hid (∀ W g c, PtsIn W (some ⟨g, 0, none⟩) l → Calls Tryz.prog 20 #[.slice (some ⟨g, 0, none⟩) l.length c] W fun e w' => e = .returned (.int .i64 0) ∧ Below W.heap.size W w'))
    (c4 : Hid (∀ W g c, PtsIn W (some ⟨g, 0, none⟩) l → Calls Tryz.prog 21 #[.slice (some ⟨g, 0, none⟩) l.length c] W fun e w' => e = .returned (.bool true) ∧ Below W.heap.size W w'))
    (c5 : Hid (∀ W g c, PtsIn W (some ⟨g, 0, none⟩) l → Calls Tryz.prog 22 #[.slice (some ⟨g, 0, none⟩) l.length c, .int .i64 eps] W fun e w' => ∃ v, e = .returned (.tuple #[v, .int .i64 NO]) ∧ Below W.heap.size W w' ∧ ((NO : Int) = 0 → OwnR w' W.heap.size 44 3 v l.length (flatCells (bndL eps l))) ∧ ((NO : Int) ≠ 0 → v = .slice none 0 0)))
    (c6 : Hid (∀ W g c, PtsIn W (some ⟨g, 0, none⟩) l → Calls Tryz.prog 23 #[.slice (some ⟨g, 0, none⟩) l.length c, .int .i64 eps] W fun e w' => e = .returned (.int .i64 NO) ∧ Below W.heap.size W w')) :
    Calls Tryz.prog 5 #[.slice p n cap, .int .i64 eps] w fun e w' => e = .returned (.bool true) ∧ Below w.heap.size w w' := by
  go_enter Tryz.func5, Tryz.ntmps5
  have hW0 : Below w.heap.size w w := Below.refl _ _
  go_wp2_with fail
  refine (c1.out w hW0).mono ?_
  rintro e w1 ⟨rfl, hW1⟩
  clear hW0
  go_wp2_with fail
  refine (c2.out w1 hW1).mono ?_
  rintro e w2 ⟨g, c, rfl, hb2, hP2⟩
  have hW2 := hW1.trans (hb2.mono hW1.size)
  clear hW1 hb2
  go_wp2_with fail
  refine (c3.out w2 _ _ hP2).mono ?_
  rintro e w3 ⟨rfl, hb3⟩
  have hW3 := hW2.trans (hb3.mono hW2.size)
  have hP3 := hP2.below hb3
  clear hP2 hW2 hb3
  go_wp2_with fail
  refine (c4.out w3 _ _ hP3).mono ?_
  rintro e w4 ⟨rfl, hb4⟩
  have hW4 := hW3.trans (hb4.mono hW3.size)
  have hP4 := hP3.below hb4
  clear hP3 hW3 hb4
  go_wp2_with fail
  refine (c5.out w4 _ _ hP4).mono ?_
  rintro e w5 ⟨v, rfl, hb5, -, hv⟩
  have hW5 := hW4.trans (hb5.mono hW4.size)
  have hP5 := hP4.below hb5
  clear hP4 hW4 hb5
  obtain rfl := hv hNO
  go_wp2_with fail
  refine (c6.out w5 _ _ hP5).mono ?_
  rintro e w6 ⟨rfl, hb6⟩
  have hW6 := hW5.trans (hb6.mono hW5.size)
  have hP6 := hP5.below hb6
  clear hP5 hW5 hb6
  go_wp2
  go_ret
  exact ⟨rfl, hW6⟩
set_option maxRecDepth 100000 in
set_option maxHeartbeats 2000000 in
theorem wbands_yes (p : Option Addr) (n cap : Nat) (l : List (Int × Int)) (eps NO : Int) (w : World) 
    (c1 : Hid (∀ W, Below w.heap.size w W → Calls Tryz.prog 6 #[] W fun e w' => e = .returned (.bool true) ∧ Below W.heap.size W w'))
    (c2 : Hid (∀ W, Below w.heap.size w W → Calls Tryz.prog 19 #[.slice p n cap] W fun e w' => ∃ g c, e = .returned (.slice (some ⟨g, 0, none⟩) l.length c) ∧ Below W.heap.size W w' ∧ PtsIn w' (some ⟨g, 0, none⟩) l))
    (c3 : Hid (∀ W g c, PtsIn W (some ⟨g, 0, none⟩) l → Calls Tryz.prog 20 #[.slice (some ⟨g, 0, none⟩) l.length c] W fun e w' => e = .returned (.int .i64 0) ∧ Below W.heap.size W w'))
    (c4 : Hid (∀ W g c, PtsIn W (some ⟨g, 0, none⟩) l → Calls Tryz.prog 21 #[.slice (some ⟨g, 0, none⟩) l.length c] W fun e w' => e = .returned (.bool true) ∧ Below W.heap.size W w'))
    (c5 : Hid (∀ W g c, PtsIn W (some ⟨g, 0, none⟩) l → Calls Tryz.prog 22 #[.slice (some ⟨g, 0, none⟩) l.length c, .int .i64 eps] W fun e w' => ∃ v, e = .returned (.tuple #[v, .int .i64 0]) ∧ Below W.heap.size W w' ∧ ((0 : Int) = 0 → OwnR w' W.heap.size 44 3 v l.length (flatCells (bndL eps l))) ∧ ((0 : Int) ≠ 0 → v = .slice none 0 0)))
    (c6 : Hid (∀ W g c, PtsIn W (some ⟨g, 0, none⟩) l → Calls Tryz.prog 23 #[.slice (some ⟨g, 0, none⟩) l.length c, .int .i64 eps] W fun e w' => e = .returned (.int .i64 0) ∧ Below W.heap.size W w'))
    (c7 : Hid (∀ W g c, PtsIn W (some ⟨g, 0, none⟩) l → Calls Tryz.prog 24 #[.slice (some ⟨g, 0, none⟩) l.length c, .int .i64 eps] W fun e w' => ∃ v, e = .returned v ∧ Below W.heap.size W w' ∧ OwnR w' W.heap.size 44 3 v l.length (flatCells (bndL eps l))))
    (c8 : Hid (∀ W p c p' c', RunsIn W p (bndL eps l) → RunsIn W p' (bndL eps l) → Calls Tryz.prog 16 #[.slice p l.length c, .slice p' l.length c'] W fun e w' => e = .returned (.bool true) ∧ Below W.heap.size W w'))
    (c9 : Hid (∀ W g c g' c', PtsIn W (some ⟨g, 0, none⟩) l → PtsIn W (some ⟨g', 0, none⟩) l → Calls Tryz.prog 25 #[.slice (some ⟨g, 0, none⟩) l.length c, .slice (some ⟨g', 0, none⟩) l.length c'] W fun e w' => e = .returned (.bool true) ∧ Below W.heap.size W w')) :
    Calls Tryz.prog 5 #[.slice p n cap, .int .i64 eps] w fun e w' => e = .returned (.bool true) ∧ Below w.heap.size w w' := by
  go_enter Tryz.func5, Tryz.ntmps5
  have hW0 : Below w.heap.size w w := Below.refl _ _
  go_wp2_with fail
  refine (c1.out w hW0).mono ?_
  rintro e w1 ⟨rfl, hW1⟩
  clear hW0
  go_wp2_with fail
  refine (c2.out w1 hW1).mono ?_
  rintro e w2 ⟨g, c, rfl, hb2, hP2⟩
  have hW2 := hW1.trans (hb2.mono hW1.size)
  clear hW1 hb2
  go_wp2_with fail
  refine (c3.out w2 _ _ hP2).mono ?_
  rintro e w3 ⟨rfl, hb3⟩
  have hW3 := hW2.trans (hb3.mono hW2.size)
  have hP3 := hP2.below hb3
  clear hP2 hW2 hb3
  go_wp2_with fail
  refine (c4.out w3 _ _ hP3).mono ?_
  rintro e w4 ⟨rfl, hb4⟩
  have hW4 := hW3.trans (hb4.mono hW3.size)
  have hP4 := hP3.below hb4
  clear hP3 hW3 hb4
  go_wp2_with fail
  refine (c5.out w4 _ _ hP4).mono ?_
  rintro e w5 ⟨v, rfl, hb5, hv, -⟩
  have hW5 := hW4.trans (hb5.mono hW4.size)
  have hP5 := hP4.below hb5
  clear hP4 hW4 hb5
  have hO := hv (by trivial)
  clear hv
  obtain ⟨pb, cb, rfl, -, -, -, -⟩ := hO.form
  have hR5 := hO.runs
  go_wp2_with fail
  refine (c6.out w5 _ _ hP5).mono ?_
  rintro e w6 ⟨rfl, hb6⟩
  have hW6 := hW5.trans (hb6.mono hW5.size)
  have hP6 := hP5.below hb6
  have hR6 := hR5.below hb6
  clear hP5 hW5 hb6 hR5 hO
  go_wp2_with fail
  refine (c7.out w6 _ _ hP6).mono ?_
  rintro e w7 ⟨v, rfl, hb7, hO⟩
  have hW7 := hW6.trans (hb7.mono hW6.size)
  have hP7 := hP6.below hb7
  have hR7 := hR6.below hb7
  obtain ⟨pb2, cb2, rfl, -, -, -, -⟩ := hO.form
  have hR7' := hO.runs
  clear hP6 hW6 hb7 hR6 hO
  go_wp2_with fail
  refine (c8.out w7 _ _ _ _ hR7 hR7').mono ?_
  rintro e w8 ⟨rfl, hb8⟩
  have hW8 := hW7.trans (hb8.mono hW7.size)
  have hP8 := hP7.below hb8
  clear hP7 hW7 hb8
  clear hR7 hR7'
  go_wp2_with fail
  refine (c2.out w8 hW8).mono ?_
  rintro e w9 ⟨g9, k9, rfl, hb9, hP9'⟩
  have hW9 := hW8.trans (hb9.mono hW8.size)
  have hP9 := hP8.below hb9
  clear hP8 hW8 hb9
  go_wp2_with fail
  refine (c9.out w9 _ _ _ _ hP9 hP9').mono ?_
  rintro e w10 ⟨rfl, hb10⟩
  have hW10 := hW9.trans (hb10.mono hW9.size)
  have hP10 := hP9.below hb10
  clear hP9 hW9 hb10
  go_wp2
  go_ret
  exact ⟨rfl, hW10⟩
end Go.Proofs.YtbanjolokkghdaaGreatDoor
