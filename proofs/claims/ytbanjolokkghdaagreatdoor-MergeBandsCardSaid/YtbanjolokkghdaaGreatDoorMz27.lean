/- Parts of the proof that follows: MergeBands, walked. No condition but that the row can be read. -/
import Derived.Test.YtbanjolokkghdaaGreatDoorMz26
set_option maxRecDepth 100000
set_option maxHeartbeats 8000000
set_option linter.unusedSimpArgs false
set_option linter.unusedVariables false
namespace Go.Proofs.YtbanjolokkghdaaGreatDoor
open Go.RowKit
theorem bandsM_len (eps : Int) (x : SegT) (hs : segB x = true) : (bandsM eps (oldsL x)).length = (oldsL x).length ∧ (oldsL x).length ≤ 100000 := by
  have h1 := length_pts hs
  have h2 := (segB_runs hs).count
  have h3 : (oldsL x).length = (ptsL x).length := by unfold oldsL; rw [List.length_map]
  exact ⟨by unfold bandsM; rw [List.length_map], by omega⟩
def mbRel (w : World) (p : Option Addr) (n cap : Nat) (L : List SegT) (eps : Int) (pL : Option Addr) (cL : Nat) (a' : Act) (W : World) : Prop :=
  Below w.heap.size w W ∧ SegsIn W pL L ∧ ∃ i : Nat, (∃ u : Nat → Value, a' = { tmps := #[.slice p n cap, .int .i64 eps, u 2, u 3, .bool false, .slice pL L.length cL, u 6, u 7, u 8, u 9, u 10, u 11, u 12, u 13, u 14, u 15, u 16, u 17, u 18, u 19, u 20, u 21, u 22, u 23, u 24, u 25, u 26, u 27, u 28, u 29, u 30, u 31, .slice pL L.length cL, .int .i64 (L.length : Int), .int .i64 (i : Int), u 35, u 36, u 37, u 38, u 39, u 40, u 41, u 42, u 43, u 44, u 45, u 46, u 47, u 48, u 49, u 50, u 51, u 52, u 53, u 54, u 55, u 56, u 57, u 58, u 59, u 60, u 61, u 62, u 63, u 64, u 65, u 66, u 67, u 68, u 69, u 70, u 71, u 72, u 73, u 74, u 75, u 76, u 77, u 78, u 79, u 80, u 81, u 82, u 83], defers := [] }) ∧ i ≤ L.length
set_option maxRecDepth 100000 in
set_option maxHeartbeats 2000000 in
theorem mbands_row (p : Option Addr) (n cap : Nat) (L : List SegT) (eps : Int) (w : World) (hmx : L.length ≤ 12)
    (c1 : Hid (∀ W, Below w.heap.size w W → Calls Tryz.prog 10 #[] W fun e w' => e = .returned (.bool true) ∧ Below w.heap.size w w'))
    (c2 : Hid (∀ W, Below w.heap.size w W → Calls Tryz.prog 11 #[.slice p n cap] W fun e w' => ∃ p' c', e = .returned (.slice p' L.length c') ∧ Below W.heap.size W w' ∧ SegsIn w' p' L))
    (c3 : Hid (∀ W p c, SegsIn W p L → Calls Tryz.prog 12 #[.slice p L.length c] W fun e w' => e = .returned (.int .i64 0) ∧ Below W.heap.size W w'))
    (c4 : Hid (∀ W p c, SegsIn W p L → Calls Tryz.prog 13 #[.slice p L.length c] W fun e w' => e = .returned (.bool true) ∧ Below W.heap.size W w'))
    (c5 : Hid (∀ W p c p' c', SegsIn W p L → SegsIn W p' L → Calls Tryz.prog 18 #[.slice p L.length c, .slice p' L.length c'] W fun e w' => e = .returned (.bool true) ∧ Below W.heap.size W w')) :
    Calls Tryz.prog 4 #[.slice p n cap, .int .i64 eps] w fun e w' => e = .returned (.bool true) ∧ Below w.heap.size w w' := by
  go_enter Tryz.func4, Tryz.ntmps4
  go_wp2_with fail
  refine (c1.out w (Below.refl _ _)).mono ?_
  rintro e w1 ⟨rfl, hW1⟩
  go_wp2_with fail
  refine (c2.out w1 hW1).mono ?_
  rintro e w2 ⟨pL, cL, rfl, hb2, hS2⟩
  have hW2 := hW1.trans (hb2.mono hW1.size)
  clear hW1 hb2
  go_wp2_with fail
  refine (c3.out w2 _ _ hS2).mono ?_
  rintro e w3 ⟨rfl, hb3⟩
  have hW3 := hW2.trans (hb3.mono hW2.size)
  have hS3 := hS2.below hb3
  clear hW2 hb3 hS2
  go_wp2_with fail
  refine (c4.out w3 _ _ hS3).mono ?_
  rintro e w4 ⟨rfl, hb4⟩
  have hW4 := hW3.trans (hb4.mono hW3.size)
  have hS4 := hS3.below hb4
  clear hW3 hb4 hS3
  replace hS4 := Lib.hid hS4
  go_wp2
  refine wp_loop (mbRel w p n cap L eps pL cL) (fun a' _ => L.length - (intAt (a'.tmps.getD 34 undef)).toNat) ?_ ?_
  · unfold mbRel
    exact ⟨hW4, hS4.out, 0, frame_ex rfl, Nat.zero_le _⟩
  clear hS4 hW4 c1 c3 c4
  rintro a' W ⟨hW0, hS, i, ⟨u, rfl⟩, hi'⟩
  have hz := hW0.size
  rcases Nat.lt_or_ge i L.length with hlt | hge
  · obtain ⟨x, tr⟩ : ∃ x, L[i]? = some x := ⟨L[i]'(by omega), List.getElem?_eq_getElem (by omega)⟩
    obtain ⟨b, o, p', q', cp, vc, rfl, hs, hvc, q0, q1, q2, q3, q4, q5, q6, q7⟩ := hS.one tr
    clear tr
    cases hB1 : segB x with
    | false =>
      have cM := fun W' (hW' : Below W.heap.size W W') => c_mgBandsNo x eps p' q' cp vc W' (hs.below hW') hB1
      have cR := fun W' (hW' : Below W.heap.size W W') => c_refRight x p' q' cp vc W' (hs.below hW')
      rw [hB1] at cR
      unfold segA at cM cR
      replace cM := Lib.hid cM
      replace cR := Lib.hid cR
      clear hs hvc hB1
      replace hS := Lib.hid hS
      go_wp2_with fail
      refine (cM.out _ (by exact belowAny)).mono ?_
      rintro e w9 ⟨rfl, hB9⟩
      have hA : Below W.heap.size W (W.alloc (.cells #[.int .i64 x.K, .slice p' x.runs.length cp, .int .i64 x.A, .int .i64 x.R, .int .i64 x.n, .int .i64 x.d, .slice q' x.raw.length vc, .int .i64 x.E] 29)) := belowAny
      have b1 : Blk w9 W.heap.size #[.int .i64 x.K, .slice p' x.runs.length cp, .int .i64 x.A, .int .i64 x.R, .int .i64 x.n, .int .i64 x.d, .slice q' x.raw.length vc, .int .i64 x.E] 29 := Blk.below (by exact blkAny2) hB9
      have hV := hA.trans (hB9.mono hA.size)
      clear hB9 q0 q1 q2 q3 q4 q5 q6 q7
      clear hA
      have k1 := b1.cell
      have f1 := b1.frozen
      have y1 := b1.lt
      have zV := hV.size
      go_wp2_with fail
      refine (cR.out _ hV).mono ?_
      rintro e w10 ⟨rfl, hb10⟩
      have hX := hb10
      have b1' := b1.below hb10
      replace hV := hV.trans (hX.mono zV)
      clear b1 k1 f1 y1 zV hX hb10
      have b1 := b1'
      clear b1'
      clear b1
      go_wp2
      rw [show (i : Int) + 1 = ((i + 1 : Nat) : Int) by omega]
      refine ⟨?_, by simp [intAt]; omega⟩
      unfold mbRel
      exact ⟨hW0.trans (hV.mono hz), hS.out.below hV, i + 1, frame_ex rfl, by omega⟩
    | true =>
      cases hB2 : boundB eps [x] with
      | false =>
        have cM := fun W' (hW' : Below W.heap.size W W') => c_mgBandsEps x eps p' q' cp vc W' (hs.below hW') hvc hB1 hB2
        have cR := fun W' (hW' : Below W.heap.size W W') => c_refRight x p' q' cp vc W' (hs.below hW')
        rw [hB1] at cR
        have cB := fun W' g (hW' : Below W.heap.size W W') (hg : Blk W' g (segA x p' q' cp vc) 29) => c_r14Bound (some ⟨g, 0, none⟩) 1 [x] eps W' (segs_one hg (hs.below hW') hvc) (by simp)
        rw [hB2] at cB
        simp only [List.length_cons, List.length_nil, Nat.zero_add] at cB
        unfold segA at cM cR cB
        replace cM := Lib.hid cM
        replace cR := Lib.hid cR
        replace cB := Lib.hid cB
        clear hs hvc hB1 hB2
        replace hS := Lib.hid hS
        go_wp2_with fail
        refine (cM.out _ (by exact belowAny)).mono ?_
        rintro e w9 ⟨rfl, hB9⟩
        have hA : Below W.heap.size W (W.alloc (.cells #[.int .i64 x.K, .slice p' x.runs.length cp, .int .i64 x.A, .int .i64 x.R, .int .i64 x.n, .int .i64 x.d, .slice q' x.raw.length vc, .int .i64 x.E] 29)) := belowAny
        have b1 : Blk w9 W.heap.size #[.int .i64 x.K, .slice p' x.runs.length cp, .int .i64 x.A, .int .i64 x.R, .int .i64 x.n, .int .i64 x.d, .slice q' x.raw.length vc, .int .i64 x.E] 29 := Blk.below (by exact blkAny2) hB9
        have hV := hA.trans (hB9.mono hA.size)
        clear hB9 q0 q1 q2 q3 q4 q5 q6 q7
        clear hA
        have k1 := b1.cell
        have f1 := b1.frozen
        have y1 := b1.lt
        have zV := hV.size
        go_wp2_with fail
        refine (cR.out _ hV).mono ?_
        rintro e w10 ⟨rfl, hb10⟩
        have hX := hb10
        have b1' := b1.below hb10
        replace hV := hV.trans (hX.mono zV)
        clear b1 k1 f1 y1 zV hX hb10
        have b1 := b1'
        clear b1'
        have k1 := b1.cell
        have f1 := b1.frozen
        have y1 := b1.lt
        have zV := hV.size
        have hA : Below w10.heap.size w10 (w10.alloc (.cells #[.int .i64 x.K, .slice p' x.runs.length cp, .int .i64 x.A, .int .i64 x.R, .int .i64 x.n, .int .i64 x.d, .slice q' x.raw.length vc, .int .i64 x.E] 29)) := belowAny
        have hVA := hV.trans (hA.mono zV)
        go_wp2_with fail
        refine (cB.out _ w10.heap.size hVA (by exact blkAny2)).mono ?_
        rintro e w11 ⟨rfl, hb11⟩
        have hX := hA.trans (hb11.mono hA.size)
        have b1' : Blk w11 W.heap.size #[.int .i64 x.K, .slice p' x.runs.length cp, .int .i64 x.A, .int .i64 x.R, .int .i64 x.n, .int .i64 x.d, .slice q' x.raw.length vc, .int .i64 x.E] 29 := Blk.below (by exact blkAny2) hb11
        replace hV := hV.trans (hX.mono zV)
        clear b1 k1 f1 y1 zV hX hb11 hA hVA
        have b1 := b1'
        clear b1'
        clear b1
        go_wp2
        rw [show (i : Int) + 1 = ((i + 1 : Nat) : Int) by omega]
        refine ⟨?_, by simp [intAt]; omega⟩
        unfold mbRel
        exact ⟨hW0.trans (hV.mono hz), hS.out.below hV, i + 1, frame_ex rfl, by omega⟩
      | true =>
        have cM := fun W' (hW' : Below W.heap.size W W') => c_mgBandsYes x eps p' q' cp vc W' (hs.below hW') hvc hB1 hB2
        have cR := fun W' (hW' : Below W.heap.size W W') => c_refRight x p' q' cp vc W' (hs.below hW')
        rw [hB1] at cR
        have cB := fun W' g (hW' : Below W.heap.size W W') (hg : Blk W' g (segA x p' q' cp vc) 29) => c_r14Bound (some ⟨g, 0, none⟩) 1 [x] eps W' (segs_one hg (hs.below hW') hvc) (by simp)
        rw [hB2] at cB
        simp only [List.length_cons, List.length_nil, Nat.zero_add] at cB
        have cD := fun W' (hW' : Below W.heap.size W W') => c_r14Bands x eps p' q' cp vc W' (hs.below hW') hB1 (olds_ok hB1 hB2)
        have hbl := bandsM_len eps x hB1
        have cE := fun W' P C P' C' (h1 : RunsIn W' P (bandsM eps (oldsL x))) (h2 : RunsIn W' P' (bandsM eps (oldsL x))) => c_eqBnd P C P' C' (bandsM eps (oldsL x)) W' (by omega) h1 h2
        rw [hbl.1] at cE
        clear hbl
        unfold segA at cM cR cB cD
        replace cM := Lib.hid cM
        replace cR := Lib.hid cR
        replace cB := Lib.hid cB
        replace cD := Lib.hid cD
        replace cE := Lib.hid cE
        clear hs hvc hB1 hB2
        replace hS := Lib.hid hS
        go_wp2_with fail
        refine (cM.out _ (by exact belowAny)).mono ?_
        rintro e w9 ⟨v, rfl, hB9, hO9⟩
        have hA : Below W.heap.size W (W.alloc (.cells #[.int .i64 x.K, .slice p' x.runs.length cp, .int .i64 x.A, .int .i64 x.R, .int .i64 x.n, .int .i64 x.d, .slice q' x.raw.length vc, .int .i64 x.E] 29)) := belowAny
        have b1 : Blk w9 W.heap.size #[.int .i64 x.K, .slice p' x.runs.length cp, .int .i64 x.A, .int .i64 x.R, .int .i64 x.n, .int .i64 x.d, .slice q' x.raw.length vc, .int .i64 x.E] 29 := Blk.below (by exact blkAny2) hB9
        have hV := hA.trans (hB9.mono hA.size)
        clear hB9 q0 q1 q2 q3 q4 q5 q6 q7
        obtain ⟨pv, cv, rfl, -, -, -, -⟩ := hO9.form
        have hR := hO9.runs
        clear hO9
        clear hA
        have k1 := b1.cell
        have f1 := b1.frozen
        have y1 := b1.lt
        have zV := hV.size
        go_wp2_with fail
        refine (cR.out _ hV).mono ?_
        rintro e w10 ⟨rfl, hb10⟩
        have hX := hb10
        have b1' := b1.below hb10
        have hR' := hR.below hX
        replace hV := hV.trans (hX.mono zV)
        clear b1 k1 f1 y1 zV hX hb10
        clear hR
        have hR := hR'
        clear hR'
        have b1 := b1'
        clear b1'
        have k1 := b1.cell
        have f1 := b1.frozen
        have y1 := b1.lt
        have zV := hV.size
        have hA : Below w10.heap.size w10 (w10.alloc (.cells #[.int .i64 x.K, .slice p' x.runs.length cp, .int .i64 x.A, .int .i64 x.R, .int .i64 x.n, .int .i64 x.d, .slice q' x.raw.length vc, .int .i64 x.E] 29)) := belowAny
        have hVA := hV.trans (hA.mono zV)
        go_wp2_with fail
        refine (cB.out _ w10.heap.size hVA (by exact blkAny2)).mono ?_
        rintro e w11 ⟨rfl, hb11⟩
        have hX := hA.trans (hb11.mono hA.size)
        have b1' : Blk w11 W.heap.size #[.int .i64 x.K, .slice p' x.runs.length cp, .int .i64 x.A, .int .i64 x.R, .int .i64 x.n, .int .i64 x.d, .slice q' x.raw.length vc, .int .i64 x.E] 29 := Blk.below (by exact blkAny2) hb11
        have hR' := hR.below hX
        replace hV := hV.trans (hX.mono zV)
        clear b1 k1 f1 y1 zV hX hb11 hA hVA
        clear hR
        have hR := hR'
        clear hR'
        have b1 := b1'
        clear b1'
        have k1 := b1.cell
        have f1 := b1.frozen
        have y1 := b1.lt
        have zV := hV.size
        go_wp2_with fail
        refine (cD.out _ hV).mono ?_
        rintro e w12 ⟨v2, rfl, hb12, hO12⟩
        have hX := hb12
        have b1' := b1.below hb12
        have hR' := hR.below hX
        replace hV := hV.trans (hX.mono zV)
        clear b1 k1 f1 y1 zV hX hb12
        clear hR
        have hR := hR'
        clear hR'
        have b1 := b1'
        clear b1'
        obtain ⟨pv2, cv2, rfl, -, -, -, -⟩ := hO12.form
        have hR2 := hO12.runs
        clear hO12
        have k1 := b1.cell
        have f1 := b1.frozen
        have y1 := b1.lt
        have zV := hV.size
        go_wp2_with fail
        refine (cE.out _ _ _ _ _ hR hR2).mono ?_
        rintro e w13 ⟨rfl, hb13⟩
        have hX := hb13
        have b1' := b1.below hb13
        replace hV := hV.trans (hX.mono zV)
        clear b1 k1 f1 y1 zV hX hb13
        have b1 := b1'
        clear b1'
        clear hR hR2
        clear b1
        go_wp2
        rw [show (i : Int) + 1 = ((i + 1 : Nat) : Int) by omega]
        refine ⟨?_, by simp [intAt]; omega⟩
        unfold mbRel
        exact ⟨hW0.trans (hV.mono hz), hS.out.below hV, i + 1, frame_ex rfl, by omega⟩
  · obtain rfl : i = L.length := by omega
    replace hS := Lib.hid hS
    go_wp2_with fail
    refine (c2.out W hW0).mono ?_
    rintro e w5 ⟨pM, cM, rfl, hb5, hS5⟩
    have hSL := hS.out.below hb5
    have hW5 := hW0.trans (hb5.mono hz)
    clear hb5 hS hW0
    go_wp2_with fail
    refine (c5.out w5 _ _ _ _ hSL hS5).mono ?_
    rintro e w6 ⟨rfl, hb6⟩
    have hW6 := hW5.trans (hb6.mono hW5.size)
    clear hb6 hSL hS5 hW5
    go_wp2
    go_ret
    exact ⟨rfl, hW6⟩
set_option maxRecDepth 100000 in
set_option maxHeartbeats 2000000 in
theorem mbands_no (p : Option Addr) (n cap : Nat) (L : List SegT) (eps : Int) (w : World) (hmx : L.length ≤ 12)
    (c1 : Hid (∀ W, Below w.heap.size w W → Calls Tryz.prog 10 #[] W fun e w' => e = .returned (.bool true) ∧ Below w.heap.size w w'))
    (c2 : Hid (∀ W, Below w.heap.size w W → Calls Tryz.prog 11 #[.slice p n cap] W fun e w' => ∃ p' c', e = .returned (.slice p' L.length c') ∧ Below W.heap.size W w' ∧ SegsIn w' p' L))
    (c3 : Hid (∀ W p c, SegsIn W p L → Calls Tryz.prog 12 #[.slice p L.length c] W fun e w' => e = .returned (.int .i64 240) ∧ Below W.heap.size W w'))
    (c4 : Hid (∀ W p c, SegsIn W p L → Calls Tryz.prog 13 #[.slice p L.length c] W fun e w' => e = .returned (.bool false) ∧ Below W.heap.size W w'))
    (c5 : Hid (∀ W p c p' c', SegsIn W p L → SegsIn W p' L → Calls Tryz.prog 18 #[.slice p L.length c, .slice p' L.length c'] W fun e w' => e = .returned (.bool true) ∧ Below W.heap.size W w')) :
    Calls Tryz.prog 4 #[.slice p n cap, .int .i64 eps] w fun e w' => e = .returned (.bool true) ∧ Below w.heap.size w w' := by
  go_enter Tryz.func4, Tryz.ntmps4
  go_wp2_with fail
  refine (c1.out w (Below.refl _ _)).mono ?_
  rintro e w1 ⟨rfl, hW1⟩
  go_wp2_with fail
  refine (c2.out w1 hW1).mono ?_
  rintro e w2 ⟨pL, cL, rfl, hb2, hS2⟩
  have hW2 := hW1.trans (hb2.mono hW1.size)
  clear hW1 hb2
  go_wp2_with fail
  refine (c3.out w2 _ _ hS2).mono ?_
  rintro e w3 ⟨rfl, hb3⟩
  have hW3 := hW2.trans (hb3.mono hW2.size)
  have hS3 := hS2.below hb3
  clear hW2 hb3 hS2
  go_wp2_with fail
  refine (c4.out w3 _ _ hS3).mono ?_
  rintro e w4 ⟨rfl, hb4⟩
  have hW4 := hW3.trans (hb4.mono hW3.size)
  have hS4 := hS3.below hb4
  clear hW3 hb4 hS3
  replace hS4 := Lib.hid hS4
  go_wp2
  refine wp_loop (mbRel w p n cap L eps pL cL) (fun a' _ => L.length - (intAt (a'.tmps.getD 34 undef)).toNat) ?_ ?_
  · unfold mbRel
    exact ⟨hW4, hS4.out, 0, frame_ex rfl, Nat.zero_le _⟩
  clear hS4 hW4 c1 c3 c4
  rintro a' W ⟨hW0, hS, i, ⟨u, rfl⟩, hi'⟩
  have hz := hW0.size
  rcases Nat.lt_or_ge i L.length with hlt | hge
  · obtain ⟨x, tr⟩ : ∃ x, L[i]? = some x := ⟨L[i]'(by omega), List.getElem?_eq_getElem (by omega)⟩
    obtain ⟨b, o, p', q', cp, vc, rfl, hs, hvc, q0, q1, q2, q3, q4, q5, q6, q7⟩ := hS.one tr
    clear tr
    cases hB1 : segB x with
    | false =>
      have cM := fun W' (hW' : Below W.heap.size W W') => c_mgBandsNo x eps p' q' cp vc W' (hs.below hW') hB1
      have cR := fun W' (hW' : Below W.heap.size W W') => c_refRight x p' q' cp vc W' (hs.below hW')
      rw [hB1] at cR
      unfold segA at cM cR
      replace cM := Lib.hid cM
      replace cR := Lib.hid cR
      clear hs hvc hB1
      replace hS := Lib.hid hS
      go_wp2_with fail
      refine (cM.out _ (by exact belowAny)).mono ?_
      rintro e w9 ⟨rfl, hB9⟩
      have hA : Below W.heap.size W (W.alloc (.cells #[.int .i64 x.K, .slice p' x.runs.length cp, .int .i64 x.A, .int .i64 x.R, .int .i64 x.n, .int .i64 x.d, .slice q' x.raw.length vc, .int .i64 x.E] 29)) := belowAny
      have b1 : Blk w9 W.heap.size #[.int .i64 x.K, .slice p' x.runs.length cp, .int .i64 x.A, .int .i64 x.R, .int .i64 x.n, .int .i64 x.d, .slice q' x.raw.length vc, .int .i64 x.E] 29 := Blk.below (by exact blkAny2) hB9
      have hV := hA.trans (hB9.mono hA.size)
      clear hB9 q0 q1 q2 q3 q4 q5 q6 q7
      clear hA
      have k1 := b1.cell
      have f1 := b1.frozen
      have y1 := b1.lt
      have zV := hV.size
      go_wp2_with fail
      refine (cR.out _ hV).mono ?_
      rintro e w10 ⟨rfl, hb10⟩
      have hX := hb10
      have b1' := b1.below hb10
      replace hV := hV.trans (hX.mono zV)
      clear b1 k1 f1 y1 zV hX hb10
      have b1 := b1'
      clear b1'
      clear b1
      go_wp2
      rw [show (i : Int) + 1 = ((i + 1 : Nat) : Int) by omega]
      refine ⟨?_, by simp [intAt]; omega⟩
      unfold mbRel
      exact ⟨hW0.trans (hV.mono hz), hS.out.below hV, i + 1, frame_ex rfl, by omega⟩
    | true =>
      cases hB2 : boundB eps [x] with
      | false =>
        have cM := fun W' (hW' : Below W.heap.size W W') => c_mgBandsEps x eps p' q' cp vc W' (hs.below hW') hvc hB1 hB2
        have cR := fun W' (hW' : Below W.heap.size W W') => c_refRight x p' q' cp vc W' (hs.below hW')
        rw [hB1] at cR
        have cB := fun W' g (hW' : Below W.heap.size W W') (hg : Blk W' g (segA x p' q' cp vc) 29) => c_r14Bound (some ⟨g, 0, none⟩) 1 [x] eps W' (segs_one hg (hs.below hW') hvc) (by simp)
        rw [hB2] at cB
        simp only [List.length_cons, List.length_nil, Nat.zero_add] at cB
        unfold segA at cM cR cB
        replace cM := Lib.hid cM
        replace cR := Lib.hid cR
        replace cB := Lib.hid cB
        clear hs hvc hB1 hB2
        replace hS := Lib.hid hS
        go_wp2_with fail
        refine (cM.out _ (by exact belowAny)).mono ?_
        rintro e w9 ⟨rfl, hB9⟩
        have hA : Below W.heap.size W (W.alloc (.cells #[.int .i64 x.K, .slice p' x.runs.length cp, .int .i64 x.A, .int .i64 x.R, .int .i64 x.n, .int .i64 x.d, .slice q' x.raw.length vc, .int .i64 x.E] 29)) := belowAny
        have b1 : Blk w9 W.heap.size #[.int .i64 x.K, .slice p' x.runs.length cp, .int .i64 x.A, .int .i64 x.R, .int .i64 x.n, .int .i64 x.d, .slice q' x.raw.length vc, .int .i64 x.E] 29 := Blk.below (by exact blkAny2) hB9
        have hV := hA.trans (hB9.mono hA.size)
        clear hB9 q0 q1 q2 q3 q4 q5 q6 q7
        clear hA
        have k1 := b1.cell
        have f1 := b1.frozen
        have y1 := b1.lt
        have zV := hV.size
        go_wp2_with fail
        refine (cR.out _ hV).mono ?_
        rintro e w10 ⟨rfl, hb10⟩
        have hX := hb10
        have b1' := b1.below hb10
        replace hV := hV.trans (hX.mono zV)
        clear b1 k1 f1 y1 zV hX hb10
        have b1 := b1'
        clear b1'
        have k1 := b1.cell
        have f1 := b1.frozen
        have y1 := b1.lt
        have zV := hV.size
        have hA : Below w10.heap.size w10 (w10.alloc (.cells #[.int .i64 x.K, .slice p' x.runs.length cp, .int .i64 x.A, .int .i64 x.R, .int .i64 x.n, .int .i64 x.d, .slice q' x.raw.length vc, .int .i64 x.E] 29)) := belowAny
        have hVA := hV.trans (hA.mono zV)
        go_wp2_with fail
        refine (cB.out _ w10.heap.size hVA (by exact blkAny2)).mono ?_
        rintro e w11 ⟨rfl, hb11⟩
        have hX := hA.trans (hb11.mono hA.size)
        have b1' : Blk w11 W.heap.size #[.int .i64 x.K, .slice p' x.runs.length cp, .int .i64 x.A, .int .i64 x.R, .int .i64 x.n, .int .i64 x.d, .slice q' x.raw.length vc, .int .i64 x.E] 29 := Blk.below (by exact blkAny2) hb11
        replace hV := hV.trans (hX.mono zV)
        clear b1 k1 f1 y1 zV hX hb11 hA hVA
        have b1 := b1'
        clear b1'
        clear b1
        go_wp2
        rw [show (i : Int) + 1 = ((i + 1 : Nat) : Int) by omega]
        refine ⟨?_, by simp [intAt]; omega⟩
        unfold mbRel
        exact ⟨hW0.trans (hV.mono hz), hS.out.below hV, i + 1, frame_ex rfl, by omega⟩
      | true =>
        have cM := fun W' (hW' : Below W.heap.size W W') => c_mgBandsYes x eps p' q' cp vc W' (hs.below hW') hvc hB1 hB2
        have cR := fun W' (hW' : Below W.heap.size W W') => c_refRight x p' q' cp vc W' (hs.below hW')
        rw [hB1] at cR
        have cB := fun W' g (hW' : Below W.heap.size W W') (hg : Blk W' g (segA x p' q' cp vc) 29) => c_r14Bound (some ⟨g, 0, none⟩) 1 [x] eps W' (segs_one hg (hs.below hW') hvc) (by simp)
        rw [hB2] at cB
        simp only [List.length_cons, List.length_nil, Nat.zero_add] at cB
        have cD := fun W' (hW' : Below W.heap.size W W') => c_r14Bands x eps p' q' cp vc W' (hs.below hW') hB1 (olds_ok hB1 hB2)
        have hbl := bandsM_len eps x hB1
        have cE := fun W' P C P' C' (h1 : RunsIn W' P (bandsM eps (oldsL x))) (h2 : RunsIn W' P' (bandsM eps (oldsL x))) => c_eqBnd P C P' C' (bandsM eps (oldsL x)) W' (by omega) h1 h2
        rw [hbl.1] at cE
        clear hbl
        unfold segA at cM cR cB cD
        replace cM := Lib.hid cM
        replace cR := Lib.hid cR
        replace cB := Lib.hid cB
        replace cD := Lib.hid cD
        replace cE := Lib.hid cE
        clear hs hvc hB1 hB2
        replace hS := Lib.hid hS
        go_wp2_with fail
        refine (cM.out _ (by exact belowAny)).mono ?_
        rintro e w9 ⟨v, rfl, hB9, hO9⟩
        have hA : Below W.heap.size W (W.alloc (.cells #[.int .i64 x.K, .slice p' x.runs.length cp, .int .i64 x.A, .int .i64 x.R, .int .i64 x.n, .int .i64 x.d, .slice q' x.raw.length vc, .int .i64 x.E] 29)) := belowAny
        have b1 : Blk w9 W.heap.size #[.int .i64 x.K, .slice p' x.runs.length cp, .int .i64 x.A, .int .i64 x.R, .int .i64 x.n, .int .i64 x.d, .slice q' x.raw.length vc, .int .i64 x.E] 29 := Blk.below (by exact blkAny2) hB9
        have hV := hA.trans (hB9.mono hA.size)
        clear hB9 q0 q1 q2 q3 q4 q5 q6 q7
        obtain ⟨pv, cv, rfl, -, -, -, -⟩ := hO9.form
        have hR := hO9.runs
        clear hO9
        clear hA
        have k1 := b1.cell
        have f1 := b1.frozen
        have y1 := b1.lt
        have zV := hV.size
        go_wp2_with fail
        refine (cR.out _ hV).mono ?_
        rintro e w10 ⟨rfl, hb10⟩
        have hX := hb10
        have b1' := b1.below hb10
        have hR' := hR.below hX
        replace hV := hV.trans (hX.mono zV)
        clear b1 k1 f1 y1 zV hX hb10
        clear hR
        have hR := hR'
        clear hR'
        have b1 := b1'
        clear b1'
        have k1 := b1.cell
        have f1 := b1.frozen
        have y1 := b1.lt
        have zV := hV.size
        have hA : Below w10.heap.size w10 (w10.alloc (.cells #[.int .i64 x.K, .slice p' x.runs.length cp, .int .i64 x.A, .int .i64 x.R, .int .i64 x.n, .int .i64 x.d, .slice q' x.raw.length vc, .int .i64 x.E] 29)) := belowAny
        have hVA := hV.trans (hA.mono zV)
        go_wp2_with fail
        refine (cB.out _ w10.heap.size hVA (by exact blkAny2)).mono ?_
        rintro e w11 ⟨rfl, hb11⟩
        have hX := hA.trans (hb11.mono hA.size)
        have b1' : Blk w11 W.heap.size #[.int .i64 x.K, .slice p' x.runs.length cp, .int .i64 x.A, .int .i64 x.R, .int .i64 x.n, .int .i64 x.d, .slice q' x.raw.length vc, .int .i64 x.E] 29 := Blk.below (by exact blkAny2) hb11
        have hR' := hR.below hX
        replace hV := hV.trans (hX.mono zV)
        clear b1 k1 f1 y1 zV hX hb11 hA hVA
        clear hR
        have hR := hR'
        clear hR'
        have b1 := b1'
        clear b1'
        have k1 := b1.cell
        have f1 := b1.frozen
        have y1 := b1.lt
        have zV := hV.size
        go_wp2_with fail
        refine (cD.out _ hV).mono ?_
        rintro e w12 ⟨v2, rfl, hb12, hO12⟩
        have hX := hb12
        have b1' := b1.below hb12
        have hR' := hR.below hX
        replace hV := hV.trans (hX.mono zV)
        clear b1 k1 f1 y1 zV hX hb12
        clear hR
        have hR := hR'
        clear hR'
        have b1 := b1'
        clear b1'
        obtain ⟨pv2, cv2, rfl, -, -, -, -⟩ := hO12.form
        have hR2 := hO12.runs
        clear hO12
        have k1 := b1.cell
        have f1 := b1.frozen
        have y1 := b1.lt
        have zV := hV.size
        go_wp2_with fail
        refine (cE.out _ _ _ _ _ hR hR2).mono ?_
        rintro e w13 ⟨rfl, hb13⟩
        have hX := hb13
        have b1' := b1.below hb13
        replace hV := hV.trans (hX.mono zV)
        clear b1 k1 f1 y1 zV hX hb13
        have b1 := b1'
        clear b1'
        clear hR hR2
        clear b1
        go_wp2
        rw [show (i : Int) + 1 = ((i + 1 : Nat) : Int) by omega]
        refine ⟨?_, by simp [intAt]; omega⟩
        unfold mbRel
        exact ⟨hW0.trans (hV.mono hz), hS.out.below hV, i + 1, frame_ex rfl, by omega⟩
  · obtain rfl : i = L.length := by omega
    replace hS := Lib.hid hS
    go_wp2_with fail
    refine (c2.out W hW0).mono ?_
    rintro e w5 ⟨pM, cM, rfl, hb5, hS5⟩
    have hSL := hS.out.below hb5
    have hW5 := hW0.trans (hb5.mono hz)
    clear hb5 hS hW0
    go_wp2_with fail
    refine (c5.out w5 _ _ _ _ hSL hS5).mono ?_
    rintro e w6 ⟨rfl, hb6⟩
    have hW6 := hW5.trans (hb6.mono hW5.size)
    clear hb6 hSL hS5 hW5
    go_wp2
    go_ret
    exact ⟨rfl, hW6⟩
end Go.Proofs.YtbanjolokkghdaaGreatDoor
