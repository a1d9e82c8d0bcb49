/- Parts of the proof that follows: The document's models: which raw series may be. No condition. | The document's models: whether two raw series are the same. No condition. | The document's models: the place of a name; whether two models are the same. No condition. | Reference 25: Back: what is told at each kept time. No condition but that the segments may be. | Reference 24: a series' times, and how many it keeps. No condition but that the segments may be. | References 14, 24: which segments may be a row, and which series may be. No condition. | slices.Equal, of runs and of numbers; the segment's Same, and the document's. | The document's segments: Same. | References 13, 24: a series that lies twice is the same as itself. No condition. | slices.Equal of points, slices.EqualFunc of segments, reference 13's Same: of whatever two rows. No condition. -/
import Derived.Test.YtdeghcgakkhbmaaGreatDo9
set_option linter.unusedSimpArgs false
set_option linter.unusedVariables false
namespace Go.Proofs.YtdeghcgakkhbmaaGreat
open Go.RowKit
def rrRel (w : World) (r : RawT) (p : Option Addr) (cap : Nat) (a' : Act) (W : World) : Prop :=
  Below w.heap.size w W ∧ Blk W w.heap.size #[.string r.name, .int .i64 r.eps, .int .i64 r.floor, .int .i64 r.last, .int .i64 r.scale, .slice p r.pts.length cap] 35 ∧ ∃ i : Nat, (∃ u : Nat → Value, a' = { tmps := #[u 0, .pointer (some ⟨w.heap.size, 0, none⟩), .bool false, u 3, u 4, u 5, u 6, u 7, u 8, u 9, u 10, u 11, u 12, u 13, u 14, u 15, u 16, u 17, u 18, u 19, u 20, u 21, u 22, u 23, u 24, u 25, u 26, u 27, u 28, u 29, u 30, u 31, u 32, u 33, u 34, u 35, u 36, u 37, u 38, u 39, u 40, u 41, u 42, u 43, .slice p r.pts.length cap, .int .i64 (r.pts.length : Int), .int .i64 (i : Int), u 47, u 48, u 49, u 50, u 51, u 52, u 53, u 54, u 55, u 56, u 57, u 58, u 59, u 60, u 61, u 62, u 63, u 64, u 65, u 66, u 67, u 68, u 69, u 70, u 71, u 72, u 73, u 74, u 75, u 76, u 77, u 78, u 79, u 80, u 81, u 82, u 83, u 84, u 85, u 86, u 87, u 88, u 89, u 90, u 91, u 92], defers := [] }) ∧ rawPtsB r.floor (-1) (r.pts.take i) = true ∧ i ≤ r.pts.length ∧ (i = r.pts.length → (r.pts.isEmpty || r.last == lastOr (-1) (r.pts.map (·.1))) = true)
theorem rawPts_cut {fl b : Int} {l : List (Int × Int)} (i : Nat) (h : rawPtsB fl b (l.take i) = false) : rawPtsB fl b l = false := by
  have key : ∀ (m : List (Int × Int)) (b : Int) (r : List (Int × Int)), rawPtsB fl b m = false → rawPtsB fl b (m ++ r) = false := by
    intro m
    induction m with
    | nil => intro b r h; simp [rawPtsB] at h
    | cons y m ih =>
      intro b r h
      simp only [List.cons_append, rawPtsB] at h ⊢
      cases h1 : (ptB y && (decide (fl ≤ y.1) && decide (b < y.1))) with
      | false => rfl
      | true =>
        rw [h1, Bool.true_and] at h
        rw [Bool.true_and]
        exact ih _ r h
  have := key _ b (l.drop i) h
  rwa [List.take_append_drop] at this
set_option maxRecDepth 100000 in
set_option maxHeartbeats 2000000 in
theorem c_ref28Raw (r : RawT) (p : Option Addr) (cap : Nat) (w : World) (hin : PtsIn w p r.pts) (hl : r.pts.length ≤ 2000) (hnm : r.name.size ≤ 1000) :
    Calls Tryz.prog 21 #[.agg (rawA r p cap)] w fun e w' => e = .returned (.bool (rawB r)) ∧ Below w.heap.size w w' := by
  unfold rawA
  have hnum : rawNumsB r = (nameB r.name && btw r.eps 0 1099511627776 && btw r.scale (-40) 40 && btw r.floor 0 281474976710656 && btw r.last (-1) 281474976710656 && decide (r.pts.length ≤ 1024)) := by unfold rawNumsB; simp [Bool.and_assoc]
  obtain ⟨N1, hN1⟩ : ∃ b, nameB r.name = b := ⟨_, rfl⟩
  obtain ⟨N2, hN2⟩ : ∃ b, btw r.eps 0 1099511627776 = b := ⟨_, rfl⟩
  obtain ⟨N3, hN3⟩ : ∃ b, btw r.scale (-40) 40 = b := ⟨_, rfl⟩
  obtain ⟨N4, hN4⟩ : ∃ b, btw r.floor 0 281474976710656 = b := ⟨_, rfl⟩
  rw [hN1, hN2, hN3, hN4] at hnum
  have hv := Lib.hid (show (!N1 || !N2 || !N3 || !N4 || decide (r.last < -1) || decide (281474976710656 < r.last) || decide (1024 < (r.pts.length : Int))) = !rawNumsB r by
    rw [hnum]
    unfold btw
    have h1 : decide (r.last < -1) = !decide (-1 ≤ r.last) := by rw [Bool.eq_iff_iff]; simp
    have h2 : decide (281474976710656 < r.last) = !decide (r.last ≤ 281474976710656) := by rw [Bool.eq_iff_iff]; simp
    have h3 : decide (1024 < (r.pts.length : Int)) = !decide (r.pts.length ≤ 1024) := by rw [Bool.eq_iff_iff]; simp; omega
    rw [h1, h2, h3]
    cases N1 <;> cases N2 <;> cases N3 <;> cases N4 <;> simp [Bool.not_and])
  replace hnum := Lib.hid hnum
  have hno0 := Lib.hid (fun (e : rawNumsB r = false) => (show rawB r = false by unfold rawB; rw [e, Bool.false_and]))
  obtain ⟨N, hN⟩ : ∃ b, rawNumsB r = b := ⟨_, rfl⟩
  rw [hN] at hv
  replace hN1 := Lib.hid hN1
  replace hN2 := Lib.hid hN2
  replace hN3 := Lib.hid hN3
  replace hN4 := Lib.hid hN4
  replace hN := Lib.hid hN
  go_enter Tryz.func21, Tryz.ntmps21
  go_upto_region 1 with (fail)
  refine wp_cutB w (Bc w.heap.size #[.string r.name, .int .i64 r.eps, .int .i64 r.floor, .int .i64 r.last, .int .i64 r.scale, .slice p r.pts.length cap] 35 <| Bz) ?_
  rintro W1 hW z2 hL
  refine wp_regS 38 93 hW hL ?_
  iterate 2 refine dE (fun W' hC => aI hN1.out (aI hN2.out (aI hN3.out hN4.out))) ?_
  refine cE (fun W' hC => aI hN1.out (aI hN2.out (aI hN3.out hN4.out))) (fun W' hC => c_r18Name r.name W' hnm) ?_
  iterate 2 refine dE (fun W' hC => aI hN1.out (aI hN2.out (aI hN3.out hN4.out))) ?_
  iterate 2 refine gE (fun W' hC => aI hN1.out (aI hN2.out (aI hN3.out hN4.out))) ?_
  apply nd_callvg2 (p := true) (hg := rfl) (hd := rfl) (hal := rfl)
  · intro v W' h
    simp [envOf, Det] at h
    simp
    exact h
  · intro hp hx W' hC
    exact c_r13Eps r.eps W'
  · intro hp hx a W' hC hE
    obtain ⟨_, ⟨-, -, k1, -⟩, -⟩ := hC
    first
      | (simp [Oper.looksAt, Op.operands, Call.operands, envOf, Det, GDet, hx] at hE; simp [go_sem, Act.eval, IntWalk.i64_left, hE, k1, hN1.out, hN2.out, hN3.out, hN4.out]; try rfl)
      | (clear hE; simp [go_sem, Act.eval, IntWalk.i64_left, k1, hN1.out, hN2.out, hN3.out, hN4.out]; try rfl)
  refine gE (fun W' hC => aI hN1.out (aI hN2.out (aI hN3.out hN4.out))) ?_
  refine pO ?_
  refine dE (fun W' hC => aI hN1.out (aI hN2.out (aI hN3.out hN4.out))) ?_
  iterate 2 refine gE (fun W' hC => aI hN1.out (aI hN2.out (aI hN3.out hN4.out))) ?_
  apply nd_callvg2 (p := true) (hg := rfl) (hd := rfl) (hal := rfl)
  · intro v W' h
    simp [envOf, Det] at h
    simp
    exact h
  · intro hp hx W' hC
    exact c_r24Scale r.scale W'
  · intro hp hx a W' hC hE
    obtain ⟨_, ⟨-, -, k1, -⟩, -⟩ := hC
    first
      | (simp [Oper.looksAt, Op.operands, Call.operands, envOf, Det, GDet, hx] at hE; simp [go_sem, Act.eval, IntWalk.i64_left, hE, k1, hN1.out, hN2.out, hN3.out, hN4.out]; try rfl)
      | (clear hE; simp [go_sem, Act.eval, IntWalk.i64_left, k1, hN1.out, hN2.out, hN3.out, hN4.out]; try rfl)
  refine gE (fun W' hC => aI hN1.out (aI hN2.out (aI hN3.out hN4.out))) ?_
  refine pO ?_
  refine dE (fun W' hC => aI hN1.out (aI hN2.out (aI hN3.out hN4.out))) ?_
  iterate 2 refine gE (fun W' hC => aI hN1.out (aI hN2.out (aI hN3.out hN4.out))) ?_
  apply nd_callvg2 (p := true) (hg := rfl) (hd := rfl) (hal := rfl)
  · intro v W' h
    simp [envOf, Det] at h
    simp
    exact h
  · intro hp hx W' hC
    exact c_r18Time r.floor W'
  · intro hp hx a W' hC hE
    obtain ⟨_, ⟨-, -, k1, -⟩, -⟩ := hC
    first
      | (simp [Oper.looksAt, Op.operands, Call.operands, envOf, Det, GDet, hx] at hE; simp [go_sem, Act.eval, IntWalk.i64_left, hE, k1, hN1.out, hN2.out, hN3.out, hN4.out]; try rfl)
      | (clear hE; simp [go_sem, Act.eval, IntWalk.i64_left, k1, hN1.out, hN2.out, hN3.out, hN4.out]; try rfl)
  refine gE (fun W' hC => aI hN1.out (aI hN2.out (aI hN3.out hN4.out))) ?_
  refine pO ?_
  refine dE (fun W' hC => aI hN1.out (aI hN2.out (aI hN3.out hN4.out))) ?_
  iterate 3 refine gE (fun W' hC => aI hN1.out (aI hN2.out (aI hN3.out hN4.out))) ?_
  refine pO ?_
  refine dE (fun W' hC => aI hN1.out (aI hN2.out (aI hN3.out hN4.out))) ?_
  iterate 3 refine gE (fun W' hC => aI hN1.out (aI hN2.out (aI hN3.out hN4.out))) ?_
  refine pO ?_
  refine dE (fun W' hC => aI hN1.out (aI hN2.out (aI hN3.out hN4.out))) ?_
  iterate 4 refine gE (fun W' hC => aI hN1.out (aI hN2.out (aI hN3.out hN4.out))) ?_
  refine pO ?_
  clear hW hL
  rintro W3 hW z4 hL
  simp only [ndR]
  intros
  repeat (rename GDet _ _ _ _ => hgd; clear hgd)
  simp only [ndS]
  refine wpList_nil ?_
  obtain ⟨⟨b1, yb1, k1, f1⟩, -⟩ := hL
  rw [hv.out]
  cases N with
  | false =>
    have hno := Lib.hid (hno0.out hN.out)
    go_wp2
    go_ret
    exact ⟨by rw [hno.out]; rfl, by exact belowAny⟩
  | true =>
    clear hv hno0 hN1 hN2 hN3 hN4
    have hck := Lib.hid (show rawB r = (rawPtsB r.floor (-1) r.pts && (r.pts.isEmpty || r.last == lastOr (-1) (r.pts.map (·.1)))) by unfold rawB; rw [hN.out, Bool.true_and])
    go_wp2
    refine wp_loop (rrRel w r p cap) (fun a' _ => r.pts.length - (intAt (a'.tmps.getD 46 undef)).toNat) ?_ ?_
    · unfold rrRel
      exact ⟨hW, b1, 0, frame_ex rfl, rfl, by omega, fun e => by have e' := List.length_eq_zero_iff.1 e.symm; rw [e']; rfl⟩
    clear b1 hW k1 f1 hnum hN
    rintro a' W ⟨hW0, b1, i, ⟨u, rfl⟩, hr, hi, hl9⟩
    have hz := hW0.size
    have zb1 := b1.lt
    rcases Nat.lt_or_ge i r.pts.length with hlt | hge
    · obtain ⟨⟨t, y⟩, tr⟩ : ∃ x, r.pts[i]? = some x := ⟨r.pts[i]'(by omega), List.getElem?_eq_getElem (by omega)⟩
      obtain ⟨b, o, rfl, q0, q1⟩ := (hin.below hW0).at' i _ tr
      have hI : PtsP W b o r.pts := ⟨hin.below hW0⟩
      simp only at q0 q1
      have zq := cell_lt q0
      try simp only at zq
      have e1 : r.pts.take (i + 1) = r.pts.take i ++ [(t, y)] := by rw [List.take_add_one, tr]; rfl
      obtain ⟨z, hz0⟩ : ∃ z, lastOr (-1) ((r.pts.take i).map (·.1)) = z := ⟨_, rfl⟩
      have hst0 : rawPtsB r.floor (-1) (r.pts.take (i + 1)) = (ptB (t, y) && (decide (r.floor ≤ t) && decide (z < t))) := by rw [e1, rawPtsB_snoc, hr, hz0, Bool.true_and]
      have hlT : i + 1 = r.pts.length → lastOr (-1) (r.pts.map (·.1)) = t := fun e => by
        have : r.pts = r.pts.take i ++ [(t, y)] := by rw [← e1, e, List.take_length]
        rw [this, List.map_append, List.map_cons, List.map_nil, lastOr_snoc]
      have hne : r.pts.isEmpty = false := by
        cases hh : r.pts with
        | nil => rw [hh] at hlt; simp at hlt
        | cons _ _ => rfl
      obtain ⟨B1, hB1⟩ : ∃ B, ((i : Int) == (r.pts.length : Int) - 1) = B := ⟨_, rfl⟩
      obtain ⟨B2, hB2⟩ : ∃ B, (r.last != t) = B := ⟨_, rfl⟩
      have i1 : B1 = true → i + 1 = r.pts.length := fun e => by rw [← hB1] at e; have := beq_iff_eq.1 e; omega
      have i2 : i + 1 = r.pts.length → B1 = true := fun e => by rw [← hB1]; exact beq_iff_eq.2 (by omega)
      have E2 := Lib.hid (show wrap64 ((r.pts.length : Int) - 1) = (r.pts.length : Int) - 1 by rw [wrap64_eq]; omega)
      obtain ⟨PB, hPB⟩ : ∃ B, ptB (t, y) = B := ⟨_, rfl⟩
      rw [hPB] at hst0
      have hp0 : PB = true → 0 ≤ t := fun e => by
        rw [← hPB] at e
        unfold ptB btw at e
        simp only [Bool.and_eq_true, decide_eq_true_eq] at e
        exact e.1.1
      have cP := Lib.hid (fun W => c_r13Point t y W)
      rw [show (btw t 0 281474976710656 && btw y (-2305843009213693952) 2305843009213693952) = PB from hPB] at cP
      obtain ⟨F, hF⟩ : ∃ F, ((PB && (decide (r.floor ≤ t) && decide (z < t))) && !(B1 && B2)) = F := ⟨_, rfl⟩
      have hno := Lib.hid (fun (e : F = false) => (show rawB r = false by
        rw [hck.out]
        rw [← hF] at e
        cases hd : (PB && (decide (r.floor ≤ t) && decide (z < t))) with
        | false => rw [rawPts_cut (i + 1) (hst0.trans hd), Bool.false_and]
        | true =>
          rw [hd, Bool.true_and, Bool.not_eq_false', Bool.and_eq_true] at e
          rw [hlT (i1 e.1), hne]
          have h2 := e.2
          rw [← hB2] at h2
          have h3 : (r.last == t) = false := by simpa using h2
          rw [h3]
          simp))
      have hst := Lib.hid (fun (e : F = true) => (show rawPtsB r.floor (-1) (r.pts.take (i + 1)) = true by
        rw [hst0]
        rw [← hF, Bool.and_eq_true] at e
        exact e.1))
      replace hl9 := Lib.hid (fun (e : F = true) (e2 : i + 1 = r.pts.length) => (show (r.pts.isEmpty || r.last == lastOr (-1) (r.pts.map (·.1))) = true by
        rw [← hF, i2 e2] at e
        rw [hlT e2]
        have h2 : B2 = false := by cases B2 with | false => rfl | true => simp at e
        rw [← hB2] at h2
        have h3 : (r.last == t) = true := by simpa using h2
        rw [h3, Bool.or_true]))
      have hnot : decide (r.floor ≤ t) = !decide (t < r.floor) := by rw [Bool.eq_iff_iff]; simp
      by_cases h0 : i = 0
      · have E0 := Lib.hid (show decide (0 < i) = false from decide_eq_false (by omega))
        obtain rfl : -1 = z := by rw [← hz0, h0]; rfl
        have hv := Lib.hid (show (!PB || decide (t < r.floor) || (B1 && B2)) = !F by
          rw [← hF, hnot]
          cases PB with
          | false => rfl
          | true =>
            rw [decide_eq_true (show -1 < t by have := hp0 rfl; omega)]
            cases decide (t < r.floor) <;> cases B1 <;> cases B2 <;> rfl)
        replace tr := Lib.hid tr
        replace hB1 := Lib.hid hB1
        replace hB2 := Lib.hid hB2
        clear hst0 hlT i1 i2 hF hz0 e1 hr h0 hPB hp0 hnot hne
        have k1 := b1.cell
        have f1 := b1.frozen
        go_upto_region 6 with (fail)
        clear k1 f1
        refine wp_cutB W (Bc w.heap.size #[.string r.name, .int .i64 r.eps, .int .i64 r.floor, .int .i64 r.last, .int .i64 r.scale, .slice (some ⟨b, o, none⟩) r.pts.length cap] 35 <| Bc W.heap.size #[.int .i64 t, .int .i64 y] 58 <| Rc (fun W' => PtsP W' b o r.pts) <| Bz) ?_ (hI := by exact belowAny) (hR := (Bc.mk (by exact blkAny2) <| Bc.mk (by exact blkAny2) <| Rc.mk (by first | exact hI | exact hI.below belowAny) <| trivial))
        clear b1
        rintro W21 hW z22 hL
        obtain ⟨⟨b1, yb1, k1, f1⟩, ⟨b2, yb2, k2, f2⟩, b3, -⟩ := id hL
        clear k1 f1 k2 f2
        refine wp_regQ 41 93 hW hL ?_
        refine dE (fun W' hC => aI E0.out (aI E2.out (aI hB1.out (aI hB2.out (aI hlt (aI (Nat.not_le.2 hlt) (hC.2.2.2.1.cellAt tr.out))))))) ?_
        refine cE (fun W' hC => aI E0.out (aI E2.out (aI hB1.out (aI hB2.out (aI hlt (aI (Nat.not_le.2 hlt) (hC.2.2.2.1.cellAt tr.out))))))) (fun W' hC => cP.out W') ?_
        iterate 2 refine dE (fun W' hC => aI E0.out (aI E2.out (aI hB1.out (aI hB2.out (aI hlt (aI (Nat.not_le.2 hlt) (hC.2.2.2.1.cellAt tr.out))))))) ?_
        iterate 5 refine gE (fun W' hC => aI E0.out (aI E2.out (aI hB1.out (aI hB2.out (aI hlt (aI (Nat.not_le.2 hlt) (hC.2.2.2.1.cellAt tr.out))))))) ?_
        refine pO ?_
        refine dE (fun W' hC => aI E0.out (aI E2.out (aI hB1.out (aI hB2.out (aI hlt (aI (Nat.not_le.2 hlt) (hC.2.2.2.1.cellAt tr.out))))))) ?_
        iterate 3 refine gE (fun W' hC => aI E0.out (aI E2.out (aI hB1.out (aI hB2.out (aI hlt (aI (Nat.not_le.2 hlt) (hC.2.2.2.1.cellAt tr.out))))))) ?_
        apply nd_detg (c := undef) (hg := rfl) (hd := rfl) (hal := rfl)
        · intro v W' h
          exact h
        · intro hp hx
          cases hx
        apply nd_detg (c := undef) (hg := rfl) (hd := rfl) (hal := rfl)
        · intro v W' h
          exact h
        · intro hp hx
          cases hx
        apply nd_detg (c := undef) (hg := rfl) (hd := rfl) (hal := rfl)
        · intro v W' h
          exact h
        · intro hp hx
          cases hx
        apply nd_detg (c := undef) (hg := rfl) (hd := rfl) (hal := rfl)
        · intro v W' h
          exact h
        · intro hp hx
          cases hx
        apply nd_detg (c := undef) (hg := rfl) (hd := rfl) (hal := rfl)
        · intro v W' h
          exact h
        · intro hp hx
          cases hx
        apply nd_detg (c := undef) (hg := rfl) (hd := rfl) (hal := rfl)
        · intro v W' h
          exact h
        · intro hp hx
          cases hx
        apply nd_detg (c := undef) (hg := rfl) (hd := rfl) (hal := rfl)
        · intro v W' h
          exact h
        · intro hp hx
          cases hx
        apply nd_detg (c := undef) (hg := rfl) (hd := rfl) (hal := rfl)
        · intro v W' h
          exact h
        · intro hp hx
          cases hx
        apply nd_detg (c := undef) (hg := rfl) (hd := rfl) (hal := rfl)
        · intro v W' h
          exact h
        · intro hp hx
          cases hx
        apply nd_detg (c := undef) (hg := rfl) (hd := rfl) (hal := rfl)
        · intro v W' h
          exact h
        · intro hp hx
          cases hx
        apply nd_pickg_and (p := true) (x := false) (y := false) (ho := rfl) (hg := rfl) (hd := rfl)
        · intro v W' h
          simp [envOf, Det, GDet] at h
          simp
          exact h
        · intro _ hx v W' h
          simp [envOf, Det, GDet, hx] at h
          exact h
        · intro _ hx v W' h hy
          cases hy
        refine pO ?_
        refine dE (fun W' hC => aI E0.out (aI E2.out (aI hB1.out (aI hB2.out (aI hlt (aI (Nat.not_le.2 hlt) (hC.2.2.2.1.cellAt tr.out))))))) ?_
        iterate 7 refine gE (fun W' hC => aI E0.out (aI E2.out (aI hB1.out (aI hB2.out (aI hlt (aI (Nat.not_le.2 hlt) (hC.2.2.2.1.cellAt tr.out))))))) ?_
        iterate 5 refine gF (fun W' hC => aI E0.out (aI E2.out (aI hB1.out (aI hB2.out (aI hlt (aI (Nat.not_le.2 hlt) (hC.2.2.2.1.cellAt tr.out))))))) ?_
        refine pgA ?_
        refine pO ?_
        clear hW hL b1 b2 b3
        rintro W23 hW z24 hL
        simp only [ndR]
        intros
        repeat (rename GDet _ _ _ _ => hgd; clear hgd)
        simp only [ndS]
        refine wpList_nil ?_
        obtain ⟨⟨b1, yb1, k1, f1⟩, ⟨b2, yb2, k2, f2⟩, b3, -⟩ := hL
        rw [hv.out]
        cases F with
        | false =>
          go_wp2
          go_ret
          exact ⟨by rw [hno.out (by trivial)]; rfl, by exact belowAny⟩
        | true =>
          go_wp2
          rw [show (i : Int) + 1 = ((i + 1 : Nat) : Int) by omega]
          refine ⟨?_, by simp [intAt]; omega⟩
          unfold rrRel
          exact ⟨hW0.trans (hW.mono hz), b1, i + 1, frame_ex rfl, hst.out (by trivial), by omega, fun e => hl9.out (by trivial) e⟩
      · obtain ⟨j, hj⟩ : ∃ j, i = j + 1 := ⟨i - 1, by omega⟩
        obtain ⟨⟨x, y2⟩, ty⟩ : ∃ r', r.pts[j]? = some r' := ⟨r.pts[j]'(by omega), List.getElem?_eq_getElem (by omega)⟩
        obtain rfl : x = z := by rw [← hz0, hj, List.take_add_one, ty, Option.toList_some, List.map_append, List.map_cons, List.map_nil]; exact (lastOr_snoc _ _ _).symm
        have E0 := Lib.hid (show decide (0 < i) = true from decide_eq_true (by omega))
        have E1 := Lib.hid (show wrap64 ((i : Int) - 1) = (j : Int) by rw [wrap64_eq]; omega)
        have g1 : j < r.pts.length := by omega
        have hv := Lib.hid (show (!PB || decide (t < r.floor) || decide (t ≤ x) || (B1 && B2)) = !F by
          rw [← hF, hnot, show decide (x < t) = !decide (t ≤ x) by rw [Bool.eq_iff_iff]; simp]
          cases PB <;> cases decide (t < r.floor) <;> cases decide (t ≤ x) <;> cases B1 <;> cases B2 <;> rfl)
        have tj := Lib.hid ty
        replace tr := Lib.hid tr
        replace hB1 := Lib.hid hB1
        replace hB2 := Lib.hid hB2
        clear hst0 hlT i1 i2 hF hz0 e1 hr h0 ty hj hPB hp0 hnot hne
        have k1 := b1.cell
        have f1 := b1.frozen
        go_upto_region 6 with (fail)
        clear k1 f1
        refine wp_cutB W (Bc w.heap.size #[.string r.name, .int .i64 r.eps, .int .i64 r.floor, .int .i64 r.last, .int .i64 r.scale, .slice (some ⟨b, o, none⟩) r.pts.length cap] 35 <| Bc W.heap.size #[.int .i64 t, .int .i64 y] 58 <| Rc (fun W' => PtsP W' b o r.pts) <| Bz) ?_ (hI := by exact belowAny) (hR := (Bc.mk (by exact blkAny2) <| Bc.mk (by exact blkAny2) <| Rc.mk (by first | exact hI | exact hI.below belowAny) <| trivial))
        clear b1
        rintro W21 hW z22 hL
        obtain ⟨⟨b1, yb1, k1, f1⟩, ⟨b2, yb2, k2, f2⟩, b3, -⟩ := id hL
        clear k1 f1 k2 f2
        refine wp_regQ 41 93 hW hL ?_
        refine dE (fun W' hC => aI E0.out (aI E2.out (aI hB1.out (aI hB2.out (aI hlt (aI (Nat.not_le.2 hlt) (aI (hC.2.2.2.1.cellAt tr.out) (aI E1.out (aI g1 (aI (Nat.not_le.2 g1) (hC.2.2.2.1.cellAt tj.out))))))))))) ?_
        refine cE (fun W' hC => aI E0.out (aI E2.out (aI hB1.out (aI hB2.out (aI hlt (aI (Nat.not_le.2 hlt) (aI (hC.2.2.2.1.cellAt tr.out) (aI E1.out (aI g1 (aI (Nat.not_le.2 g1) (hC.2.2.2.1.cellAt tj.out))))))))))) (fun W' hC => cP.out W') ?_
        iterate 2 refine dE (fun W' hC => aI E0.out (aI E2.out (aI hB1.out (aI hB2.out (aI hlt (aI (Nat.not_le.2 hlt) (aI (hC.2.2.2.1.cellAt tr.out) (aI E1.out (aI g1 (aI (Nat.not_le.2 g1) (hC.2.2.2.1.cellAt tj.out))))))))))) ?_
        iterate 5 refine gE (fun W' hC => aI E0.out (aI E2.out (aI hB1.out (aI hB2.out (aI hlt (aI (Nat.not_le.2 hlt) (aI (hC.2.2.2.1.cellAt tr.out) (aI E1.out (aI g1 (aI (Nat.not_le.2 g1) (hC.2.2.2.1.cellAt tj.out))))))))))) ?_
        refine pO ?_
        refine dE (fun W' hC => aI E0.out (aI E2.out (aI hB1.out (aI hB2.out (aI hlt (aI (Nat.not_le.2 hlt) (aI (hC.2.2.2.1.cellAt tr.out) (aI E1.out (aI g1 (aI (Nat.not_le.2 g1) (hC.2.2.2.1.cellAt tj.out))))))))))) ?_
        iterate 3 refine gE (fun W' hC => aI E0.out (aI E2.out (aI hB1.out (aI hB2.out (aI hlt (aI (Nat.not_le.2 hlt) (aI (hC.2.2.2.1.cellAt tr.out) (aI E1.out (aI g1 (aI (Nat.not_le.2 g1) (hC.2.2.2.1.cellAt tj.out))))))))))) ?_
        iterate 10 refine gF (fun W' hC => aI E0.out (aI E2.out (aI hB1.out (aI hB2.out (aI hlt (aI (Nat.not_le.2 hlt) (aI (hC.2.2.2.1.cellAt tr.out) (aI E1.out (aI g1 (aI (Nat.not_le.2 g1) (hC.2.2.2.1.cellAt tj.out))))))))))) ?_
        refine pgA ?_
        refine pO ?_
        refine dE (fun W' hC => aI E0.out (aI E2.out (aI hB1.out (aI hB2.out (aI hlt (aI (Nat.not_le.2 hlt) (aI (hC.2.2.2.1.cellAt tr.out) (aI E1.out (aI g1 (aI (Nat.not_le.2 g1) (hC.2.2.2.1.cellAt tj.out))))))))))) ?_
        iterate 7 refine gE (fun W' hC => aI E0.out (aI E2.out (aI hB1.out (aI hB2.out (aI hlt (aI (Nat.not_le.2 hlt) (aI (hC.2.2.2.1.cellAt tr.out) (aI E1.out (aI g1 (aI (Nat.not_le.2 g1) (hC.2.2.2.1.cellAt tj.out))))))))))) ?_
        iterate 5 refine gF (fun W' hC => aI E0.out (aI E2.out (aI hB1.out (aI hB2.out (aI hlt (aI (Nat.not_le.2 hlt) (aI (hC.2.2.2.1.cellAt tr.out) (aI E1.out (aI g1 (aI (Nat.not_le.2 g1) (hC.2.2.2.1.cellAt tj.out))))))))))) ?_
        refine pgA ?_
        refine pO ?_
        clear hW hL b1 b2 b3
        rintro W23 hW z24 hL
        simp only [ndR]
        intros
        repeat (rename GDet _ _ _ _ => hgd; clear hgd)
        simp only [ndS]
        refine wpList_nil ?_
        obtain ⟨⟨b1, yb1, k1, f1⟩, ⟨b2, yb2, k2, f2⟩, b3, -⟩ := hL
        rw [hv.out]
        cases F with
        | false =>
          go_wp2
          go_ret
          exact ⟨by rw [hno.out (by trivial)]; rfl, by exact belowAny⟩
        | true =>
          go_wp2
          rw [show (i : Int) + 1 = ((i + 1 : Nat) : Int) by omega]
          refine ⟨?_, by simp [intAt]; omega⟩
          unfold rrRel
          exact ⟨hW0.trans (hW.mono hz), b1, i + 1, frame_ex rfl, hst.out (by trivial), by omega, fun e => hl9.out (by trivial) e⟩
    · obtain rfl : i = r.pts.length := by omega
      rw [List.take_length] at hr
      have hres := Lib.hid (show rawB r = true by rw [hck.out, hr, hl9 rfl]; rfl)
      clear hr hl9 hck
      go_wp2
      go_ret
      exact ⟨by rw [hres.out]; rfl, by exact belowAny⟩
end Go.Proofs.YtdeghcgakkhbmaaGreat
namespace Go.Proofs.YtdeghcgakkhbmaaGreat
open Go.RowKit
theorem ite_ne3 {a b c d : Int} {w : World} : ((if a = b then (if c = d then Result.ok (Go.Next.value (Value.bool false)) w else Result.ok (Go.Next.value (Value.bool true)) w) else Result.ok (Go.Next.value (Value.bool true)) w) : Result Go.Next) = Result.ok (Go.Next.value (Value.bool (!(decide (a = b) && decide (c = d))))) w := by
  by_cases h1 : a = b <;> by_cases h2 : c = d <;> simp [h1, h2]

/-- the same raw series -/
def sameR (s t : RawT) : Bool := (s.name.toList == t.name.toList) && (s.eps == t.eps) && (s.floor == t.floor) && (s.last == t.last) && (s.scale == t.scale) && decide (s.pts = t.pts)
theorem sameR_refl (s : RawT) : sameR s s = true := by simp [sameR]
def smrRel (w : World) (s t : RawT) (po1 po2 : Option Addr) (co1 co2 : Nat) (a' : Act) (W : World) : Prop :=
  Below w.heap.size w W ∧ Blk W w.heap.size #[.string s.name, .int .i64 s.eps, .int .i64 s.floor, .int .i64 s.last, .int .i64 s.scale, .slice po1 s.pts.length co1] 35 ∧ Blk W (w.heap.size + 1) #[.string t.name, .int .i64 t.eps, .int .i64 t.floor, .int .i64 t.last, .int .i64 t.scale, .slice po2 t.pts.length co2] 35 ∧ ∃ i : Nat, (∃ u : Nat → Value, a' = { tmps := #[u 0, u 1, .pointer (some ⟨w.heap.size, 0, none⟩), .pointer (some ⟨w.heap.size + 1, 0, none⟩), .bool false, u 5, u 6, u 7, u 8, u 9, u 10, u 11, u 12, u 13, u 14, u 15, u 16, u 17, u 18, u 19, u 20, u 21, u 22, u 23, u 24, u 25, u 26, u 27, u 28, u 29, u 30, u 31, u 32, u 33, u 34, u 35, u 36, u 37, u 38, u 39, u 40, u 41, u 42, u 43, u 44, u 45, u 46, u 47, u 48, u 49, .int .i64 (s.pts.length : Int), .int .i64 (i : Int), u 52, u 53, u 54, u 55, u 56, u 57, u 58, u 59, u 60, u 61, u 62, u 63, u 64, u 65], defers := [] }) ∧ i ≤ s.pts.length ∧ ∀ k, k < i → s.pts[k]? = t.pts[k]?
set_option maxRecDepth 100000 in
set_option maxHeartbeats 2000000 in
theorem c_ref28SameRaw (s t : RawT) (po1 po2 : Option Addr) (co1 co2 : Nat) (w : World) (h : PtsIn w po1 s.pts) (h' : PtsIn w po2 t.pts) (hls : s.pts.length ≤ 2000) (hlt : t.pts.length ≤ 2000) :
    Calls Tryz.prog 28 #[.agg (rawA s po1 co1), .agg (rawA t po2 co2)] w fun e w' => e = .returned (.bool (sameR s t)) ∧ Below w.heap.size w w' := by
  unfold rawA sameR
  obtain ⟨RES, hRES⟩ : ∃ b, ((s.name.toList == t.name.toList) && (s.eps == t.eps) && (s.floor == t.floor) && (s.last == t.last) && (s.scale == t.scale) && decide (s.pts = t.pts)) = b := ⟨_, rfl⟩
  rw [hRES]
  replace hRES := Lib.hid hRES
  go_enter Tryz.func28, Tryz.ntmps28
  go_upto_region 1 with (fail)
  refine wp_cutB w (Bc w.heap.size #[.string s.name, .int .i64 s.eps, .int .i64 s.floor, .int .i64 s.last, .int .i64 s.scale, .slice po1 s.pts.length co1] 35 <| Bc (w.heap.size + 1) #[.string t.name, .int .i64 t.eps, .int .i64 t.floor, .int .i64 t.last, .int .i64 t.scale, .slice po2 t.pts.length co2] 35 <| Bz) ?_
  rintro W1 hW z2 hL
  refine wp_regS 42 66 hW hL ?_
  iterate 6 refine dA ?_
  iterate 5 refine gA ?_
  refine pO ?_
  refine dA ?_
  iterate 5 refine gA ?_
  refine pO ?_
  refine dA ?_
  iterate 5 refine gA ?_
  refine pO ?_
  refine dA ?_
  iterate 5 refine gA ?_
  refine pO ?_
  refine dA ?_
  iterate 7 refine gA ?_
  refine pO ?_
  clear hW hL
  rintro W3 hW z4 hL
  simp only [ndR]
  intros
  repeat (rename GDet _ _ _ _ => hgd; clear hgd)
  simp only [ndS]
  refine wpList_nil ?_
  obtain ⟨⟨b1, yb1, k1, f1⟩, ⟨b2, yb2, k2, f2⟩, -⟩ := hL
  obtain ⟨F, hF⟩ : ∃ F, (!s.name.toList == t.name.toList || s.eps != t.eps || s.floor != t.floor || s.last != t.last || s.scale != t.scale || (s.pts.length : Int) != (t.pts.length : Int)) = F := ⟨_, rfl⟩
  rw [hF]
  simp only [Exit.then]
  have y1 := b1.lt
  have y2 := b2.lt
  cases F with
  | true =>
    have hs : RES = false := by
      rw [← hRES.out, Bool.eq_false_iff]
      intro hx
      simp only [Bool.and_eq_true, beq_iff_eq, decide_eq_true_eq] at hx
      obtain ⟨⟨⟨⟨⟨h1, h2⟩, h3⟩, h4⟩, h5⟩, h7⟩ := hx
      simp [h1, h2, h3, h4, h5, h7] at hF
    clear hF hRES
    replace hs := Lib.hid hs
    go_wp2
    go_ret
    exact ⟨by rw [hs.out]; rfl, hW⟩
  | false =>
    have hs : RES = decide (s.pts = t.pts) ∧ s.pts.length = t.pts.length := by
      simp only [Bool.or_eq_false_iff, Bool.not_eq_false', bne_eq_false_iff_eq] at hF
      obtain ⟨⟨⟨⟨⟨h1, h2⟩, h3⟩, h4⟩, h5⟩, h7⟩ := hF
      refine ⟨?_, by omega⟩
      rw [← hRES.out, h1]
      simp [h2, h3, h4, h5]
    obtain ⟨hs, hl⟩ := hs
    clear hF hRES
    replace hl := Lib.hid hl
    replace hs := Lib.hid hs
    go_wp2
    refine wp_loop (smrRel w s t po1 po2 co1 co2) (fun a' _ => s.pts.length - (intAt (a'.tmps.getD 51 undef)).toNat) ?_ ?_
    · unfold smrRel
      exact ⟨hW, b1, b2, 0, frame_ex rfl, by omega, fun k hk => by omega⟩
    clear b1 b2 hW k1 k2 f1 f2
    rintro a' W ⟨hW0, b1, b2, i, ⟨u, rfl⟩, hi, hall⟩
    have hz := hW0.size
    have zb1 := b1.lt
    have zb2 := b2.lt
    replace hall := Lib.hid hall
    rcases Nat.lt_or_ge i s.pts.length with hlt9 | hge
    · obtain ⟨r, tr⟩ : ∃ r, s.pts[i]? = some r := ⟨s.pts[i]'(by omega), List.getElem?_eq_getElem (by omega)⟩
      obtain ⟨q, tq⟩ : ∃ q, t.pts[i]? = some q := ⟨t.pts[i]'(by have := hl.out; omega), List.getElem?_eq_getElem (by have := hl.out; omega)⟩
      have hA0 := h.below hW0
      have hB0 := h'.below hW0
      obtain ⟨b1', o1, rfl, -⟩ := hA0.at' i r tr
      obtain ⟨b2', o2, rfl, -⟩ := hB0.at' i q tq
      have hA : PtsP W b1' o1 s.pts := ⟨hA0⟩
      have hB : PtsP W b2' o2 t.pts := ⟨hB0⟩
      clear hA0 hB0
      replace tr := Lib.hid tr
      replace tq := Lib.hid tq
      have l1 := hlt9
      have l2 : i < t.pts.length := by have := hl.out; omega
      go_upto_region 6 with (fail)
      refine wp_cutB W (Bc w.heap.size #[.string s.name, .int .i64 s.eps, .int .i64 s.floor, .int .i64 s.last, .int .i64 s.scale, .slice (some ⟨b1', o1, none⟩) s.pts.length co1] 35 <| Bc (w.heap.size + 1) #[.string t.name, .int .i64 t.eps, .int .i64 t.floor, .int .i64 t.last, .int .i64 t.scale, .slice (some ⟨b2', o2, none⟩) t.pts.length co2] 35 <| Rc (fun W' => PtsP W' b1' o1 s.pts) <| Rc (fun W' => PtsP W' b2' o2 t.pts) <| Bz) ?_ (hI := by exact belowAny) (hR := (Bc.mk (by exact blkAny2) <| Bc.mk (by exact blkAny2) <| Rc.mk (by first | exact hA | exact hA.below belowAny) <| Rc.mk (by first | exact hB | exact hB.below belowAny) <| trivial))
      clear b1 b2
      rintro W21 hW z22 hL
      obtain ⟨⟨b1, yb1, k1, f1⟩, ⟨b2, yb2, k2, f2⟩, b3, b4, -⟩ := id hL
      clear k1 f1 k2 f2
      refine wp_regQ 11 66 hW hL ?_
      iterate 11
        apply nd_det (hg := rfl) (hal := rfl)
        · intro a W' hC hE
          obtain ⟨_, ⟨-, -, k1, -⟩, ⟨-, -, k2, -⟩, k3, k4, -⟩ := hC
          obtain ⟨q0, q1⟩ := k3.cellAt tr.out; obtain ⟨q2, q3⟩ := k4.cellAt tq.out
          first
            | (simp [Oper.looksAt, Op.operands, Call.operands, envOf, Det] at hE; simp [go_sem, Act.eval, IntWalk.i64_left, hE, k1, k2, k3, k4, q0, q1, q2, q3, l1, l2, ite_ne3]; try rfl)
            | (clear hE; simp [go_sem, Act.eval, IntWalk.i64_left, k1, k2, k3, k4, q0, q1, q2, q3, l1, l2, ite_ne3]; try rfl)
      clear hW hL b1 b2 b3 b4
      rintro W23 hW z24 hL
      simp only [ndR]
      intros
      simp only [ndS]
      refine wpList_nil ?_
      obtain ⟨⟨b1, yb1, k1, f1⟩, ⟨b2, yb2, k2, f2⟩, b3, b4, -⟩ := hL
      by_cases hrq : r = q
      · have hall' := Lib.hid (show ∀ k, k < i + 1 → s.pts[k]? = t.pts[k]? from fun k hk => by
          rcases Nat.lt_or_ge k i with h | h
          · exact hall.out k h
          · obtain rfl : k = i := by omega
            rw [tr.out, tq.out, hrq])
        rw [show (!decide (r.1 = q.1) || !decide (r.2 = q.2)) = false by subst hrq; simp]
        clear hrq
        go_wp2
        rw [show (i : Int) + 1 = ((i + 1 : Nat) : Int) by omega]
        refine ⟨?_, by simp [intAt]; omega⟩
        unfold smrRel
        exact ⟨hW0.trans (hW.mono hz), b1, b2, i + 1, frame_ex rfl, by omega, hall'.out⟩
      · have hne := Lib.hid (show decide (s.pts = t.pts) = false by
          rw [decide_eq_false_iff_not]
          intro e
          have h1 := tr.out
          rw [e, tq.out] at h1
          exact hrq (Option.some.inj h1).symm)
        rw [show (!decide (r.1 = q.1) || !decide (r.2 = q.2)) = true by
          obtain ⟨r1, r2⟩ := r
          obtain ⟨q1, q2⟩ := q
          simp at hrq
          by_cases h1 : r1 = q1
          · simp [h1, hrq h1]
          · simp [h1]]
        clear hrq
        go_wp2
        go_ret
        exact ⟨by rw [hs.out, hne.out]; rfl, hW0.trans (hW.mono hz)⟩
    · obtain rfl : i = s.pts.length := by omega
      have heq := Lib.hid (show decide (s.pts = t.pts) = true by
        rw [decide_eq_true_eq]
        apply List.ext_getElem?
        intro k
        rcases Nat.lt_or_ge k s.pts.length with h | h
        · exact hall.out k h
        · rw [List.getElem?_eq_none h, List.getElem?_eq_none (by have := hl.out; omega)])
      go_wp2
      go_ret
      exact ⟨by rw [hs.out, heq.out]; rfl, hW0⟩
end Go.Proofs.YtdeghcgakkhbmaaGreat
namespace Go.Proofs.YtdeghcgakkhbmaaGreat
open Go.RowKit
/-- The place of a name in a model; -1: there is none. -/
def atR (rows : List RawT) (nm : ByteArray) : Int := match rows.findIdx? (fun r => r.name.toList == nm.toList) with
  | some i => (i : Int)
  | none => -1
def NoneB (rows : List RawT) (nm : ByteArray) (i : Nat) : Prop := ∀ k r, k < i → rows[k]? = some r → (r.name.toList == nm.toList) = false
theorem atR_here {rows : List RawT} {nm : ByteArray} {i : Nat} {r : RawT} (h : NoneB rows nm i) (hr : rows[i]? = some r) (he : (r.name.toList == nm.toList) = true) : atR rows nm = (i : Int) := by
  obtain ⟨hl, hg⟩ := List.getElem?_eq_some_iff.1 hr
  unfold atR
  rw [(List.findIdx?_eq_some_iff_getElem).2 ⟨hl, by rw [hg]; exact he, fun j hj => by
    have := h j _ hj (List.getElem?_eq_getElem (by omega))
    simp only [this]
    decide⟩]
theorem atR_next {rows : List RawT} {nm : ByteArray} {i : Nat} {r : RawT} (h : NoneB rows nm i) (hr : rows[i]? = some r) (he : (r.name.toList == nm.toList) = false) : NoneB rows nm (i + 1) := fun k q hk hq => by
  rcases Nat.lt_or_ge k i with h1 | h1
  · exact h k q h1 hq
  · obtain rfl : k = i := by omega
    rw [hr] at hq
    obtain rfl := Option.some.inj hq
    exact he
theorem atR_none {rows : List RawT} {nm : ByteArray} {i : Nat} (h : NoneB rows nm i) (hi : rows.length ≤ i) : atR rows nm = -1 := by
  unfold atR
  rw [List.findIdx?_eq_none_iff.2 fun x hx => by
    obtain ⟨k, hk⟩ := List.getElem?_of_mem hx
    have := (List.getElem?_eq_some_iff.1 hk).1
    exact h k x (by omega) hk]
def matRel (w : World) (p : Option Addr) (cap : Nat) (rows : List RawT) (nm : ByteArray) (a' : Act) (W : World) : Prop :=
  Below w.heap.size w W ∧ Blk W w.heap.size #[.slice p rows.length cap] 27 ∧ ∃ i : Nat, (∃ u : Nat → Value, a' = { tmps := #[u 0, .string nm, .pointer (some ⟨w.heap.size, 0, none⟩), u 3, .int .i64 0, u 5, u 6, u 7, .slice p rows.length cap, .int .i64 (rows.length : Int), .int .i64 (i : Int), u 11, u 12, u 13, u 14, u 15, u 16, u 17, u 18, u 19, u 20], defers := [] }) ∧ NoneB rows nm i ∧ i ≤ rows.length
set_option maxRecDepth 100000 in
set_option maxHeartbeats 2000000 in
theorem c_ref28At (p : Option Addr) (cap : Nat) (rows : List RawT) (nm : ByteArray) (w : World) (h : RawsIn w p rows) (hmx : rows.length ≤ 9223372036854775807) :
    Calls Tryz.prog 34 #[.agg #[.slice p rows.length cap], .string nm] w fun e w' => e = .returned (.int .i64 (atR rows nm)) ∧ Below w.heap.size w w' := by
  obtain ⟨RES, hRES⟩ : ∃ x, atR rows nm = x := ⟨_, rfl⟩
  rw [hRES]
  replace hRES := Lib.hid hRES
  go_enter Tryz.func34, Tryz.ntmps34
  go_upto_region 1 with (fail)
  refine wp_cutB w (Bc w.heap.size #[.slice p rows.length cap] 27 <| Bz) ?_
  rintro W1 hW z2 ⟨⟨b1, yb1, k1, f1⟩, -⟩
  go_wp2
  clear k1 f1
  refine wp_loop (matRel w p cap rows nm) (fun a' _ => rows.length - (intAt (a'.tmps.getD 10 undef)).toNat) ?_ ?_
  · unfold matRel
    exact ⟨hW, b1, 0, frame_ex rfl, fun k r hk => by omega, Nat.zero_le _⟩
  clear b1 hW
  rintro a' W ⟨hW, b1, i, ⟨u, rfl⟩, hi, hi'⟩
  have hz := hW.size
  have yb1 := b1.lt
  rcases Nat.lt_or_ge i rows.length with hlt | hge
  · obtain ⟨r0, tr⟩ : ∃ x, rows[i]? = some x := ⟨rows[i]'(by omega), List.getElem?_eq_getElem (by omega)⟩
    have hR := h.below hW
    obtain ⟨b0, o0, p0, c0, rfl, hcs, hps, hpc⟩ := hR.at' i _ tr
    have q0 : W.cell? ⟨b0, o0 + i * 6, none⟩ = some (.string r0.name) := hcs 0 _ rfl
    have q1 : W.cell? ⟨b0, o0 + i * 6 + 1, none⟩ = some (.int .i64 r0.eps) := hcs 1 _ rfl
    have q2 : W.cell? ⟨b0, o0 + i * 6 + 2, none⟩ = some (.int .i64 r0.floor) := hcs 2 _ rfl
    have q3 : W.cell? ⟨b0, o0 + i * 6 + 3, none⟩ = some (.int .i64 r0.last) := hcs 3 _ rfl
    have q4 : W.cell? ⟨b0, o0 + i * 6 + 4, none⟩ = some (.int .i64 r0.scale) := hcs 4 _ rfl
    have q5 : W.cell? ⟨b0, o0 + i * 6 + 5, none⟩ = some (.slice p0 r0.pts.length c0) := hcs 5 _ rfl
    have zq := cell_lt q0
    try simp only at zq
    clear hcs
    have k1 := b1.cell
    have f1 := b1.frozen
    clear h
    go_upto_region 4 with (fail)
    clear k1 f1
    refine wp_cutB w (Bc w.heap.size #[.slice (some ⟨b0, o0, none⟩) rows.length cap] 27 <| Bc W.heap.size #[.string r0.name, .int .i64 r0.eps, .int .i64 r0.floor, .int .i64 r0.last, .int .i64 r0.scale, .slice p0 r0.pts.length c0] 35 <| Bz) ?_
    clear b1 hW
    rintro W21 hW z22 ⟨⟨b1, yb1, k1, f1⟩, ⟨b2, yb2, k2, f2⟩, -⟩
    clear q0 q1 q2 q3 q4 q5
    cases hE : (r0.name.toList == nm.toList) with
    | true =>
      have hres := Lib.hid (atR_here hi tr hE)
      go_wp2
      go_ret
      exact ⟨by rw [← hRES.out, hres.out]; rfl, by exact belowAny⟩
    | false =>
      have hnext := Lib.hid (atR_next hi tr hE)
      clear hi
      go_wp2
      have hw1 : wrap64 ((i : Int) + 1) = (i : Int) + 1 := by simp only [wrap64_eq]; omega
      try simp only [hw1]
      clear hmx hw1
      refine ⟨?_, by simp [intAt]; omega⟩
      unfold matRel
      exact ⟨hW, b1, i + 1, frame_ex rfl, hnext.out, hlt⟩
  · have hres := Lib.hid (atR_none hi hge)
    have hlen : rows.length ≤ i := hge
    clear hi
    go_wp2
    go_ret
    exact ⟨by rw [← hRES.out, hres.out]; rfl, by exact belowAny⟩
end Go.Proofs.YtdeghcgakkhbmaaGreat
namespace Go.Proofs.YtdeghcgakkhbmaaGreat
open Go.RowKit
/-- A block of another type is none of the row's. -/
theorem Blk.grown0 {W w1 : World} {B g : Nat} {cs : Array Value} {t e : TypeId} {s n : Nat} {v : Value} {xs : List Value} (h : Blk W g cs t) (hown : W.ownsRow B e s v n xs) (ht : t ≠ e) (hgr : W.grownBy w1 v.ownBlock) : Blk w1 g cs t := by
  have hlt := h.lt
  have h' : W.heap[g]? = some (.cells cs t (0, 0)) := h
  refine (hgr.block g (by omega) fun e1 => ?_).trans h'
  rcases hown.2 with ⟨rfl, _⟩ | ⟨g', cap, cur, rfl, _, hb, _⟩
  · simp [Value.ownBlock] at e1
  · have : g = g' := by simpa [Value.ownBlock] using e1
    subst this
    unfold Blk at h
    rw [h] at hb
    injection hb with hb
    injection hb with _ h2 _
    exact ht h2
theorem SerIn.rex {L : List Nat} {w w' : World} {s : SerT} {ps po : Option Addr} (h : SerIn w s ps po) (hr : Rex L w w') (hL : L = []) : SerIn w' s ps po := by subst hL; exact h.below hr.below
theorem SerIn.drew {w : World} {s : SerT} {ps po : Option Addr} (h : SerIn w s ps po) : SerIn w.drew s ps po :=
  ⟨⟨fun i r hr => by
    obtain ⟨b, o, p', q', cap, vc, e, h1, h2, h3⟩ := h.segs.at' i r hr
    exact ⟨b, o, p', q', cap, vc, e, h1, ⟨⟨h2.runs.at'⟩, ⟨h2.raw.at'⟩, h2.fewR, h2.fewV⟩, h3⟩⟩, h.opn.drew, h.fewS, h.fewO⟩
def OneB (B : Nat) (x y z : Int) : Spec := fun v w => ∃ g, v = .slice (some ⟨g, 0, none⟩) 1 1 ∧ B ≤ g ∧ Blk w g #[.int .i64 x, .int .i64 y, .int .i64 z] 64
theorem OneB.closed (B : Nat) (x y z : Int) : Closed [] (OneB B x y z) := fun _ _ _ hr ⟨g, e1, h1, h⟩ => ⟨g, e1, h1, h.rex hr (by simp)⟩
def bkT (x : Int × Int × Int) : RunT := ⟨x.1, x.2.1, x.2.2⟩
def bk1Rel (w : World) (s : SerT) (ps : Option Addr) (cs : Nat) (po : Option Addr) (co : Nat) (a b : Int) (a' : Act) (W : World) : Prop :=
  Below w.heap.size w W ∧ Blk W w.heap.size #[.string s.name, .int .i64 s.eps, .int .i64 s.floor, .int .i64 s.last, .int .i64 s.scale, .slice ps s.segs.length cs, .slice po s.opn.length co] 79 ∧ ∃ (k : Nat) (L : List (Int × Int × Int)) (v : Value), (∃ u : Nat → Value, a' = { tmps := #[.agg #[.string s.name, .int .i64 s.eps, .int .i64 s.floor, .int .i64 s.last, .int .i64 s.scale, .slice ps s.segs.length cs, .slice po s.opn.length co], .int .i64 a, .int .i64 b, .pointer (some ⟨w.heap.size, 0, none⟩), u 4, u 5, u 6, v, .int .i64 (k : Int), u 9, u 10, u 11, u 12, u 13, u 14, u 15, u 16, u 17, u 18, u 19, u 20, u 21, u 22, u 23, u 24, u 25, u 26, u 27, u 28, u 29, u 30, u 31, u 32, u 33, u 34, u 35, u 36, u 37, u 38, u 39, u 40, u 41, u 42, u 43, u 44, u 45, u 46, u 47, u 48, u 49, u 50, u 51, u 52, u 53, u 54, u 55, u 56, u 57, u 58, u 59, u 60, u 61, u 62, u 63, u 64, u 65, u 66, u 67, u 68, u 69, u 70, u 71, u 72, u 73, u 74, u 75, u 76, u 77, u 78, u 79, u 80, u 81, u 82, u 83, u 84, u 85, u 86, u 87, u 88, u 89, u 90, u 91, u 92, u 93, u 94, u 95, u 96, u 97, u 98, u 99, u 100, u 101, u 102, u 103, u 104, u 105, u 106, u 107, u 108, u 109, u 110, u 111, u 112, u 113, u 114, u 115, u 116, u 117, u 118, u 119], defers := [] }) ∧
    OwnR W w.heap.size 64 3 v L.length (flatCells (L.map bkT)) ∧ L = (s.segs.take k).flatMap (segBk (mx a s.floor) b) ∧ k ≤ s.segs.length ∧ L.length ≤ 256 * k
def bk2Rel (w : World) (s : SerT) (ps : Option Addr) (cs : Nat) (po : Option Addr) (co : Nat) (a b : Int) (k g cp : Nat) (cur : Array Value) (x : SegT) (L : List (Int × Int × Int)) (a' : Act) (W : World) : Prop :=
  Below w.heap.size w W ∧ Blk W w.heap.size #[.string s.name, .int .i64 s.eps, .int .i64 s.floor, .int .i64 s.last, .int .i64 s.scale, .slice ps s.segs.length cs, .slice po s.opn.length co] 79 ∧ Blk W g cur 58 ∧ ∃ (m : Nat) (M : List (Int × Int × Int)) (v : Value), (∃ u : Nat → Value, a' = { tmps := #[.agg #[.string s.name, .int .i64 s.eps, .int .i64 s.floor, .int .i64 s.last, .int .i64 s.scale, .slice ps s.segs.length cs, .slice po s.opn.length co], .int .i64 a, .int .i64 b, .pointer (some ⟨w.heap.size, 0, none⟩), u 4, u 5, u 6, v, .int .i64 (k : Int), .slice (some ⟨g, 0, none⟩) (ptsL x).length cp, .bool true, .int .i64 (m : Int), u 12, u 13, u 14, u 15, u 16, u 17, u 18, u 19, u 20, u 21, u 22, u 23, u 24, u 25, u 26, u 27, u 28, u 29, u 30, u 31, u 32, u 33, u 34, u 35, u 36, u 37, u 38, u 39, u 40, u 41, u 42, u 43, u 44, u 45, u 46, u 47, u 48, u 49, u 50, u 51, u 52, u 53, u 54, u 55, u 56, u 57, u 58, u 59, u 60, u 61, u 62, u 63, u 64, u 65, u 66, u 67, u 68, u 69, u 70, u 71, u 72, u 73, u 74, u 75, u 76, u 77, u 78, u 79, u 80, u 81, u 82, u 83, u 84, u 85, u 86, u 87, u 88, u 89, u 90, u 91, u 92, u 93, u 94, u 95, u 96, u 97, u 98, u 99, u 100, u 101, u 102, u 103, u 104, u 105, u 106, u 107, u 108, u 109, u 110, u 111, u 112, u 113, u 114, u 115, u 116, u 117, u 118, u 119], defers := [] }) ∧
    OwnR W w.heap.size 64 3 v (L ++ M).length (flatCells ((L ++ M).map bkT)) ∧ M = (((ptsL x).take m).filter (selB (mx a s.floor) b)).map (fun p => (p.1, p.2, x.E)) ∧ m ≤ (ptsL x).length ∧ M.length ≤ m
def bk3Rel (w : World) (s : SerT) (ps : Option Addr) (cs : Nat) (po : Option Addr) (co : Nat) (a b : Int) (L : List (Int × Int × Int)) (a' : Act) (W : World) : Prop :=
  Below w.heap.size w W ∧ Blk W w.heap.size #[.string s.name, .int .i64 s.eps, .int .i64 s.floor, .int .i64 s.last, .int .i64 s.scale, .slice ps s.segs.length cs, .slice po s.opn.length co] 79 ∧ ∃ (m : Nat) (M : List (Int × Int × Int)) (v : Value), (∃ u : Nat → Value, a' = { tmps := #[.agg #[.string s.name, .int .i64 s.eps, .int .i64 s.floor, .int .i64 s.last, .int .i64 s.scale, .slice ps s.segs.length cs, .slice po s.opn.length co], .int .i64 a, .int .i64 b, .pointer (some ⟨w.heap.size, 0, none⟩), u 4, u 5, u 6, v, u 8, u 9, u 10, u 11, .int .i64 (m : Int), u 13, u 14, u 15, u 16, u 17, u 18, u 19, u 20, u 21, u 22, u 23, u 24, u 25, u 26, u 27, u 28, u 29, u 30, u 31, u 32, u 33, u 34, u 35, u 36, u 37, u 38, u 39, u 40, u 41, u 42, u 43, u 44, u 45, u 46, u 47, u 48, u 49, u 50, u 51, u 52, u 53, u 54, u 55, u 56, u 57, u 58, u 59, u 60, u 61, u 62, u 63, u 64, u 65, u 66, u 67, u 68, u 69, u 70, u 71, u 72, u 73, u 74, u 75, u 76, u 77, u 78, u 79, u 80, u 81, u 82, u 83, u 84, u 85, u 86, u 87, u 88, u 89, u 90, u 91, u 92, u 93, u 94, u 95, u 96, u 97, u 98, u 99, u 100, u 101, u 102, u 103, u 104, u 105, u 106, u 107, u 108, u 109, u 110, u 111, u 112, u 113, u 114, u 115, u 116, u 117, u 118, u 119], defers := [] }) ∧
    OwnR W w.heap.size 64 3 v (L ++ M).length (flatCells ((L ++ M).map bkT)) ∧ M = ((s.opn.take m).filter (selB (mx a s.floor) b)).map (fun p => (p.1, p.2, 0)) ∧ m ≤ s.opn.length ∧ M.length ≤ m
end Go.Proofs.YtdeghcgakkhbmaaGreat
namespace Go.Proofs.YtdeghcgakkhbmaaGreat
open Go.RowKit
def tm24aRel (w : World) (s : SerT) (ps : Option Addr) (cs : Nat) (po : Option Addr) (co : Nat) (a' : Act) (W : World) : Prop :=
  Below w.heap.size w W ∧ Blk W w.heap.size #[.string s.name, .int .i64 s.eps, .int .i64 s.floor, .int .i64 s.last, .int .i64 s.scale, .slice ps s.segs.length cs, .slice po s.opn.length co] 79 ∧ ∃ (k : Nat) (v : Value), (∃ u : Nat → Value, a' = { tmps := #[.agg #[.string s.name, .int .i64 s.eps, .int .i64 s.floor, .int .i64 s.last, .int .i64 s.scale, .slice ps s.segs.length cs, .slice po s.opn.length co], .pointer (some ⟨w.heap.size, 0, none⟩), u 2, v, u 4, u 5, u 6, u 7, u 8, .slice ps s.segs.length cs, .int .i64 (s.segs.length : Int), .int .i64 (k : Int), u 12, u 13, u 14, u 15, u 16, u 17, u 18, u 19, u 20, u 21, u 22, u 23, u 24, u 25, u 26, u 27, u 28, u 29, u 30, u 31, u 32, u 33, u 34], defers := [] }) ∧ OwnR W w.heap.size 2 1 v ((s.segs.take k).flatMap fun x : SegT => timesL x.runs).length (((s.segs.take k).flatMap fun x : SegT => timesL x.runs).map (Value.int .i64)) ∧ k ≤ s.segs.length
def tm24bRel (w : World) (s : SerT) (ps : Option Addr) (cs : Nat) (po : Option Addr) (co : Nat) (a' : Act) (W : World) : Prop :=
  Below w.heap.size w W ∧ Blk W w.heap.size #[.string s.name, .int .i64 s.eps, .int .i64 s.floor, .int .i64 s.last, .int .i64 s.scale, .slice ps s.segs.length cs, .slice po s.opn.length co] 79 ∧ ∃ (k : Nat) (v : Value), (∃ u : Nat → Value, a' = { tmps := #[.agg #[.string s.name, .int .i64 s.eps, .int .i64 s.floor, .int .i64 s.last, .int .i64 s.scale, .slice ps s.segs.length cs, .slice po s.opn.length co], .pointer (some ⟨w.heap.size, 0, none⟩), u 2, v, u 4, u 5, u 6, u 7, u 8, u 9, u 10, u 11, u 12, u 13, u 14, u 15, u 16, u 17, u 18, u 19, u 20, u 21, .slice po s.opn.length co, .int .i64 (s.opn.length : Int), .int .i64 (k : Int), u 25, u 26, u 27, u 28, u 29, u 30, u 31, u 32, u 33, u 34], defers := [] }) ∧ OwnR W w.heap.size 2 1 v ((s.segs.flatMap fun x : SegT => timesL x.runs) ++ (s.opn.take k).map (·.1)).length (((s.segs.flatMap fun x : SegT => timesL x.runs) ++ (s.opn.take k).map (·.1)).map (Value.int .i64)) ∧ k ≤ s.opn.length
def kp24Rel (w : World) (s : SerT) (ps : Option Addr) (cs : Nat) (po : Option Addr) (co : Nat) (T : List Int) (p : Option Addr) (c : Nat) (a' : Act) (W : World) : Prop :=
  Below w.heap.size w W ∧ Blk W w.heap.size #[.string s.name, .int .i64 s.eps, .int .i64 s.floor, .int .i64 s.last, .int .i64 s.scale, .slice ps s.segs.length cs, .slice po s.opn.length co] 79 ∧ IntsIn W p T ∧ ∃ k : Nat, (∃ u : Nat → Value, a' = { tmps := #[.agg #[.string s.name, .int .i64 s.eps, .int .i64 s.floor, .int .i64 s.last, .int .i64 s.scale, .slice ps s.segs.length cs, .slice po s.opn.length co], .pointer (some ⟨w.heap.size, 0, none⟩), u 2, .int .i64 (keptL s.floor (T.take k) : Int), u 4, u 5, u 6, .slice p T.length c, .int .i64 (T.length : Int), .int .i64 (k : Int), u 10, u 11, u 12, u 13, u 14, u 15, u 16, u 17, u 18, u 19, u 20], defers := [] }) ∧ k ≤ T.length
end Go.Proofs.YtdeghcgakkhbmaaGreat
namespace Go.Proofs.YtdeghcgakkhbmaaGreat
open Go.RowKit
/-- Cells that lie in a row. -/
structure CellsP (w : World) (b o : Nat) (cs : Array Value) : Prop where
  at' : ∀ (j : Nat) (v : Value), cs[j]? = some v → w.cell? ⟨b, o + j, none⟩ = some v
theorem CellsP.below {w w' : World} {b o : Nat} {cs : Array Value} (h : CellsP w b o cs) (hb : Below w.heap.size w w') : CellsP w' b o cs := ⟨fun j v hv => by
  have h1 := h.at' j v hv
  exact ((bcell hb).1 b _ (cell_lt h1)).trans h1⟩
theorem CellsP.rex {L : List Nat} {w w' : World} {b o : Nat} {cs : Array Value} (h : CellsP w b o cs) (hr : Rex L w w') (hL : L = []) : CellsP w' b o cs := by subst hL; exact h.below hr.below
theorem CellsP.drew {w : World} {b o : Nat} {cs : Array Value} (h : CellsP w b o cs) : CellsP w.drew b o cs := ⟨h.at'⟩
def r14Rel (w : World) (p : Option Addr) (cap : Nat) (l : List SegT) (a' : Act) (W : World) : Prop :=
  Below w.heap.size w W ∧ ∃ i : Nat, (∃ u : Nat → Value, a' = { tmps := #[.slice p l.length cap, u 1, u 2, u 3, u 4, .slice p l.length cap, .int .i64 (l.length : Int), .int .i64 (i : Int), u 8, u 9, u 10, u 11, u 12, u 13, u 14, u 15, u 16, u 17, u 18, u 19, u 20, u 21, u 22, u 23, u 24, u 25, u 26, u 27, u 28, u 29], defers := [] }) ∧ rowB (-1) (l.take i) = true ∧ i ≤ l.length
def r24aRel (w : World) (s : SerT) (ps : Option Addr) (cs : Nat) (po : Option Addr) (co : Nat) (a' : Act) (W : World) : Prop :=
  Below w.heap.size w W ∧ Blk W w.heap.size #[.string s.name, .int .i64 s.eps, .int .i64 s.floor, .int .i64 s.last, .int .i64 s.scale, .slice ps s.segs.length cs, .slice po s.opn.length co] 79 ∧ ∃ i : Nat, (∃ u : Nat → Value, a' = { tmps := #[u 0, .pointer (some ⟨w.heap.size, 0, none⟩), u 2, u 3, u 4, u 5, u 6, u 7, u 8, u 9, u 10, u 11, u 12, u 13, u 14, u 15, u 16, u 17, u 18, u 19, u 20, u 21, u 22, u 23, u 24, u 25, u 26, u 27, u 28, u 29, u 30, u 31, u 32, u 33, u 34, u 35, u 36, u 37, u 38, u 39, u 40, u 41, u 42, u 43, u 44, u 45, u 46, u 47, u 48, u 49, u 50, u 51, .slice ps s.segs.length cs, .int .i64 (s.segs.length : Int), .int .i64 (i : Int), u 55, u 56, u 57, u 58, u 59, u 60, u 61, u 62, u 63, u 64, u 65, u 66, u 67, u 68, u 69, u 70, u 71, u 72, u 73, u 74, u 75, u 76, u 77, u 78, u 79, u 80, u 81, u 82, u 83, u 84, u 85, u 86, u 87, u 88, u 89, u 90, u 91, u 92, u 93, u 94, u 95, u 96, u 97, u 98, u 99, u 100, u 101, u 102, u 103, u 104, u 105, u 106, u 107, u 108, u 109, u 110, u 111, u 112, u 113, u 114, u 115, u 116, u 117, u 118, u 119, u 120, u 121, u 122, u 123, u 124, u 125, u 126, u 127, u 128, u 129], defers := [] }) ∧ (s.segs.take i).all (inSegB s.eps s.floor) = true ∧ i ≤ s.segs.length
def r24bRel (w : World) (s : SerT) (ps : Option Addr) (cs : Nat) (po : Option Addr) (co : Nat) (a' : Act) (W : World) : Prop :=
  Below w.heap.size w W ∧ Blk W w.heap.size #[.string s.name, .int .i64 s.eps, .int .i64 s.floor, .int .i64 s.last, .int .i64 s.scale, .slice ps s.segs.length cs, .slice po s.opn.length co] 79 ∧ ∃ i : Nat, (∃ u : Nat → Value, a' = { tmps := #[u 0, .pointer (some ⟨w.heap.size, 0, none⟩), u 2, u 3, u 4, u 5, u 6, u 7, u 8, u 9, u 10, u 11, u 12, u 13, u 14, u 15, u 16, u 17, u 18, u 19, u 20, u 21, u 22, u 23, u 24, u 25, u 26, u 27, u 28, u 29, u 30, u 31, u 32, u 33, u 34, u 35, u 36, u 37, u 38, u 39, u 40, u 41, u 42, u 43, u 44, u 45, u 46, u 47, u 48, u 49, u 50, u 51, u 52, u 53, u 54, u 55, u 56, u 57, u 58, u 59, u 60, u 61, u 62, u 63, u 64, u 65, u 66, u 67, u 68, u 69, u 70, u 71, .slice po s.opn.length co, .int .i64 (s.opn.length : Int), .int .i64 (i : Int), u 75, u 76, u 77, u 78, u 79, u 80, u 81, u 82, u 83, u 84, u 85, u 86, u 87, u 88, u 89, u 90, u 91, u 92, u 93, u 94, u 95, u 96, u 97, u 98, u 99, u 100, u 101, u 102, u 103, u 104, u 105, u 106, u 107, u 108, u 109, u 110, u 111, u 112, u 113, u 114, u 115, u 116, u 117, u 118, u 119, u 120, u 121, u 122, u 123, u 124, u 125, u 126, u 127, u 128, u 129], defers := [] }) ∧ (s.opn.take i).all (inOpnB s.floor) = true ∧ i ≤ s.opn.length
def r24cRel (w : World) (s : SerT) (ps : Option Addr) (cs : Nat) (po : Option Addr) (co : Nat) (T : List Int) (p : Option Addr) (c : Nat) (a' : Act) (W : World) : Prop :=
  Below w.heap.size w W ∧ Blk W w.heap.size #[.string s.name, .int .i64 s.eps, .int .i64 s.floor, .int .i64 s.last, .int .i64 s.scale, .slice ps s.segs.length cs, .slice po s.opn.length co] 79 ∧ IntsIn W p T ∧ ∃ i : Nat, (∃ u : Nat → Value, a' = { tmps := #[u 0, .pointer (some ⟨w.heap.size, 0, none⟩), u 2, u 3, u 4, u 5, u 6, .slice p T.length c, u 8, u 9, u 10, u 11, u 12, u 13, u 14, u 15, u 16, u 17, u 18, u 19, u 20, u 21, u 22, u 23, u 24, u 25, u 26, u 27, u 28, u 29, u 30, u 31, u 32, u 33, u 34, u 35, u 36, u 37, u 38, u 39, u 40, u 41, u 42, u 43, u 44, u 45, u 46, u 47, u 48, u 49, u 50, u 51, u 52, u 53, u 54, u 55, u 56, u 57, u 58, u 59, u 60, u 61, u 62, u 63, u 64, u 65, u 66, u 67, u 68, u 69, u 70, u 71, u 72, u 73, u 74, u 75, u 76, u 77, u 78, u 79, u 80, u 81, u 82, u 83, u 84, u 85, u 86, u 87, u 88, u 89, u 90, u 91, .int .i64 (T.length : Int), .int .i64 (i : Int), u 94, u 95, u 96, u 97, u 98, u 99, u 100, u 101, u 102, u 103, u 104, u 105, u 106, u 107, u 108, u 109, u 110, u 111, u 112, u 113, u 114, u 115, u 116, u 117, u 118, u 119, u 120, u 121, u 122, u 123, u 124, u 125, u 126, u 127, u 128, u 129], defers := [] }) ∧ riseB (-1) (T.take i) = true ∧ i ≤ T.length ∧ (i = T.length → (decide (lastOr (-1) T < 0) || (s.last == lastOr (-1) T)) = true)
end Go.Proofs.YtdeghcgakkhbmaaGreat
namespace Go.Proofs.YtdeghcgakkhbmaaGreat
open Go.RowKit
def eqRunRel (w : World) (p : Option Addr) (cap : Nat) (p' : Option Addr) (cap' : Nat) (A B : List RunT) (a' : Act) (W : World) : Prop :=
  Below w.heap.size w W ∧ ∃ (i : Nat), (∃ u : Nat → Value, a' = { tmps := #[.slice p A.length cap, .slice p' A.length cap', u 2, u 3, .bool false, u 5, u 6, u 7, u 8, u 9, u 10, u 11, .int .i64 (A.length : Int), .int .i64 (i : Int), u 14, u 15, u 16, u 17, u 18, u 19, u 20, u 21, u 22, u 23, u 24, u 25], defers := [] }) ∧ i ≤ A.length ∧ ∀ k, k < i → A[k]? = B[k]?
def eqIntRel (w : World) (p : Option Addr) (cap : Nat) (p' : Option Addr) (cap' : Nat) (A B : List Int) (a' : Act) (W : World) : Prop :=
  Below w.heap.size w W ∧ ∃ (i : Nat), (∃ u : Nat → Value, a' = { tmps := #[.slice p A.length cap, .slice p' A.length cap', u 2, u 3, .bool false, u 5, u 6, u 7, u 8, u 9, u 10, u 11, .int .i64 (A.length : Int), .int .i64 (i : Int), u 14, u 15, u 16, u 17, u 18, u 19, u 20, u 21, u 22, u 23, u 24, u 25], defers := [] }) ∧ i ≤ A.length ∧ ∀ k, k < i → A[k]? = B[k]?
end Go.Proofs.YtdeghcgakkhbmaaGreat
namespace Go.Proofs.YtdeghcgakkhbmaaGreat
open Go.RowKit
def rsRel (w : World) (K A R n d E : Int) (p q : Option Addr) (len cap vc : Nat) (K' A' R' n' d' E' : Int) (p' q' : Option Addr) (len' cap' vc' : Nat) (V V' : List Int) (a' : Act) (W : World) : Prop :=
  Below w.heap.size w W ∧ Blk W w.heap.size #[.int .i64 K, .slice p len cap, .int .i64 A, .int .i64 R, .int .i64 n, .int .i64 d, .slice q V.length vc, .int .i64 E] 135 ∧ Blk W (w.heap.size + 1) #[.int .i64 K', .slice p' len' cap', .int .i64 A', .int .i64 R', .int .i64 n', .int .i64 d', .slice q' V.length vc', .int .i64 E'] 135 ∧ ∃ (i : Nat), (∃ u : Nat → Value, a' = { tmps := #[u 0, u 1, .pointer (some ⟨w.heap.size, 0, none⟩), .pointer (some ⟨w.heap.size + 1, 0, none⟩), .bool false, .int .i64 (i : Int), u 6, u 7, u 8, u 9, u 10, u 11, u 12, u 13, u 14, u 15, u 16, u 17, u 18, u 19, u 20, u 21, u 22, u 23, u 24, u 25, u 26, u 27, u 28, u 29, u 30, u 31, u 32, u 33, u 34, u 35, u 36, u 37, u 38, u 39, u 40, u 41, u 42, u 43, u 44, u 45, u 46, u 47, u 48, u 49, u 50, u 51, u 52, u 53, u 54, u 55, u 56, u 57, u 58, u 59], defers := [] }) ∧ i ≤ V.length ∧ ∀ k, k < i → V[k]? = V'[k]?
/-- Are two segments the same? -/
def sameT (s t : SegT) : Bool := (s.K == t.K) && (decide (s.A = t.A) && decide (s.R = t.R) && decide (s.n = t.n) && decide (s.d = t.d)) && (s.E == t.E) && decide (s.runs = t.runs) && decide (s.raw = t.raw)
end Go.Proofs.YtdeghcgakkhbmaaGreat
namespace Go.Proofs.YtdeghcgakkhbmaaGreat
open Go.RowKit
def s13Rel (w : World) (p p' : Option Addr) (cap cap' : Nat) (l : List SegT) (a' : Act) (W : World) : Prop :=
  Below w.heap.size w W ∧ ∃ i : Nat, (∃ u : Nat → Value, a' = { tmps := #[.slice p l.length cap, .slice p' l.length cap', u 2, u 3, u 4, .int .i64 (i : Int), u 6, u 7, u 8, u 9, u 10, u 11, u 12, u 13, u 14, u 15, u 16, u 17, u 18, u 19, u 20, u 21, u 22, u 23, u 24, u 25, u 26], defers := [] }) ∧ i ≤ l.length
def s24Rel (w : World) (s : SerT) (ps1 ps2 : Option Addr) (cs1 cs2 : Nat) (po1 po2 : Option Addr) (co1 co2 : Nat) (a' : Act) (W : World) : Prop :=
  Below w.heap.size w W ∧ Blk W w.heap.size #[.string s.name, .int .i64 s.eps, .int .i64 s.floor, .int .i64 s.last, .int .i64 s.scale, .slice ps1 s.segs.length cs1, .slice po1 s.opn.length co1] 79 ∧ Blk W (w.heap.size + 1) #[.string s.name, .int .i64 s.eps, .int .i64 s.floor, .int .i64 s.last, .int .i64 s.scale, .slice ps2 s.segs.length cs2, .slice po2 s.opn.length co2] 79 ∧ ∃ i : Nat, (∃ u : Nat → Value, a' = { tmps := #[u 0, u 1, .pointer (some ⟨w.heap.size, 0, none⟩), .pointer (some ⟨w.heap.size + 1, 0, none⟩), u 4, u 5, u 6, u 7, u 8, u 9, u 10, u 11, u 12, u 13, u 14, u 15, u 16, u 17, u 18, u 19, u 20, u 21, u 22, u 23, u 24, u 25, u 26, u 27, u 28, u 29, u 30, u 31, u 32, u 33, u 34, u 35, u 36, u 37, u 38, u 39, u 40, u 41, u 42, u 43, u 44, u 45, u 46, u 47, u 48, u 49, u 50, u 51, u 52, u 53, u 54, u 55, u 56, u 57, .int .i64 (s.opn.length : Int), .int .i64 (i : Int), u 60, u 61, u 62, u 63, u 64, u 65, u 66, u 67, u 68, u 69, u 70, u 71, u 72, u 73], defers := [] }) ∧ i ≤ s.opn.length
end Go.Proofs.YtdeghcgakkhbmaaGreat
namespace Go.Proofs.YtdeghcgakkhbmaaGreat
open Go.RowKit
theorem ite_ne2 {a b c d : Int} {w : World} : ((if a = b then (if c = d then Result.ok (Go.Next.value (Value.bool false)) w else Result.ok (Go.Next.value (Value.bool true)) w) else Result.ok (Go.Next.value (Value.bool true)) w) : Result Go.Next) = Result.ok (Go.Next.value (Value.bool (!(decide (a = b) && decide (c = d))))) w := by
  by_cases h1 : a = b <;> by_cases h2 : c = d <;> simp [h1, h2]
def eqqRel (w : World) (p : Option Addr) (cap : Nat) (p' : Option Addr) (cap' : Nat) (A B : List (Int × Int)) (a' : Act) (W : World) : Prop :=
  Below w.heap.size w W ∧ ∃ (i : Nat), (∃ u : Nat → Value, a' = { tmps := #[.slice p A.length cap, .slice p' A.length cap', u 2, u 3, .bool false, u 5, u 6, u 7, u 8, u 9, u 10, u 11, .int .i64 (A.length : Int), .int .i64 (i : Int), u 14, u 15, u 16, u 17, u 18, u 19, u 20, u 21, u 22, u 23, u 24, u 25], defers := [] }) ∧ i ≤ A.length ∧ ∀ k, k < i → A[k]? = B[k]?
set_option maxRecDepth 100000 in
set_option maxHeartbeats 2000000 in
theorem eqPtsG_w (p : Option Addr) (cap : Nat) (p' : Option Addr) (cap' : Nat) (A B : List (Int × Int)) (w : World) (hl : A.length = B.length) (hlen : A.length ≤ 1000000) (hA0 : PtsIn w p A) (hB0 : PtsIn w p' B) :
    Calls Tryz.prog 20 #[.slice p A.length cap, .slice p' A.length cap'] w fun e w' => e = .returned (.bool (decide (A = B))) ∧ Below w.heap.size w w' := by
  go_enter Tryz.func20, Tryz.ntmps20
  replace hl := Lib.hid hl
  go_wp2
  refine wp_loop (eqqRel w p cap p' cap' A B) (fun a' _ => A.length - (intAt (a'.tmps.getD 13 undef)).toNat) ?_ ?_
  · unfold eqqRel
    exact ⟨Below.refl _ _, 0, frame_ex rfl, by omega, fun k hk => by omega⟩
  · rintro a' W ⟨hW0, i, ⟨u, rfl⟩, hi', hall⟩
    have hz := hW0.size
    replace hall := Lib.hid hall
    rcases Nat.lt_or_ge i A.length with hlt | hge
    · obtain ⟨r, tr⟩ : ∃ r, A[i]? = some r := ⟨A[i]'(by omega), List.getElem?_eq_getElem (by omega)⟩
      obtain ⟨q, tq⟩ : ∃ q, B[i]? = some q := ⟨B[i]'(by have := hl.out; omega), List.getElem?_eq_getElem (by have := hl.out; omega)⟩
      obtain ⟨b, o, rfl, -⟩ := hA0.at' i r tr
      obtain ⟨b', o', rfl, -⟩ := hB0.at' i q tq
      have hA : PtsP W b o A := ⟨hA0.below hW0⟩
      have hB : PtsP W b' o' B := ⟨hB0.below hW0⟩
      replace tr := Lib.hid tr
      replace tq := Lib.hid tq
      have l1 := hlt
      have l2 : i < B.length := by have := hl.out; omega
      go_upto_region 6 with (fail)
      refine wp_cutB W (Rc (fun W' => PtsP W' b o A) <| Rc (fun W' => PtsP W' b' o' B) <| Bz) ?_ (hI := by exact belowAny) (hR := (Rc.mk (by exact hA.below belowAny) <| Rc.mk (by exact hB.below belowAny) <| trivial))
      rintro W1 hW z2 hL
      obtain ⟨b1, b2, -⟩ := id hL
      refine wp_regQ 9 26 hW hL ?_
      iterate 9
        apply nd_det (hg := rfl) (hal := rfl)
        · intro a W' hC hE
          obtain ⟨_, k1, k2, -⟩ := hC
          obtain ⟨q0, q1⟩ := k1.cellAt tr.out; obtain ⟨q2, q3⟩ := k2.cellAt tq.out
          first
            | (simp [Oper.looksAt, Op.operands, Call.operands, envOf, Det] at hE; simp [go_sem, Act.eval, IntWalk.i64_left, hE, k1, k2, q0, q1, q2, q3, l1, l2, ite_ne2]; try rfl)
            | (clear hE; simp [go_sem, Act.eval, IntWalk.i64_left, k1, k2, q0, q1, q2, q3, l1, l2, ite_ne2]; try rfl)
      clear hW hL b1 b2
      rintro W3 hW z4 hL
      simp only [ndR]
      intros
      simp only [ndS]
      refine wpList_nil ?_
      obtain ⟨b1, b2, -⟩ := hL
      by_cases hrq : r = q
      · have hall' := Lib.hid (show ∀ k, k < i + 1 → A[k]? = B[k]? from fun k hk => by
          rcases Nat.lt_or_ge k i with h | h
          · exact hall.out k h
          · obtain rfl : k = i := by omega
            rw [tr.out, tq.out, hrq])
        rw [show (!decide (r.1 = q.1) || !decide (r.2 = q.2)) = false by subst hrq; simp]
        clear hrq
        go_wp2
        rw [show (i : Int) + 1 = ((i + 1 : Nat) : Int) by omega]
        refine ⟨?_, by simp [intAt]; omega⟩
        unfold eqqRel
        exact ⟨hW0.trans (hW.mono hz), i + 1, frame_ex rfl, by omega, hall'.out⟩
      · have hne := Lib.hid (show decide (A = B) = false by
          rw [decide_eq_false_iff_not]
          rintro rfl
          rw [tr.out] at tq
          exact hrq (Option.some.inj tq.out))
        rw [show (!decide (r.1 = q.1) || !decide (r.2 = q.2)) = true by
          obtain ⟨r1, r2⟩ := r
          obtain ⟨q1, q2⟩ := q
          simp at hrq
          by_cases h1 : r1 = q1
          · simp [h1, hrq h1]
          · simp [h1]]
        clear hrq
        go_wp2
        go_ret
        exact ⟨by rw [hne.out]; rfl, hW0.trans (hW.mono hz)⟩
    · obtain rfl : i = A.length := by omega
      have heq := Lib.hid (show decide (A = B) = true by
        rw [decide_eq_true_eq]
        apply List.ext_getElem?
        intro k
        rcases Nat.lt_or_ge k A.length with h | h
        · exact hall.out k h
        · rw [List.getElem?_eq_none h, List.getElem?_eq_none (by have := hl.out; omega)])
      go_wp2
      go_ret
      exact ⟨by rw [heq.out]; rfl, hW0⟩
set_option maxRecDepth 100000 in
set_option maxHeartbeats 2000000 in
theorem eqPtsG_len (p : Option Addr) (n cap : Nat) (p' : Option Addr) (m cap' : Nat) (w : World) (hl : ¬ n = m) :
    Calls Tryz.prog 20 #[.slice p n cap, .slice p' m cap'] w fun e w' => e = .returned (.bool false) ∧ Below w.heap.size w w' := by
  go_enter Tryz.func20, Tryz.ntmps20
  go_wp2
  go_ret
  exact ⟨rfl, Below.refl _ _⟩
theorem c_eqPtsG (p : Option Addr) (cap : Nat) (p' : Option Addr) (cap' : Nat) (A B : List (Int × Int)) (w : World) (hlen : A.length ≤ 1000000) (hA0 : PtsIn w p A) (hB0 : PtsIn w p' B) :
    Calls Tryz.prog 20 #[.slice p A.length cap, .slice p' B.length cap'] w fun e w' => e = .returned (.bool (decide (A = B))) ∧ Below w.heap.size w w' := by
  by_cases h : A.length = B.length
  · rw [← h]; exact eqPtsG_w p cap p' cap' A B w h hlen hA0 hB0
  · rw [show decide (A = B) = false by rw [decide_eq_false_iff_not]; rintro rfl; exact h rfl]
    exact eqPtsG_len p _ cap p' _ cap' w h
/-- the same segments -/
def sameL : List SegT → List SegT → Bool
  | [], [] => true
  | s :: l, t :: m => sameT s t && sameL l m
  | _, _ => false
def Upto (l m : List SegT) (i : Nat) : Prop := ∀ (k : Nat) x y, k < i → l[k]? = some x → m[k]? = some y → sameT x y = true
theorem Upto.next {l m : List SegT} {i : Nat} {x y : SegT} (h : Upto l m i) (h1 : l[i]? = some x) (h2 : m[i]? = some y) (h3 : sameT x y = true) : Upto l m (i + 1) := fun k u v hk hu hv => by
  rcases Nat.lt_or_ge k i with hlt | hge
  · exact h k u v hlt hu hv
  · obtain rfl : k = i := by omega
    rw [h1] at hu; rw [h2] at hv
    injection hu with hu; injection hv with hv
    rw [← hu, ← hv]; exact h3
def s13gRel (w : World) (p p' : Option Addr) (cap cap' : Nat) (l m : List SegT) (a' : Act) (W : World) : Prop :=
  Below w.heap.size w W ∧ ∃ i : Nat, (∃ u : Nat → Value, a' = { tmps := #[.slice p l.length cap, .slice p' l.length cap', u 2, u 3, u 4, .int .i64 (i : Int), u 6, u 7, u 8, u 9, u 10, u 11, u 12, u 13, u 14, u 15, u 16, u 17, u 18, u 19, u 20, u 21, u 22, u 23, u 24, u 25, u 26], defers := [] }) ∧ i ≤ l.length ∧ Upto l m i
end Go.Proofs.YtdeghcgakkhbmaaGreat
