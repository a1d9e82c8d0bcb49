/- For every raw series and everything said that comes in: ModelHolds returns true; the arguments read as before. No condition. -/
import Derived.Test.YtdeghcgakkhbmaaGreatHs20
set_option linter.unusedSimpArgs false
set_option linter.unusedVariables false
namespace Go.Proofs.YtdeghcgakkhbmaaGreat
open Go.RowKit
def rrRel (w : World) (r : RawT) (p : Option Addr) (cap : Nat) (a' : Act) (W : World) : Prop :=
  Below w.heap.size w W ∧ Blk W w.heap.size #[.string r.name, .int .i64 r.eps, .int .i64 r.floor, .int .i64 r.last, .int .i64 r.scale, .slice p r.pts.length cap] 35 ∧ ∃ i : Nat, (∃ u : Nat → Value, a' = { tmps := #[u 0, .pointer (some ⟨w.heap.size, 0, none⟩), .bool false, u 3, u 4, u 5, u 6, u 7, u 8, u 9, u 10, u 11, u 12, u 13, u 14, u 15, u 16, u 17, u 18, u 19, u 20, u 21, u 22, u 23, u 24, u 25, u 26, u 27, u 28, u 29, u 30, u 31, u 32, u 33, u 34, u 35, u 36, u 37, u 38, u 39, u 40, u 41, u 42, u 43, .slice p r.pts.length cap, .int .i64 (r.pts.length : Int), .int .i64 (i : Int), u 47, u 48, u 49, u 50, u 51, u 52, u 53, u 54, u 55, u 56, u 57, u 58, u 59, u 60, u 61, u 62, u 63, u 64, u 65, u 66, u 67, u 68, u 69, u 70, u 71, u 72, u 73, u 74, u 75, u 76, u 77, u 78, u 79, u 80, u 81, u 82, u 83, u 84, u 85, u 86, u 87, u 88, u 89, u 90, u 91, u 92], defers := [] }) ∧ rawPtsB r.floor (-1) (r.pts.take i) = true ∧ i ≤ r.pts.length ∧ (i = r.pts.length → (r.pts.isEmpty || r.last == lastOr (-1) (r.pts.map (·.1))) = true)
theorem rawPts_cut {fl b : Int} {l : List (Int × Int)} (i : Nat) (h : rawPtsB fl b (l.take i) = false) : rawPtsB fl b l = false := by
  have key : ∀ (m : List (Int × Int)) (b : Int) (r : List (Int × Int)), rawPtsB fl b m = false → rawPtsB fl b (m ++ r) = false := by
    intro m
    induction m with
    | nil => intro b r h; simp [rawPtsB] at h
    | cons y m ih =>
      intro b r h
      simp only [List.cons_append, rawPtsB] at h ⊢
      cases h1 : (ptB y && (decide (fl ≤ y.1) && decide (b < y.1))) with
      | false => rfl
      | true =>
        rw [h1, Bool.true_and] at h
        rw [Bool.true_and]
        exact ih _ r h
  have := key _ b (l.drop i) h
  rwa [List.take_append_drop] at this
set_option maxRecDepth 100000 in
set_option maxHeartbeats 2000000 in
theorem c_ref28Raw (r : RawT) (p : Option Addr) (cap : Nat) (w : World) (hin : PtsIn w p r.pts) (hl : r.pts.length ≤ 2000) (hnm : r.name.size ≤ 1000) :
    Calls Tryz.prog 21 #[.agg (rawA r p cap)] w fun e w' => e = .returned (.bool (rawB r)) ∧ Below w.heap.size w w' := by
  unfold rawA
  have hnum : rawNumsB r = (nameB r.name && btw r.eps 0 1099511627776 && btw r.scale (-40) 40 && btw r.floor 0 281474976710656 && btw r.last (-1) 281474976710656 && decide (r.pts.length ≤ 1024)) := by unfold rawNumsB; simp [Bool.and_assoc]
  obtain ⟨N1, hN1⟩ : ∃ b, nameB r.name = b := ⟨_, rfl⟩
  obtain ⟨N2, hN2⟩ : ∃ b, btw r.eps 0 1099511627776 = b := ⟨_, rfl⟩
  obtain ⟨N3, hN3⟩ : ∃ b, btw r.scale (-40) 40 = b := ⟨_, rfl⟩
  obtain ⟨N4, hN4⟩ : ∃ b, btw r.floor 0 281474976710656 = b := ⟨_, rfl⟩
  rw [hN1, hN2, hN3, hN4] at hnum
  have hv := Lib.hid (show (!N1 || !N2 || !N3 || !N4 || decide (r.last < -1) || decide (281474976710656 < r.last) || decide (1024 < (r.pts.length : Int))) = !rawNumsB r by
    rw [hnum]
    unfold btw
    have h1 : decide (r.last < -1) = !decide (-1 ≤ r.last) := by rw [Bool.eq_iff_iff]; simp
    have h2 : decide (281474976710656 < r.last) = !decide (r.last ≤ 281474976710656) := by rw [Bool.eq_iff_iff]; simp
    have h3 : decide (1024 < (r.pts.length : Int)) = !decide (r.pts.length ≤ 1024) := by rw [Bool.eq_iff_iff]; simp; omega
    rw [h1, h2, h3]
    cases N1 <;> cases N2 <;> cases N3 <;> cases N4 <;> simp [Bool.not_and])
  replace hnum := Lib.hid hnum
  have hno0 := Lib.hid (fun (e : rawNumsB r = false) => (show rawB r = false by unfold rawB; rw [e, Bool.false_and]))
  obtain ⟨N, hN⟩ : ∃ b, rawNumsB r = b := ⟨_, rfl⟩
  rw [hN] at hv
  replace hN1 := Lib.hid hN1
  replace hN2 := Lib.hid hN2
  replace hN3 := Lib.hid hN3
  replace hN4 := Lib.hid hN4
  replace hN := Lib.hid hN
  go_enter Tryz.func21, Tryz.ntmps21
  go_upto_region 1 with (fail)
  refine wp_cutB w (Bc w.heap.size #[.string r.name, .int .i64 r.eps, .int .i64 r.floor, .int .i64 r.last, .int .i64 r.scale, .slice p r.pts.length cap] 35 <| Bz) ?_
  rintro W1 hW z2 hL
  refine wp_regS 38 93 hW hL ?_
  iterate 2 refine dE (fun W' hC => aI hN1.out (aI hN2.out (aI hN3.out hN4.out))) ?_
  refine cE (fun W' hC => aI hN1.out (aI hN2.out (aI hN3.out hN4.out))) (fun W' hC => c_r18Name r.name W' hnm) ?_
  iterate 2 refine dE (fun W' hC => aI hN1.out (aI hN2.out (aI hN3.out hN4.out))) ?_
  iterate 2 refine gE (fun W' hC => aI hN1.out (aI hN2.out (aI hN3.out hN4.out))) ?_
  apply nd_callvg2 (p := true) (hg := rfl) (hd := rfl) (hal := rfl)
  · intro v W' h
    simp [envOf, Det] at h
    simp
    exact h
  · intro hp hx W' hC
    exact c_r13Eps r.eps W'
  · intro hp hx a W' hC hE
    obtain ⟨_, ⟨-, -, k1, -⟩, -⟩ := hC
    first
      | (simp [Oper.looksAt, Op.operands, Call.operands, envOf, Det, GDet, hx] at hE; simp [go_sem, Act.eval, IntWalk.i64_left, hE, k1, hN1.out, hN2.out, hN3.out, hN4.out]; try rfl)
      | (clear hE; simp [go_sem, Act.eval, IntWalk.i64_left, k1, hN1.out, hN2.out, hN3.out, hN4.out]; try rfl)
  refine gE (fun W' hC => aI hN1.out (aI hN2.out (aI hN3.out hN4.out))) ?_
  refine pO ?_
  refine dE (fun W' hC => aI hN1.out (aI hN2.out (aI hN3.out hN4.out))) ?_
  iterate 2 refine gE (fun W' hC => aI hN1.out (aI hN2.out (aI hN3.out hN4.out))) ?_
  apply nd_callvg2 (p := true) (hg := rfl) (hd := rfl) (hal := rfl)
  · intro v W' h
    simp [envOf, Det] at h
    simp
    exact h
  · intro hp hx W' hC
    exact c_r24Scale r.scale W'
  · intro hp hx a W' hC hE
    obtain ⟨_, ⟨-, -, k1, -⟩, -⟩ := hC
    first
      | (simp [Oper.looksAt, Op.operands, Call.operands, envOf, Det, GDet, hx] at hE; simp [go_sem, Act.eval, IntWalk.i64_left, hE, k1, hN1.out, hN2.out, hN3.out, hN4.out]; try rfl)
      | (clear hE; simp [go_sem, Act.eval, IntWalk.i64_left, k1, hN1.out, hN2.out, hN3.out, hN4.out]; try rfl)
  refine gE (fun W' hC => aI hN1.out (aI hN2.out (aI hN3.out hN4.out))) ?_
  refine pO ?_
  refine dE (fun W' hC => aI hN1.out (aI hN2.out (aI hN3.out hN4.out))) ?_
  iterate 2 refine gE (fun W' hC => aI hN1.out (aI hN2.out (aI hN3.out hN4.out))) ?_
  apply nd_callvg2 (p := true) (hg := rfl) (hd := rfl) (hal := rfl)
  · intro v W' h
    simp [envOf, Det] at h
    simp
    exact h
  · intro hp hx W' hC
    exact c_r18Time r.floor W'
  · intro hp hx a W' hC hE
    obtain ⟨_, ⟨-, -, k1, -⟩, -⟩ := hC
    first
      | (simp [Oper.looksAt, Op.operands, Call.operands, envOf, Det, GDet, hx] at hE; simp [go_sem, Act.eval, IntWalk.i64_left, hE, k1, hN1.out, hN2.out, hN3.out, hN4.out]; try rfl)
      | (clear hE; simp [go_sem, Act.eval, IntWalk.i64_left, k1, hN1.out, hN2.out, hN3.out, hN4.out]; try rfl)
  refine gE (fun W' hC => aI hN1.out (aI hN2.out (aI hN3.out hN4.out))) ?_
  refine pO ?_
  refine dE (fun W' hC => aI hN1.out (aI hN2.out (aI hN3.out hN4.out))) ?_
  iterate 3 refine gE (fun W' hC => aI hN1.out (aI hN2.out (aI hN3.out hN4.out))) ?_
  refine pO ?_
  refine dE (fun W' hC => aI hN1.out (aI hN2.out (aI hN3.out hN4.out))) ?_
  iterate 3 refine gE (fun W' hC => aI hN1.out (aI hN2.out (aI hN3.out hN4.out))) ?_
  refine pO ?_
  refine dE (fun W' hC => aI hN1.out (aI hN2.out (aI hN3.out hN4.out))) ?_
  iterate 4 refine gE (fun W' hC => aI hN1.out (aI hN2.out (aI hN3.out hN4.out))) ?_
  refine pO ?_
  clear hW hL
  rintro W3 hW z4 hL
  simp only [ndR]
  intros
  repeat (rename GDet _ _ _ _ => hgd; clear hgd)
  simp only [ndS]
  refine wpList_nil ?_
  obtain ⟨⟨b1, yb1, k1, f1⟩, -⟩ := hL
  rw [hv.out]
  cases N with
  | false =>
    have hno := Lib.hid (hno0.out hN.out)
    go_wp2
    go_ret
    exact ⟨by rw [hno.out]; rfl, by exact belowAny⟩
  | true =>
    clear hv hno0 hN1 hN2 hN3 hN4
    have hck := Lib.hid (show rawB r = (rawPtsB r.floor (-1) r.pts && (r.pts.isEmpty || r.last == lastOr (-1) (r.pts.map (·.1)))) by unfold rawB; rw [hN.out, Bool.true_and])
    go_wp2
    refine wp_loop (rrRel w r p cap) (fun a' _ => r.pts.length - (intAt (a'.tmps.getD 46 undef)).toNat) ?_ ?_
    · unfold rrRel
      exact ⟨hW, b1, 0, frame_ex rfl, rfl, by omega, fun e => by have e' := List.length_eq_zero_iff.1 e.symm; rw [e']; rfl⟩
    clear b1 hW k1 f1 hnum hN
    rintro a' W ⟨hW0, b1, i, ⟨u, rfl⟩, hr, hi, hl9⟩
    have hz := hW0.size
    have zb1 := b1.lt
    rcases Nat.lt_or_ge i r.pts.length with hlt | hge
    · obtain ⟨⟨t, y⟩, tr⟩ : ∃ x, r.pts[i]? = some x := ⟨r.pts[i]'(by omega), List.getElem?_eq_getElem (by omega)⟩
      obtain ⟨b, o, rfl, q0, q1⟩ := (hin.below hW0).at' i _ tr
      have hI : PtsP W b o r.pts := ⟨hin.below hW0⟩
      simp only at q0 q1
      have zq := cell_lt q0
      try simp only at zq
      have e1 : r.pts.take (i + 1) = r.pts.take i ++ [(t, y)] := by rw [List.take_add_one, tr]; rfl
      obtain ⟨z, hz0⟩ : ∃ z, lastOr (-1) ((r.pts.take i).map (·.1)) = z := ⟨_, rfl⟩
      have hst0 : rawPtsB r.floor (-1) (r.pts.take (i + 1)) = (ptB (t, y) && (decide (r.floor ≤ t) && decide (z < t))) := by rw [e1, rawPtsB_snoc, hr, hz0, Bool.true_and]
      have hlT : i + 1 = r.pts.length → lastOr (-1) (r.pts.map (·.1)) = t := fun e => by
        have : r.pts = r.pts.take i ++ [(t, y)] := by rw [← e1, e, List.take_length]
        rw [this, List.map_append, List.map_cons, List.map_nil, lastOr_snoc]
      have hne : r.pts.isEmpty = false := by
        cases hh : r.pts with
        | nil => rw [hh] at hlt; simp at hlt
        | cons _ _ => rfl
      obtain ⟨B1, hB1⟩ : ∃ B, ((i : Int) == (r.pts.length : Int) - 1) = B := ⟨_, rfl⟩
      obtain ⟨B2, hB2⟩ : ∃ B, (r.last != t) = B := ⟨_, rfl⟩
      have i1 : B1 = true → i + 1 = r.pts.length := fun e => by rw [← hB1] at e; have := beq_iff_eq.1 e; omega
      have i2 : i + 1 = r.pts.length → B1 = true := fun e => by rw [← hB1]; exact beq_iff_eq.2 (by omega)
      have E2 := Lib.hid (show wrap64 ((r.pts.length : Int) - 1) = (r.pts.length : Int) - 1 by rw [wrap64_eq]; omega)
      obtain ⟨PB, hPB⟩ : ∃ B, ptB (t, y) = B := ⟨_, rfl⟩
      rw [hPB] at hst0
      have hp0 : PB = true → 0 ≤ t := fun e => by
        rw [← hPB] at e
        unfold ptB btw at e
        simp only [Bool.and_eq_true, decide_eq_true_eq] at e
        exact e.1.1
      have cP := Lib.hid (fun W => c_r13Point t y W)
      rw [show (btw t 0 281474976710656 && btw y (-2305843009213693952) 2305843009213693952) = PB from hPB] at cP
      obtain ⟨F, hF⟩ : ∃ F, ((PB && (decide (r.floor ≤ t) && decide (z < t))) && !(B1 && B2)) = F := ⟨_, rfl⟩
      have hno := Lib.hid (fun (e : F = false) => (show rawB r = false by
        rw [hck.out]
        rw [← hF] at e
        cases hd : (PB && (decide (r.floor ≤ t) && decide (z < t))) with
        | false => rw [rawPts_cut (i + 1) (hst0.trans hd), Bool.false_and]
        | true =>
          rw [hd, Bool.true_and, Bool.not_eq_false', Bool.and_eq_true] at e
          rw [hlT (i1 e.1), hne]
          have h2 := e.2
          rw [← hB2] at h2
          have h3 : (r.last == t) = false := by simpa using h2
          rw [h3]
          simp))
      have hst := Lib.hid (fun (e : F = true) => (show rawPtsB r.floor (-1) (r.pts.take (i + 1)) = true by
        rw [hst0]
        rw [← hF, Bool.and_eq_true] at e
        exact e.1))
      replace hl9 := Lib.hid (fun (e : F = true) (e2 : i + 1 = r.pts.length) => (show (r.pts.isEmpty || r.last == lastOr (-1) (r.pts.map (·.1))) = true by
        rw [← hF, i2 e2] at e
        rw [hlT e2]
        have h2 : B2 = false := by cases B2 with | false => rfl | true => simp at e
        rw [← hB2] at h2
        have h3 : (r.last == t) = true := by simpa using h2
        rw [h3, Bool.or_true]))
      have hnot : decide (r.floor ≤ t) = !decide (t < r.floor) := by rw [Bool.eq_iff_iff]; simp
      by_cases h0 : i = 0
      · have E0 := Lib.hid (show decide (0 < i) = false from decide_eq_false (by omega))
        obtain rfl : -1 = z := by rw [← hz0, h0]; rfl
        have hv := Lib.hid (show (!PB || decide (t < r.floor) || (B1 && B2)) = !F by
          rw [← hF, hnot]
          cases PB with
          | false => rfl
          | true =>
            rw [decide_eq_true (show -1 < t by have := hp0 rfl; omega)]
            cases decide (t < r.floor) <;> cases B1 <;> cases B2 <;> rfl)
        replace tr := Lib.hid tr
        replace hB1 := Lib.hid hB1
        replace hB2 := Lib.hid hB2
        clear hst0 hlT i1 i2 hF hz0 e1 hr h0 hPB hp0 hnot hne
        have k1 := b1.cell
        have f1 := b1.frozen
        go_upto_region 6 with (fail)
        clear k1 f1
        refine wp_cutB W (Bc w.heap.size #[.string r.name, .int .i64 r.eps, .int .i64 r.floor, .int .i64 r.last, .int .i64 r.scale, .slice (some ⟨b, o, none⟩) r.pts.length cap] 35 <| Bc W.heap.size #[.int .i64 t, .int .i64 y] 58 <| Rc (fun W' => PtsP W' b o r.pts) <| Bz) ?_ (hI := by exact belowAny) (hR := (Bc.mk (by exact blkAny2) <| Bc.mk (by exact blkAny2) <| Rc.mk (by first | exact hI | exact hI.below belowAny) <| trivial))
        clear b1
        rintro W21 hW z22 hL
        obtain ⟨⟨b1, yb1, k1, f1⟩, ⟨b2, yb2, k2, f2⟩, b3, -⟩ := id hL
        clear k1 f1 k2 f2
        refine wp_regQ 41 93 hW hL ?_
        refine dE (fun W' hC => aI E0.out (aI E2.out (aI hB1.out (aI hB2.out (aI hlt (aI (Nat.not_le.2 hlt) (hC.2.2.2.1.cellAt tr.out))))))) ?_
        refine cE (fun W' hC => aI E0.out (aI E2.out (aI hB1.out (aI hB2.out (aI hlt (aI (Nat.not_le.2 hlt) (hC.2.2.2.1.cellAt tr.out))))))) (fun W' hC => cP.out W') ?_
        iterate 2 refine dE (fun W' hC => aI E0.out (aI E2.out (aI hB1.out (aI hB2.out (aI hlt (aI (Nat.not_le.2 hlt) (hC.2.2.2.1.cellAt tr.out))))))) ?_
        iterate 5 refine gE (fun W' hC => aI E0.out (aI E2.out (aI hB1.out (aI hB2.out (aI hlt (aI (Nat.not_le.2 hlt) (hC.2.2.2.1.cellAt tr.out))))))) ?_
        refine pO ?_
        refine dE (fun W' hC => aI E0.out (aI E2.out (aI hB1.out (aI hB2.out (aI hlt (aI (Nat.not_le.2 hlt) (hC.2.2.2.1.cellAt tr.out))))))) ?_
        iterate 3 refine gE (fun W' hC => aI E0.out (aI E2.out (aI hB1.out (aI hB2.out (aI hlt (aI (Nat.not_le.2 hlt) (hC.2.2.2.1.cellAt tr.out))))))) ?_
        apply nd_detg (c := undef) (hg := rfl) (hd := rfl) (hal := rfl)
        · intro v W' h
          exact h
        · intro hp hx
          cases hx
        apply nd_detg (c := undef) (hg := rfl) (hd := rfl) (hal := rfl)
        · intro v W' h
          exact h
        · intro hp hx
          cases hx
        apply nd_detg (c := undef) (hg := rfl) (hd := rfl) (hal := rfl)
        · intro v W' h
          exact h
        · intro hp hx
          cases hx
        apply nd_detg (c := undef) (hg := rfl) (hd := rfl) (hal := rfl)
        · intro v W' h
          exact h
        · intro hp hx
          cases hx
        apply nd_detg (c := undef) (hg := rfl) (hd := rfl) (hal := rfl)
        · intro v W' h
          exact h
        · intro hp hx
          cases hx
        apply nd_detg (c := undef) (hg := rfl) (hd := rfl) (hal := rfl)
        · intro v W' h
          exact h
        · intro hp hx
          cases hx
        apply nd_detg (c := undef) (hg := rfl) (hd := rfl) (hal := rfl)
        · intro v W' h
          exact h
        · intro hp hx
          cases hx
        apply nd_detg (c := undef) (hg := rfl) (hd := rfl) (hal := rfl)
        · intro v W' h
          exact h
        · intro hp hx
          cases hx
        apply nd_detg (c := undef) (hg := rfl) (hd := rfl) (hal := rfl)
        · intro v W' h
          exact h
        · intro hp hx
          cases hx
        apply nd_detg (c := undef) (hg := rfl) (hd := rfl) (hal := rfl)
        · intro v W' h
          exact h
        · intro hp hx
          cases hx
        apply nd_pickg_and (p := true) (x := false) (y := false) (ho := rfl) (hg := rfl) (hd := rfl)
        · intro v W' h
          simp [envOf, Det, GDet] at h
          simp
          exact h
        · intro _ hx v W' h
          simp [envOf, Det, GDet, hx] at h
          exact h
        · intro _ hx v W' h hy
          cases hy
        refine pO ?_
        refine dE (fun W' hC => aI E0.out (aI E2.out (aI hB1.out (aI hB2.out (aI hlt (aI (Nat.not_le.2 hlt) (hC.2.2.2.1.cellAt tr.out))))))) ?_
        iterate 7 refine gE (fun W' hC => aI E0.out (aI E2.out (aI hB1.out (aI hB2.out (aI hlt (aI (Nat.not_le.2 hlt) (hC.2.2.2.1.cellAt tr.out))))))) ?_
        iterate 5 refine gF (fun W' hC => aI E0.out (aI E2.out (aI hB1.out (aI hB2.out (aI hlt (aI (Nat.not_le.2 hlt) (hC.2.2.2.1.cellAt tr.out))))))) ?_
        refine pgA ?_
        refine pO ?_
        clear hW hL b1 b2 b3
        rintro W23 hW z24 hL
        simp only [ndR]
        intros
        repeat (rename GDet _ _ _ _ => hgd; clear hgd)
        simp only [ndS]
        refine wpList_nil ?_
        obtain ⟨⟨b1, yb1, k1, f1⟩, ⟨b2, yb2, k2, f2⟩, b3, -⟩ := hL
        rw [hv.out]
        cases F with
        | false =>
          go_wp2
          go_ret
          exact ⟨by rw [hno.out (by trivial)]; rfl, by exact belowAny⟩
        | true =>
          go_wp2
          rw [show (i : Int) + 1 = ((i + 1 : Nat) : Int) by omega]
          refine ⟨?_, by simp [intAt]; omega⟩
          unfold rrRel
          exact ⟨hW0.trans (hW.mono hz), b1, i + 1, frame_ex rfl, hst.out (by trivial), by omega, fun e => hl9.out (by trivial) e⟩
      · obtain ⟨j, hj⟩ : ∃ j, i = j + 1 := ⟨i - 1, by omega⟩
        obtain ⟨⟨x, y2⟩, ty⟩ : ∃ r', r.pts[j]? = some r' := ⟨r.pts[j]'(by omega), List.getElem?_eq_getElem (by omega)⟩
        obtain rfl : x = z := by rw [← hz0, hj, List.take_add_one, ty, Option.toList_some, List.map_append, List.map_cons, List.map_nil]; exact (lastOr_snoc _ _ _).symm
        have E0 := Lib.hid (show decide (0 < i) = true from decide_eq_true (by omega))
        have E1 := Lib.hid (show wrap64 ((i : Int) - 1) = (j : Int) by rw [wrap64_eq]; omega)
        have g1 : j < r.pts.length := by omega
        have hv := Lib.hid (show (!PB || decide (t < r.floor) || decide (t ≤ x) || (B1 && B2)) = !F by
          rw [← hF, hnot, show decide (x < t) = !decide (t ≤ x) by rw [Bool.eq_iff_iff]; simp]
          cases PB <;> cases decide (t < r.floor) <;> cases decide (t ≤ x) <;> cases B1 <;> cases B2 <;> rfl)
        have tj := Lib.hid ty
        replace tr := Lib.hid tr
        replace hB1 := Lib.hid hB1
        replace hB2 := Lib.hid hB2
        clear hst0 hlT i1 i2 hF hz0 e1 hr h0 ty hj hPB hp0 hnot hne
        have k1 := b1.cell
        have f1 := b1.frozen
        go_upto_region 6 with (fail)
        clear k1 f1
        refine wp_cutB W (Bc w.heap.size #[.string r.name, .int .i64 r.eps, .int .i64 r.floor, .int .i64 r.last, .int .i64 r.scale, .slice (some ⟨b, o, none⟩) r.pts.length cap] 35 <| Bc W.heap.size #[.int .i64 t, .int .i64 y] 58 <| Rc (fun W' => PtsP W' b o r.pts) <| Bz) ?_ (hI := by exact belowAny) (hR := (Bc.mk (by exact blkAny2) <| Bc.mk (by exact blkAny2) <| Rc.mk (by first | exact hI | exact hI.below belowAny) <| trivial))
        clear b1
        rintro W21 hW z22 hL
        obtain ⟨⟨b1, yb1, k1, f1⟩, ⟨b2, yb2, k2, f2⟩, b3, -⟩ := id hL
        clear k1 f1 k2 f2
        refine wp_regQ 41 93 hW hL ?_
        refine dE (fun W' hC => aI E0.out (aI E2.out (aI hB1.out (aI hB2.out (aI hlt (aI (Nat.not_le.2 hlt) (aI (hC.2.2.2.1.cellAt tr.out) (aI E1.out (aI g1 (aI (Nat.not_le.2 g1) (hC.2.2.2.1.cellAt tj.out))))))))))) ?_
        refine cE (fun W' hC => aI E0.out (aI E2.out (aI hB1.out (aI hB2.out (aI hlt (aI (Nat.not_le.2 hlt) (aI (hC.2.2.2.1.cellAt tr.out) (aI E1.out (aI g1 (aI (Nat.not_le.2 g1) (hC.2.2.2.1.cellAt tj.out))))))))))) (fun W' hC => cP.out W') ?_
        iterate 2 refine dE (fun W' hC => aI E0.out (aI E2.out (aI hB1.out (aI hB2.out (aI hlt (aI (Nat.not_le.2 hlt) (aI (hC.2.2.2.1.cellAt tr.out) (aI E1.out (aI g1 (aI (Nat.not_le.2 g1) (hC.2.2.2.1.cellAt tj.out))))))))))) ?_
        iterate 5 refine gE (fun W' hC => aI E0.out (aI E2.out (aI hB1.out (aI hB2.out (aI hlt (aI (Nat.not_le.2 hlt) (aI (hC.2.2.2.1.cellAt tr.out) (aI E1.out (aI g1 (aI (Nat.not_le.2 g1) (hC.2.2.2.1.cellAt tj.out))))))))))) ?_
        refine pO ?_
        refine dE (fun W' hC => aI E0.out (aI E2.out (aI hB1.out (aI hB2.out (aI hlt (aI (Nat.not_le.2 hlt) (aI (hC.2.2.2.1.cellAt tr.out) (aI E1.out (aI g1 (aI (Nat.not_le.2 g1) (hC.2.2.2.1.cellAt tj.out))))))))))) ?_
        iterate 3 refine gE (fun W' hC => aI E0.out (aI E2.out (aI hB1.out (aI hB2.out (aI hlt (aI (Nat.not_le.2 hlt) (aI (hC.2.2.2.1.cellAt tr.out) (aI E1.out (aI g1 (aI (Nat.not_le.2 g1) (hC.2.2.2.1.cellAt tj.out))))))))))) ?_
        iterate 10 refine gF (fun W' hC => aI E0.out (aI E2.out (aI hB1.out (aI hB2.out (aI hlt (aI (Nat.not_le.2 hlt) (aI (hC.2.2.2.1.cellAt tr.out) (aI E1.out (aI g1 (aI (Nat.not_le.2 g1) (hC.2.2.2.1.cellAt tj.out))))))))))) ?_
        refine pgA ?_
        refine pO ?_
        refine dE (fun W' hC => aI E0.out (aI E2.out (aI hB1.out (aI hB2.out (aI hlt (aI (Nat.not_le.2 hlt) (aI (hC.2.2.2.1.cellAt tr.out) (aI E1.out (aI g1 (aI (Nat.not_le.2 g1) (hC.2.2.2.1.cellAt tj.out))))))))))) ?_
        iterate 7 refine gE (fun W' hC => aI E0.out (aI E2.out (aI hB1.out (aI hB2.out (aI hlt (aI (Nat.not_le.2 hlt) (aI (hC.2.2.2.1.cellAt tr.out) (aI E1.out (aI g1 (aI (Nat.not_le.2 g1) (hC.2.2.2.1.cellAt tj.out))))))))))) ?_
        iterate 5 refine gF (fun W' hC => aI E0.out (aI E2.out (aI hB1.out (aI hB2.out (aI hlt (aI (Nat.not_le.2 hlt) (aI (hC.2.2.2.1.cellAt tr.out) (aI E1.out (aI g1 (aI (Nat.not_le.2 g1) (hC.2.2.2.1.cellAt tj.out))))))))))) ?_
        refine pgA ?_
        refine pO ?_
        clear hW hL b1 b2 b3
        rintro W23 hW z24 hL
        simp only [ndR]
        intros
        repeat (rename GDet _ _ _ _ => hgd; clear hgd)
        simp only [ndS]
        refine wpList_nil ?_
        obtain ⟨⟨b1, yb1, k1, f1⟩, ⟨b2, yb2, k2, f2⟩, b3, -⟩ := hL
        rw [hv.out]
        cases F with
        | false =>
          go_wp2
          go_ret
          exact ⟨by rw [hno.out (by trivial)]; rfl, by exact belowAny⟩
        | true =>
          go_wp2
          rw [show (i : Int) + 1 = ((i + 1 : Nat) : Int) by omega]
          refine ⟨?_, by simp [intAt]; omega⟩
          unfold rrRel
          exact ⟨hW0.trans (hW.mono hz), b1, i + 1, frame_ex rfl, hst.out (by trivial), by omega, fun e => hl9.out (by trivial) e⟩
    · obtain rfl : i = r.pts.length := by omega
      rw [List.take_length] at hr
      have hres := Lib.hid (show rawB r = true by rw [hck.out, hr, hl9 rfl]; rfl)
      clear hr hl9 hck
      go_wp2
      go_ret
      exact ⟨by rw [hres.out]; rfl, by exact belowAny⟩
end Go.Proofs.YtdeghcgakkhbmaaGreat
namespace Go.Proofs.YtdeghcgakkhbmaaGreat
open Go.RowKit
theorem ite_ne3 {a b c d : Int} {w : World} : ((if a = b then (if c = d then Result.ok (Go.Next.value (Value.bool false)) w else Result.ok (Go.Next.value (Value.bool true)) w) else Result.ok (Go.Next.value (Value.bool true)) w) : Result Go.Next) = Result.ok (Go.Next.value (Value.bool (!(decide (a = b) && decide (c = d))))) w := by
  by_cases h1 : a = b <;> by_cases h2 : c = d <;> simp [h1, h2]

/-- the same raw series -/
def sameR (s t : RawT) : Bool := (s.name.toList == t.name.toList) && (s.eps == t.eps) && (s.floor == t.floor) && (s.last == t.last) && (s.scale == t.scale) && decide (s.pts = t.pts)
theorem sameR_refl (s : RawT) : sameR s s = true := by simp [sameR]
def smrRel (w : World) (s t : RawT) (po1 po2 : Option Addr) (co1 co2 : Nat) (a' : Act) (W : World) : Prop :=
  Below w.heap.size w W ∧ Blk W w.heap.size #[.string s.name, .int .i64 s.eps, .int .i64 s.floor, .int .i64 s.last, .int .i64 s.scale, .slice po1 s.pts.length co1] 35 ∧ Blk W (w.heap.size + 1) #[.string t.name, .int .i64 t.eps, .int .i64 t.floor, .int .i64 t.last, .int .i64 t.scale, .slice po2 t.pts.length co2] 35 ∧ ∃ i : Nat, (∃ u : Nat → Value, a' = { tmps := #[u 0, u 1, .pointer (some ⟨w.heap.size, 0, none⟩), .pointer (some ⟨w.heap.size + 1, 0, none⟩), .bool false, u 5, u 6, u 7, u 8, u 9, u 10, u 11, u 12, u 13, u 14, u 15, u 16, u 17, u 18, u 19, u 20, u 21, u 22, u 23, u 24, u 25, u 26, u 27, u 28, u 29, u 30, u 31, u 32, u 33, u 34, u 35, u 36, u 37, u 38, u 39, u 40, u 41, u 42, u 43, u 44, u 45, u 46, u 47, u 48, u 49, .int .i64 (s.pts.length : Int), .int .i64 (i : Int), u 52, u 53, u 54, u 55, u 56, u 57, u 58, u 59, u 60, u 61, u 62, u 63, u 64, u 65], defers := [] }) ∧ i ≤ s.pts.length ∧ ∀ k, k < i → s.pts[k]? = t.pts[k]?
set_option maxRecDepth 100000 in
set_option maxHeartbeats 2000000 in
theorem c_ref28SameRaw (s t : RawT) (po1 po2 : Option Addr) (co1 co2 : Nat) (w : World) (h : PtsIn w po1 s.pts) (h' : PtsIn w po2 t.pts) (hls : s.pts.length ≤ 2000) (hlt : t.pts.length ≤ 2000) :
    Calls Tryz.prog 28 #[.agg (rawA s po1 co1), .agg (rawA t po2 co2)] w fun e w' => e = .returned (.bool (sameR s t)) ∧ Below w.heap.size w w' := by
  unfold rawA sameR
  obtain ⟨RES, hRES⟩ : ∃ b, ((s.name.toList == t.name.toList) && (s.eps == t.eps) && (s.floor == t.floor) && (s.last == t.last) && (s.scale == t.scale) && decide (s.pts = t.pts)) = b := ⟨_, rfl⟩
  rw [hRES]
  replace hRES := Lib.hid hRES
  go_enter Tryz.func28, Tryz.ntmps28
  go_upto_region 1 with (fail)
  refine wp_cutB w (Bc w.heap.size #[.string s.name, .int .i64 s.eps, .int .i64 s.floor, .int .i64 s.last, .int .i64 s.scale, .slice po1 s.pts.length co1] 35 <| Bc (w.heap.size + 1) #[.string t.name, .int .i64 t.eps, .int .i64 t.floor, .int .i64 t.last, .int .i64 t.scale, .slice po2 t.pts.length co2] 35 <| Bz) ?_
  rintro W1 hW z2 hL
  refine wp_regS 42 66 hW hL ?_
  iterate 6 refine dA ?_
  iterate 5 refine gA ?_
  refine pO ?_
  refine dA ?_
  iterate 5 refine gA ?_
  refine pO ?_
  refine dA ?_
  iterate 5 refine gA ?_
  refine pO ?_
  refine dA ?_
  iterate 5 refine gA ?_
  refine pO ?_
  refine dA ?_
  iterate 7 refine gA ?_
  refine pO ?_
  clear hW hL
  rintro W3 hW z4 hL
  simp only [ndR]
  intros
  repeat (rename GDet _ _ _ _ => hgd; clear hgd)
  simp only [ndS]
  refine wpList_nil ?_
  obtain ⟨⟨b1, yb1, k1, f1⟩, ⟨b2, yb2, k2, f2⟩, -⟩ := hL
  obtain ⟨F, hF⟩ : ∃ F, (!s.name.toList == t.name.toList || s.eps != t.eps || s.floor != t.floor || s.last != t.last || s.scale != t.scale || (s.pts.length : Int) != (t.pts.length : Int)) = F := ⟨_, rfl⟩
  rw [hF]
  simp only [Exit.then]
  have y1 := b1.lt
  have y2 := b2.lt
  cases F with
  | true =>
    have hs : RES = false := by
      rw [← hRES.out, Bool.eq_false_iff]
      intro hx
      simp only [Bool.and_eq_true, beq_iff_eq, decide_eq_true_eq] at hx
      obtain ⟨⟨⟨⟨⟨h1, h2⟩, h3⟩, h4⟩, h5⟩, h7⟩ := hx
      simp [h1, h2, h3, h4, h5, h7] at hF
    clear hF hRES
    replace hs := Lib.hid hs
    go_wp2
    go_ret
    exact ⟨by rw [hs.out]; rfl, hW⟩
  | false =>
    have hs : RES = decide (s.pts = t.pts) ∧ s.pts.length = t.pts.length := by
      simp only [Bool.or_eq_false_iff, Bool.not_eq_false', bne_eq_false_iff_eq] at hF
      obtain ⟨⟨⟨⟨⟨h1, h2⟩, h3⟩, h4⟩, h5⟩, h7⟩ := hF
      refine ⟨?_, by omega⟩
      rw [← hRES.out, h1]
      simp [h2, h3, h4, h5]
    obtain ⟨hs, hl⟩ := hs
    clear hF hRES
    replace hl := Lib.hid hl
    replace hs := Lib.hid hs
    go_wp2
    refine wp_loop (smrRel w s t po1 po2 co1 co2) (fun a' _ => s.pts.length - (intAt (a'.tmps.getD 51 undef)).toNat) ?_ ?_
    · unfold smrRel
      exact ⟨hW, b1, b2, 0, frame_ex rfl, by omega, fun k hk => by omega⟩
    clear b1 b2 hW k1 k2 f1 f2
    rintro a' W ⟨hW0, b1, b2, i, ⟨u, rfl⟩, hi, hall⟩
    have hz := hW0.size
    have zb1 := b1.lt
    have zb2 := b2.lt
    replace hall := Lib.hid hall
    rcases Nat.lt_or_ge i s.pts.length with hlt9 | hge
    · obtain ⟨r, tr⟩ : ∃ r, s.pts[i]? = some r := ⟨s.pts[i]'(by omega), List.getElem?_eq_getElem (by omega)⟩
      obtain ⟨q, tq⟩ : ∃ q, t.pts[i]? = some q := ⟨t.pts[i]'(by have := hl.out; omega), List.getElem?_eq_getElem (by have := hl.out; omega)⟩
      have hA0 := h.below hW0
      have hB0 := h'.below hW0
      obtain ⟨b1', o1, rfl, -⟩ := hA0.at' i r tr
      obtain ⟨b2', o2, rfl, -⟩ := hB0.at' i q tq
      have hA : PtsP W b1' o1 s.pts := ⟨hA0⟩
      have hB : PtsP W b2' o2 t.pts := ⟨hB0⟩
      clear hA0 hB0
      replace tr := Lib.hid tr
      replace tq := Lib.hid tq
      have l1 := hlt9
      have l2 : i < t.pts.length := by have := hl.out; omega
      go_upto_region 6 with (fail)
      refine wp_cutB W (Bc w.heap.size #[.string s.name, .int .i64 s.eps, .int .i64 s.floor, .int .i64 s.last, .int .i64 s.scale, .slice (some ⟨b1', o1, none⟩) s.pts.length co1] 35 <| Bc (w.heap.size + 1) #[.string t.name, .int .i64 t.eps, .int .i64 t.floor, .int .i64 t.last, .int .i64 t.scale, .slice (some ⟨b2', o2, none⟩) t.pts.length co2] 35 <| Rc (fun W' => PtsP W' b1' o1 s.pts) <| Rc (fun W' => PtsP W' b2' o2 t.pts) <| Bz) ?_ (hI := by exact belowAny) (hR := (Bc.mk (by exact blkAny2) <| Bc.mk (by exact blkAny2) <| Rc.mk (by first | exact hA | exact hA.below belowAny) <| Rc.mk (by first | exact hB | exact hB.below belowAny) <| trivial))
      clear b1 b2
      rintro W21 hW z22 hL
      obtain ⟨⟨b1, yb1, k1, f1⟩, ⟨b2, yb2, k2, f2⟩, b3, b4, -⟩ := id hL
      clear k1 f1 k2 f2
      refine wp_regQ 11 66 hW hL ?_
      iterate 11
        apply nd_det (hg := rfl) (hal := rfl)
        · intro a W' hC hE
          obtain ⟨_, ⟨-, -, k1, -⟩, ⟨-, -, k2, -⟩, k3, k4, -⟩ := hC
          obtain ⟨q0, q1⟩ := k3.cellAt tr.out; obtain ⟨q2, q3⟩ := k4.cellAt tq.out
          first
            | (simp [Oper.looksAt, Op.operands, Call.operands, envOf, Det] at hE; simp [go_sem, Act.eval, IntWalk.i64_left, hE, k1, k2, k3, k4, q0, q1, q2, q3, l1, l2, ite_ne3]; try rfl)
            | (clear hE; simp [go_sem, Act.eval, IntWalk.i64_left, k1, k2, k3, k4, q0, q1, q2, q3, l1, l2, ite_ne3]; try rfl)
      clear hW hL b1 b2 b3 b4
      rintro W23 hW z24 hL
      simp only [ndR]
      intros
      simp only [ndS]
      refine wpList_nil ?_
      obtain ⟨⟨b1, yb1, k1, f1⟩, ⟨b2, yb2, k2, f2⟩, b3, b4, -⟩ := hL
      by_cases hrq : r = q
      · have hall' := Lib.hid (show ∀ k, k < i + 1 → s.pts[k]? = t.pts[k]? from fun k hk => by
          rcases Nat.lt_or_ge k i with h | h
          · exact hall.out k h
          · obtain rfl : k = i := by omega
            rw [tr.out, tq.out, hrq])
        rw [show (!decide (r.1 = q.1) || !decide (r.2 = q.2)) = false by subst hrq; simp]
        clear hrq
        go_wp2
        rw [show (i : Int) + 1 = ((i + 1 : Nat) : Int) by omega]
        refine ⟨?_, by simp [intAt]; omega⟩
        unfold smrRel
        exact ⟨hW0.trans (hW.mono hz), b1, b2, i + 1, frame_ex rfl, by omega, hall'.out⟩
      · have hne := Lib.hid (show decide (s.pts = t.pts) = false by
          rw [decide_eq_false_iff_not]
          intro e
          have h1 := tr.out
          rw [e, tq.out] at h1
          exact hrq (Option.some.inj h1).symm)
        rw [show (!decide (r.1 = q.1) || !decide (r.2 = q.2)) = true by
          obtain ⟨r1, r2⟩ := r
          obtain ⟨q1, q2⟩ := q
          simp at hrq
          by_cases h1 : r1 = q1
          · simp [h1, hrq h1]
          · simp [h1]]
        clear hrq
        go_wp2
        go_ret
        exact ⟨by rw [hs.out, hne.out]; rfl, hW0.trans (hW.mono hz)⟩
    · obtain rfl : i = s.pts.length := by omega
      have heq := Lib.hid (show decide (s.pts = t.pts) = true by
        rw [decide_eq_true_eq]
        apply List.ext_getElem?
        intro k
        rcases Nat.lt_or_ge k s.pts.length with h | h
        · exact hall.out k h
        · rw [List.getElem?_eq_none h, List.getElem?_eq_none (by have := hl.out; omega)])
      go_wp2
      go_ret
      exact ⟨by rw [hs.out, heq.out]; rfl, hW0⟩
end Go.Proofs.YtdeghcgakkhbmaaGreat
namespace Go.Proofs.YtdeghcgakkhbmaaGreat
open Go.RowKit
theorem some_tell_l (fl a b : Int) : ∀ (l : List (Int × Int)) (c : Int), rawPtsB fl c l = true → (l.filter fun p => decide (a ≤ p.1) && decide (p.1 ≤ b)) = tellG a b l
  | [], _, _ => rfl
  | x :: l, c, h => by
    have hm := rawPtsB_mem fl l x.1
    simp only [rawPtsB, Bool.and_eq_true, decide_eq_true_eq] at h
    have ih := some_tell_l fl a b l x.1 h.2
    unfold tellG at ih ⊢
    rw [List.takeWhile_cons]
    by_cases hg : goesG a b x = true
    · rw [if_pos hg]
      unfold goesG at hg
      simp only [Bool.or_eq_true, decide_eq_true_eq] at hg
      rw [List.filter_cons, List.filter_cons, ih]
      by_cases h1 : a ≤ x.1
      · rw [if_pos (by simp; omega), if_pos (by simpa using h1)]
      · rw [if_neg (by simp; omega), if_neg (by simpa using h1)]
    · rw [if_neg hg]
      unfold goesG at hg
      simp only [Bool.or_eq_true, decide_eq_true_eq] at hg
      rw [List.filter_nil, List.filter_eq_nil_iff]
      intro p hp
      rcases List.mem_cons.1 hp with rfl | hp
      · simp; omega
      · have := (hm h.2 p hp).2.2
        simp; omega
theorem some_tell {r : RawT} (h : rawB r = true) (a b : Int) : someL r a b = tellG a b r.pts := by
  unfold rawB at h
  simp only [Bool.and_eq_true] at h
  exact some_tell_l r.floor a b r.pts (-1) h.2.1
theorem lies_ref (lo up v most : Int) : (((decide (lo ≤ v)) && (decide (v ≤ up))) && !(decide (most < up - lo))) = liesB lo up v most := by
  unfold liesB spW
  by_cases h1 : lo ≤ v
  · by_cases h2 : v ≤ up
    · rw [if_pos (by omega), decide_eq_true h1, decide_eq_true h2]
      rw [Bool.eq_iff_iff]
      simp
    · rw [decide_eq_false h2]; simp
  · rw [decide_eq_false h1]; simp
theorem cmp_le (x y : Int) : decide (cmpI x y ≤ 0) = !decide (y < x) := by
  unfold cmpI
  by_cases h1 : x = y
  · rw [if_pos h1]; subst h1; simp
  · rw [if_neg h1]
    by_cases h2 : x < y
    · rw [if_pos h2, decide_eq_false (show ¬ y < x by omega)]; rfl
    · rw [if_neg h2, decide_eq_true (show y < x by omega)]; rfl
theorem back_ref (eps : Int) (p : Int × Int) (x : Int × Int × Int) : refOK eps p x = backOK eps p x := by
  unfold refOK backOK nearB btw
  rw [cmp_le, cmp_le, Bool.eq_iff_iff]
  simp only [Bool.not_eq_true', Bool.or_eq_false_iff, bne_eq_false_iff_eq, decide_eq_false_iff_not, Bool.and_eq_true, beq_iff_eq, decide_eq_true_eq]
  constructor
  · rintro ⟨⟨⟨⟨h1, h2⟩, h3⟩, h4⟩, h5⟩; exact ⟨h1, ⟨by omega, by omega⟩, by omega, by omega⟩
  · rintro ⟨h1, ⟨h2, h3⟩, h4, h5⟩; exact ⟨⟨⟨⟨h1, by omega⟩, by omega⟩, by omega⟩, by omega⟩
theorem zip_ref (eps : Int) (L : List (Int × Int)) (l : List (Int × Int × Int)) : ((L.zip l).all fun q => refOK eps q.1 q.2) = ((L.zip l).all fun q => backOK eps q.1 q.2) := by
  congr 1
  funext q
  exact back_ref eps q.1 q.2
theorem fold_ends : ∀ (l : List Int) (x : Int × (Int × Int) × Int), 0 < x.1 → (l.foldl gS x).2.1 = (l.foldl (pickK 2) x.2.1.1, l.foldl (pickK 3) x.2.1.2)
  | [], x, _ => rfl
  | v :: l, x, h => by
    have ih := fold_ends l (gS x v) (by unfold gS; simp only; omega)
    rw [List.foldl_cons, List.foldl_cons, List.foldl_cons, ih]
    have e : gS x v = (x.1 + 1, (mn x.2.1.1 v, mx x.2.1.2 v), x.2.2 + v) := by unfold gS; rw [if_neg (by omega)]
    rw [e]
    rfl
theorem told_ends {L : List (Int × Int)} {t0 y0 : Int} (h : L[0]? = some (t0, y0)) : (toldsL L).2.1 = ((L.map (·.2)).foldl (pickK 2) y0, (L.map (·.2)).foldl (pickK 3) y0) := by
  cases L with
  | nil => simp at h
  | cons x L =>
    simp at h
    subst h
    unfold toldsL
    have e : gS (0, (0, 0), 0) y0 = (1, (y0, y0), 0 + y0) := by unfold gS mn mx; simp
    rw [List.map_cons, List.foldl_cons, List.foldl_cons, List.foldl_cons]
    simp only
    rw [e, fold_ends _ _ (by show (0 : Int) < 1; omega)]
    have e2 : pickK 2 y0 y0 = y0 := by unfold pickK; simp
    have e3 : pickK 3 y0 y0 = y0 := by unfold pickK; simp
    rw [e2, e3]
theorem told_sum (L : List (Int × Int)) : (toldsL L).2.2 = lsum (L.map (·.2)) ∧ (toldsL L).1 = L.length := by
  obtain ⟨h1, h2⟩ := fold_many (L.map (·.2)) (0, (0, 0), 0)
  unfold toldsL
  exact ⟨by rw [h2]; simp, by rw [h1]; simp⟩
theorem mean_ref (n s mc lw lr hw hr eps : Int) : ((((((decide (0 ≤ lr) && decide (lr < n)) && (decide (0 ≤ hr) && decide (hr < n))) && (mc == n)) && !(decide (s < lw * n + lr))) && !(decide (hw * n + hr < s))) && !(decide (2 * eps * n < hw * n + hr - (lw * n + lr)))) = meanB n s mc lw lr hw hr eps := by
  unfold meanB
  rw [cmp_le, cmp_le, cmp_le]
  simp
theorem we_not (b : Bool) : (we b != 0) = !b ∧ (we b == 0) = b := by cases b <;> exact ⟨rfl, rfl⟩
end Go.Proofs.YtdeghcgakkhbmaaGreat
namespace Go.Proofs.YtdeghcgakkhbmaaGreat
open Go.RowKit
section
variable {r : RawT} {p : Option Addr} {cap : Nat} {w : World}
theorem c_ref28Some (hR : rawB r = true) (hp : PtsIn w p r.pts) (a b : Int) (W : World) (hW : PtsIn W p r.pts) : Calls Tryz.prog 60 #[.agg (rawA r p cap), .int .i64 a, .int .i64 b] W fun e w' => ∃ q c, e = .returned (.slice q (tellG a b r.pts).length c) ∧ PtsIn w' q (tellG a b r.pts) ∧ Below W.heap.size W w' := by
  have := c_refSome r p cap a b W hW (by have := (rawB_parts hR).2.1; omega)
  rw [some_tell hR] at this
  exact this
theorem tell_vals (hR : rawB r = true) (a b : Int) : ∀ x, x ∈ tellG a b r.pts → I64 x.2 := fun x hx => by
  have := (rawB_parts hR).2.2 x (tellG_mem hx)
  unfold ptB btw at this
  simp only [Bool.and_eq_true, decide_eq_true_eq] at this
  unfold I64
  omega
theorem sum_ref (n s : Int) (y : An9) (eps : Int) (h5 : y.er = 5) : (((y.cn == 0) && ((y.lo == 0) && ((y.up == 0) && ((y.mc == 0) && ((y.lw == 0) && ((y.lr == 0) && ((y.hw == 0) && (y.hr == 0)))))))) && (!(inI (s - 2 * eps * n)) || !(inI (s + 2 * eps * n)))) = (bareSpan y && totalB n s y eps) := by
  unfold bareSpan totalB
  rw [if_pos h5, (we_not _).1, (we_not _).1]
  simp only [Bool.and_assoc]
  cases (y.cn == 0) <;> cases (y.lo == 0) <;> cases (y.up == 0) <;> simp
theorem sum_ref2 (n s : Int) (y : An9) (eps : Int) (h5 : y.er ≠ 5) (hm0 : 0 ≤ 2 * eps * n) (hm1 : 2 * eps * n < 18446744073709551616) : ((inI s && ((y.er == 0) && ((y.cn == 0) && ((y.mc == 0) && ((y.lw == 0) && ((y.lr == 0) && ((y.hw == 0) && (y.hr == 0)))))))) && (((decide (y.lo ≤ wv (inI s) s)) && (decide (wv (inI s) s ≤ y.up))) && !(decide (2 * eps * n < y.up - y.lo)))) = (bareSpan y && totalB n s y eps) := by
  unfold bareSpan totalB
  rw [if_neg h5, (we_not _).2, lies_ref, show loW (2 * eps * n) = 2 * eps * n by unfold loW; omega]
  simp only [Bool.and_assoc]
  cases (y.er == 0) <;> cases inI s <;> simp
theorem c_ref28Holds (hR : rawB r = true) (k a b : Int) (hk1 : 1 ≤ k) (hk5 : k ≤ 5) (y : An9) (hp : PtsIn w p r.pts) (hy : y.ok) :
    Calls Tryz.prog 23 #[.agg (rawA r p cap), .int .i64 k, .int .i64 a, .int .i64 b, .agg (anA y)] w fun e w' => e = .returned (.bool (holdsX (toldsL (tellG a b r.pts)) r.eps k y)) ∧ Below w.heap.size w w' := by
  have cS := c_ref28Some (cap := cap) hR hp a b
  have hv := tell_vals hR a b
  obtain ⟨⟨he0, he1⟩, hlen, _⟩ := rawB_parts hR
  have hl : (tellG a b r.pts).length ≤ 1024 := by have := tellG_length a b r.pts; omega
  obtain ⟨L, hL⟩ : ∃ L, tellG a b r.pts = L := ⟨_, rfl⟩
  rw [hL] at cS hv hl ⊢
  obtain ⟨er, cn, lo, up, mc, lw, lr, hw, hr⟩ := y
  obtain ⟨y1, y2, y3, y4, y5, y6, y7, y8, y9⟩ := hy
  simp only at y1 y2 y3 y4 y5 y6 y7 y8 y9
  unfold rawA at cS ⊢
  unfold anA holdsX
  obtain ⟨hX2, hX1⟩ := told_sum L
  have hE2 : I64 (2 * r.eps) := by unfold I64; omega
  have hm0 : 0 ≤ 2 * r.eps * (L.length : Int) := Int.mul_nonneg (by omega) (by omega)
  have hm1 : 2 * r.eps * (L.length : Int) ≤ 2 * r.eps * 1024 := Int.mul_le_mul_of_nonneg_left (by omega) (by omega)
  by_cases h1 : k = 1
  · subst h1
    rw [if_pos rfl, hX1]
    exact refHolds_count r p cap a b L er cn lo up mc lw lr hw hr true w hp (by omega) cS
  rw [if_neg h1]
  by_cases h0 : (toldsL L).1 = 0
  · rw [if_pos h0]
    rw [hX1] at h0
    exact refHolds_empty r p cap a b L er cn lo up mc lw lr hw hr true w hp (by omega) k (by simpa using h1) (by rw [h0]; rfl) cS
  rw [if_neg h0]
  rw [hX1] at h0
  have hn : ((L.length : Int) == 0) = false := by simpa using h0
  by_cases h5 : k = 5
  · subst h5
    rw [if_pos rfl, hX1, hX2, ← mean_ref]
    have cF := fun (W : World) q c (hq : PtsIn W q L) => c_refMean mc lw lr hw hr q c L r.eps W hq (by omega) hv he0 he1 y6 y7 y8 y9
    have t := refHolds_mean r p cap a b L er cn lo up mc lw lr hw hr _ w hp (by omega) hn cS cF
    refine t.mono fun e w' h => ⟨?_, h.2⟩
    rw [h.1]
    unfold bareMean
    congr 2
    cases (er == 0) <;> cases (cn == 0) <;> simp
  rw [if_neg h5]
  by_cases h4 : k = 4
  · subst h4
    rw [if_pos rfl, hX1, hX2]
    refine refHolds_sum r p cap a b L er cn lo up mc lw lr hw hr _ w hp (by omega) hn cS fun W q c hq => ?_
    by_cases hr5 : er = 5
    · subst hr5
      rw [← sum_ref _ _ _ _ rfl]
      exact refSum_over cn lo up mc lw lr hw hr q c L r.eps W hq (by omega) hv he0 he1
    · rw [← sum_ref2 _ _ _ _ hr5 hm0 (by omega)]
      exact refSum_plain er cn lo up mc lw lr hw hr q c L r.eps W hq (by omega) hv he0 he1 (by simpa using hr5) y3 y4
  rw [if_neg h4]
  obtain ⟨⟨t0, y0⟩, hL0⟩ : ∃ x, L[0]? = some x := ⟨L[0]'(by omega), List.getElem?_eq_getElem (by omega)⟩
  have hends := told_ends hL0
  have cF := fun (v : Int) (va : Value) (W : World) (hva : NumIs W va (2 * r.eps)) => c_refLies lo up v (2 * r.eps) va W y3 y4 hva (lt_pow2 64 900 (show (2 * r.eps).natAbs < 2 ^ 64 by omega) (by omega))
  simp only [lies_ref] at cF
  by_cases h2 : k = 2
  · subst h2
    rw [if_pos rfl, hends]
    have t := refHolds_least r p cap a b L er cn lo up mc lw lr hw hr _ w hp (by omega) t0 y0 hL0 hn hE2 he0 he1 cS (cF _)
    refine t.mono fun e w' h => ⟨?_, h.2⟩
    rw [h.1]
    unfold bareSpan
    congr 2
    cases (er == 0) <;> cases (cn == 0) <;> simp
  · obtain rfl : k = 3 := by omega
    rw [if_neg h2, hends]
    have t := refHolds_most r p cap a b L er cn lo up mc lw lr hw hr _ w hp (by omega) t0 y0 hL0 hn hE2 he0 he1 cS (cF _)
    refine t.mono fun e w' h => ⟨?_, h.2⟩
    rw [h.1]
    unfold bareSpan
    congr 2
    cases (er == 0) <;> cases (cn == 0) <;> simp
theorem c_ref28HoldsAt (hR : rawB r = true) (t lo up er : Int) (hp : PtsIn w p r.pts) (y3 : I64 lo) (y4 : I64 up) :
    Calls Tryz.prog 24 #[.agg (rawA r p cap), .int .i64 t, .agg #[.int .i64 lo, .int .i64 up], .int .i64 er] w fun e w' => e = .returned (.bool (atB r.eps lo up er (tellG t t r.pts))) ∧ Below w.heap.size w w' := by
  have cS := c_ref28Some (cap := cap) hR hp t t
  obtain ⟨⟨he0, he1⟩, hlen, _⟩ := rawB_parts hR
  obtain ⟨L, hL⟩ : ∃ L, tellG t t r.pts = L := ⟨_, rfl⟩
  rw [hL] at cS ⊢
  unfold rawA at cS ⊢
  cases L with
  | nil => exact refHoldsAt_none r p cap t lo up er [] w hp rfl cS
  | cons x L =>
    have hn : (((x :: L).length : Int) == 0) = false := beq_eq_false_iff_ne.2 (by simp; omega)
    rw [show atB r.eps lo up er (x :: L) = ((er == 0) && (((decide (lo ≤ x.2)) && (decide (x.2 ≤ up))) && !(decide (2 * r.eps < up - lo)))) by rw [lies_ref]; rfl]
    exact refHoldsAt_some r p cap t lo up er (x :: L) w hp x.1 x.2 _ rfl hn (by unfold I64; omega) he0 he1 cS fun va W hva => c_refLies lo up x.2 (2 * r.eps) va W y3 y4 hva (lt_pow2 64 900 (show (2 * r.eps).natAbs < 2 ^ 64 by omega) (by omega))
theorem c_ref28Scan (hR : rawB r = true) (a b er : Int) (sp : Option Addr) (l : List (Int × Int × Int)) (scap : Nat) (hp : PtsIn w p r.pts) (hB : BksIn w sp l) (hl3 : l.length ≤ 2000) (hlv : ∀ x, x ∈ l → I64 x.1 ∧ I64 x.2.1 ∧ I64 x.2.2) :
    Calls Tryz.prog 25 #[.agg (rawA r p cap), .int .i64 a, .int .i64 b, .slice sp l.length scap, .int .i64 er] w fun e w' => e = .returned (.bool (scanB r.eps er (tellG a b r.pts) l)) ∧ Below w.heap.size w w' := by
  have cS := c_ref28Some (cap := cap) hR hp a b
  have hv := tell_vals hR a b
  obtain ⟨L, hL⟩ : ∃ L, tellG a b r.pts = L := ⟨_, rfl⟩
  rw [hL] at cS hv ⊢
  unfold rawA at cS ⊢
  unfold scanB
  by_cases h0 : L.length = 0
  · have t := refScan_none r p cap a b L sp l scap w hp er (by rw [h0]; rfl) cS
    refine t.mono fun e w' h => ⟨?_, h.2⟩
    rw [h.1]
    congr 2
    by_cases h1 : l.length = 0
    · rw [if_pos h1, h1, h0]; simp
    · rw [if_neg h1, show ((l.length : Int) == 0) = false from beq_eq_false_iff_ne.2 (by omega), decide_eq_false (show ¬ L.length = l.length by omega)]; simp
  · have hn : ((L.length : Int) == 0) = false := beq_eq_false_iff_ne.2 (by omega)
    by_cases he : er = 0
    · subst he
      by_cases hl : l.length = L.length
      · rw [if_neg (by omega), decide_eq_true (show L.length = l.length from hl.symm), ← zip_ref]
        have t := refScan_loop r p cap a b L sp l scap w hp hn (by rw [hl]; simp) hl hl3 hB hlv hv cS
        refine t.mono fun e w' h => ⟨?_, h.2⟩
        rw [h.1]
        simp
      · have t := refScan_len r p cap a b L sp l scap w hp hn (by simp; omega) cS
        refine t.mono fun e w' h => ⟨?_, h.2⟩
        rw [h.1]
        congr 2
        by_cases h1 : l.length = 0
        · rw [if_pos h1, decide_eq_false h0]; rfl
        · rw [if_neg h1, decide_eq_false (show ¬ L.length = l.length by omega)]; rfl
    · have t := refScan_er r p cap a b L sp l scap w hp er hn (by simpa using he) cS
      refine t.mono fun e w' h => ⟨?_, h.2⟩
      rw [h.1]
      congr 2
      have he' : (er == 0) = false := by simpa using he
      by_cases h1 : l.length = 0
      · rw [if_pos h1, decide_eq_false h0]; rfl
      · rw [if_neg h1, he', Bool.and_false]
end
end Go.Proofs.YtdeghcgakkhbmaaGreat
namespace Go.Proofs.YtdeghcgakkhbmaaGreat
open Go.ChangeShapes Go.WideShapes Go.ChangeAt Go.RowKit Go.Deep
theorem BksIn.take {w : World} {p : Option Addr} {l : List (Int × Int × Int)} (h : BksIn w p l) (n : Nat) : BksIn w p (l.take n) := ⟨fun i r hr => by
  rw [List.getElem?_take] at hr
  split at hr
  · exact h.at' i r hr
  · cases hr⟩
theorem c_mdLawHolds (q : RawT) (p : Option Addr) (cap : Nat) (k a b : Int) (y : An9) (slo sup serr : Int) (sp : Option Addr) (l0 : List (Int × Int × Int)) (scap : Nat) (w : World) (h : RawCame w q p cap) (hy : y.ok) (i1 : I64 slo) (i2 : I64 sup) (hn : sp = none → l0.length = 0 ∧ scap = 0) (hc : l0.length ≤ scap) (hB : BksIn w sp l0) (hlv : ∀ x, x ∈ l0 → I64 x.1 ∧ I64 x.2.1 ∧ I64 x.2.2) :
    Calls Tryz.prog 6 #[.agg (rawA q p cap), .agg #[.int .i64 k, .int .i64 a, .int .i64 b, .int .i64 y.er, .int .i64 y.cn, .int .i64 y.lo, .int .i64 y.up, .int .i64 y.mc, .int .i64 y.lw, .int .i64 y.lr, .int .i64 y.hw, .int .i64 y.hr, .int .i64 slo, .int .i64 sup, .int .i64 serr, .slice sp l0.length scap]] w fun e w' => e = .returned (.bool true) ∧ Below w.heap.size w w' := by
  have c1 := fun W (_ : Below w.heap.size w W) => wakes28_w W
  have c2 := fun W (hW : Below w.heap.size w W) => c_raw28 q p cap W (h.below hW)
  have hrl := rawOf_len q
  have hrn := rawOf_name q
  obtain ⟨r, hr⟩ : ∃ r, rawOf q = r := ⟨_, rfl⟩
  rw [hr] at c2 hrl hrn
  clear hr
  obtain ⟨N, hN⟩ : ∃ N, min l0.length 1025 = N := ⟨_, rfl⟩
  obtain ⟨l, hl⟩ : ∃ l, l0.take N = l := ⟨_, rfl⟩
  have hlN : l.length = N := by rw [← hl, List.length_take]; omega
  have hBl : BksIn w sp l := hl ▸ hB.take N
  have hll : ∀ x, x ∈ l → I64 x.1 ∧ I64 x.2.1 ∧ I64 x.2.2 := fun x hx => hlv x (List.mem_of_mem_take (hl ▸ hx))
  have hnl : sp = none → l.length = 0 ∧ scap = 0 := fun e => ⟨by have := (hn e).1; omega, (hn e).2⟩
  refine mholds_w q r p cap k a b y.er y.cn y.lo y.up y.mc y.lw y.lr y.hw y.hr slo sup serr sp l0.length scap N l (rawB r) _ _ _ (holdsB r k a b y) (rawB r && atB r.eps slo sup serr (tellG a a r.pts)) (rawB r && scanB r.eps serr (tellG a b r.pts) l) w (Lib.hid (by split <;> omega)) (by omega) (by omega) (Lib.hid ?_) (Lib.hid rfl) (Lib.hid rfl) c1 c2
    (fun W p' cap' hp => c_ref28Raw r p' cap' W hp (by omega) (by omega)) (fun W hW => ?_)
    (fun hQ h1 h5 W p' cap' hp => c_ref28Holds hQ k a b h1 h5 y hp hy) (fun hQ W p' cap' hp => c_ref28HoldsAt hQ a slo sup serr hp i1 i2) (fun hQ W p' cap' q7 c7 hp hb h7 => ?_)
    (fun W p' cap' hp => c_mdHolds r p' cap' k a b y W hp (by omega) hy) (fun W p' cap' hp => c_mdHoldsAt r p' cap' a slo sup serr W hp (by omega) i1 i2) (fun W p' cap' q7 c7 hp hb h7 => ?_)
    (fun W p' cap' p2 c2 hp hp2 => ?_) (fun W q7 c7 hW hb => ?_)
  · unfold holdsB
    rw [Bool.and_assoc (rawB r)]
  · have t := c_CloneBack sp scap l W (by omega) (hBl.below hW) hnl
    rw [hlN] at t
    refine t.mono ?_
    rintro e w' ⟨p', c', rfl, hb, hk, hc⟩
    exact ⟨_, rfl, hb, p', c', rfl, hk, hc⟩
  · have t := c_ref28Scan (p := p') (cap := cap') hQ a b serr q7 l c7 hp hb (by omega) hll
    rw [hlN] at t
    exact t
  · have t := c_mdHoldsScan r p' cap' a b serr q7 l c7 W hp (by omega) hb (by omega) (by omega) hll
    rw [hlN] at t
    exact t
  · have t := c_ref28SameRaw r r p' p2 cap' c2 W hp hp2 (by omega) (by omega)
    rw [sameR_refl] at t
    exact t
  · have t := c_eqBks q7 c7 sp scap l W (by omega) hb (hBl.below hW)
    rw [hlN] at t
    exact t
set_option maxRecDepth 100000 in
theorem mholds_lifted (os : Os) (started : os.Started) (H : Type) (enc : TypeId × Value → H) :
    ReturnsInHanded {} Tryz.checked os 6 .any (Rows.modelHoldsSpec.pre6 enc Tryz.prog Tryz.f6 Rows.modelHoldsRow.domain false) (Rows.modelHoldsSpec.post enc Tryz.prog Tryz.f6 false true false false) := by
  refine returnsInHanded_of_change (C := Tryz.checked) Tryz.ownKnob started (by kernel_rfl) Tryz.func6
    (ChangeSpec.witness6 (enc := enc) (C := Tryz.checked) false ⟨#[], #[.agg #[.string .empty, .int .i64 0, .int .i64 0, .int .i64 0, .int .i64 0, .slice none 0 0], .agg #[.int .i64 0, .int .i64 0, .int .i64 0, .int .i64 0, .int .i64 0, .int .i64 0, .int .i64 0, .int .i64 0, .int .i64 0, .int .i64 0, .int .i64 0, .int .i64 0, .int .i64 0, .int .i64 0, .int .i64 0, .slice none 0 0]], []⟩ 8 (by kernel_rfl) (by kernel_rfl) (by kernel_rfl) (by kernel_rfl)) ?_
  intro W base args ds gs before hval0 hW hcnd _
  have hval : ∀ (j : Nat) t v, Tryz.f6.params[j]? = some t → args[j]? = some v → Value.okWide Tryz.prog W .any base t v := hval0
  have hW' := hW
  obtain ⟨p, q, hA0, hV, rfl, hfz, hnd⟩ := hW
  have hA : DataW.TrodAll enc Tryz.prog W 0 (fun _ => true) true Tryz.f6.params.toList args.toList ds p := hA0
  rw [Tryz.params6] at hA hval
  obtain ⟨v0, vs0, d0, ds0, p0, q0, hargs, rfl, rfl, h0, hA⟩ := trodAll_cons hA
  obtain ⟨v1, vs1, d1, ds1, p1, q1, rfl, rfl, rfl, h1, hA⟩ := trodAll_cons hA
  obtain ⟨rfl, rfl, rfl⟩ := trodAll_nil hA
  obtain rfl : args = #[v0, v1] := by rw [← Array.toList_inj, hargs]
  obtain ⟨rfl, rfl⟩ := trodVars_none hV
  obtain ⟨rq, p', cap, rfl, hc⟩ := open_raw (hval 0 _ v0 rfl rfl) h0
  obtain ⟨k, a, b, y, slo, sup, serr, sp, l, scap, rfl, hy, ⟨_, _, _, i1, i2, _⟩, g1, g2, g3, g4⟩ := open_said (hval 1 _ v1 rfl rfl) h1
  clear hA0 hval0
  refine (c_mdLawHolds rq p' cap k a b y slo sup serr sp l scap W hc hy i1 i2 g1 g2 g3 g4).mono fun e W' ⟨he, hb⟩ => ?_
  subst he
  exact ⟨_, rfl, law_post Tryz.laidOut (pars_ok (by kernel_rfl)) rfl (by kernel_rfl) rfl hW' hb rfl⟩
theorem modelHolds_holds : Rows.ModelHoldsSaid :=
  OpenClaim.holds_of_wide 6 Tryz.f6 rfl rfl rfl rfl rfl rfl rfl ⟨rfl, rfl, rfl, rfl, rfl⟩ rfl rfl rfl rfl rfl (by kernel_rfl) Tryz.func6 (by kernel_rfl)
    (of_decide_eq_true (by kernel_rfl)) (by unfold Func.isWrapper; first | (rw [if_pos (by decide +kernel)]; kernel_rfl) | (rw [if_neg (by decide +kernel)]; exact ⟨rfl, rfl⟩))
    (fun os started H enc _ => mholds_lifted os started H enc)
#print axioms modelHolds_holds
end Go.Proofs.YtdeghcgakkhbmaaGreat
